/- search.least: covers, the iterator over the nodes of a range. -/
import Derived.Test.YtblooekephkojaaLsB
import Derived.RangeFuncNested
import Derived.RangeFuncBound
import Derived.RangeFuncCalls
import Derived.RangeFuncLeaves
import Derived.RangeFuncBox
import Derived.Shelf.Abstract
import Derived.OwnWalkIn
import Derived.TacticsInMore
import Derived.LoopNIn
import Derived.LoopIn
namespace Go.Proofs.Ytblooekephkojaa
open Go.RowKit Go.BigFrame Go.Shelf
set_option linter.unusedVariables false
attribute [local go_sem] Oper.semAt_some

/-- The nodes that together are a range of leaves. -/
def cov : Nat → Nat → Nat → List Nat
  | 0, _, _ => []
  | f + 1, a, b => if a < b then (if a % 2 = 1 then [a] else []) ++ ((if b % 2 = 1 then [b - 1] else []) ++ cov f ((a + a % 2) / 2) ((b - b % 2) / 2)) else []

theorem Ls.covers (F : Nat) (x y : Int) (w : World) :
    Calls Try.prog 68 #[.pointer (some ⟨F, 0, none⟩), .int .i64 x, .int .i64 y] w fun e w' => e = .returned (.func (.func 69) #[] #[.pointer (some ⟨w.heap.size, 0, none⟩), .pointer (some ⟨w.heap.size + 1, 0, none⟩), .pointer (some ⟨w.heap.size + 2, 0, none⟩)]) ∧
      w' = ((w.alloc (.cells #[.pointer (some ⟨F, 0, none⟩)] 106)).alloc (.cells #[.int .i64 x] 3)).alloc (.cells #[.int .i64 y] 3) := by
  go_enter Try.func68, Try.ntmps68
  go_wp2
  go_ret
  exact ⟨rfl, rfl⟩

set_option maxRecDepth 100000 in
set_option maxHeartbeats 4000000 in
theorem Ls.covers_stops (n : Nat) (F V T size : Nat) (v best : List Int) (B x y : Nat) (w : World) (hL : Least w F V T size v best) (hB0 : w.cell? ⟨B, 0, none⟩ = some (.pointer (some ⟨F, 0, none⟩))) (hB1 : w.cell? ⟨B + 1, 0, none⟩ = some (.int .i64 x)) (hB2 : w.cell? ⟨B + 2, 0, none⟩ = some (.int .i64 y))
    (hs : size ≤ 200000) (hx : x ≤ size) (hy : y ≤ size) :
    SeqStopsK Fence.wide n Try.prog 69 #[.pointer (some ⟨B, 0, none⟩), .pointer (some ⟨B + 1, 0, none⟩), .pointer (some ⟨B + 2, 0, none⟩)] (fun z : Fin (2 * size) => #[.int .i64 ((z.1 : Nat) : Int)]) (fun _ _ => True)
      (fun zs => zs.map (·.1) = cov (size + y + 1) (size + x) (size + y)) (fun _ => True) (cov (size + y + 1) (size + x) (size + y)).length w := fun l J Jx W hW hJ hJx hY h0 => by
  have hc0 := (hW.cell (World.block_lt_of_cell? w _ hB0)).trans hB0
  have hc1 := (hW.cell (World.block_lt_of_cell? w _ hB1)).trans hB1
  have hc2 := (hW.cell (World.block_lt_of_cell? w _ hB2)).trans hB2
  have hc3 := (hW.cell (World.block_lt_of_cell? w _ hL.f0)).trans hL.f0
  have hdr : ∀ n, J [] (W.drewN n) := fun n => hJ [] W _ none h0 ⟨rfl, rfl, rfl, Nat.le_refl _, fun _ _ _ => rfl⟩ (fun r e => by cases e)
  refine callsIn_of_wp Try.func69 rfl trivial ?_ rfl
  simp only [Try.ntmps69, List.size_toArray, List.length_cons, List.length_nil, Nat.reduceAdd, Nat.reduceSub, Array.replicate_succ, Array.replicate_zero, List.push_toArray, List.append_toArray, List.nil_append, List.cons_append]
  have hb1 : (size : Int) + (x : Int) ≤ 400000 := by omega
  have hb2 : (size : Int) + (y : Int) ≤ 400000 := by omega
  gi_wp2
  refine wpIn_wide.2 ?_
  refine wp_region_quiet_lit (by kernel_rfl) (by kernel_rfl) ?_
  repeat (go_big_quiet_step (fail))
  refine wpQuiet_nil ?_
  rintro w' ⟨nq, rfl⟩
  have h0' := hdr nq
  clear hdr h0
  gi_wp2
  gi_loopw [5, 6] (fun a b wr => ∃ (pre : List (Fin (2 * size))) (p q f : Nat), a = .int .i64 p ∧ b = .int .i64 q ∧ q ≤ 2 * size ∧ q < f ∧ pre.map (·.1) ++ cov f p q = cov (size + y + 1) (size + x) (size + y) ∧ J pre wr) (fun _ b _ => (intOf b).toNat)
  case atStart =>
    exact ⟨[], size + x, size + y, size + y + 1, by go_num, by go_num, by omega, by omega, rfl, h0'⟩
  case round =>
    obtain ⟨pre, p, q, f, rfl, rfl, hq, hf, hcov, hJs⟩ := hrel
    have HC := Lib.hid hcov
    clear hcov
    by_cases hlt : p < q
    · obtain ⟨f, rfl⟩ : ∃ f', f = f' + 1 := ⟨f - 1, by omega⟩
      have hunf : cov (f + 1) p q = (if p % 2 = 1 then [p] else []) ++ ((if q % 2 = 1 then [q - 1] else []) ++ cov f ((p + p % 2) / 2) ((q - q % 2) / 2)) := by
        conv => lhs; unfold cov
        rw [if_pos hlt]
      have HU := Lib.hid hunf
      clear hunf
      rcases Nat.mod_two_eq_zero_or_one p with hp2 | hp2 <;> rcases Nat.mod_two_eq_zero_or_one q with hq2 | hq2
      · have e1 : (((p : Int) % 2) == 1) = false := by rw [beq_eq_false_iff_ne]; omega
        have e2 : (((q : Int) % 2) == 1) = false := by rw [beq_eq_false_iff_ne]; omega
        have HP := Lib.hid hp2
        have HQ := Lib.hid hq2
        have hlen : pre.length + (cov (f + 1) p q).length = (cov (size + y + 1) (size + x) (size + y)).length := by rw [← HC.out]; simp
        rw [HU.out, if_neg (by omega), if_neg (by omega)] at hlen
        have HLEN := Lib.hid hlen
        clear hlen
        clear hp2 hq2
        gi_wp2
        go_roundw
        case rel =>
          have hp2 := HP.out
          have hq2 := HQ.out
          refine ⟨pre, (p + p % 2) / 2, (q - q % 2) / 2, f, congrArg (Value.int .i64) (by omega), congrArg (Value.int .i64) (by omega), by omega, by omega, ?_, by assumption⟩
          rw [← HC.out, HU.out, if_neg (by omega), if_neg (by omega)]; simp
        case measure => simp [intOf]; omega
      · have e1 : (((p : Int) % 2) == 1) = false := by rw [beq_eq_false_iff_ne]; omega
        have e2 : (((q : Int) % 2) == 1) = true := by rw [beq_iff_eq]; omega
        have HP := Lib.hid hp2
        have HQ := Lib.hid hq2
        have hlen : pre.length + (cov (f + 1) p q).length = (cov (size + y + 1) (size + x) (size + y)).length := by rw [← HC.out]; simp
        rw [HU.out, if_neg (by omega), if_pos hq2] at hlen
        have HLEN := Lib.hid hlen
        clear hlen
        clear hp2 hq2
        have hq1 : ((q : Int) - 1) = ((q - 1 : Nat) : Int) := by have := HQ.out; omega
        have hq3 : q - 1 < 2 * size := by have := HQ.out; omega
        obtain ⟨fn1, tm1, as1, bo1, hyy1, hR1⟩ := hY pre ⟨q - 1, by omega⟩ wr hJs (by have hl := HLEN.out; simp only [List.length_append, List.length_cons, List.length_nil] at hl ⊢; omega)
        dsimp only at hyy1
        gi_wp2
        refine ⟨(fun hh => by cases hh), hR1.mono ?_⟩
        rintro e W1 (⟨rfl, hJ1, _⟩ | ⟨rfl, hx1⟩)
        rotate_left
        · gi_wp2
          refine bodyPost_ret (results_none rfl _ _ _) rfl ?_
          exact ⟨⟨_, rfl⟩, .inr ⟨_, trivial, hx1⟩⟩
        clear hyy1 hR1
        gi_wp2
        go_roundw
        case rel =>
          have hp2 := HP.out
          have hq2 := HQ.out
          refine ⟨(pre ++ [⟨q - 1, _⟩]), (p + p % 2) / 2, (q - q % 2) / 2, f, congrArg (Value.int .i64) (by omega), congrArg (Value.int .i64) (by omega), by omega, by omega, ?_, by assumption⟩
          rw [← HC.out, HU.out, if_neg (by omega), if_pos hq2]; simp
        case measure => simp [intOf]; omega
      · have e1 : (((p : Int) % 2) == 1) = true := by rw [beq_iff_eq]; omega
        have e2 : (((q : Int) % 2) == 1) = false := by rw [beq_eq_false_iff_ne]; omega
        have HP := Lib.hid hp2
        have HQ := Lib.hid hq2
        have hlen : pre.length + (cov (f + 1) p q).length = (cov (size + y + 1) (size + x) (size + y)).length := by rw [← HC.out]; simp
        rw [HU.out, if_pos hp2, if_neg (by omega)] at hlen
        have HLEN := Lib.hid hlen
        clear hlen
        clear hp2 hq2
        obtain ⟨fn1, tm1, as1, bo1, hyy1, hR1⟩ := hY pre ⟨p, by omega⟩ wr hJs (by have hl := HLEN.out; simp only [List.length_append, List.length_cons, List.length_nil] at hl ⊢; omega)
        dsimp only at hyy1
        gi_wp2
        refine ⟨(fun hh => by cases hh), hR1.mono ?_⟩
        rintro e W1 (⟨rfl, hJ1, _⟩ | ⟨rfl, hx1⟩)
        rotate_left
        · gi_wp2
          refine bodyPost_ret (results_none rfl _ _ _) rfl ?_
          exact ⟨⟨_, rfl⟩, .inr ⟨_, trivial, hx1⟩⟩
        clear hyy1 hR1
        gi_wp2
        go_roundw
        case rel =>
          have hp2 := HP.out
          have hq2 := HQ.out
          refine ⟨(pre ++ [⟨p, _⟩]), (p + p % 2) / 2, (q - q % 2) / 2, f, congrArg (Value.int .i64) (by omega), congrArg (Value.int .i64) (by omega), by omega, by omega, ?_, by assumption⟩
          rw [← HC.out, HU.out, if_pos hp2, if_neg (by omega)]; simp
        case measure => simp [intOf]; omega
      · have e1 : (((p : Int) % 2) == 1) = true := by rw [beq_iff_eq]; omega
        have e2 : (((q : Int) % 2) == 1) = true := by rw [beq_iff_eq]; omega
        have HP := Lib.hid hp2
        have HQ := Lib.hid hq2
        have hlen : pre.length + (cov (f + 1) p q).length = (cov (size + y + 1) (size + x) (size + y)).length := by rw [← HC.out]; simp
        rw [HU.out, if_pos hp2, if_pos hq2] at hlen
        have HLEN := Lib.hid hlen
        clear hlen
        clear hp2 hq2
        have hq1 : ((q : Int) - 1) = ((q - 1 : Nat) : Int) := by have := HQ.out; omega
        have hq3 : q - 1 < 2 * size := by have := HQ.out; omega
        obtain ⟨fn1, tm1, as1, bo1, hyy1, hR1⟩ := hY pre ⟨p, by omega⟩ wr hJs (by have hl := HLEN.out; simp only [List.length_append, List.length_cons, List.length_nil] at hl ⊢; omega)
        dsimp only at hyy1
        gi_wp2
        refine ⟨(fun hh => by cases hh), hR1.mono ?_⟩
        rintro e W1 (⟨rfl, hJ1, _⟩ | ⟨rfl, hx1⟩)
        rotate_left
        · gi_wp2
          refine bodyPost_ret (results_none rfl _ _ _) rfl ?_
          exact ⟨⟨_, rfl⟩, .inr ⟨_, trivial, hx1⟩⟩
        clear hyy1 hR1
        obtain ⟨fn2, tm2, as2, bo2, hyy2, hR2⟩ := hY (pre ++ [⟨p, _⟩]) ⟨q - 1, by omega⟩ W1 hJ1 (by have hl := HLEN.out; simp only [List.length_append, List.length_cons, List.length_nil] at hl ⊢; omega)
        dsimp only at hyy2
        gi_wp2
        refine ⟨(fun hh => by cases hh), hR2.mono ?_⟩
        rintro e W2 (⟨rfl, hJ2, _⟩ | ⟨rfl, hx2⟩)
        rotate_left
        · gi_wp2
          refine bodyPost_ret (results_none rfl _ _ _) rfl ?_
          exact ⟨⟨_, rfl⟩, .inr ⟨_, trivial, hx2⟩⟩
        clear hyy2 hR2
        gi_wp2
        go_roundw
        case rel =>
          have hp2 := HP.out
          have hq2 := HQ.out
          refine ⟨((pre ++ [⟨p, _⟩]) ++ [⟨q - 1, _⟩]), (p + p % 2) / 2, (q - q % 2) / 2, f, congrArg (Value.int .i64) (by omega), congrArg (Value.int .i64) (by omega), by omega, by omega, ?_, by assumption⟩
          rw [← HC.out, HU.out, if_pos hp2, if_pos hq2]; simp
        case measure => simp [intOf]; omega
    · have hunf : cov f p q = [] := by
        cases f with
        | zero => rfl
        | succ f => unfold cov; rw [if_neg hlt]
      have hcc := HC.out
      rw [hunf, List.append_nil] at hcc
      clear HC
      have HCC := Lib.hid hcc
      clear hcc hunf
      gi_wp2
      go_end0
      exact ⟨⟨_, rfl⟩, .inl ⟨pre, HCC.out, hJs⟩⟩
end Go.Proofs.Ytblooekephkojaa

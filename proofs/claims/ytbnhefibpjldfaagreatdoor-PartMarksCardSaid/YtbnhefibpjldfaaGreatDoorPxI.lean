/- spans: whether a set has a line; the iterator over the ranges of a set. -/
import Derived.Test.YtbnhefibpjldfaaGreatDoorPxH
namespace Go.Proofs.YtbnhefibpjldfaaGreatDoor
open Go.RowKit Go.BigFrame Go.Shelf
set_option linter.unusedVariables false
attribute [local go_sem] Oper.semAt_some

theorem Sp.has (B bb n : Nat) (mem : Nat → Bool) (w : World) (c0 : w.cell? ⟨B, 0, none⟩ = some (.slice (some ⟨bb, 0, none⟩) n n)) (hb : ∀ i, i < n → w.cell? ⟨bb, i, none⟩ = some (.bool (mem i))) (i : Nat) (hi : i < n) :
    Calls Tryz.prog 70 #[.int .i64 i, .pointer (some ⟨B, 0, none⟩)] w fun e w' => e = .returned (.bool (mem i)) ∧ w' = w := by
  have c1 := hb i hi
  have hi' : (i : Int) < n := by omega
  obtain ⟨q, hq⟩ : ∃ q, mem i = q := ⟨_, rfl⟩
  rw [hq] at c1 ⊢
  clear hb hq
  go_enter Tryz.func70, Tryz.ntmps70
  go_wp2_with fail
  go_ret
  exact ⟨rfl, rfl⟩
theorem Sp.ranges (n B : Nat) (w : World) : Calls Tryz.prog 69 #[.int .i64 n, .func (.func 70) #[] #[.pointer (some ⟨B, 0, none⟩)]] w fun e w' => e = .returned (.func (.func 95) #[] #[.pointer (some ⟨w.heap.size, 0, none⟩), .pointer (some ⟨w.heap.size + 1, 0, none⟩)]) ∧ w' = (w.alloc (.cells #[.int .i64 n] 3)).alloc (.cells #[.func (.func 70) #[] #[.pointer (some ⟨B, 0, none⟩)]] 118) := by
  go_enter Tryz.func69, Tryz.ntmps69
  go_wp2
  go_ret
  exact ⟨rfl, rfl⟩
/-- A set of lines, and a function's captured cells that ask it. -/
structure SpM (B1 B2 B bb n : Nat) (mem : Nat → Bool) (w : World) : Prop where
  n1 : w.heap[B1]? = some (.cells #[.int .i64 n] 3 (0, 0))
  fn : w.heap[B2]? = some (.cells #[.func (.func 70) #[] #[.pointer (some ⟨B, 0, none⟩)]] 118 (0, 0))
  sl : w.heap[B]? = some (.cells #[.slice (some ⟨bb, 0, none⟩) n n] 38 (0, 0))
  row : ∃ cs, w.heap[bb]? = some (.cells cs 4 (0, 0)) ∧ ∀ i, i < n → cs[i]? = some (.bool (mem i))
def T4s (t : TypeId) : Bool := t == 3 || t == 118 || t == 38 || t == 4
theorem SpM.kt {B1 B2 B bb n : Nat} {mem : Nat → Bool} {w w' : World} (h : SpM B1 B2 B bb n mem w) (k : KT T4s w w') : SpM B1 B2 B bb n mem w' :=
  ⟨k.2 _ _ 3 _ rfl h.n1, k.2 _ _ 118 _ rfl h.fn, k.2 _ _ 38 _ rfl h.sl, h.row.elim fun cs hc => ⟨cs, k.2 _ _ 4 _ rfl hc.1, hc.2⟩⟩
theorem SpM.has {B1 B2 B bb n : Nat} {mem : Nat → Bool} {w : World} (h : SpM B1 B2 B bb n mem w) {i : Nat} {b : Bool} (hi : i < n) (hm : mem i = b) : Calls Tryz.prog 70 #[.int .i64 i, .pointer (some ⟨B, 0, none⟩)] w fun e w' => e = .returned (.bool b) ∧ w' = w := by
  subst hm
  obtain ⟨cs, h1, h2⟩ := h.row
  exact Sp.has B bb n mem w (by simp [World.cell?, h.sl]) (fun j hj => by have := h2 j hj; simp [World.cell?, h1, this]) i hi
def fromI : Option Nat → Int
  | none => -1
  | some f => f
theorem rgs_step (mem : Nat → Bool) (o : Option Nat) {i n : Nat} (h : i < n) : rgs mem o i (n - i) = match o, mem i with
    | none, true => rgs mem (some i) (i + 1) (n - (i + 1))
    | none, false => rgs mem none (i + 1) (n - (i + 1))
    | some f, true => rgs mem (some f) (i + 1) (n - (i + 1))
    | some f, false => (f, i) :: rgs mem none (i + 1) (n - (i + 1)) := by
  rw [show n - i = (n - (i + 1)) + 1 by omega]
  cases o <;> cases hm : mem i <;> simp [rgs, hm]
abbrev rgV (p : Nat × Nat) : Value := .agg #[.int .i64 p.1, .int .i64 p.2]
set_option maxRecDepth 100000 in
set_option maxHeartbeats 8000000 in
theorem Sp.seq (m B1 B2 B bb n : Nat) (mem : Nat → Bool) (w : World) (hM : SpM B1 B2 B bb n mem w) (hn : n ≤ 1000000000) :
    SeqG Fence.wide m Tryz.prog 95 #[.pointer (some ⟨B1, 0, none⟩), .pointer (some ⟨B2, 0, none⟩)] (fun p : Nat × Nat => #[rgV p]) (KT T4s) (fun pre x => ∃ r, rgs mem none 0 n = pre ++ x :: r) (fun _ => False)
      (fun zs => zs = rgs mem none 0 n) (fun zs => ∃ r, rgs mem none 0 n = zs ++ r) w := fun L J Jx W hW hJ hJx hY hj0 => by
  have g0 := hM.kt (KT.of_below hW)
  have HJ := Lib.hid hJ
  have HY := Lib.hid hY
  have HJ0 := Lib.hid hj0
  have G0 := Lib.hid g0
  have c1 : W.cell? ⟨B1, 0, none⟩ = some (.int .i64 n) := by simp [World.cell?, g0.n1]
  clear hM hJ hJx g0 hY hj0
  refine callsIn_of_wp Tryz.func95 rfl trivial ?_ rfl
  simp only [Tryz.ntmps95, List.size_toArray, List.length_cons, List.length_nil, Nat.reduceAdd, Nat.reduceSub, Array.replicate_succ, Array.replicate_zero, List.push_toArray, List.append_toArray, List.nil_append, List.cons_append]
  gi_wp2_with (fail)
  gi_loopw [4, 7] (fun s4 s7 wr => ∃ (pre : List (Nat × Nat)) (o : Option Nat) (i : Nat), rgs mem none 0 n = pre ++ rgs mem o i (n - i) ∧ i ≤ n ∧ (∀ f, o = some f → f < i) ∧ s4 = .int .i64 (fromI o) ∧ s7 = .int .i64 i ∧ SpM B1 B2 B bb n mem wr ∧ J pre wr) (fun _ s7 _ => n - (intOf s7).toNat)
  case atStart => exact ⟨[], none, 0, rfl, Nat.zero_le _, (fun _ h => by cases h), rfl, rfl, G0.out, HJ0.out⟩
  case round =>
    clear HJ0 G0 c1
    obtain ⟨pre, o, i, hpre, hi, hof, hs4, rfl, g0, hjp⟩ := hrel
    have c1 : wr.cell? ⟨B1, 0, none⟩ = some (.int .i64 n) := by simp [World.cell?, g0.n1]
    have c2 : wr.cell? ⟨B2, 0, none⟩ = some (.func (.func 70) #[] #[.pointer (some ⟨B, 0, none⟩)]) := by simp [World.cell?, g0.fn]
    have G0 := Lib.hid g0
    have HJP := Lib.hid hjp
    clear g0 hjp
    by_cases hlt : i < n
    · have hlt' : (i : Int) < n := by omega
      rw [rgs_step mem o hlt] at hpre
      cases o with
      | none =>
        simp only [fromI] at hs4
        subst hs4
        cases hm : mem i with
        | true =>
          rw [hm] at hpre
          have HPRE := Lib.hid hpre
          have HM := Lib.hid hm
          clear hpre hm hof
          gi_wp2_with (fail)
          refine ⟨trivial, (fun hh => by cases hh), (callsIn_wide.2 (G0.out.has hlt HM.out)).mono ?_⟩
          rintro e w2 ⟨rfl, rfl⟩
          gi_wp2_with (fail)
          go_roundw
          case rel => exact ⟨pre, some i, i + 1, HPRE.out, by omega, (fun f h => by cases h; omega), rfl, by go_num, G0.out, HJP.out⟩
          case measure => simp [intOf]; omega
        | false =>
          rw [hm] at hpre
          have HPRE := Lib.hid hpre
          have HM := Lib.hid hm
          clear hpre hm hof
          gi_wp2_with (fail)
          refine ⟨trivial, (fun hh => by cases hh), (callsIn_wide.2 (G0.out.has hlt HM.out)).mono ?_⟩
          rintro e w2 ⟨rfl, rfl⟩
          gi_wp2_with (fail)
          refine ⟨trivial, (fun hh => by cases hh), (callsIn_wide.2 (G0.out.has hlt HM.out)).mono ?_⟩
          rintro e w2 ⟨rfl, rfl⟩
          gi_wp2_with (fail)
          go_roundw
          case rel => exact ⟨pre, none, i + 1, HPRE.out, by omega, (fun f h => by cases h), rfl, by go_num, G0.out, HJP.out⟩
          case measure => simp [intOf]; omega
      | some f =>
        simp only [fromI] at hs4
        subst hs4
        have hfi := hof f rfl
        have hf0 : ¬ (f : Int) < 0 := by omega
        have hf1 : (0 : Int) ≤ f := by omega
        cases hm : mem i with
        | true =>
          rw [hm] at hpre
          have HPRE := Lib.hid hpre
          have HM := Lib.hid hm
          clear hpre hm hof
          gi_wp2_with (fail)
          refine ⟨trivial, (fun hh => by cases hh), (callsIn_wide.2 (G0.out.has hlt HM.out)).mono ?_⟩
          rintro e w2 ⟨rfl, rfl⟩
          gi_wp2_with (fail)
          refine ⟨trivial, (fun hh => by cases hh), (callsIn_wide.2 (G0.out.has hlt HM.out)).mono ?_⟩
          rintro e w2 ⟨rfl, rfl⟩
          gi_wp2_with (fail)
          go_roundw
          case rel => exact ⟨pre, some f, i + 1, HPRE.out, by omega, (fun g h => by cases h; omega), rfl, by go_num, G0.out, HJP.out⟩
          case measure => simp [intOf]; omega
        | false =>
          rw [hm] at hpre
          have HPRE := Lib.hid hpre
          have HM := Lib.hid hm
          obtain ⟨fn1, tm1, as1, bo1, hyy1, hR1⟩ := HY.out pre (f, i) _ HJP.out ⟨_, HPRE.out⟩
          rw [show rgV (f, i) = .agg #[.int .i64 f, .int .i64 i] from rfl] at hyy1
          clear hpre hm hof
          gi_wp2_with (fail)
          refine ⟨trivial, (fun hh => by cases hh), (callsIn_wide.2 (G0.out.has hlt HM.out)).mono ?_⟩
          rintro e w2 ⟨rfl, rfl⟩
          gi_wp2_with (fail)
          refine ⟨trivial, (fun hh => by cases hh), (callsIn_wide.2 (G0.out.has hlt HM.out)).mono ?_⟩
          rintro e w2 ⟨rfl, rfl⟩
          gi_wp2_with (fail)
          refine ⟨(fun hh => by cases hh), hR1.mono ?_⟩
          rintro e W1 (⟨rfl, hJ1, hk1⟩ | ⟨rfl, hx1⟩)
          · have g1 := G0.out.kt hk1
            have HJ1 := Lib.hid hJ1
            have GB := Lib.hid g1
            clear g1 hk1 hJ1 hyy1 hR1
            gi_wp2_with (fail)
            go_roundw
            case rel =>
              refine ⟨pre ++ [(f, i)], none, i + 1, ?_, by omega, (fun g h => by cases h), rfl, by go_num, GB.out, HJ1.out⟩
              rw [HPRE.out, List.append_assoc]; rfl
            case measure => simp [intOf]; omega
          · have HX1 := Lib.hid hx1
            clear hx1 hyy1 hR1
            gi_wp2_with (fail)
            refine bodyPost_ret (results_none rfl _ _ _) rfl ?_
            exact ⟨⟨_, rfl⟩, .inr ⟨_, ⟨_, by rw [HPRE.out, List.append_assoc]; rfl⟩, HX1.out⟩⟩
    · obtain rfl : i = n := by omega
      rw [Nat.sub_self] at hpre
      have hlt' : ¬ (i : Int) < i := by omega
      cases o with
      | none =>
        simp only [fromI] at hs4
        subst hs4
        rw [rgs, List.append_nil] at hpre
        have HP := Lib.hid hpre
        clear hpre hof
        gi_wp2_with (fail)
        go_end0
        exact ⟨⟨_, rfl⟩, .inl (by rw [HP.out]; exact HJP.out)⟩
      | some f =>
        simp only [fromI] at hs4
        subst hs4
        have hfi := hof f rfl
        have hf1 : (0 : Int) ≤ f := by omega
        rw [rgs] at hpre
        have HPRE := Lib.hid hpre
        obtain ⟨fn1, tm1, as1, bo1, hyy1, hR1⟩ := HY.out pre (f, i) _ HJP.out ⟨_, HPRE.out⟩
        rw [show rgV (f, i) = .agg #[.int .i64 f, .int .i64 i] from rfl] at hyy1
        clear hpre hof
        gi_wp2_with (fail)
        refine ⟨(fun hh => by cases hh), hR1.mono ?_⟩
        rintro e W1 (⟨rfl, hJ1, hk1⟩ | ⟨rfl, hx1⟩)
        · have HJ1 := Lib.hid hJ1
          clear hk1 hJ1 hyy1 hR1
          gi_wp2_with (fail)
          go_end0
          exact ⟨⟨_, rfl⟩, .inl ⟨_, HPRE.out.symm, HJ1.out⟩⟩
        · have HX1 := Lib.hid hx1
          clear hx1 hyy1 hR1
          gi_wp2_with (fail)
          go_end0
          exact ⟨⟨_, rfl⟩, .inr ⟨_, ⟨[], by rw [HPRE.out, List.append_nil]⟩, HX1.out⟩⟩
end Go.Proofs.YtbnhefibpjldfaaGreatDoor

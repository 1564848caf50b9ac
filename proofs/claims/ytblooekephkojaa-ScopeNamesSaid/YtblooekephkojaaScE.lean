/- scope: Declare. -/
import Derived.Test.YtblooekephkojaaScD
namespace Go.Proofs.Ytblooekephkojaa
open Go.RowKit Go.BigFrame Go.ChangeMaps Go.WideMaps
set_option linter.unusedVariables false

theorem infoMe : (Try.prog.info? 90).map (fun i => (i.zero, i.size, i.bytes)) = some (some (.agg #[.int .i64 0, .bool false]), 2, 16) := by kernel_rfl
theorem infoSt : (Try.prog.info? 9).map (fun i => (i.zero, i.size, i.bytes)) = some (some (.string ⟨#[]⟩), 1, 16) := by kernel_rfl

theorem top_block {F : List Frm} {G : List Frm} {f : Frm} {x : ByteArray} (h : F = G ++ [f]) : (∃ t0, look f x = some t0 ∧ 0 < (stk F x).length ∧ ∀ hh : (stk F x).length - 1 < (stk F x).length, ((stk F x)[(stk F x).length - 1]'hh).1 = F.length) ∨
    (look f x = none ∧ stk F x = stk G x ∧ ((stk F x).length = 0 ∨ ∃ b : Nat, b ≠ F.length ∧ ∀ hh : (stk F x).length - 1 < (stk F x).length, ((stk F x)[(stk F x).length - 1]'hh).1 = b)) := by
  subst h
  cases hl : look f x with
  | some t0 =>
    left
    have hs : stk (G ++ [f]) x = stk G x ++ [(G.length + 1, t0)] := by rw [stk_snoc, hl]
    refine ⟨t0, rfl, by rw [hs]; simp, fun hh => ?_⟩
    simp only [hs]
    simp
  | none =>
    right
    have hs : stk (G ++ [f]) x = stk G x := by rw [stk_snoc, hl]; simp
    refine ⟨rfl, hs, ?_⟩
    rw [hs]
    by_cases h0 : (stk G x).length = 0
    · exact .inl h0
    · right
      refine ⟨((stk G x)[(stk G x).length - 1]'(by omega)).1, ?_, fun hh => rfl⟩
      have := (stkFrom_lt x 1 G _ (List.getElem_mem (l := stk G x) (n := (stk G x).length - 1) (by omega))).2
      intro e
      have e2 : (G ++ [f]).length = G.length + 1 := by simp
      rw [e2] at e
      omega

theorem str_empty {x : ByteArray} (h : x.size = 0) : x = ⟨#[]⟩ := by
  obtain ⟨d⟩ := x
  have : d = #[] := Array.eq_empty_of_size_eq_zero h
  rw [this]

theorem str_some {x : ByteArray} (h : x.size ≠ 0) : x.toList.isEmpty = false := by
  rw [Lib.toList_data]
  cases hq : x.data.toList with
  | nil =>
    exfalso
    apply h
    show x.data.size = 0
    rw [← Array.length_toList, hq]; rfl
  | cons a l => rfl

set_option maxRecDepth 100000 in
set_option maxHeartbeats 1000000 in
theorem Sc.declare_empty (A n : Nat) (S : Nat → Prop) (F : List Frm) (t : Bool) (w : World) (h : Sco w A n S F) :
    Calls Try.prog 23 #[.pointer (some ⟨A, 0, none⟩), .string ⟨#[]⟩, .bool t] w fun e w' => e = .returned (.int .i64 100) ∧ w' = w := by
  obtain ⟨M, vB, vs, mv, D, h, h2, h3⟩ := h
  have HD := Lib.hid h.hd
  clear h h2 h3
  go_enter Try.func23, Try.ntmps23
  go_wp2_with fail
  refine (Sc.made A w _ _ HD.out).mono ?_
  rintro e w1 ⟨rfl, rfl⟩
  go_wp2_with fail
  go_ret
  exact ⟨rfl, rfl⟩

set_option maxRecDepth 100000 in
set_option maxHeartbeats 1000000 in
theorem Sc.declare_old (A n : Nat) (S : Nat → Prop) (G : List Frm) (f : Frm) (x : ByteArray) (t t0 : Bool) (w : World) (h : Sco w A n S (G ++ [f])) (hx0 : x.size ≠ 0) (hx : x.size ≤ maxLen) (hF : (G ++ [f]).length ≤ 65536) (hl : look f x = some t0) :
    Calls Try.prog 23 #[.pointer (some ⟨A, 0, none⟩), .string x, .bool t] w fun e w' => e = .returned (.int .i64 0) ∧ Leaves A (n + 1) S (G ++ [setF f x t]) w w' := by
  obtain ⟨M, vB, vs, mv, D, h, h2, h3⟩ := h
  obtain ⟨c0, c1, c2⟩ := h.cells
  have HD := Lib.hid h.hd
  have hlk := h.lookup x hx
  have hrow := h.mrow x
  have hsl : (stk (G ++ [f]) x).length ≤ (G ++ [f]).length := stkFrom_len x 1 (G ++ [f])
  obtain ⟨t1, _, h0, htop⟩ : ∃ t1, look f x = some t1 ∧ 0 < (stk (G ++ [f]) x).length ∧ ∀ hh : (stk (G ++ [f]) x).length - 1 < (stk (G ++ [f]) x).length, ((stk (G ++ [f]) x)[(stk (G ++ [f]) x).length - 1]'hh).1 = (G ++ [f]).length := by
    rcases top_block (x := x) (rfl : G ++ [f] = G ++ [f]) with hq | ⟨hn, _⟩
    · exact hq
    · rw [hl] at hn; cases hn
  obtain ⟨g, cap, hv, hg, k0, k1⟩ := row_top hrow h0
  rw [htop (by omega)] at k0
  have hdone := decl_old_done (t := t) h h2 h3 hl hv
  have HDN := Lib.hid hdone
  have hfz : w.frozen? ⟨g, ((stk (G ++ [f]) x).length - 1) * 2 + 1, none⟩ = false := by rw [hv] at hrow; exact hrow.frozenAt _
  obtain ⟨a, cB, hvB⟩ := row_shape h.brow
  rw [hvB] at c2
  rw [hv] at hlk
  have hne := str_some hx0
  clear h h2 h3 hrow hdone hv htop hvB hl
  generalize stk (G ++ [f]) x = l at *
  generalize l[l.length - 1].2 = told at k1
  generalize (G ++ [f]).length = N at *
  have i0 : ((l.length : Int) - 1).toNat = l.length - 1 := by omega
  have i1 : (0 : Int) ≤ (l.length : Int) - 1 := by omega
  have i2 : ((l.length : Int) - 1) < (l.length : Int) := by omega
  have i3 : (l.length : Int) ≤ 65536 := by omega
  go_enter Try.func23, Try.ntmps23
  go_wp2_with fail
  refine (Sc.made A w _ _ HD.out).mono ?_
  rintro e w1 ⟨rfl, rfl⟩
  go_wp2_with fail
  go_ret
  exact ⟨rfl, HDN.out⟩
end Go.Proofs.Ytblooekephkojaa

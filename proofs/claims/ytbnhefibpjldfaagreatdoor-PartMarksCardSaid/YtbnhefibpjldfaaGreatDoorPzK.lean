/- part: sameWords, by what reflow's Words says. -/
import Derived.Test.YtbnhefibpjldfaaGreatDoorPzH
import Derived.Test.YtbnhefibpjldfaaGreatDoorPyK
import Derived.Test.YtbnhefibpjldfaaGreatDoorMon
import Derived.Test.YtbnhefibpjldfaaGreatDoorPwV
import Derived.Test.YtbnhefibpjldfaaGreatDoorPxE
namespace Go.Proofs.YtbnhefibpjldfaaGreatDoor
open Go.RowKit Go.BigFrame Go.Shelf
set_option linter.unusedVariables false

/-- What reflow's Words says of a block. -/
def W47ok : Prop := ∀ (x : Bs) (W : World), Mx W → isCom x → isBlock x = true → x.length ≤ 900 → Calls Tryz.prog 47 #[.string (str x)] W fun e w' => ∃ v, e = .returned (.tuple #[v, .int .i64 0]) ∧ WdV w' v (parsP x) ∧ Below W.heap.size W w'
theorem block_call (x : Bs) (w : World) (b : Bool) (h : isBlock x = b) : Calls Tryz.prog 44 #[.string (str x)] w fun e w' => e = .returned (.bool b) ∧ w' = w := by
  subst h
  have := Cm.block (str x) w
  rwa [dl_str] at this
theorem noPre_line {x : Bs} (hc : isCom x) (hb : isBlock x = false) : noPre x = inside x := by
  rw [inside_line hb]
  rcases hc with ⟨y, rfl⟩ | ⟨y, n, rfl, _, _⟩
  · simp [noPre, Lib.trimPrefix, Lib.hasPrefix]
  · simp [isBlock] at hb
theorem words_call (x : Bs) (w : World) (X : List ByteArray) (hl : x.length ≤ 900) (h : Lib.goFieldsP (fun x => r5 x) (str (noPre x)) = X) : Calls Tryz.prog 46 #[.string (str x)] w fun e w' => ∃ v, e = .returned v ∧ SlV 1 stF w' v X ∧ Below w.heap.size w w' := by
  have := Cm.words (str x) w (by rw [str_size]; omega)
  rw [dl_str] at this
  refine this.mono ?_
  rintro e w' ⟨A, rfl, ho, hb⟩
  rw [h] at ho ⊢
  have hfm : X.map Value.string = X.flatMap stF := by
    clear ho h
    induction X with
    | nil => rfl
    | cons a r ih => rw [List.map_cons, List.flatMap_cons, ih]; rfl
  rw [hfm] at ho
  exact ⟨_, rfl, SlV.of (f := stF) (fun _ => rfl) ho rfl, hb⟩
theorem equal_call (v1 v2 : Value) (X Y : List ByteArray) (w : World) (h1 : SlV 1 stF w v1 X) (h2 : SlV 1 stF w v2 Y) (l1 : X.length ≤ 1000000000) (l2 : Y.length ≤ 1000000000) (b : Bool) (h : decide (X = Y) = b) :
    Calls Tryz.prog 45 #[v1, v2] w fun e w' => e = .returned (.bool b) ∧ Below w.heap.size w w' := by
  subst h
  obtain ⟨a1, c1, rfl, _, _, r1⟩ := h1
  obtain ⟨a2, c2, rfl, _, _, r2⟩ := h2
  exact Sl.equal a1 a2 c1 c2 X Y w r1 r2 l1 l2
theorem fields_same {x y : Bs} : decide (Lib.goFieldsP (fun x => r5 x) (str x) = Lib.goFieldsP (fun x => r5 x) (str y)) = (flds white5 x == flds white5 y) := by
  have e1 := fields_flds byB5 (str x)
  have e2 := fields_flds byB5 (str y)
  rw [dl_str] at e1 e2
  rw [← e1, ← e2, ← strs_inj, List.map_map, List.map_map, show (str ∘ dl) = id from funext fun x => str_of x, List.map_id, List.map_id]
def sbS (p q : Value) (x y : ByteArray) (X Y : List ByteArray) (b : Bool) (i : Nat) (v : Value) (w : World) : Prop := match i with
  | 0 => v = p | 1 => v = .string x | 2 => SlV 1 stF w v X | 3 => v = q | 4 => v = .string y | 5 => SlV 1 stF w v Y | _ => v = .bool b
theorem sbS_mono (p q : Value) (x y : ByteArray) (X Y : List ByteArray) (b : Bool) : ∀ i v w w', Below w.heap.size w w' → sbS p q x y X Y b i v w → sbS p q x y X Y b i v w' := by
  intro i v w w' hb h
  match i, h with
  | 0, h => exact h
  | 1, h => exact h
  | 2, h => exact SlV.below h hb
  | 3, h => exact h
  | 4, h => exact h
  | 5, h => exact SlV.below h hb
  | n + 6, h => exact h
set_option maxRecDepth 100000 in
set_option maxHeartbeats 8000000 in
theorem Pr.sameWords (W47 : W47ok) : SWok := by
  intro x y w hm cx cy lx ly
  obtain ⟨kx, tx, lox, hix, spx⟩ := x
  obtain ⟨ky, ty, loy, hiy, spy⟩ := y
  simp only at cx cy lx ly ⊢
  obtain ⟨V, hV⟩ : ∃ V, sameW tx ty = V := ⟨_, rfl⟩
  rw [hV]
  obtain ⟨b1, hb1⟩ : ∃ b, isBlock tx = b := ⟨_, rfl⟩
  obtain ⟨b2, hb2⟩ : ∃ b, isBlock ty = b := ⟨_, rfl⟩
  have BX := Lib.hid (fun W : World => block_call tx W b1 hb1)
  have BY := Lib.hid (fun W : World => block_call ty W b2 hb2)
  unfold sameW at hV
  rw [hb1, hb2] at hV
  simp only [tkV]
  obtain ⟨W2, hW2⟩ : ∃ W2, W2 = (w.alloc (.cells #[.int .i64 kx, .string (str tx), .int .i64 lox, .int .i64 hix, .bool spx] 40)).alloc (.cells #[.int .i64 ky, .string (str ty), .int .i64 loy, .int .i64 hiy, .bool spy] 40) := ⟨_, rfl⟩
  have hB2 : Below w.heap.size w W2 := by rw [hW2]; exact (below_alloc _ _).trans ((below_alloc _ _).mono (by simp))
  have c1 : W2.cell? ⟨w.heap.size, 1, none⟩ = some (.string (str tx)) := by
    have h : W2.heap[w.heap.size]? = some (.cells #[.int .i64 kx, .string (str tx), .int .i64 lox, .int .i64 hix, .bool spx] 40 (0, 0)) := by rw [hW2]; exact heap_alloc_old' _ (heap_alloc_new _ _)
    simp [World.cell?, h]
  have c2 : W2.cell? ⟨w.heap.size + 1, 1, none⟩ = some (.string (str ty)) := by
    have h : W2.heap[w.heap.size + 1]? = some (.cells #[.int .i64 ky, .string (str ty), .int .i64 loy, .int .i64 hiy, .bool spy] 40 (0, 0)) := by
      rw [hW2]
      have := heap_alloc_new (w.alloc (.cells #[.int .i64 kx, .string (str tx), .int .i64 lox, .int .i64 hix, .bool spx] 40)) (.cells #[.int .i64 ky, .string (str ty), .int .i64 loy, .int .i64 hiy, .bool spy] 40)
      simpa using this
    simp [World.cell?, h]
  have K1 : ∀ u : Ext W2, u.w.cell? ⟨w.heap.size, 1, none⟩ = some (.string (str tx)) := fun u => u.cell c1
  have K2 : ∀ u : Ext W2, u.w.cell? ⟨w.heap.size + 1, 1, none⟩ = some (.string (str ty)) := fun u => u.cell c2
  have HB2 := Lib.hid hB2
  have HW2 := Lib.hid hW2
  have HMX := Lib.hid hm
  have hws := hm.pos
  have HV := Lib.hid hV
  have HCX := Lib.hid cx
  have HCY := Lib.hid cy
  have HBB1 := Lib.hid hb1
  have HBB2 := Lib.hid hb2
  have H47 := Lib.hid W47
  clear hV hb1 hb2 hm hB2 hW2 c1 c2 cx cy W47
  go_enter Tryz.func21, Tryz.ntmps21
  go_wp2_with fail
  rw [← HW2.out]
  refine wp_region_quiet (C := fun w' => ∃ u : Ext W2, w' = u.w) (by kernel_rfl) (by kernel_rfl) (Ext.drew W2) ?_
  try dsimp only []
  repeat (go_big_quiet_step (first | (go_at_call 44; rename_i u; refine (BX.out u.w).mono ?_; rintro e w4 ⟨rfl, rfl⟩; exact ⟨rfl, u, rfl⟩) | (go_at_call 44; rename_i u; refine (BY.out u.w).mono ?_; rintro e w4 ⟨rfl, rfl⟩; exact ⟨rfl, u, rfl⟩)))
  refine wpQuiet_nil ?_
  rintro w' ⟨u, rfl⟩
  by_cases h12 : b1 = b2
  · subst h12
    have hv := HV.out
    rw [if_neg (by simp)] at hv
    have hBu := HB2.out.trans (u.below.mono HB2.out.size)
    have k1 := K1 u
    have k2 := K2 u
    have hu0 : w.heap.size + 2 ≤ u.w.heap.size := by have := u.below.size; have h2 := congrArg (fun W : World => W.heap.size) HW2.out; simp at h2; omega
    generalize u.w = U at *
    have HBU := Lib.hid hBu
    have HVV := Lib.hid hv
    clear hv hBu K1 K2 HV
    have BX' := Lib.hid (BX.out U)
    cases b1 with
    | true =>
      have hv := HVV.out
      rw [if_pos rfl] at hv
      have HV := Lib.hid hv
      clear hv HVV
      go_wp2_with fail
      refine BX'.out.mono ?_
      rintro e w4 ⟨rfl, rfl⟩
      rename World => U
      go_wp2_with fail
      refine (H47.out tx _ (HMX.out.of HBU.out hws) HCX.out HBB1.out lx).mono ?_
      rintro e w5 ⟨v5, rfl, hw5, hb5⟩
      have HW5 := Lib.hid hw5
      obtain ⟨_, _, ⟨a5, c5, rfl, _⟩, _⟩ := hw5
      have k2' : w5.cell? ⟨w.heap.size + 1, 1, none⟩ = some (.string (str ty)) := (hb5.cell (by show w.heap.size + 1 < _; omega)).trans k2
      have hB5 := HBU.out.trans (hb5.mono HBU.out.size)
      have HB5 := Lib.hid hB5
      clear hb5 hB5 k1 k2
      go_wp2_with fail
      refine (H47.out ty _ (HMX.out.of HB5.out hws) HCY.out HBB2.out ly).mono ?_
      rintro e w6 ⟨v6, rfl, hw6, hb6⟩
      have hpx := pars_bound (inside tx) 900 (by unfold inside; split <;> simp <;> omega)
      have hpy := pars_bound (inside ty) 900 (by unfold inside; split <;> simp <;> omega)
      have heq := Sl.eqFunc2 _ _ (parsP tx) (parsP ty) w6 (HW5.out.below hb6) hw6 (by unfold parsP; omega) (by unfold parsP; omega) (fun z hz => by have := hpx.2 z hz; omega) (fun z hz => by have := hpy.2 z hz; omega)
      rw [HV.out] at heq
      obtain ⟨_, _, ⟨a6, c6, rfl, _⟩, _⟩ := hw6
      have HEQ := Lib.hid heq
      have HB6 := Lib.hid (HB5.out.trans (hb6.mono HB5.out.size))
      clear hb6 heq k2' hpx hpy
      go_wp2_with fail
      refine HEQ.out.mono ?_
      rintro e w7 ⟨rfl, hb7⟩
      have HB7 := Lib.hid (HB6.out.trans (hb7.mono HB6.out.size))
      clear hb7 HEQ
      go_wp2_with fail
      go_ret
      exact ⟨rfl, HB7.out⟩
    | false =>
      have hv := HVV.out
      rw [if_neg (by simp), ← noPre_line HCX.out HBB1.out, ← noPre_line HCY.out HBB2.out, ← fields_same] at hv
      obtain ⟨X, hX⟩ : ∃ X, Lib.goFieldsP (fun x => r5 x) (str (noPre tx)) = X := ⟨_, rfl⟩
      obtain ⟨Y, hY⟩ : ∃ Y, Lib.goFieldsP (fun x => r5 x) (str (noPre ty)) = Y := ⟨_, rfl⟩
      rw [hX, hY] at hv
      have WX := Lib.hid (fun W : World => words_call tx W X lx hX)
      have WY := Lib.hid (fun W : World => words_call ty W Y ly hY)
      have hxl : X.length ≤ 1000000000 := by
        have h1 := fields_flds byB5 (str (noPre tx))
        have h2 := congrArg List.length h1
        rw [hX, List.length_map, dl_str] at h2
        have h3 := flds_len white5 (noPre tx)
        have h4 : (noPre tx).length ≤ 900 := by rw [noPre_line HCX.out HBB1.out]; unfold inside; split <;> simp <;> omega
        omega
      have hyl : Y.length ≤ 1000000000 := by
        have h1 := fields_flds byB5 (str (noPre ty))
        have h2 := congrArg List.length h1
        rw [hY, List.length_map, dl_str] at h2
        have h3 := flds_len white5 (noPre ty)
        have h4 : (noPre ty).length ≤ 900 := by rw [noPre_line HCY.out HBB2.out]; unfold inside; split <;> simp <;> omega
        omega
      have HXL0 := Lib.hid hxl
      have HYL0 := Lib.hid hyl
      clear hxl hyl
      have HV := Lib.hid hv
      have K1 : Hid (∀ z : Ext U, z.w.cell? ⟨w.heap.size, 1, none⟩ = some (.string (str tx))) := Lib.hid fun z => z.cell k1
      have K2 : Hid (∀ z : Ext U, z.w.cell? ⟨w.heap.size + 1, 1, none⟩ = some (.string (str ty))) := Lib.hid fun z => z.cell k2
      clear hv HVV hX hY k2
      go_wp2_with fail
      refine BX'.out.mono ?_
      rintro e w4 ⟨rfl, rfl⟩
      rename World => U
      clear k1
      go_wp2_with fail
      have HXL : Hid (X.length ≤ 1000000000) := Lib.hid HXL0.out
      have HYL : Hid (Y.length ≤ 1000000000) := Lib.hid HYL0.out
      refine wp_region_each (sbS (.pointer (some ⟨w.heap.size, 1, none⟩)) (.pointer (some ⟨w.heap.size + 1, 1, none⟩)) (str tx) (str ty) X Y V) (by kernel_rfl) (by kernel_rfl) (sbS_mono _ _ _ _ _ _ _) ?_ ?_
      · intro i o ho v w5 hI5 hd K hK1
        have hi : i < 8 := (List.getElem?_eq_some_iff.1 ho).1
        have HK1 := Lib.hid hK1
        have HI5 := Lib.hid hI5
        clear hK1 hI5
        have hi6 : i = 0 ∨ i = 1 ∨ i = 2 ∨ i = 3 ∨ i = 4 ∨ i = 5 ∨ i = 6 ∨ i = 7 := by omega
        rcases hi6 with rfl | rfl | rfl | rfl | rfl | rfl | rfl | rfl
        · -- op 0
          cases ho
          try clear hd
          simp only [List.take_succ_cons, List.take_zero, putAll, Act.put, List.setIfInBounds_toArray, List.set_cons_succ, List.set_cons_zero, Nat.reduceAdd, Nat.zero_add]
          go_wp2_with fail
          have q := HK1.out (.pointer (some ⟨w.heap.size, 1, none⟩)) w5 rfl (Below.refl _ _)
          simp only [List.take_succ_cons, List.take_zero, putAll, Act.put, List.setIfInBounds_toArray, List.set_cons_succ, List.set_cons_zero, Nat.reduceAdd, Nat.zero_add] at q
          exact q
        · -- op 1
          have h0 : v 0 = .pointer (some ⟨w.heap.size, 1, none⟩) := hd 0 (by kernel_rfl)
          have cf := K1.out ⟨w5, HI5.out⟩
          simp only [Ext.w] at cf
          cases ho
          try clear hd
          simp only [List.take_succ_cons, List.take_zero, putAll, Act.put, List.setIfInBounds_toArray, List.set_cons_succ, List.set_cons_zero, Nat.reduceAdd, Nat.zero_add, h0]
          go_wp2_with fail
          have q := HK1.out (.string (str tx)) w5 rfl (Below.refl _ _)
          simp only [List.take_succ_cons, List.take_zero, putAll, Act.put, List.setIfInBounds_toArray, List.set_cons_succ, List.set_cons_zero, Nat.reduceAdd, Nat.zero_add, h0] at q
          exact q
        · -- op 2
          have h1 : v 1 = .string (str tx) := hd 1 (by kernel_rfl)
          cases ho
          try clear hd
          simp only [List.take_succ_cons, List.take_zero, putAll, Act.put, List.setIfInBounds_toArray, List.set_cons_succ, List.set_cons_zero, Nat.reduceAdd, Nat.zero_add, h1]
          go_wp2_with fail
          refine (WX.out w5).mono ?_
          rintro e w6 ⟨v6, rfl, hs6, hb6⟩
          go_wp2_with fail
          have q := HK1.out v6 w6 hs6 hb6
          simp only [List.take_succ_cons, List.take_zero, putAll, Act.put, List.setIfInBounds_toArray, List.set_cons_succ, List.set_cons_zero, Nat.reduceAdd, Nat.zero_add, h1] at q
          exact q
        · -- op 3
          cases ho
          try clear hd
          simp only [List.take_succ_cons, List.take_zero, putAll, Act.put, List.setIfInBounds_toArray, List.set_cons_succ, List.set_cons_zero, Nat.reduceAdd, Nat.zero_add]
          go_wp2_with fail
          have q := HK1.out (.pointer (some ⟨w.heap.size + 1, 1, none⟩)) w5 rfl (Below.refl _ _)
          simp only [List.take_succ_cons, List.take_zero, putAll, Act.put, List.setIfInBounds_toArray, List.set_cons_succ, List.set_cons_zero, Nat.reduceAdd, Nat.zero_add] at q
          exact q
        · -- op 4
          have h3 : v 3 = .pointer (some ⟨w.heap.size + 1, 1, none⟩) := hd 3 (by kernel_rfl)
          have cf := K2.out ⟨w5, HI5.out⟩
          simp only [Ext.w] at cf
          cases ho
          try clear hd
          simp only [List.take_succ_cons, List.take_zero, putAll, Act.put, List.setIfInBounds_toArray, List.set_cons_succ, List.set_cons_zero, Nat.reduceAdd, Nat.zero_add, h3]
          go_wp2_with fail
          have q := HK1.out (.string (str ty)) w5 rfl (Below.refl _ _)
          simp only [List.take_succ_cons, List.take_zero, putAll, Act.put, List.setIfInBounds_toArray, List.set_cons_succ, List.set_cons_zero, Nat.reduceAdd, Nat.zero_add, h3] at q
          exact q
        · -- op 5
          have h4 : v 4 = .string (str ty) := hd 4 (by kernel_rfl)
          cases ho
          try clear hd
          simp only [List.take_succ_cons, List.take_zero, putAll, Act.put, List.setIfInBounds_toArray, List.set_cons_succ, List.set_cons_zero, Nat.reduceAdd, Nat.zero_add, h4]
          go_wp2_with fail
          refine (WY.out w5).mono ?_
          rintro e w6 ⟨v6, rfl, hs6, hb6⟩
          go_wp2_with fail
          have q := HK1.out v6 w6 hs6 hb6
          simp only [List.take_succ_cons, List.take_zero, putAll, Act.put, List.setIfInBounds_toArray, List.set_cons_succ, List.set_cons_zero, Nat.reduceAdd, Nat.zero_add, h4] at q
          exact q
        · -- op 6
          have h2 : SlV 1 stF w5 (v 2) X := hd 2 (by kernel_rfl)
          have h5 : SlV 1 stF w5 (v 5) Y := hd 5 (by kernel_rfl)
          cases ho
          try clear hd
          simp only [List.take_succ_cons, List.take_zero, putAll, Act.put, List.setIfInBounds_toArray, List.set_cons_succ, List.set_cons_zero, Nat.reduceAdd, Nat.zero_add]
          go_wp2_with fail
          refine (equal_call (v 2) (v 5) X Y w5 h2 h5 HXL.out HYL.out V HV.out).mono ?_
          rintro e w6 ⟨rfl, hb6⟩
          go_wp2_with fail
          have q := HK1.out (.bool V) w6 rfl hb6
          simp only [List.take_succ_cons, List.take_zero, putAll, Act.put, List.setIfInBounds_toArray, List.set_cons_succ, List.set_cons_zero, Nat.reduceAdd, Nat.zero_add] at q
          exact q
        · -- op 7
          have h6 : v 6 = .bool V := hd 6 (by kernel_rfl)
          cases ho
          try clear hd
          simp only [List.take_succ_cons, List.take_zero, putAll, Act.put, List.setIfInBounds_toArray, List.set_cons_succ, List.set_cons_zero, Nat.reduceAdd, Nat.zero_add, h6]
          go_wp2_with fail
          have q := HK1.out (.bool V) w5 rfl (Below.refl _ _)
          simp only [List.take_succ_cons, List.take_zero, putAll, Act.put, List.setIfInBounds_toArray, List.set_cons_succ, List.set_cons_zero, Nat.reduceAdd, Nat.zero_add, h6] at q
          exact q
      · intro v w5 hI5 hS5
        have g7 : v 7 = .bool V := hS5 7 (by decide)
        have HB5 := Lib.hid (HBU.out.trans (hI5.mono HBU.out.size))
        clear hS5 hI5
        simp only [putAll, Act.put, List.setIfInBounds_toArray, List.set_cons_succ, List.set_cons_zero, Nat.reduceAdd, Nat.zero_add, g7]
        clear g7
        go_wp2_with fail
        go_ret
        exact ⟨rfl, HB5.out⟩
  · have hne : (b1 != b2) = true := by simpa using h12
    have hv0 : V = false := by have := HV.out; rw [if_pos hne] at this; exact this.symm
    subst hv0
    have hBu := Lib.hid (HB2.out.trans (u.below.mono HB2.out.size))
    clear HV hne BX BY HBB1 HBB2
    cases b1 with
    | true =>
      cases b2 with
      | true => exact absurd rfl h12
      | false =>
        go_wp2_with fail
        go_ret
        exact ⟨rfl, hBu.out⟩
    | false =>
      cases b2 with
      | false => exact absurd rfl h12
      | true =>
        go_wp2_with fail
        go_ret
        exact ⟨rfl, hBu.out⟩
end Go.Proofs.YtbnhefibpjldfaaGreatDoor

/- PzJ -/
namespace Go.Proofs.YtbnhefibpjldfaaGreatDoor
open Go.RowKit Go.BigFrame Go.Shelf
set_option linter.unusedVariables false

theorem its_block {x : Bs} (hc : isCom x) (hb : isBlock x = true) : its x 0 0 = [⟨8, 0, x.length, 0⟩] := by
  rcases hc with ⟨y, rfl⟩ | ⟨y, n, rfl, hn, hl⟩
  · simp [isBlock] at hb
  · have hw : isWhite 47 = false := by decide
    have hcl : cLen (47 :: 42 :: y) = (n + 4, 0) := by
      simp only [cLen, and_self, if_true, hn]
    have hit : itm (47 :: 42 :: y) ((0 : Nat) == 2) = (8, n + 4, 0) := by
      unfold itm
      rw [if_neg (by simp), hcl, if_neg (by simp), if_pos (by simp)]
    rw [its, hw, if_neg (by simp), hit]
    simp only [ne_eq, not_true_eq_false, if_false]
    rw [List.drop_of_length_le (by simp; omega), its_nil]
    simp; omega
set_option maxRecDepth 100000 in
set_option maxHeartbeats 4000000 in
theorem Re.inside (s : ByteArray) (w : World) (hs : s.size ≤ 1000000000) (hc : isCom (dl s)) (hb : isBlock (dl s) = true) (hm : Mx w) : Calls Tryz.prog 82 #[.string s] w fun e w' => e = .returned (.tuple #[.string (str (YtbnhefibpjldfaaGreatDoor.inside (dl s))), .bool true]) ∧ Below w.heap.size w w' := by
  obtain ⟨h1, h2⟩ := com_snd hc
  have h4 := h2.2 hb
  have hits := its_block hc hb
  rw [← size_dl] at hits
  have ON := Lib.hid (fun (W : World) (hW : Mx W) => Sc.one s W hs hits hW)
  have hp : Lib.hasPrefix (dl s) (dl ⟨#[47, 42]⟩) = true := by
    rw [hasPrefix_take, decide_eq_true_iff]
    unfold isBlock at hb
    rw [beq_iff_eq] at hb
    exact hb
  have HP := Lib.hid (fun u : World => hasPrefix_call s ⟨#[47, 42]⟩ u _ hp)
  obtain ⟨t, ht⟩ : ∃ t, str (YtbnhefibpjldfaaGreatDoor.inside (dl s)) = t := ⟨_, rfl⟩
  have hex : s.extract 2 (s.size - 2) = t := by
    rw [← ht, inside_block hb, ext_str, ← size_dl, show s.size - 2 - 2 = s.size - 4 by omega]
  rw [ht]
  have HEX := Lib.hid hex
  have HMX := Lib.hid hm
  have w1' : (2 : Int) ≤ (s.size : Int) - 2 := by omega
  have w2' : (s.size : Int) - 2 ≤ (s.size : Int) := by omega
  have w3' : ((s.size : Int) - 2).toNat = s.size - 2 := by omega
  have w4' : (4 : Int) ≤ s.size := by omega
  clear hits hc hb hm hp ht hex h1 h2
  go_enter Tryz.func82, Tryz.ntmps82
  go_wp2_with fail
  refine (HP.out _).mono ?_
  rintro e w2 ⟨rfl, rfl⟩
  go_wp2_with fail
  refine (ON.out _ HMX.out).mono ?_
  rintro e w3 ⟨rfl, hb3⟩
  have HB3 := Lib.hid hb3
  clear hb3
  go_wp2_with fail
  go_ret2
  exact ⟨by rw [← HEX.out]; rfl, HB3.out⟩
end Go.Proofs.YtbnhefibpjldfaaGreatDoor

/- PzK -/
namespace Go.Proofs.YtbnhefibpjldfaaGreatDoor
open Go.RowKit Go.BigFrame Go.Shelf
set_option linter.unusedVariables false

/-- What paragraphs says of an inside. -/
def W83ok : Prop := ∀ (y : Bs) (W : World), Mx W → y.length ≤ 900 → Calls Tryz.prog 83 #[.string (str y)] W fun e w' => ∃ v, e = .returned v ∧ WdV w' v (parsF [] ((splF [] y).mapIdx lineW)) ∧ Below W.heap.size W w'
set_option maxRecDepth 100000 in
set_option maxHeartbeats 4000000 in
theorem Re.words (W83 : W83ok) : W47ok := by
  intro x w hm hc hb hl
  have IN := Lib.hid (fun (W : World) (hW : Mx W) => Re.inside (str x) W (by rw [str_size]; omega) (by rw [dl_str]; exact hc) (by rw [dl_str]; exact hb) hW)
  have hil : (YtbnhefibpjldfaaGreatDoor.inside x).length ≤ 900 := by unfold YtbnhefibpjldfaaGreatDoor.inside; split <;> simp <;> omega
  have PA := Lib.hid (fun (W : World) (hW : Mx W) => W83 (YtbnhefibpjldfaaGreatDoor.inside x) W hW hil)
  have HMX := Lib.hid hm
  have hws := hm.pos
  clear hm hc hb W83
  go_enter Tryz.func47, Tryz.ntmps47
  go_wp2_with fail
  refine (IN.out _ HMX.out).mono ?_
  rintro e w1 ⟨rfl, hb1⟩
  rw [dl_str]
  have HB1 := Lib.hid hb1
  clear hb1
  go_wp2_with fail
  refine (PA.out _ (HMX.out.of HB1.out hws)).mono ?_
  rintro e w2 ⟨v, rfl, hv, hb2⟩
  have HV := Lib.hid hv
  obtain ⟨_, _, ⟨a, c, rfl, _⟩, _⟩ := hv
  have HB2 := Lib.hid (HB1.out.trans (hb2.mono HB1.out.size))
  clear hb2
  go_wp2_with fail
  go_ret2
  exact ⟨_, rfl, HV.out, HB2.out⟩
end Go.Proofs.YtbnhefibpjldfaaGreatDoor

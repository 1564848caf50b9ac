/- search: begins, at the line's beginning. -/
import Derived.Test.YtblooekephkojaaLsJ
namespace Go.Proofs.Ytblooekephkojaa
open Go.RowKit Go.BigFrame Go.Shelf
set_option linter.unusedVariables false

set_option maxRecDepth 100000 in
set_option maxHeartbeats 4000000 in
theorem Ls.begins_zero (q : Ln) (l : List Gap) (s : Sty) (first : Int) (en cost : List Int) (z : Nat) (fv fb sv sb : List Int) (i most wide : Nat) (start : Int) (w : World) (h : LineAt w q l s first (sums l) en cost z fv fb sv sb)
    (hnd : q.blocks.Nodup) (hr : RowAt 6 Gap.f w q.ga l) (hl : l.length ≤ 65536) (hi : i = 0) (him : i ≤ most) (hm : most ≤ l.length) (hv : ∀ g ∈ l, g.valid = true) (hs : StyOk s) (hf0 : 0 ≤ first) (hf1 : first ≤ 65536)
    (hz : l.length + 1 ≤ z) (hz2 : z ≤ 200000) (t1 : TreeOk (l.length + 1) z fv fb) (t2 : TreeOk (l.length + 1) z sv sb) (hel : en.length = l.length + 1) (hcl : cost.length = l.length + 1)
    (hfv : ∀ a ∈ fv, 0 ≤ a ∧ a ≤ 2400000000000000000) (hsv : ∀ a ∈ sv, 0 ≤ a ∧ a ≤ 2400000000000000000) (hstart : start = first)
    (hw1 : i ≤ wide) (hw2 : wide ≤ most + 1) (hw3 : ∀ k, k < most + 1 - i → (s.c < start + psum l (i + k) - psum l i ↔ wide - i ≤ k)) :
    Calls Try.prog 56 #[.pointer (some ⟨q.L, 0, none⟩), .int .i64 i, .int .i64 most] w
      (BegPost q l s first en cost z fv fb sv sb i (begR z fv fb sv sb s.e s.c start (psum l i) i wide most) w) := by
  obtain ⟨c0, c1, c8, c19, c20, c21, c22, c23, c24⟩ := h.cells
  have hL0 : q.L < w.heap.size := (Array.getElem?_eq_some_iff.1 h.hd).1
  have hA0 := h.sum.lt
  have ca : w.cell? ⟨q.A, i, none⟩ = some (.int .i64 (psum l i)) := by
    have := h.sum.cell i (by simp [sums]; omega)
    simpa [sums] using this
  have hps := psum_bd l hv i (by omega)
  have hst0 : 0 ≤ start ∧ start ≤ 100000 := by omega
  have hi5 : ¬ (0 : Int) < (i : Int) := by omega
  clear hi
  have HND := Lib.hid hnd
  have hE0 := h.en.lt
  have HH := Lib.hid h
  have HV := Lib.hid hv
  have HW := Lib.hid hw3
  have HFV := Lib.hid hfv
  have HSV := Lib.hid hsv
  have i0 : (0 : Int) ≤ (i : Int) := by omega
  have i1 : (i : Int) < (l.length : Int) + 1 := by omega
  have im : (most : Int) ≤ 65536 := by omega
  have hsum0 : psum l i ≤ 8589934592 ∧ 0 ≤ psum l i := by omega
  have HPS := Lib.hid hsum0
  obtain ⟨s1, s2, s3, s4⟩ := hs
  obtain ⟨r, hr0⟩ : ∃ r, r = begR z fv fb sv sb s.e s.c start (psum l i) i wide most := ⟨_, rfl⟩
  rw [← hr0]
  have HR0 := Lib.hid hr0
  clear hr0
  obtain ⟨W3, hW3⟩ : ∃ W3, W3 = ((w.alloc (.cells #[.pointer (some ⟨q.L, 0, none⟩)] 100)).alloc (.cells #[.int .i64 i] 3)).alloc (.cells #[.int .i64 first] 3) := ⟨_, rfl⟩
  have hB3 : Below w.heap.size w W3 := by rw [hW3]; exact (((Below.refl _ w).alloc (Nat.le_refl _) _).alloc (by simp) _).alloc (by simp; omega) _
  obtain ⟨cl, ci, hbs⟩ := cells3 w (.pointer (some ⟨q.L, 0, none⟩)) (.int .i64 i) (.int .i64 first) 100 3 3
  rw [← hW3] at cl ci hbs
  have cs : W3.cell? ⟨w.heap.size + 1 + 1, 0, none⟩ = some (.int .i64 first) := by simp [World.cell?, hbs]
  have fs : W3.frozen? ⟨w.heap.size + 1 + 1, 0, none⟩ = false := Lib.frozen_of_heap hbs _
  have e0 := cell_kept hB3 c0
  have HW3 := Lib.hid hW3
  have HBS := Lib.hid hbs
  have hsz3 := hB3.size
  clear h hr hv hw3 hfv hsv hps hnd hW3 hbs
  go_enter Try.func56, Try.ntmps56
  go_wp2_with fail
  rw [← HW3.out]
  clear c0 c1 c8 c19 c20 c21 c22 c23 c24 e0
  obtain ⟨W4, hW4⟩ : ∃ W4, W4 = W3 := ⟨_, rfl⟩
  have hB4 : Below w.heap.size w W4 := by rw [hW4]; exact hB3
  have cl4 : W4.cell? ⟨w.heap.size, 0, none⟩ = some (.pointer (some ⟨q.L, 0, none⟩)) := by rw [hW4]; exact cl
  have ci4 : W4.cell? ⟨w.heap.size + 1, 0, none⟩ = some (.int .i64 i) := by rw [hW4]; exact ci
  have cs4 : W4.cell? ⟨w.heap.size + 1 + 1, 0, none⟩ = some (.int .i64 start) := by rw [hW4]; rw [hstart]; exact cs
  rw [← hW4]
  have HW4 := Lib.hid hW4
  have HB4 := Lib.hid hB4
  have HL4 := Lib.hid (HH.out.below hB4)
  clear hW4 hB4 hB3 cl ci cs fs
  obtain ⟨d0, d1, d8, d19, d20, d21, d22, d23, d24⟩ := HL4.out.cells
  have da : W4.cell? ⟨q.A, i, none⟩ = some (.int .i64 (psum l i)) := cell_kept HB4.out ca
  have u1 : ∀ u : Ext W4, u.w.cell? ⟨w.heap.size, 0, none⟩ = some (.pointer (some ⟨q.L, 0, none⟩)) := fun u => u.cell cl4
  have u2 : ∀ u : Ext W4, u.w.cell? ⟨w.heap.size + 1, 0, none⟩ = some (.int .i64 i) := fun u => u.cell ci4
  have u3 : ∀ u : Ext W4, u.w.cell? ⟨w.heap.size + 1 + 1, 0, none⟩ = some (.int .i64 start) := fun u => u.cell cs4
  have u4 : ∀ u : Ext W4, u.w.cell? ⟨q.L, 1, none⟩ = some (.int .i64 s.c) := fun u => u.cell d1
  have u5 : ∀ u : Ext W4, u.w.cell? ⟨q.L, 8, none⟩ = some (.int .i64 s.e) := fun u => u.cell d8
  have u6 : ∀ u : Ext W4, u.w.cell? ⟨q.L, 20, none⟩ = some (.slice (some ⟨q.A, 0, none⟩) (l.length + 1) (l.length + 1)) := fun u => u.cell d20
  have u7 : ∀ u : Ext W4, u.w.cell? ⟨q.L, 21, none⟩ = some (.slice (some ⟨q.E, 0, none⟩) (l.length + 1) (l.length + 1)) := fun u => u.cell d21
  have u8 : ∀ u : Ext W4, u.w.cell? ⟨q.L, 22, none⟩ = some (.slice (some ⟨q.C, 0, none⟩) (l.length + 1) (l.length + 1)) := fun u => u.cell d22
  have u9 : ∀ u : Ext W4, u.w.cell? ⟨q.L, 23, none⟩ = some (.pointer (some ⟨q.FF, 0, none⟩)) := fun u => u.cell d23
  have u10 : ∀ u : Ext W4, u.w.cell? ⟨q.L, 24, none⟩ = some (.pointer (some ⟨q.GF, 0, none⟩)) := fun u => u.cell d24
  have u11 : ∀ u : Ext W4, u.w.cell? ⟨q.A, i, none⟩ = some (.int .i64 (psum l i)) := fun u => u.cell da
  clear d0 d1 d8 d19 d20 d21 d22 d23 d24 da
  have hsearch : ∀ u : Ext W4, Calls Try.prog 64 #[.int .i64 ((most : Int) + 1 - i), .func (.func 63) #[] #[.pointer (some ⟨w.heap.size + 1 + 1, 0, none⟩), .pointer (some ⟨w.heap.size, 0, none⟩), .pointer (some ⟨w.heap.size + 1, 0, none⟩)]] u.w
      fun e w' => e = .returned (.int .i64 ((wide : Int) - i)) ∧ Below u.w.heap.size u.w w' := fun u => by
    have := Ls.search #[.pointer (some ⟨w.heap.size + 1 + 1, 0, none⟩), .pointer (some ⟨w.heap.size, 0, none⟩), .pointer (some ⟨w.heap.size + 1, 0, none⟩)] (most + 1 - i) (wide - i) u.w (by omega) (by omega) (fun x k hx hk => by
      obtain ⟨u', hu'⟩ := u.on hx
      subst hu'
      refine (Ls.tooWide q l s first en cost z fv fb sv sb i k start _ _ _ u'.w (HL4.out.below u'.below) hl (by omega) HV.out hst0.1 hst0.2 (u3 u') (u1 u') (u2 u')).mono ?_
      rintro e w' ⟨rfl, nq, rfl⟩
      refine ⟨ret_bool ?_, Ytblooekephkojaa.below_drewN _ _ _⟩
      have := HW.out k hk
      by_cases hx : s.c < start + psum l (i + k) - psum l i
      · rw [decide_eq_true hx, decide_eq_true (this.1 hx)]
      · rw [decide_eq_false hx, decide_eq_false (fun h => hx (this.2 h))])
    rw [show ((most + 1 - i : Nat) : Int) = (most : Int) + 1 - i from by omega, show ((wide - i : Nat) : Int) = (wide : Int) - i from by omega] at this
    exact this
  obtain ⟨a1, a2, hA⟩ : ∃ a1 a2, ofR z fv fb i wide = (a1, a2) := ⟨_, _, rfl⟩
  obtain ⟨b1, b2, hBq⟩ : ∃ b1 b2, ofR z sv sb wide (most + 1) = (b1, b2) := ⟨_, _, rfl⟩
  have a2b := ofR_bd (size := z) (best := fb) (x := i) (y := wide) HFV.out
  have b2b := ofR_bd (size := z) (best := sb) (x := wide) (y := most + 1) HSV.out
  rw [hA] at a2b
  rw [hBq] at b2b
  obtain ⟨a2b, a2c⟩ := a2b
  obtain ⟨b2b, b2c⟩ := b2b
  dsimp only at a2b a2c b2b b2c
  have hof1 : ∀ u : Ext W4, Calls Try.prog 65 #[.pointer (some ⟨q.FF, 0, none⟩), .int .i64 i, .int .i64 wide] u.w fun e w' => e = .returned (.tuple #[.int .i64 a1, .int .i64 a2]) ∧ Below u.w.heap.size u.w w' := fun u => by
    have := Ls.of q.FF q.FV q.FT z fv fb i wide u.w (HL4.out.below u.below).flat hz2 (by omega) (by omega) (by rw [t1.lv]; omega) (by rw [t1.lv]; omega) t1.lb (by rw [t1.lv]; exact t1.lt)
    rw [hA] at this; exact this
  have hof2 : ∀ u : Ext W4, Calls Try.prog 65 #[.pointer (some ⟨q.GF, 0, none⟩), .int .i64 wide, .int .i64 ((most : Int) + 1)] u.w fun e w' => e = .returned (.tuple #[.int .i64 b1, .int .i64 b2]) ∧ Below u.w.heap.size u.w w' := fun u => by
    have := Ls.of q.GF q.GV q.GT z sv sb wide (most + 1) u.w (HL4.out.below u.below).steep hz2 (by omega) (by omega) (by rw [t2.lv]; omega) (by rw [t2.lv]; omega) t2.lb (by rw [t2.lv]; exact t2.lt)
    rw [hBq] at this; exact this
  have hr2 : r = if 0 ≤ b1 then (if a1 < 0 ∨ b2 + s.e * (start - psum l i - s.c) ≤ a2 then (b1, b2 + s.e * (start - psum l i - s.c)) else (a1, a2)) else (a1, a2) := by
    rw [HR0.out]; unfold begR; rw [hA, hBq]
  have HR := Lib.hid hr2
  have HS := Lib.hid hsearch
  have H1 := Lib.hid hof1
  have H2 := Lib.hid hof2
  have hmul : -10000000000000000 ≤ s.e * (start - psum l i - s.c) ∧ s.e * (start - psum l i - s.c) ≤ 10000000000000000 := by
    have := HPS.out
    exact mul_bd s3 s4 (by omega) (by omega)
  obtain ⟨m1, m2⟩ := hmul
  have hww : (i : Int) + ((wide : Int) - i) = wide := by omega
  have iw : (wide : Int) ≤ 65537 := by omega
  have iw0 : (0 : Int) ≤ (wide : Int) := by omega
  have hi0 : i < l.length + 1 := by omega
  obtain ⟨hps1, hps2⟩ := HPS.out
  clear hr2 hsearch hof1 hof2 cl4 ci4 cs4 ca hstart
  refine wp_region_quiet (C := fun w' => ∃ u : Ext W4, w' = u.w) (by kernel_rfl) (by kernel_rfl) (Ext.drew W4) ?_
  dsimp only []
  repeat (go_big_quiet_step ((go_at_call 64; rename_i u; refine (HS.out u).mono ?_; rintro e w2 ⟨rfl, b2⟩; exact ⟨rfl, u.on b2⟩)))
  refine wpQuiet_nil ?_
  rintro w' ⟨v1, rfl⟩
  go_wp2_with fail
  refine wp_region_quiet (C := fun w' => ∃ u : Ext W4, w' = u.w) (by kernel_rfl) (by kernel_rfl) (v1.on ((Below.refl _ _).drew)) ?_
  dsimp only []
  repeat (go_big_quiet_step ((go_at_call 65; rename_i u; refine (H1.out u).mono ?_; rintro e w2 ⟨rfl, b2⟩; exact ⟨rfl, u.on b2⟩)))
  refine wpQuiet_nil ?_
  rintro w' ⟨v2, rfl⟩
  have v2a := u1 v2
  have v2b := u10 v2
  go_wp2_with fail
  refine (H2.out v2).mono ?_
  rintro e w3 ⟨rfl, b3⟩
  obtain ⟨v3, rfl⟩ := v2.on b3
  clear v2a v2b
  by_cases hb1 : 0 ≤ b1
  · go_wp2_with fail
    refine wp_region_quiet (C := fun w' => ∃ u : Ext W4, w' = u.w) (by kernel_rfl) (by kernel_rfl) (v3.on ((Below.refl _ _).drew)) ?_
    dsimp only []
    repeat (go_big_quiet_step (fail))
    refine wpQuiet_nil ?_
    rintro w' ⟨v4, rfl⟩
    generalize hmo : s.e * (start - psum l i - s.c) = mo at *
    by_cases ha1 : a1 < 0
    · go_wp2_with fail
      have hLz := HL4.out.below v4.below
      have ce := hLz.en.cell i (by rw [hel]; omega)
      have cc := hLz.cost.cell i (by rw [hcl]; omega)
      have fe : v4.w.frozen? ⟨q.E, i, none⟩ = false := Lib.frozen_of_heap hLz.en _
      have fc : v4.w.frozen? ⟨q.C, i, none⟩ = false := Lib.frozen_of_heap hLz.cost _
      have HLz := Lib.hid hLz
      have hEC : q.E ≠ q.C := (Ln.ne HND.out).2.2.1.1
      have hEL : q.L ≠ q.E := (Ln.ne HND.out).1.2.1
      obtain ⟨W, hW⟩ : ∃ W : Bool → World, W = fun b => if b = true then (World.drew v4.w).setCell ⟨q.E, i, none⟩ (.int .i64 b1) else World.drew v4.w := ⟨_, rfl⟩
      have hWf : W false = World.drew v4.w := by rw [hW]; rfl
      have hWt : W true = (World.drew v4.w).setCell ⟨q.E, i, none⟩ (.int .i64 b1) := by rw [hW]; rfl
      have x1 := two_cell hWf hWt (by dsimp only; omega) (u1 v4)
      have x2 := two_cell hWf hWt (by dsimp only; omega) (u2 v4)
      have x3 := two_cell hWf hWt hEL (u7 v4)
      have x4 := two_cell hWf hWt hEL (u8 v4)
      have HWf := Lib.hid hWf
      have HWt := Lib.hid hWt
      clear hW hLz hWf hWt
      refine wp_region_store 13 15 W HWf.out (by kernel_rfl) (by kernel_rfl) ?_
      simp only [List.take_succ_cons, List.take_zero, List.drop_succ_cons, List.drop_zero]
      repeat (go_big_quiet_step (fail))
      refine wpQuiet_nil ⟨fun o ho => ?_, ?_⟩
      · obtain rfl := Option.some.inj ho
        rw [HWf.out, HWt.out]
        go_simp
      repeat (go_big_quiet_step (fail))
      refine wpQuiet_nil ?_
      rw [HWt.out]
      go_wp2_with fail
      go_end0
      exact beg_done HND.out (HLz.out.below ((Below.refl _ _).drew)) (HB4.out.trans (v4.below.mono HB4.out.size)).drew hel hcl hi0 (by rw [HR.out]; rw [if_pos hb1, if_pos (.inl ha1)])
    · by_cases hle : b2 + mo ≤ a2
      · go_wp2_with fail
        have hLz := HL4.out.below v4.below
        have ce := hLz.en.cell i (by rw [hel]; omega)
        have cc := hLz.cost.cell i (by rw [hcl]; omega)
        have fe : v4.w.frozen? ⟨q.E, i, none⟩ = false := Lib.frozen_of_heap hLz.en _
        have fc : v4.w.frozen? ⟨q.C, i, none⟩ = false := Lib.frozen_of_heap hLz.cost _
        have HLz := Lib.hid hLz
        have hEC : q.E ≠ q.C := (Ln.ne HND.out).2.2.1.1
        have hEL : q.L ≠ q.E := (Ln.ne HND.out).1.2.1
        obtain ⟨W, hW⟩ : ∃ W : Bool → World, W = fun b => if b = true then (World.drew v4.w).setCell ⟨q.E, i, none⟩ (.int .i64 b1) else World.drew v4.w := ⟨_, rfl⟩
        have hWf : W false = World.drew v4.w := by rw [hW]; rfl
        have hWt : W true = (World.drew v4.w).setCell ⟨q.E, i, none⟩ (.int .i64 b1) := by rw [hW]; rfl
        have x1 := two_cell hWf hWt (by dsimp only; omega) (u1 v4)
        have x2 := two_cell hWf hWt (by dsimp only; omega) (u2 v4)
        have x3 := two_cell hWf hWt hEL (u7 v4)
        have x4 := two_cell hWf hWt hEL (u8 v4)
        have HWf := Lib.hid hWf
        have HWt := Lib.hid hWt
        clear hW hLz hWf hWt
        refine wp_region_store 13 15 W HWf.out (by kernel_rfl) (by kernel_rfl) ?_
        simp only [List.take_succ_cons, List.take_zero, List.drop_succ_cons, List.drop_zero]
        repeat (go_big_quiet_step (fail))
        refine wpQuiet_nil ⟨fun o ho => ?_, ?_⟩
        · obtain rfl := Option.some.inj ho
          rw [HWf.out, HWt.out]
          go_simp
        repeat (go_big_quiet_step (fail))
        refine wpQuiet_nil ?_
        rw [HWt.out]
        go_wp2_with fail
        go_end0
        exact beg_done HND.out (HLz.out.below ((Below.refl _ _).drew)) (HB4.out.trans (v4.below.mono HB4.out.size)).drew hel hcl hi0 (by rw [HR.out]; rw [if_pos hb1, if_pos (.inr hle)])
      · go_wp2_with fail
        have hLz := HL4.out.below v4.below
        have ce := hLz.en.cell i (by rw [hel]; omega)
        have cc := hLz.cost.cell i (by rw [hcl]; omega)
        have fe : v4.w.frozen? ⟨q.E, i, none⟩ = false := Lib.frozen_of_heap hLz.en _
        have fc : v4.w.frozen? ⟨q.C, i, none⟩ = false := Lib.frozen_of_heap hLz.cost _
        have HLz := Lib.hid hLz
        have hEC : q.E ≠ q.C := (Ln.ne HND.out).2.2.1.1
        have hEL : q.L ≠ q.E := (Ln.ne HND.out).1.2.1
        obtain ⟨W, hW⟩ : ∃ W : Bool → World, W = fun b => if b = true then (World.drew v4.w).setCell ⟨q.E, i, none⟩ (.int .i64 a1) else World.drew v4.w := ⟨_, rfl⟩
        have hWf : W false = World.drew v4.w := by rw [hW]; rfl
        have hWt : W true = (World.drew v4.w).setCell ⟨q.E, i, none⟩ (.int .i64 a1) := by rw [hW]; rfl
        have x1 := two_cell hWf hWt (by dsimp only; omega) (u1 v4)
        have x2 := two_cell hWf hWt (by dsimp only; omega) (u2 v4)
        have x3 := two_cell hWf hWt hEL (u7 v4)
        have x4 := two_cell hWf hWt hEL (u8 v4)
        have HWf := Lib.hid hWf
        have HWt := Lib.hid hWt
        clear hW hLz hWf hWt
        refine wp_region_store 13 15 W HWf.out (by kernel_rfl) (by kernel_rfl) ?_
        simp only [List.take_succ_cons, List.take_zero, List.drop_succ_cons, List.drop_zero]
        repeat (go_big_quiet_step (fail))
        refine wpQuiet_nil ⟨fun o ho => ?_, ?_⟩
        · obtain rfl := Option.some.inj ho
          rw [HWf.out, HWt.out]
          go_simp
        repeat (go_big_quiet_step (fail))
        refine wpQuiet_nil ?_
        rw [HWt.out]
        go_wp2_with fail
        go_end0
        exact beg_done HND.out (HLz.out.below ((Below.refl _ _).drew)) (HB4.out.trans (v4.below.mono HB4.out.size)).drew hel hcl hi0 (by rw [HR.out]; rw [if_pos hb1, if_neg (by omega)])
  · go_wp2_with fail
    have hLz := HL4.out.below v3.below
    have ce := hLz.en.cell i (by rw [hel]; omega)
    have cc := hLz.cost.cell i (by rw [hcl]; omega)
    have fe : v3.w.frozen? ⟨q.E, i, none⟩ = false := Lib.frozen_of_heap hLz.en _
    have fc : v3.w.frozen? ⟨q.C, i, none⟩ = false := Lib.frozen_of_heap hLz.cost _
    have HLz := Lib.hid hLz
    have hEC : q.E ≠ q.C := (Ln.ne HND.out).2.2.1.1
    have hEL : q.L ≠ q.E := (Ln.ne HND.out).1.2.1
    obtain ⟨W, hW⟩ : ∃ W : Bool → World, W = fun b => if b = true then (World.drew v3.w).setCell ⟨q.E, i, none⟩ (.int .i64 a1) else World.drew v3.w := ⟨_, rfl⟩
    have hWf : W false = World.drew v3.w := by rw [hW]; rfl
    have hWt : W true = (World.drew v3.w).setCell ⟨q.E, i, none⟩ (.int .i64 a1) := by rw [hW]; rfl
    have x1 := two_cell hWf hWt (by dsimp only; omega) (u1 v3)
    have x2 := two_cell hWf hWt (by dsimp only; omega) (u2 v3)
    have x3 := two_cell hWf hWt hEL (u7 v3)
    have x4 := two_cell hWf hWt hEL (u8 v3)
    have HWf := Lib.hid hWf
    have HWt := Lib.hid hWt
    clear hW hLz hWf hWt
    refine wp_region_store 13 15 W HWf.out (by kernel_rfl) (by kernel_rfl) ?_
    simp only [List.take_succ_cons, List.take_zero, List.drop_succ_cons, List.drop_zero]
    repeat (go_big_quiet_step (fail))
    refine wpQuiet_nil ⟨fun o ho => ?_, ?_⟩
    · obtain rfl := Option.some.inj ho
      rw [HWf.out, HWt.out]
      go_simp
    repeat (go_big_quiet_step (fail))
    refine wpQuiet_nil ?_
    rw [HWt.out]
    go_wp2_with fail
    go_end0
    exact beg_done HND.out (HLz.out.below ((Below.refl _ _).drew)) (HB4.out.trans (v3.below.mono HB4.out.size)).drew hel hcl hi0 (by rw [HR.out]; rw [if_neg (by omega)])
end Go.Proofs.Ytblooekephkojaa

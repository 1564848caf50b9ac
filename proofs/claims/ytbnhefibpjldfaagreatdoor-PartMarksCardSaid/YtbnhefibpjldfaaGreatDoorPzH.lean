/- part: Marks. -/
import Derived.Test.YtbnhefibpjldfaaGreatDoorPzD
import Derived.Test.YtbnhefibpjldfaaGreatDoorPxH
import Derived.Test.YtbnhefibpjldfaaGreatDoorPyK
import Derived.Test.YtbnhefibpjldfaaGreatDoorPyM
import Derived.Test.YtbnhefibpjldfaaGreatDoorPyN
namespace Go.Proofs.YtbnhefibpjldfaaGreatDoor
open Go.RowKit Go.BigFrame Go.Shelf
set_option linter.unusedVariables false

theorem scan_call (s : ByteArray) (w : World) (hs : s.size ≤ 100000000) (hm : Mx w) (E : Nat) (L : List Tk) (h : scanP (dl s) = (E, L)) : Calls Tryz.prog 9 #[.string s] w fun e w' => Below w.heap.size w w' ∧ ∃ v, SlV 5 tkC w' v L ∧ e = .returned (.tuple #[v, .int .i64 E]) := by
  refine (Sc.scan s w (by omega) hm).mono ?_
  rintro e w' ⟨h1, h2⟩
  rw [h] at h2
  refine ⟨h1, ?_⟩
  by_cases h0 : E = 0
  · subst h0
    obtain ⟨v, he, ho⟩ := (if_pos rfl).mp h2
    exact ⟨v, SlV.of tkC_len ho rfl, he⟩
  · have h3 := (if_neg h0).mp h2
    have hL : L = [] := by
      have : (scanP (dl s)).1 ≠ 0 → (scanP (dl s)).2 = [] := by
        unfold scanP
        intro hne
        split
        · rfl
        split
        · rfl
        · rename_i a b; rw [if_neg a, if_neg b] at hne; exact absurd rfl hne
      rw [h] at this
      exact this h0
    subst hL
    exact ⟨_, SlV.none _ _ _, h3⟩
theorem protR_marks {s : Bs} {L : List Tk} (h : scanP s = (0, L)) : protR (prot s L false 0 []) = marksP s := by
  unfold marksP
  rw [h, if_neg (by simp)]
  unfold protR
  rfl
set_option maxRecDepth 100000 in
set_option maxHeartbeats 4000000 in
theorem Pr.marks (s : ByteArray) (w : World) (hs : s.size ≤ 900) (hm : Mx w) : Calls Tryz.prog 4 #[.string s] w (MksPost (marksP (dl s)) w) := by
  obtain ⟨E, L, hEL⟩ : ∃ E L, scanP (dl s) = (E, L) := ⟨_, _, rfl⟩
  obtain ⟨R, hR⟩ : ∃ R, marksP (dl s) = R := ⟨_, rfl⟩
  have SC := Lib.hid (fun W : World => fun hW : Mx W => scan_call s W (by omega) hW E L hEL)
  have hLl := scan_len (dl s)
  have hor := scan_ord (dl s)
  have hct := scan_com (dl s)
  have htx := scan_text (dl s)
  rw [hEL, ← size_dl] at hLl hor htx
  rw [hEL] at hct
  simp only at hLl hor hct htx
  rw [hR]
  have HMX := Lib.hid hm
  by_cases hE0 : E = 0
  · subst hE0
    have hp := protR_marks hEL
    rw [hR] at hp
    have PR := Lib.hid (fun (a : Option Addr) (c : Nat) (W : World) (hv : SlV 5 tkC W (.slice a L.length c) L) => hp ▸ Pr.protects s a c L W hv hs hLl hor (fun x hx h8 => ⟨(hct x hx).1 h8, htx x hx⟩))
    clear hEL hR hm hLl hor hct htx hp
    go_enter Tryz.func4, Tryz.ntmps4
    go_wp2_with fail
    refine (SC.out _ HMX.out).mono ?_
    rintro e w1 ⟨hb1, v1, hv1, rfl⟩
    have HV1 := Lib.hid hv1
    obtain ⟨a1, c1, rfl, _⟩ := hv1
    have HB1 := Lib.hid hb1
    clear hb1
    go_wp2_with fail
    refine (PR.out _ _ _ HV1.out).mono ?_
    rintro e w2 ⟨hb2, v2, hv2, rfl⟩
    have HV2 := Lib.hid hv2
    obtain ⟨a2, c2, rfl, _⟩ := hv2
    have HB2 := Lib.hid hb2
    obtain ⟨R1, R2⟩ := R
    clear hb2
    go_wp2_with fail
    go_ret2
    exact ⟨HB1.out.trans (HB2.out.mono HB1.out.size), _, HV2.out, rfl⟩
  · have he1 : ((E : Int) != 0) = true := by rw [bne_iff_ne]; omega
    have hr : R = (E, []) := by rw [← hR]; unfold marksP; rw [hEL, if_pos hE0]
    subst hr
    clear hEL hR hm hLl hor hct htx hE0
    go_enter Tryz.func4, Tryz.ntmps4
    go_wp2_with fail
    refine (SC.out _ HMX.out).mono ?_
    rintro e w1 ⟨hb1, v1, hv1, rfl⟩
    have HB1 := Lib.hid hb1
    clear hb1 hv1
    go_wp2_with fail
    go_ret2
    exact ⟨HB1.out, _, SlV.none _ _ _, rfl⟩
end Go.Proofs.YtbnhefibpjldfaaGreatDoor

/- PzF -/
namespace Go.Proofs.YtbnhefibpjldfaaGreatDoor
open Go.RowKit Go.BigFrame Go.Shelf
set_option linter.unusedVariables false

theorem cap_le {w : World} {base e n m k : Nat} {a : Option Addr} {c : Nat} {xs : List Value} (h : w.ownsRow base e n (.slice a m c) k xs) : c ≤ maxLen := by
  rcases h.2 with ⟨hv, _⟩ | ⟨g, cap, cur, hv, _, _, _, hc, _⟩
  · simp only [Value.slice.injEq] at hv
    rw [hv.2.2]; unfold maxLen; omega
  · simp only [Value.slice.injEq] at hv
    rw [hv.2.2]; exact hc
theorem scanC_call (s : ByteArray) (w : World) (hs : s.size ≤ 100000000) (hm : Mx w) (E : Nat) (L : List Tk) (h : scanP (dl s) = (E, L)) : Calls Tryz.prog 9 #[.string s] w fun e w' => Below w.heap.size w w' ∧ ∃ a c, SlV 5 tkC w' (.slice a L.length c) L ∧ c ≤ maxLen ∧ e = .returned (.tuple #[.slice a L.length c, .int .i64 E]) := by
  refine (Sc.scan s w (by omega) hm).mono ?_
  rintro e w' ⟨h1, h2⟩
  rw [h] at h2
  refine ⟨h1, ?_⟩
  by_cases h0 : E = 0
  · subst h0
    obtain ⟨v, he, ho⟩ := (if_pos rfl).mp h2
    obtain ⟨a, c, rfl⟩ := row_shape ho
    exact ⟨a, c, SlV.of tkC_len ho rfl, cap_le ho, he⟩
  · have h3 := (if_neg h0).mp h2
    have hL : L = [] := by
      have : (scanP (dl s)).1 ≠ 0 → (scanP (dl s)).2 = [] := by
        unfold scanP
        intro hne
        split
        · rfl
        split
        · rfl
        · rename_i a b; rw [if_neg a, if_neg b] at hne; exact absurd rfl hne
      rw [h] at this
      exact this h0
    subst hL
    exact ⟨_, _, SlV.none _ _ _, Nat.zero_le _, h3⟩
theorem all2_map {α β : Type} (f : β → β → Bool) (g : α → β) : ∀ (l m : List α), all2 f (l.map g) (m.map g) = all2 (fun x y => f (g x) (g y)) l m
  | [], [] => rfl
  | [], _ :: _ => rfl
  | _ :: _, [] => rfl
  | a :: x, b :: y => by simp only [List.map_cons, all2]; rw [all2_map f g x y]
theorem comms_cms (l : List Tk) : comms l = (cmsT l).map (·.text) := rfl
theorem prows_call (a : Option Addr) (c : Nat) (l : List Tk) (w : World) (R : List Rw) (hv : SlV 5 tkC w (.slice a l.length c) l) (hc : c ≤ maxLen) (hl : l.length ≤ 1000000000) (hR : rowsP l = R) : Calls Tryz.prog 17 #[.slice a l.length c] w fun e w' => ∃ v, e = .returned v ∧ RowsV w' v R ∧ Below w.heap.size w w' := by
  subst hR
  exact Ls.rows a c l w hv hc hl
/-- What sameWords says of two comments. -/
def SWok : Prop := ∀ (x y : Tk) (W : World), Mx W → isCom x.text → isCom y.text → x.text.length ≤ 900 → y.text.length ≤ 900 → Calls Tryz.prog 21 #[tkV x, tkV y] W fun e w' => e = .returned (.bool (sameW x.text y.text)) ∧ Below W.heap.size W w'
set_option maxRecDepth 100000 in
set_option maxHeartbeats 8000000 in
theorem Pr.means (SW : SWok) (s t : ByteArray) (w : World) (hs : s.size ≤ 900) (ht : t.size ≤ 900) (hm : Mx w) : Calls Tryz.prog 7 #[.string s, .string t] w fun e w' => e = .returned (.bool (meansP (dl s) (dl t))) ∧ Below w.heap.size w w' := by
  obtain ⟨E, L, hEL⟩ : ∃ E L, scanP (dl s) = (E, L) := ⟨_, _, rfl⟩
  obtain ⟨F, M, hFM⟩ : ∃ F M, scanP (dl t) = (F, M) := ⟨_, _, rfl⟩
  have hLl := scan_len (dl s)
  have hMl := scan_len (dl t)
  have hct := com_text (dl s)
  have hdt := com_text (dl t)
  rw [hEL, ← size_dl] at hLl hct
  rw [hFM, ← size_dl] at hMl hdt
  simp only at hLl hMl hct hdt
  have hcx : ∀ x ∈ cmsT L, isCom x.text ∧ x.text.length ≤ 900 := fun x hx => by
    have := hct x.text (by rw [comms_cms]; exact List.mem_map.2 ⟨x, hx, rfl⟩)
    exact ⟨this.1, by omega⟩
  have hdx : ∀ x ∈ cmsT M, isCom x.text ∧ x.text.length ≤ 900 := fun x hx => by
    have := hdt x.text (by rw [comms_cms]; exact List.mem_map.2 ⟨x, hx, rfl⟩)
    exact ⟨this.1, by omega⟩
  have hmp : meansP (dl s) (dl t) = (decide (E = 0) && decide (F = 0) && (alikeP false (rowsP L) (rowsP M) && all2 (fun x y => sameW x.text y.text) (cmsT L) (cmsT M))) := by unfold meansP; rw [hEL, hFM, comms_cms, comms_cms, all2_map]
  obtain ⟨V, hV⟩ : ∃ V, meansP (dl s) (dl t) = V := ⟨_, rfl⟩
  rw [hV]
  rw [hV] at hmp
  have S1 := Lib.hid (fun (W : World) (hW : Mx W) => scanC_call s W (by omega) hW E L hEL)
  have S2 := Lib.hid (fun (W : World) (hW : Mx W) => scanC_call t W (by omega) hW F M hFM)
  have HMP := Lib.hid hmp
  have HMX := Lib.hid hm
  obtain ⟨x1, x2⟩ := rows_bound L
  obtain ⟨y1, y2⟩ := rows_bound M
  obtain ⟨A, hA⟩ : ∃ A, rowsP L = A := ⟨_, rfl⟩
  obtain ⟨B, hB⟩ : ∃ B, rowsP M = B := ⟨_, rfl⟩
  have hCl : (cmsT L).length ≤ L.length := List.length_filter_le _ _
  have hDl : (cmsT M).length ≤ M.length := List.length_filter_le _ _
  rw [hA] at x1 x2
  rw [hB] at y1 y2
  have HA := Lib.hid hA
  have HB := Lib.hid hB
  have HX2 := Lib.hid x2
  have HY2 := Lib.hid y2
  have HCX := Lib.hid hcx
  have HDX := Lib.hid hdx
  have hLl2 : L.length ≤ 100000000 := by omega
  have hMl2 : M.length ≤ 100000000 := by omega
  have hAl2 : A.length ≤ 100000000 := by omega
  have hBl2 : B.length ≤ 100000000 := by omega
  have hCl2 : (cmsT L).length ≤ 100000000 := by omega
  have hDl2 : (cmsT M).length ≤ 100000000 := by omega
  have HCL := Lib.hid hCl2
  have HDL := Lib.hid hDl2
  have HSW := Lib.hid SW
  have hws := hm.pos
  clear hEL hFM hV hmp hct hdt x1 x2 y1 y2 hA hB hcx hdx hLl hMl hCl hDl hm hCl2 hDl2 SW
  by_cases hE0 : E = 0
  · subst hE0
    by_cases hF0 : F = 0
    · subst hF0
      go_enter Tryz.func7, Tryz.ntmps7
      go_wp2_with fail
      refine (S1.out _ HMX.out).mono ?_
      rintro e w1 ⟨hb1, a1, c1, hv1, hc1, rfl⟩
      have HV1 := Lib.hid hv1
      have HB1 := Lib.hid hb1
      have HC1 := Lib.hid hc1
      clear hb1 hv1 hc1
      go_wp2_with fail
      refine (S2.out _ (HMX.out.of HB1.out hws)).mono ?_
      rintro e w2 ⟨hb2, a2, c2, hv2, hc2, rfl⟩
      have HV2 := Lib.hid hv2
      have HC2 := Lib.hid hc2
      have HV1' := Lib.hid (HV1.out.below hb2)
      have HB2 := Lib.hid (HB1.out.trans (hb2.mono HB1.out.size))
      clear hb2 hv2 hc2
      go_wp2_with fail
      refine (prows_call a1 c1 L w2 A HV1'.out HC1.out (by omega) HA.out).mono ?_
      rintro e w3 ⟨v3, rfl, hr3, hb3⟩
      have HR3 := Lib.hid hr3
      obtain ⟨_, _, ⟨a3, c3, rfl, _⟩, _⟩ := hr3
      have HV1q := Lib.hid (HV1'.out.below hb3)
      have HV2q := Lib.hid (HV2.out.below hb3)
      have HB3 := Lib.hid (HB2.out.trans (hb3.mono HB2.out.size))
      clear hb3
      go_wp2_with fail
      refine (prows_call a2 c2 M w3 B HV2q.out HC2.out (by omega) HB.out).mono ?_
      rintro e w4 ⟨v4, rfl, hr4, hb4⟩
      have HAL := Lib.hid (Ls.alike _ _ A B false w4 (HR3.out.below hb4) hr4 (by omega) (by omega) (fun x hx => by have := HX2.out x hx; omega) (fun x hx => by have := HY2.out x hx; omega))
      obtain ⟨_, _, ⟨a4, c4, rfl, _⟩, _⟩ := hr4
      have HV1r := Lib.hid (HV1q.out.below hb4)
      have HV2r := Lib.hid (HV2q.out.below hb4)
      have HB4 := Lib.hid (HB3.out.trans (hb4.mono HB3.out.size))
      clear hb4
      obtain ⟨al, hal⟩ : ∃ al, alikeP false A B = al := ⟨_, rfl⟩
      have hmp := HMP.out
      rw [HA.out, HB.out, hal] at hmp
      have HMP2 := Lib.hid hmp
      have hal2 := HAL.out
      rw [hal] at hal2
      have HAL2 := Lib.hid hal2
      clear hmp hal hal2 HAL
      go_wp2_with fail
      refine HAL2.out.mono ?_
      rintro e w5 ⟨rfl, hb5⟩
      have HV1s := Lib.hid (HV1r.out.below hb5)
      have HV2s := Lib.hid (HV2r.out.below hb5)
      have HB5 := Lib.hid (HB4.out.trans (hb5.mono HB4.out.size))
      clear hb5 HAL2
      cases al with
      | false =>
        have hv0 : V = false := HMP2.out
        subst hv0
        go_wp2_with fail
        go_ret
        exact ⟨rfl, HB5.out⟩
      | true =>
        have hv1 : V = all2 (fun x y => sameW x.text y.text) (cmsT L) (cmsT M) := by have := HMP2.out; simpa using this
        have HVV := Lib.hid hv1
        clear hv1
        go_wp2_with fail
        refine (Cm.comments _ _ _ _).mono ?_
        rintro e w6 ⟨rfl, rfl⟩
        have hcc := Cm.coms a1 _ c1 L w5 HV1s.out hLl2 _ w5.heap.size (below_alloc w5 (.cells #[.slice a1 L.length c1] 30)) (heap_alloc_new _ _)
        have HCC := Lib.hid hcc
        clear hcc
        go_wp2_with fail
        refine HCC.out.mono ?_
        rintro e w7 ⟨v7, rfl, ho7, hb7⟩
        obtain ⟨a7, c7, rfl⟩ := row_shape ho7
        have hb57 : Below w5.heap.size w5 w7 := (below_alloc w5 _).trans (hb7.mono (by simp))
        have HR7 := Lib.hid (SlV.of tkC_len ho7 rfl)
        have HV2t := Lib.hid (HV2s.out.below hb57)
        have HB7 := Lib.hid (HB5.out.trans (hb57.mono HB5.out.size))
        clear ho7 hb7 hb57 HCC
        go_wp2_with fail
        refine (Cm.comments _ _ _ _).mono ?_
        rintro e w8 ⟨rfl, rfl⟩
        have hcc := Cm.coms a2 _ c2 M w7 HV2t.out hMl2 _ w7.heap.size (below_alloc w7 (.cells #[.slice a2 M.length c2] 30)) (heap_alloc_new _ _)
        have HCC := Lib.hid hcc
        clear hcc
        go_wp2_with fail
        refine HCC.out.mono ?_
        rintro e w9 ⟨v9, rfl, ho9, hb9⟩
        obtain ⟨a9, c9, rfl⟩ := row_shape ho9
        have hb79 : Below w7.heap.size w7 w9 := (below_alloc w7 _).trans (hb9.mono (by simp))
        have hr9 := SlV.of tkC_len ho9 rfl
        have hr7 := HR7.out.below hb79
        have hB9 := HB7.out.trans (hb79.mono HB7.out.size)
        have HB9 := Lib.hid hB9
        obtain ⟨a7', c7', he7, _, _, hrow7⟩ := hr7
        obtain ⟨a9', c9', he9, _, _, hrow9⟩ := hr9
        simp only [Value.slice.injEq, true_and] at he7 he9
        obtain ⟨rfl, rfl⟩ := he7
        obtain ⟨rfl, rfl⟩ := he9
        have heq := Sl.eqFunc (fun x y => sameW x.text y.text) a7 a9 c7 c9 (cmsT L) (cmsT M) w9 hrow7 hrow9 (by have := HCL.out; omega) (by have := HDL.out; omega) (fun W hW x hx y hy => HSW.out x y W ((HMX.out.of hB9 hws).of hW (by have := hB9.size; omega)) (HCX.out x hx).1 (HDX.out y hy).1 (HCX.out x hx).2 (HDX.out y hy).2)
        rw [← HVV.out] at heq
        have HEQ := Lib.hid heq
        clear heq hrow7 hrow9 hB9 hb79 hb9 ho9 HCC
        go_wp2_with fail
        refine HEQ.out.mono ?_
        rintro e w10 ⟨rfl, hb10⟩
        have HB10 := Lib.hid (HB9.out.trans (hb10.mono HB9.out.size))
        clear hb10 HEQ
        go_wp2_with fail
        go_ret
        exact ⟨rfl, HB10.out⟩
    · have hf1 : ((F : Int) != 0) = true := by rw [bne_iff_ne]; omega
      have hv0 : V = false := by rw [HMP.out, decide_eq_false hF0]; simp
      subst hv0
      clear hF0 HMP
      go_enter Tryz.func7, Tryz.ntmps7
      go_wp2_with fail
      refine (S1.out _ HMX.out).mono ?_
      rintro e w1 ⟨hb1, a1, c1, hv1, hc1, rfl⟩
      have HB1 := Lib.hid hb1
      clear hb1 hv1 hc1
      go_wp2_with fail
      refine (S2.out _ (HMX.out.of HB1.out hws)).mono ?_
      rintro e w2 ⟨hb2, a2, c2, hv2, hc2, rfl⟩
      have HB2 := Lib.hid (HB1.out.trans (hb2.mono HB1.out.size))
      clear hb2 hv2 hc2
      go_wp2_with fail
      go_ret
      exact ⟨rfl, HB2.out⟩
  · have he1 : ((E : Int) != 0) = true := by rw [bne_iff_ne]; omega
    have hv0 : V = false := by rw [HMP.out, decide_eq_false hE0]; rfl
    subst hv0
    clear hE0 HMP
    go_enter Tryz.func7, Tryz.ntmps7
    go_wp2_with fail
    refine (S1.out _ HMX.out).mono ?_
    rintro e w1 ⟨hb1, a1, c1, hv1, hc1, rfl⟩
    have HB1 := Lib.hid hb1
    clear hb1 hv1 hc1
    go_wp2_with fail
    go_ret
    exact ⟨rfl, HB1.out⟩
end Go.Proofs.YtbnhefibpjldfaaGreatDoor

/- PzG -/
namespace Go.Proofs.YtbnhefibpjldfaaGreatDoor
open Go.RowKit Go.BigFrame Go.Shelf
set_option linter.unusedVariables false

theorem rgs_short (mem : Nat → Bool) (n : Nat) (h : n ≤ 1000000) : (rgs mem none 0 n).length ≤ 1000000000 := by
  have := rgs_len mem n none 0
  omega
theorem marks_short (s : Bs) : (marksP s).2.length ≤ 1000000000 := by
  unfold marksP
  split
  · simp
  split
  · simp
  · exact rgs_short _ _ (by omega)
set_option maxRecDepth 100000 in
set_option maxHeartbeats 8000000 in
theorem Pm.law (SW : SWok) (s t : ByteArray) (w : World) (hm : Mx w) : Calls Tryz.prog 3 #[.string s, .string t] w fun e w' => e = .returned (.bool true) ∧ Below w.heap.size w w' := by
  by_cases hs : s.size ≤ 400
  · by_cases ht : t.size ≤ 400
    · have hs' : decide ((s.size : Int) > 400) = false := by rw [decide_eq_false_iff_not]; omega
      have ht' : decide ((t.size : Int) > 400) = false := by rw [decide_eq_false_iff_not]; omega
      have hs1 : ¬ (400 : Int) < s.size := by omega
      have ht1 : ¬ (400 : Int) < t.size := by omega
      obtain ⟨E, R, hER⟩ : ∃ E R, marksP (dl s) = (E, R) := ⟨_, _, rfl⟩
      have hRl := marks_short (dl s)
      rw [hER] at hRl
      simp only at hRl
      obtain ⟨V1, hV1⟩ : ∃ V, meansP (dl s) (dl t) = V := ⟨_, rfl⟩
      obtain ⟨V2, hV2⟩ : ∃ V, meansP (dl s) (dl s) = V := ⟨_, rfl⟩
      have M1 := Lib.hid (fun (W : World) (hW : Mx W) => hER ▸ Pr.marks s W (by omega) hW)
      have M2 := Lib.hid (fun (W : World) => hER ▸ Rf.marks s W (by omega))
      have N1 := Lib.hid (fun (W : World) (hW : Mx W) => hV1 ▸ Pr.means SW s t W (by omega) (by omega) hW)
      have N2 := Lib.hid (fun (W : World) => hV1 ▸ Rf.means s t W (by omega) (by omega))
      have N3 := Lib.hid (fun (W : World) (hW : Mx W) => hV2 ▸ Pr.means SW s s W (by omega) (by omega) hW)
      have N4 := Lib.hid (fun (W : World) => hV2 ▸ Rf.means s s W (by omega) (by omega))
      have HMX := Lib.hid hm
      have hws := hm.pos
      clear hER hV1 hV2 hm SW
      go_enter Tryz.func3, Tryz.ntmps3
      go_wp2_with fail
      refine (M1.out _ HMX.out).mono ?_
      rintro e w1 ⟨hb1, v1, hv1, rfl⟩
      obtain ⟨a1, c1, rfl, h11, h12, h13⟩ := hv1
      have HB1 := Lib.hid hb1
      have HR1 := Lib.hid h13
      clear hb1 h11 h12 h13
      go_wp2_with fail
      refine (M2.out _).mono ?_
      rintro e w2 ⟨hb2, v2, hv2, rfl⟩
      obtain ⟨a2, c2, rfl, h21, h22, h23⟩ := hv2
      have HB2 := Lib.hid (HB1.out.trans (hb2.mono HB1.out.size))
      have hsm := Rf.sameR a1 a2 c1 c2 R R w2 (HR1.out.below hb2 (Nat.le_refl _) hb2.size) h23 hRl hRl
      rw [decide_eq_true rfl] at hsm
      have HSM := Lib.hid hsm
      clear hb2 h21 h22 h23 hsm
      go_wp2_with fail
      refine HSM.out.mono ?_
      rintro e w3 ⟨rfl, hb3⟩
      have HB3 := Lib.hid (HB2.out.trans (hb3.mono HB2.out.size))
      clear hb3 HSM
      go_wp2_with fail
      refine (N1.out _ (HMX.out.of HB3.out hws)).mono ?_
      rintro e w4 ⟨rfl, hb4⟩
      have HB4 := Lib.hid (HB3.out.trans (hb4.mono HB3.out.size))
      clear hb4
      go_wp2_with fail
      refine (N2.out _).mono ?_
      rintro e w5 ⟨rfl, hb5⟩
      have HB5 := Lib.hid (HB4.out.trans (hb5.mono HB4.out.size))
      clear hb5
      go_wp2_with fail
      refine (N3.out _ (HMX.out.of HB5.out hws)).mono ?_
      rintro e w6 ⟨rfl, hb6⟩
      have HB6 := Lib.hid (HB5.out.trans (hb6.mono HB5.out.size))
      clear hb6
      go_wp2_with fail
      refine (N4.out _).mono ?_
      rintro e w7 ⟨rfl, hb7⟩
      have HB7 := Lib.hid (HB6.out.trans (hb7.mono HB6.out.size))
      clear hb7
      go_wp2_with fail
      go_ret
      exact ⟨rfl, HB7.out⟩
    · have hs1 : ¬ (400 : Int) < s.size := by omega
      have ht1 : (400 : Int) < t.size := by omega
      go_enter Tryz.func3, Tryz.ntmps3
      go_wp2_with fail
      go_ret
      exact ⟨rfl, Below.refl _ _⟩
  · have hs1 : (400 : Int) < s.size := by omega
    go_enter Tryz.func3, Tryz.ntmps3
    go_wp2_with fail
    go_ret
    exact ⟨rfl, Below.refl _ _⟩
end Go.Proofs.YtbnhefibpjldfaaGreatDoor

/- PzH -/
namespace Go.Proofs.YtbnhefibpjldfaaGreatDoor
open Go.RowKit Go.BigFrame Go.Shelf
set_option linter.unusedVariables false

theorem rowAt_map {α β : Type} {n : Nat} {f : α → List Value} {f' : β → List Value} (h : α → β) (hf : ∀ x, f x = f' (h x)) {w : World} {a : Option Addr} {l : List α} (hr : RowAt n f w a l) : RowAt n f' w a (l.map h) := by
  rcases hr with rfl | ⟨b, off, h1, h2, h3⟩
  · exact .inl rfl
  · refine .inr ⟨b, off, h1, h2, fun i hi => ?_⟩
    rw [List.getElem_map, ← hf]
    exact h3 i (by simpa using hi)
theorem strs_inj {x y : List Bs} : decide (x.map str = y.map str) = (x == y) := by
  rw [Bool.eq_iff_iff]
  simp only [decide_eq_true_eq, beq_iff_eq]
  constructor
  · intro h
    have := congrArg (List.map dl) h
    rw [List.map_map, List.map_map, show (dl ∘ str) = id from funext fun x => dl_str x] at this
    simpa using this
  · intro h; rw [h]
theorem peq49_call (a1 a2 : Option Addr) (n m c1 c2 : Nat) (x y : List Bs) (w : World) (h1 : SlV 1 sB w (.slice a1 n c1) x) (h2 : SlV 1 sB w (.slice a2 m c2) y) (l1 : x.length ≤ 1000000000) (l2 : y.length ≤ 1000000000) (b : Bool) (h : (x == y) = b) :
    Calls Tryz.prog 49 #[.slice a1 n c1, .slice a2 m c2] w fun e w' => e = .returned (.bool b) ∧ Below w.heap.size w w' := by
  obtain ⟨a1', c1', e1, _, _, r1⟩ := h1
  obtain ⟨a2', c2', e2, _, _, r2⟩ := h2
  simp only [Value.slice.injEq] at e1 e2
  obtain ⟨rfl, rfl, rfl⟩ := e1
  obtain ⟨rfl, rfl, rfl⟩ := e2
  have := Sl.equal49 a1 a2 c1 c2 (x.map str) (y.map str) w (rowAt_map str (fun _ => rfl) r1) (rowAt_map str (fun _ => rfl) r2) (by simpa using l1) (by simpa using l2)
  rw [strs_inj, h, List.length_map, List.length_map] at this
  exact this
theorem drop_beq {l m : List (List Bs)} {i : Nat} (h : i < l.length) (h2 : i < m.length) : (l.drop i == m.drop i) = ((l[i] == m[i]) && (l.drop (i + 1) == m.drop (i + 1))) := by
  rw [List.drop_eq_getElem_cons h, List.drop_eq_getElem_cons h2]; rfl
set_option maxRecDepth 100000 in
set_option maxHeartbeats 4000000 in
theorem Sl.eqFunc2 (v1 v2 : Value) (P Q : List (List Bs)) (w : World) (h1 : WdV w v1 P) (h2 : WdV w v2 Q) (l1 : P.length ≤ 1000000000) (l2 : Q.length ≤ 1000000000) (p1 : ∀ x ∈ P, x.length ≤ 1000000000) (p2 : ∀ x ∈ Q, x.length ≤ 1000000000) :
    Calls Tryz.prog 48 #[v1, v2, .func (.func 49) #[] #[]] w fun e w' => e = .returned (.bool (P == Q)) ∧ Below w.heap.size w w' := by
  obtain ⟨L, rfl, ⟨aa, ca, rfl, _, _, hra⟩, hta⟩ := h1
  obtain ⟨M, rfl, ⟨ab, cb, rfl, _, _, hrb⟩, htb⟩ := h2
  simp only [List.length_map] at l1 l2
  obtain ⟨V, hV⟩ : ∃ V, (L.map (·.1) == M.map (·.1)) = V := ⟨_, rfl⟩
  rw [hV]
  have HRA := Lib.hid hra
  have HRB := Lib.hid hrb
  have HTA := Lib.hid hta
  have HTB := Lib.hid htb
  have HP1 := Lib.hid p1
  have HP2 := Lib.hid p2
  clear hra hrb hta htb p1 p2
  by_cases hlen : L.length = M.length
  · have hne : ((L.length : Int) != M.length) = false := by rw [bne_eq_false_iff_eq]; omega
    have HLEN := Lib.hid hlen
    have HV := Lib.hid (show V = ((L.map (·.1)).drop 0 == (M.map (·.1)).drop 0) from hV.symm)
    clear hlen hV
    go_enter Tryz.func48, Tryz.ntmps48
    go_wp2_with fail
    go_loopw [17] (fun s17 wr => ∃ (i : Nat), i ≤ L.length ∧ s17 = .int .i64 i ∧ V = ((L.map (·.1)).drop i == (M.map (·.1)).drop i) ∧ Below w.heap.size w wr) (fun s17 _ => L.length - (intOf s17).toNat)
    case atStart => exact ⟨0, Nat.zero_le _, rfl, HV.out, Below.refl _ _⟩
    case round =>
      obtain ⟨i, hi, rfl, hv, hbel⟩ := hrel
      by_cases hlt : i < L.length
      · have hlt2 : i < M.length := by have := HLEN.out; omega
        have hlt' : (i : Int) < L.length := by omega
        have hlt2' : (i : Int) < M.length := by omega
        obtain ⟨gb, go, rfl, hgb, hgc⟩ := HRA.out.at (by intro e; simp [e] at hlt)
        obtain ⟨kb, ko, rfl, hkb, hkc⟩ := HRB.out.at (by intro e; simp [e] at hlt2)
        have k0 := (hgc i hlt).below hbel hgb 0 _ rfl
        have m0 := (hkc i hlt2).below hbel hkb 0 _ rfl
        have hxv := (HTA.out L[i] (List.getElem_mem hlt)).below hbel
        have hyv := (HTB.out M[i] (List.getElem_mem hlt2)).below hbel
        have hxl := HP1.out L[i].1 (List.mem_map.2 ⟨_, List.getElem_mem hlt, rfl⟩)
        have hyl := HP2.out M[i].1 (List.mem_map.2 ⟨_, List.getElem_mem hlt2, rfl⟩)
        rw [drop_beq (by simpa using hlt) (by simpa using hlt2), List.getElem_map, List.getElem_map] at hv
        simp only [Nat.add_zero, Nat.mul_one] at k0 m0
        generalize L[i] = x at *
        generalize M[i] = y at *
        obtain ⟨x, xv⟩ := x
        obtain ⟨y, yv⟩ := y
        simp only at hxv hyv hxl hyl hv k0 m0
        have HXV := Lib.hid hxv
        have HYV := Lib.hid hyv
        obtain ⟨xa, xc, rfl, _, _, _⟩ := hxv
        obtain ⟨ya, yc, rfl, _, _, _⟩ := hyv
        obtain ⟨b, hb⟩ : ∃ b, (x == y) = b := ⟨_, rfl⟩
        rw [hb] at hv
        have HC := Lib.hid (peq49_call xa ya x.length y.length xc yc x y wr HXV.out HYV.out hxl hyl b hb)
        have HBEL := Lib.hid hbel
        have HB := Lib.hid hv
        have hws := hbel.size
        clear hv hbel hgc hkc hb HXV HYV
        go_wp2_with fail
        refine HC.out.mono ?_
        rintro e w2 ⟨rfl, b2⟩
        have HB2 := Lib.hid (HBEL.out.trans (b2.mono hws))
        clear b2
        cases b
        · have hv0 : V = false := by rw [HB.out, Bool.false_and]
          subst hv0
          go_wp2_with fail
          go_ret
          exact ⟨rfl, HB2.out⟩
        · go_wp2_with fail
          go_roundw
          case rel => exact ⟨i + 1, by omega, by go_num, by rw [HB.out, Bool.true_and], HB2.out⟩
          case measure => simp [intOf]; omega
      · obtain rfl : i = L.length := by omega
        rw [List.drop_of_length_le (by simp), List.drop_of_length_le (by rw [List.length_map, HLEN.out]; exact Nat.le_refl _)] at hv
        have hv0 : V = true := hv
        subst hv0
        have HBEL := Lib.hid hbel
        clear hv hbel HV
        go_wp2_with fail
        go_ret
        exact ⟨rfl, HBEL.out⟩
  · have hne : ((L.length : Int) != M.length) = true := by rw [bne_iff_ne]; omega
    have hv0 : V = false := by rw [← hV, beq_eq_false_iff_ne]; exact fun e => hlen (by have := congrArg List.length e; simpa using this)
    subst hv0
    clear hlen hV
    go_enter Tryz.func48, Tryz.ntmps48
    go_wp2_with fail
    go_ret
    exact ⟨rfl, Below.refl _ _⟩
end Go.Proofs.YtbnhefibpjldfaaGreatDoor

/- the document: whether two comments have the same words. -/
import Derived.Test.YtbnhefibpjldfaaGreatDoorPyH
import Derived.Test.YtbnhefibpjldfaaGreatDoorPyG
import Derived.Test.YtbnhefibpjldfaaGreatDoorPxX
namespace Go.Proofs.YtbnhefibpjldfaaGreatDoor
open Go.RowKit Go.BigFrame Go.Shelf
set_option linter.unusedVariables false

theorem rsame_call (a1 a2 : Option Addr) (n1 n2 c1 c2 : Nat) (xs ys : List Bs) (w : World) (h1 : SlV 1 sB w (.slice a1 n1 c1) xs) (h2 : SlV 1 sB w (.slice a2 n2 c2) ys) (l1 : xs.length ≤ 1000000000) (l2 : ys.length ≤ 1000000000) (b : Bool) (h : (xs == ys) = b) :
    Calls Tryz.prog 56 #[.slice a1 n1 c1, .slice a2 n2 c2] w fun e w' => e = .returned (.bool b) ∧ Below w.heap.size w w' := by
  subst h
  obtain ⟨a, c, he, _, _, hr⟩ := h1
  obtain ⟨a', c', he', _, _, hr'⟩ := h2
  simp only [Value.slice.injEq] at he he'
  obtain ⟨rfl, rfl, rfl⟩ := he
  obtain ⟨rfl, rfl, rfl⟩ := he'
  exact Rf.sameTexts a1 a2 c1 c2 xs ys w hr hr' l1 l2
set_option maxRecDepth 100000 in
set_option maxHeartbeats 8000000 in
theorem Rf.same15 (v1 v2 : Value) (P Q : List (List Bs)) (w : World) (h1 : WdV w v1 P) (h2 : WdV w v2 Q) (l1 : P.length ≤ 1000000000) (l2 : Q.length ≤ 1000000000) (p1 : ∀ x ∈ P, x.length ≤ 1000000000) (p2 : ∀ x ∈ Q, x.length ≤ 1000000000) :
    Calls Tryz.prog 55 #[v1, v2] w fun e w' => e = .returned (.bool (P == Q)) ∧ Below w.heap.size w w' := by
  obtain ⟨L, rfl, ⟨aa, ca, rfl, _, _, hra⟩, hta⟩ := h1
  obtain ⟨M, rfl, ⟨ab, cb, rfl, _, _, hrb⟩, htb⟩ := h2
  simp only [List.length_map] at l1 l2
  obtain ⟨V, hV⟩ : ∃ V, (L.map (·.1) == M.map (·.1)) = V := ⟨_, rfl⟩
  have hV2 := hV
  rw [hV]
  have HV := Lib.hid hV
  have HRA := Lib.hid hra
  have HRB := Lib.hid hrb
  have HTA := Lib.hid hta
  have HTB := Lib.hid htb
  have HP1 := Lib.hid p1
  have HP2 := Lib.hid p2
  clear hra hrb hta htb p1 p2 hV
  by_cases hlen : L.length = M.length
  · have hne : ((L.length : Int) != M.length) = false := by rw [bne_eq_false_iff_eq]; omega
    have HLEN := Lib.hid hlen
    clear hlen hV2
    go_enter Tryz.func55, Tryz.ntmps55
    go_wp2_with fail
    go_loopw [5] (fun s5 wr => ∃ (i : Nat), i ≤ L.length ∧ s5 = .int .i64 i ∧ ((L.drop i).map (·.1) == (M.drop i).map (·.1)) = V ∧ Below w.heap.size w wr) (fun s5 _ => L.length - (intOf s5).toNat)
    case atStart => exact ⟨0, Nat.zero_le _, rfl, HV.out, Below.refl _ _⟩
    case round =>
      obtain ⟨i, hi, rfl, hv, hbel⟩ := hrel
      by_cases hlt : i < L.length
      · have hlt2 : i < M.length := by have := HLEN.out; omega
        have hlt' : (i : Int) < L.length := by omega
        have hlt2' : (i : Int) < M.length := by omega
        obtain ⟨gb, go, rfl, hgb, hgc⟩ := HRA.out.at (by intro e; simp [e] at hlt)
        obtain ⟨kb, ko, rfl, hkb, hkc⟩ := HRB.out.at (by intro e; simp [e] at hlt2)
        have k0 := (hgc i hlt).below hbel hgb 0 _ rfl
        have m0 := (hkc i hlt2).below hbel hkb 0 _ rfl
        have hxv := (HTA.out L[i] (List.getElem_mem hlt)).below hbel
        have hyv := (HTB.out M[i] (List.getElem_mem hlt2)).below hbel
        have hxl := HP1.out L[i].1 (List.mem_map_of_mem (List.getElem_mem hlt))
        have hyl := HP2.out M[i].1 (List.mem_map_of_mem (List.getElem_mem hlt2))
        rw [List.drop_eq_getElem_cons hlt, List.drop_eq_getElem_cons hlt2, List.map_cons, List.map_cons, List.cons_beq_cons] at hv
        simp only [Nat.add_zero, Nat.mul_one] at k0 m0
        generalize L[i] = x at *
        generalize M[i] = y at *
        obtain ⟨x, xv⟩ := x
        obtain ⟨y, yv⟩ := y
        simp only at hxv hyv hxl hyl hv k0 m0
        obtain ⟨xa, xc, rfl, hx2, hx3, hx4⟩ := hxv
        obtain ⟨ya, yc, rfl, hy2, hy3, hy4⟩ := hyv
        obtain ⟨b, hb⟩ : ∃ b, (x == y) = b := ⟨_, rfl⟩
        have SM := Lib.hid (fun u : Ext wr => rsame_call xa ya x.length y.length xc yc x y u.w ((show SlV 1 sB wr (.slice xa x.length xc) x from ⟨xa, xc, rfl, hx2, hx3, hx4⟩).below u.below) ((show SlV 1 sB wr (.slice ya y.length yc) y from ⟨ya, yc, rfl, hy2, hy3, hy4⟩).below u.below) hxl hyl b hb)
        rw [hb] at hv
        have K0 : ∀ u : Ext wr, u.w.cell? ⟨gb, go + i, none⟩ = some (.slice xa x.length xc) := fun u => u.cell k0
        have M0 : ∀ u : Ext wr, u.w.cell? ⟨kb, ko + i, none⟩ = some (.slice ya y.length yc) := fun u => u.cell m0
        have HBB : Hid (∀ u : Ext wr, Below w.heap.size w u.w) := Lib.hid fun u => hbel.trans (u.below.mono hbel.size)
        have HV2 := Lib.hid hv
        clear hv hbel hgc hkc hx2 hx3 hx4 hy2 hy3 hy4 hb k0 m0
        go_wp2_with fail
        refine wp_region_quiet (C := fun w' => ∃ u : Ext wr, w' = u.w) (by kernel_rfl) (by kernel_rfl) (Ext.drew wr) ?_
        try dsimp only []
        repeat (go_big_quiet_step ((go_at_call 56; rename_i u; refine (SM.out u).mono ?_; rintro e w4 ⟨rfl, b4⟩; exact ⟨rfl, u.on b4⟩)))
        refine wpQuiet_nil ?_
        rintro w' ⟨u, rfl⟩
        cases b with
        | true =>
          have hv := HV2.out
          rw [Bool.true_and] at hv
          have HV3 := Lib.hid hv
          clear hv
          go_wp2_with fail
          go_roundw
          case rel => exact ⟨i + 1, by omega, by go_num, HV3.out, HBB.out u⟩
          case measure => simp [intOf]; omega
        | false =>
          have hv := HV2.out
          rw [Bool.false_and] at hv
          subst hv
          go_wp2_with fail
          go_ret
          exact ⟨rfl, HBB.out u⟩
      · obtain rfl : i = L.length := by omega
        rw [List.drop_length, HLEN.out, List.drop_length] at hv
        have hv0 : V = true := hv.symm
        subst hv0
        have HBEL := Lib.hid hbel
        clear hv hbel HV
        go_wp2_with fail
        go_ret
        exact ⟨rfl, HBEL.out⟩
  · have hne : ((L.length : Int) != M.length) = true := by rw [bne_iff_ne]; omega
    have hv0 : V = false := by rw [← hV2, beq_eq_false_iff_ne]; exact fun e => hlen (by have := congrArg List.length e; simpa using this)
    subst hv0
    clear hlen hV2 HV
    go_enter Tryz.func55, Tryz.ntmps55
    go_wp2_with fail
    go_ret
    exact ⟨rfl, Below.refl _ _⟩
end Go.Proofs.YtbnhefibpjldfaaGreatDoor

/- PyJ -/
namespace Go.Proofs.YtbnhefibpjldfaaGreatDoor
open Go.RowKit Go.BigFrame Go.Shelf
set_option linter.unusedVariables false

theorem com_snd {s : ByteArray} (h : isCom (dl s)) : ∃ h1 : 1 < s.size, s[1] = (if isBlock (dl s) then 42 else 47) ∧ (isBlock (dl s) = true → 4 ≤ s.size) := by
  obtain ⟨h1, h2, hb, _⟩ := com_one h
  refine ⟨h1, ?_, fun e => (hb e).1⟩
  have hx := dl_get h1
  rcases h with ⟨y, hy⟩ | ⟨y, n, hy, _⟩
  · rw [hy] at hx ⊢
    have : isBlock (47 :: 47 :: y) = false := by simp [isBlock]
    rw [this, if_neg (by decide)]
    simpa using hx.symm
  · rw [hy] at hx ⊢
    have : isBlock (47 :: 42 :: y) = true := by simp [isBlock]
    rw [this, if_pos rfl]
    simpa using hx.symm
theorem inside_block {x : Bs} (h : isBlock x = true) : inside x = (x.drop 2).take (x.length - 4) := by unfold inside; rw [if_pos h]
theorem inside_line {x : Bs} (h : isBlock x = false) : inside x = x.drop 2 := by unfold inside; rw [h, if_neg (by decide)]
theorem parsF_len : ∀ (l : List (List Bs)) (now : List Bs), (parsF now l).length ≤ l.length + 1
  | [], now => by simp only [parsF]; split <;> simp
  | w :: r, now => by
    simp only [parsF]
    split
    · split
      · have := parsF_len r []; simp; omega
      · have := parsF_len r []; simp; omega
    · have := parsF_len r (now ++ w); simp; omega
theorem parsF_each (B : Nat) : ∀ (l : List (List Bs)) (now : List Bs), now.length + (l.map (·.length)).sum ≤ B → ∀ x ∈ parsF now l, x.length ≤ B
  | [], now, h, x, hx => by
    simp only [parsF] at hx
    split at hx
    · cases hx
    · rw [List.mem_singleton] at hx; subst hx; simp at h; exact h
  | w :: r, now, h, x, hx => by
    simp only [List.map_cons, List.sum_cons] at h
    simp only [parsF] at hx
    split at hx
    · split at hx
      · exact parsF_each B r [] (by simp; omega) x hx
      · rcases List.mem_cons.1 hx with rfl | hx
        · omega
        · exact parsF_each B r [] (by simp; omega) x hx
    · exact parsF_each B r (now ++ w) (by rw [List.length_append]; omega) x hx
theorem sum_mapIdx (l : List Bs) : ∀ (k : Nat) (f : Nat → Bs → List Bs), (∀ i x, (f i x).length ≤ x.length) → ((l.mapIdx f).map (·.length)).sum ≤ (l.map (·.length)).sum := by
  induction l with
  | nil => intro k f h; simp
  | cons a r ih =>
    intro k f h
    rw [List.mapIdx_cons, List.map_cons, List.map_cons, List.sum_cons, List.sum_cons]
    have := ih k (fun i => f (i + 1)) (fun i x => h (i + 1) x)
    have := h 0 a
    omega
theorem pars_bound (x : Bs) (n : Nat) (hx : x.length ≤ n) : (parsF [] ((splF [] x).mapIdx lineW)).length ≤ n + 2 ∧ ∀ y ∈ parsF [] ((splF [] x).mapIdx lineW), y.length ≤ n := by
  have h1 := splF_sum x []
  have h2 := parsF_len ((splF [] x).mapIdx lineW) []
  have h3 := sum_mapIdx (splF [] x) 0 lineW lineW_len
  rw [List.length_mapIdx] at h2
  refine ⟨by omega, parsF_each n _ [] ?_⟩
  simp only [List.length_nil, Nat.zero_add] at h1 ⊢
  omega
theorem rws_call (s : ByteArray) (w : World) (hs : s.size ≤ 100000000) (h4 : 4 ≤ s.size) (hb : isBlock (dl s) = true) (P : List (List Bs)) (h : parsP (dl s) = P) : Calls Tryz.prog 54 #[.string s] w fun e w' => ∃ v, e = .returned v ∧ WdV w' v P ∧ Below w.heap.size w w' := by
  subst h
  unfold parsP
  rw [inside_block hb, ← size_dl]
  exact Rf.words s w hs h4
set_option maxRecDepth 100000 in
set_option maxHeartbeats 8000000 in
theorem Rf.alike (s t : ByteArray) (w : World) (hs : s.size ≤ 100000000) (ht : t.size ≤ 100000000) (cs : isCom (dl s)) (ct : isCom (dl t)) : Calls Tryz.prog 25 #[.string s, .string t] w fun e w' => e = .returned (.bool (sameW (dl s) (dl t))) ∧ Below w.heap.size w w' := by
  obtain ⟨h1, e1, f1⟩ := com_snd cs
  obtain ⟨g1, e2, f2⟩ := com_snd ct
  have h1' : (1 : Int) < s.size := by omega
  have g1' : (1 : Int) < t.size := by omega
  have h2' : (2 : Int) ≤ s.size := by omega
  have g2' : (2 : Int) ≤ t.size := by omega
  clear cs ct
  cases hb1 : isBlock (dl s) <;> cases hb2 : isBlock (dl t)
  · have hw : sameW (dl s) (dl t) = (flds white5 ((dl s).drop 2) == flds white5 ((dl t).drop 2)) := by
      unfold sameW; rw [hb1, hb2, inside_line hb1, inside_line hb2]; rfl
    rw [hw]
    rw [hb1, if_neg (by decide)] at e1
    rw [hb2, if_neg (by decide)] at e2
    obtain ⟨d1, d2⟩ := bqF (c := s[1]) (m := 42) 42 rfl (by rw [e1]; decide)
    have dn : ((s[1].toNat : Int) != (t[1].toNat : Int)) = false := by rw [e1, e2]; rfl
    obtain ⟨X, hX⟩ : ∃ X, flds white5 ((dl s).drop 2) = X := ⟨_, rfl⟩
    obtain ⟨Y, hY⟩ : ∃ Y, flds white5 ((dl t).drop 2) = Y := ⟨_, rfl⟩
    have hXl : X.length ≤ 1000000000 := by rw [← hX]; have := flds_len white5 ((dl s).drop 2); rw [drop_len] at this; omega
    have hYl : Y.length ≤ 1000000000 := by rw [← hY]; have := flds_len white5 ((dl t).drop 2); rw [drop_len] at this; omega
    rw [hX, hY]
    have P1 := Lib.hid (fun W : World => rpieces_call (s.extract 2 s.size) false W white5 whiteL_false X (by rw [dl_to]; exact hX) (by simp; omega))
    have P2 := Lib.hid (fun W : World => rpieces_call (t.extract 2 t.size) false W white5 whiteL_false Y (by rw [dl_to]; exact hY) (by simp; omega))
    obtain ⟨V, hV⟩ : ∃ V, (X == Y) = V := ⟨_, rfl⟩
    rw [hV]
    have HV := Lib.hid hV
    clear hX hY hw hb1 hb2 e1 e2 f1 f2 hV
    go_enter Tryz.func25, Tryz.ntmps25
    go_wp2_with fail
    go_quiet (fail)
    go_wp2_with fail
    refine (P1.out _).mono ?_
    rintro e w2 ⟨v, rfl, hown, hb⟩
    obtain ⟨a1, c1, rfl⟩ := row_shape hown
    have hr1 := SlV.of (f := sB) sB_len hown rfl
    have HR1 := Lib.hid hr1
    have HB1 := Lib.hid ((below_drewN w.heap.size w nq).trans (hb.mono (Nat.le_refl _)))
    clear hown hb hr1
    go_wp2_with fail
    refine (P2.out _).mono ?_
    rintro e w3 ⟨v, rfl, hown, hb⟩
    obtain ⟨a2, c2, rfl⟩ := row_shape hown
    have hr2 := SlV.of (f := sB) sB_len hown rfl
    have SM := Lib.hid (rsame_call a1 a2 X.length Y.length c1 c2 X Y w3 (HR1.out.below hb) hr2 hXl hYl V HV.out)
    have HB2 := Lib.hid (HB1.out.trans (hb.mono HB1.out.size))
    clear hown hb hr2
    go_wp2_with fail
    refine SM.out.mono ?_
    rintro e w4 ⟨rfl, b4⟩
    have HB3 := Lib.hid (HB2.out.trans (b4.mono HB2.out.size))
    clear b4
    go_wp2_with fail
    go_ret
    exact ⟨rfl, HB3.out⟩
  · have hw : sameW (dl s) (dl t) = false := by unfold sameW; rw [hb1, hb2]; rfl
    rw [hw]
    rw [hb1, if_neg (by decide)] at e1
    rw [hb2, if_pos rfl] at e2
    have dn : ((s[1].toNat : Int) != (t[1].toNat : Int)) = true := by rw [e1, e2]; rfl
    clear hw hb1 hb2 e1 e2 f1 f2
    go_enter Tryz.func25, Tryz.ntmps25
    go_wp2_with fail
    go_quiet (fail)
    go_wp2_with fail
    go_ret
    exact ⟨rfl, below_drewN _ _ _⟩
  · have hw : sameW (dl s) (dl t) = false := by unfold sameW; rw [hb1, hb2]; rfl
    rw [hw]
    rw [hb1, if_pos rfl] at e1
    rw [hb2, if_neg (by decide)] at e2
    have dn : ((s[1].toNat : Int) != (t[1].toNat : Int)) = true := by rw [e1, e2]; rfl
    clear hw hb1 hb2 e1 e2 f1 f2
    go_enter Tryz.func25, Tryz.ntmps25
    go_wp2_with fail
    go_quiet (fail)
    go_wp2_with fail
    go_ret
    exact ⟨rfl, below_drewN _ _ _⟩
  · have hw : sameW (dl s) (dl t) = (parsP (dl s) == parsP (dl t)) := by
      unfold sameW; rw [hb1, hb2]; rfl
    rw [hw]
    rw [hb1, if_pos rfl] at e1
    rw [hb2, if_pos rfl] at e2
    obtain ⟨d1, d2⟩ := bqT (c := s[1]) (m := 42) 42 rfl e1
    have dn : ((s[1].toNat : Int) != (t[1].toNat : Int)) = false := by rw [e1, e2]; rfl
    obtain ⟨X, hX⟩ : ∃ X, parsP (dl s) = X := ⟨_, rfl⟩
    obtain ⟨Y, hY⟩ : ∃ Y, parsP (dl t) = Y := ⟨_, rfl⟩
    have hXb := pars_bound (inside (dl s)) s.size (by rw [inside_block hb1, List.length_take, List.length_drop, ← size_dl]; omega)
    have hYb := pars_bound (inside (dl t)) t.size (by rw [inside_block hb2, List.length_take, List.length_drop, ← size_dl]; omega)
    have hX' := hX
    have hY' := hY
    unfold parsP at hX' hY'
    rw [hX'] at hXb
    rw [hY'] at hYb
    have P1 := Lib.hid (fun W : World => rws_call s W hs (f1 hb1) hb1 X hX)
    have P2 := Lib.hid (fun W : World => rws_call t W ht (f2 hb2) hb2 Y hY)
    rw [hX, hY]
    obtain ⟨V, hV⟩ : ∃ V, (X == Y) = V := ⟨_, rfl⟩
    rw [hV]
    have HV := Lib.hid hV
    have HXB := Lib.hid hXb
    have HYB := Lib.hid hYb
    clear hX hY hX' hY' hw hb1 hb2 e1 e2 f1 f2 hXb hYb hV
    go_enter Tryz.func25, Tryz.ntmps25
    go_wp2_with fail
    go_quiet (fail)
    go_wp2_with fail
    refine (P1.out _).mono ?_
    rintro e w2 ⟨v1, rfl, hr1, hb⟩
    have HR1 := Lib.hid hr1
    have HB1 := Lib.hid ((below_drewN w.heap.size w nq).trans (hb.mono (Nat.le_refl _)))
    obtain ⟨_, _, ⟨a1, c1, rfl, _⟩, _⟩ := hr1
    clear hb
    go_wp2_with fail
    refine (P2.out _).mono ?_
    rintro e w3 ⟨v2, rfl, hr2, hb⟩
    have SM := Lib.hid (Rf.same15 _ v2 X Y w3 (HR1.out.below hb) hr2 (by have := HXB.out.1; omega) (by have := HYB.out.1; omega) (fun x hx => by have := HXB.out.2 x hx; omega) (fun x hx => by have := HYB.out.2 x hx; omega))
    have HB2 := Lib.hid (HB1.out.trans (hb.mono HB1.out.size))
    obtain ⟨_, _, ⟨a2, c2, rfl, _⟩, _⟩ := hr2
    clear hb
    go_wp2_with fail
    have sm := SM.out
    rw [HV.out] at sm
    refine sm.mono ?_
    rintro e w4 ⟨rfl, b4⟩
    have HB3 := Lib.hid (HB2.out.trans (b4.mono HB2.out.size))
    clear b4 sm
    go_wp2_with fail
    go_ret
    exact ⟨rfl, HB3.out⟩
end Go.Proofs.YtbnhefibpjldfaaGreatDoor

/- PyK -/
namespace Go.Proofs.YtbnhefibpjldfaaGreatDoor
open Go.RowKit Go.BigFrame Go.Shelf
set_option linter.unusedVariables false

theorem lies_text {l : Bs} : ∀ (T : List Tk) (b : Nat), Lies l b T → ∀ x ∈ T, x.text.length ≤ l.length
  | [], _, _, x, hx => by cases hx
  | y :: r, b, ⟨h1, h2, h3, h4, h5⟩, x, hx => by
    rcases List.mem_cons.1 hx with rfl | hx
    · rw [h4, List.length_take, List.length_drop]; omega
    · exact lies_text r y.hi h5 x hx
theorem scan_lies (s : Bs) : Lies (logic s) 0 (tks (logic s) 0 0 false).1 := (toks_all _ (logic s) (logic s) 0 0 false 0 (Nat.le_refl _) rfl (Nat.zero_le _) (Nat.le_refl _) (by simp)).2.1
theorem logic_len (s : Bs) : (logic s).length ≤ s.length := by unfold logic; rw [List.length_map]; exact chars_len s
theorem scan_len (s : Bs) : (scanP s).2.length ≤ s.length := by
  unfold scanP
  split
  · simp
  split
  · simp
  · have := lies_len _ 0 (Nat.zero_le _) (scan_lies s)
    have h2 := logic_len s
    simp only [List.length_map]
    omega
theorem scan_text (s : Bs) : ∀ x ∈ (scanP s).2, x.text.length ≤ s.length := by
  unfold scanP
  split
  · simp
  split
  · simp
  · intro x hx
    obtain ⟨y, hy, rfl⟩ := List.mem_map.1 hx
    exact Nat.le_trans (lies_text _ 0 (scan_lies s) y hy) (logic_len s)
theorem com_text (s : Bs) : ∀ x ∈ comms (scanP s).2, isCom x ∧ x.length ≤ s.length := by
  intro x hx
  unfold comms at hx
  obtain ⟨t, ht, rfl⟩ := List.mem_map.1 hx
  obtain ⟨h1, h2⟩ := List.mem_filter.1 ht
  exact ⟨(scan_com s t h1).1 (by simpa using h2), scan_text s t h1⟩
theorem rows_bound (l : List Tk) : (rowsP l).length ≤ l.length ∧ ∀ r ∈ rowsP l, r.toks.length ≤ l.length := by
  unfold rowsP
  obtain ⟨h1, h2⟩ := foldl_rows (lnsF [] l) []
  have h3 : ((pcs' l).map (·.2)).sum = l.length ∧ (pcs' l).length ≤ l.length := by
    obtain ⟨a, b⟩ := pcsF_sum l 0 0 (Nat.le_refl _)
    exact ⟨by rw [a]; omega, by show (pcsF 0 0 l).length ≤ _; omega⟩
  have h4 : ((lnsF [] l).map (·.length)).sum = ((pcs' l).map (·.2)).sum := by
    rw [pcs_lns, List.map_map]
    congr 1
    refine List.map_congr_left fun p hp => ?_
    have := (pcsF_in l l 0 0 (Nat.le_refl _) rfl (Nat.zero_le _) p hp).2
    simp; omega
  have h5 : (lnsF [] l).length = (pcs' l).length := by rw [pcs_lns]; simp
  rw [h4, h3.1] at h1
  rw [h5] at h2
  have h7 := h3.2
  simp only [List.map_nil, List.sum_nil, List.length_nil, Nat.zero_add] at h1 h2
  refine ⟨by omega, fun r hr => ?_⟩
  have h6 : ∀ (L : List Rw) (r : Rw), r ∈ L → r.toks.length ≤ (L.map (·.toks.length)).sum := fun L => by
    induction L with
    | nil => intro r h; cases h
    | cons a b ih =>
      intro r h
      rw [List.map_cons, List.sum_cons]
      rcases List.mem_cons.1 h with rfl | h
      · omega
      · have := ih r h; omega
  have := h6 _ r hr
  omega
theorem comms_len (l : List Tk) : (comms l).length ≤ l.length := by unfold comms; rw [List.length_map]; exact List.length_filter_le _ _
theorem rscan_call (s : ByteArray) (w : World) (hs : s.size ≤ 100000000) (E : Nat) (L : List Tk) (h : scanP (dl s) = (E, L)) : Calls Tryz.prog 11 #[.string s] w fun e w' => Below w.heap.size w w' ∧ ∃ v, SlV 5 tkC w' v L ∧ e = .returned (.tuple #[v, .int .i64 E]) := by
  refine (Rf.scan s w hs).mono ?_
  rintro e w' ⟨h1, h2⟩
  rw [h] at h2
  refine ⟨h1, ?_⟩
  by_cases h0 : E = 0
  · subst h0
    obtain ⟨v, he, ho⟩ := (if_pos rfl).mp h2
    exact ⟨v, SlV.of tkC_len ho rfl, he⟩
  · have h3 := (if_neg h0).mp h2
    have hL : L = [] := by
      have : (scanP (dl s)).1 ≠ 0 → (scanP (dl s)).2 = [] := by
        unfold scanP
        intro hne
        split
        · rfl
        split
        · rfl
        · rename_i a b; rw [if_neg a, if_neg b] at hne; exact absurd rfl hne
      rw [h] at this
      exact this h0
    subst hL
    exact ⟨_, ⟨none, 0, rfl, Nat.le_refl _, fun _ => ⟨rfl, rfl⟩, .inl rfl⟩, h3⟩
theorem rrows_call (a : Option Addr) (n c : Nat) (l : List Tk) (w : World) (R : List Rw) (hv : SlV 5 tkC w (.slice a n c) l) (hl : l.length ≤ 1000000000) (hR : rowsP l = R) : Calls Tryz.prog 22 #[.slice a n c] w fun e w' => ∃ v, e = .returned v ∧ RowsV w' v R ∧ Below w.heap.size w w' := by
  subst hR
  obtain ⟨a', c', he, _, _, hr⟩ := hv
  simp only [Value.slice.injEq] at he
  obtain ⟨rfl, rfl, rfl⟩ := he
  exact Rf.rows a c l w hr hl
theorem rcomms_call (a : Option Addr) (n c : Nat) (l : List Tk) (w : World) (C : List Bs) (hv : SlV 5 tkC w (.slice a n c) l) (hl : l.length ≤ 1000000000) (hC : comms l = C) : Calls Tryz.prog 23 #[.slice a n c] w fun e w' => ∃ v, e = .returned v ∧ SlV 1 sB w' v C ∧ Below w.heap.size w w' := by
  subst hC
  obtain ⟨a', c', he, _, _, hr⟩ := hv
  simp only [Value.slice.injEq] at he
  obtain ⟨rfl, rfl, rfl⟩ := he
  refine (Rf.comments a c l w hr hl).mono ?_
  rintro e w' ⟨v, h1, h2, h3⟩
  exact ⟨v, h1, SlV.of sB_len h2 rfl, h3⟩
theorem ralike_call (s t : Bs) (w : World) (b : Bool) (hs : isCom s ∧ s.length ≤ 100000000) (ht : isCom t ∧ t.length ≤ 100000000) (h : sameW s t = b) : Calls Tryz.prog 25 #[.string (str s), .string (str t)] w fun e w' => e = .returned (.bool b) ∧ Below w.heap.size w w' := by
  subst h
  have := Rf.alike (str s) (str t) w (by rw [str_size]; exact hs.2) (by rw [str_size]; exact ht.2) (by rw [dl_str]; exact hs.1) (by rw [dl_str]; exact ht.1)
  rwa [dl_str, dl_str] at this
set_option maxRecDepth 100000 in
set_option maxHeartbeats 8000000 in
theorem Rf.means (s t : ByteArray) (w : World) (hs : s.size ≤ 100000000) (ht : t.size ≤ 100000000) : Calls Tryz.prog 8 #[.string s, .string t] w fun e w' => e = .returned (.bool (meansP (dl s) (dl t))) ∧ Below w.heap.size w w' := by
  obtain ⟨E, L, hEL⟩ : ∃ E L, scanP (dl s) = (E, L) := ⟨_, _, rfl⟩
  obtain ⟨F, M, hFM⟩ : ∃ F M, scanP (dl t) = (F, M) := ⟨_, _, rfl⟩
  have hLl := scan_len (dl s)
  have hMl := scan_len (dl t)
  have hct := com_text (dl s)
  have hdt := com_text (dl t)
  rw [hEL, ← size_dl] at hLl hct
  rw [hFM, ← size_dl] at hMl hdt
  simp only at hLl hMl hct hdt
  have hmp : meansP (dl s) (dl t) = (decide (E = 0) && decide (F = 0) && (alikeP false (rowsP L) (rowsP M) && all2 sameW (comms L) (comms M))) := by unfold meansP; rw [hEL, hFM]
  obtain ⟨V, hV⟩ : ∃ V, meansP (dl s) (dl t) = V := ⟨_, rfl⟩
  rw [hV]
  rw [hV] at hmp
  have S1 := Lib.hid (fun W : World => rscan_call s W hs E L hEL)
  have S2 := Lib.hid (fun W : World => rscan_call t W ht F M hFM)
  have HMP := Lib.hid hmp
  obtain ⟨x1, x2⟩ := rows_bound L
  obtain ⟨y1, y2⟩ := rows_bound M
  obtain ⟨A, hA⟩ : ∃ A, rowsP L = A := ⟨_, rfl⟩
  obtain ⟨B, hB⟩ : ∃ B, rowsP M = B := ⟨_, rfl⟩
  obtain ⟨C, hC⟩ : ∃ C, comms L = C := ⟨_, rfl⟩
  obtain ⟨D, hD⟩ : ∃ D, comms M = D := ⟨_, rfl⟩
  have hCl := comms_len L
  have hDl := comms_len M
  rw [hA] at x1 x2
  rw [hB] at y1 y2
  rw [hC] at hct hCl
  rw [hD] at hdt hDl
  have HCT := Lib.hid hct
  have HDT := Lib.hid hdt
  have HA := Lib.hid hA
  have HB := Lib.hid hB
  have HC := Lib.hid hC
  have HD := Lib.hid hD
  have HX2 := Lib.hid x2
  have HY2 := Lib.hid y2
  have hLl2 : L.length ≤ 100000000 := by omega
  have hMl2 : M.length ≤ 100000000 := by omega
  have hCl2 : C.length ≤ 100000000 := by omega
  have hDl2 : D.length ≤ 100000000 := by omega
  have hAl2 : A.length ≤ 100000000 := by omega
  have hBl2 : B.length ≤ 100000000 := by omega
  clear hEL hFM hV hmp hct hdt x1 x2 y1 y2 hA hB hC hD hLl hMl hCl hDl
  by_cases hE0 : E = 0
  · subst hE0
    by_cases hF0 : F = 0
    · subst hF0
      go_enter Tryz.func8, Tryz.ntmps8
      go_wp2_with fail
      refine (S1.out _).mono ?_
      rintro e w1 ⟨hb1, v1, hv1, rfl⟩
      obtain ⟨a1, c1, rfl, h11, h12, h13⟩ := hv1
      have HV1 := Lib.hid (show SlV 5 tkC w1 (.slice a1 L.length c1) L from ⟨a1, c1, rfl, h11, h12, h13⟩)
      have HB1 := Lib.hid hb1
      clear hb1 h11 h12 h13
      go_wp2_with fail
      refine (S2.out _).mono ?_
      rintro e w2 ⟨hb2, v2, hv2, rfl⟩
      obtain ⟨a2, c2, rfl, h21, h22, h23⟩ := hv2
      have HV2 := Lib.hid (show SlV 5 tkC w2 (.slice a2 M.length c2) M from ⟨a2, c2, rfl, h21, h22, h23⟩)
      have HV1' := Lib.hid (HV1.out.below hb2)
      have HB2 := Lib.hid (HB1.out.trans (hb2.mono HB1.out.size))
      clear hb2 h21 h22 h23
      go_wp2_with fail
      refine (rrows_call a1 L.length c1 L w2 A HV1'.out (by omega) HA.out).mono ?_
      rintro e w3 ⟨v3, rfl, hr3, hb3⟩
      have HR3 := Lib.hid hr3
      obtain ⟨_, _, ⟨a3, c3, rfl, _⟩, _⟩ := hr3
      have HV1q := Lib.hid (HV1'.out.below hb3)
      have HV2q := Lib.hid (HV2.out.below hb3)
      have HB3 := Lib.hid (HB2.out.trans (hb3.mono HB2.out.size))
      clear hb3
      go_wp2_with fail
      refine (rrows_call a2 M.length c2 M w3 B HV2q.out (by omega) HB.out).mono ?_
      rintro e w4 ⟨v4, rfl, hr4, hb4⟩
      have HR4 := Lib.hid hr4
      have HR3q := Lib.hid (HR3.out.below hb4)
      obtain ⟨_, _, ⟨a4, c4, rfl, _⟩, _⟩ := hr4
      have HV1r := Lib.hid (HV1q.out.below hb4)
      have HV2r := Lib.hid (HV2q.out.below hb4)
      have HB4 := Lib.hid (HB3.out.trans (hb4.mono HB3.out.size))
      clear hb4
      go_wp2_with fail
      refine (rcomms_call a1 L.length c1 L w4 C HV1r.out (by omega) HC.out).mono ?_
      rintro e w5 ⟨v5, rfl, hr5, hb5⟩
      have HR3r := Lib.hid (HR3q.out.below hb5)
      have HR4r := Lib.hid (HR4.out.below hb5)
      have HC5 := Lib.hid hr5
      obtain ⟨a5, c5, rfl, _⟩ := hr5
      have HV2s := Lib.hid (HV2r.out.below hb5)
      have HB5 := Lib.hid (HB4.out.trans (hb5.mono HB4.out.size))
      clear hb5
      go_wp2_with fail
      refine (rcomms_call a2 M.length c2 M w5 D HV2s.out (by omega) HD.out).mono ?_
      rintro e w6 ⟨v6, rfl, hr6, hb6⟩
      have HAL := Lib.hid (Rf.alikeR _ _ A B w6 (HR3r.out.below hb6) (HR4r.out.below hb6) (by omega) (by omega) (fun x hx => by have := HX2.out x hx; omega) (fun x hx => by have := HY2.out x hx; omega))
      have HC6 := Lib.hid (HC5.out.below hb6)
      have HD6 := Lib.hid hr6
      obtain ⟨a6, c6, rfl, _⟩ := hr6
      have HB6 := Lib.hid (HB5.out.trans (hb6.mono HB5.out.size))
      clear hb6
      obtain ⟨al, hal⟩ : ∃ al, alikeP false A B = al := ⟨_, rfl⟩
      have hmp := HMP.out
      rw [HA.out, HB.out, HC.out, HD.out, hal] at hmp
      have HMP2 := Lib.hid hmp
      have hal2 := HAL.out
      rw [hal] at hal2
      have HAL2 := Lib.hid hal2
      clear hmp hal hal2 HAL
      go_wp2_with fail
      refine HAL2.out.mono ?_
      rintro e w7 ⟨rfl, hb7⟩
      have HC7 := Lib.hid (HC6.out.below hb7)
      have HD7 := Lib.hid (HD6.out.below hb7)
      have HB7 := Lib.hid (HB6.out.trans (hb7.mono HB6.out.size))
      clear hb7
      cases al with
      | false =>
        have hv0 : V = false := HMP2.out
        subst hv0
        go_wp2_with fail
        go_ret
        exact ⟨rfl, HB7.out⟩
      | true =>
        have hv1 : V = all2 sameW C D := by have := HMP2.out; simpa using this
        by_cases hlen : C.length = D.length
        · have hne : ((C.length : Int) != D.length) = false := by rw [bne_eq_false_iff_eq]; omega
          have HLEN := Lib.hid hlen
          have HV := Lib.hid hv1
          have hrc : RowAt 1 sB w7 a5 C := by obtain ⟨a, c, he, _, _, hr⟩ := HC7.out; simp only [Value.slice.injEq, true_and] at he; obtain ⟨rfl, rfl⟩ := he; exact hr
          have hrd : RowAt 1 sB w7 a6 D := by obtain ⟨a, c, he, _, _, hr⟩ := HD7.out; simp only [Value.slice.injEq, true_and] at he; obtain ⟨rfl, rfl⟩ := he; exact hr
          have HRC := Lib.hid hrc
          have HRD := Lib.hid hrd
          clear hlen hv1 hrc hrd
          go_wp2_with fail
          go_loopw [13] (fun s13 wr => ∃ (i : Nat), i ≤ C.length ∧ s13 = .int .i64 i ∧ V = all2 sameW (C.drop i) (D.drop i) ∧ Below w7.heap.size w7 wr) (fun s13 _ => C.length - (intOf s13).toNat)
          case atStart => exact ⟨0, Nat.zero_le _, rfl, HV.out, Below.refl _ _⟩
          case round =>
            obtain ⟨i, hi, rfl, hv, hbel⟩ := hrel
            by_cases hlt : i < C.length
            · have hlt2 : i < D.length := by have := HLEN.out; omega
              have hlt' : (i : Int) < C.length := by omega
              have hlt2' : (i : Int) < D.length := by omega
              obtain ⟨gb, go, rfl, hgb, hgc⟩ := HRC.out.at (by intro e; simp [e] at hlt)
              obtain ⟨kb, ko, rfl, hkb, hkc⟩ := HRD.out.at (by intro e; simp [e] at hlt2)
              have k0 := (hgc i hlt).below hbel hgb 0 _ rfl
              have m0 := (hkc i hlt2).below hbel hkb 0 _ rfl
              have hxc := HCT.out C[i] (List.getElem_mem hlt)
              have hyc := HDT.out D[i] (List.getElem_mem hlt2)
              rw [all2_at sameW hlt hlt2] at hv
              simp only [Nat.add_zero, Nat.mul_one] at k0 m0
              generalize C[i] = x at *
              generalize D[i] = y at *
              obtain ⟨b, hb⟩ : ∃ b, sameW x y = b := ⟨_, rfl⟩
              rw [hb] at hv
              have AK := Lib.hid (fun u : Ext wr => ralike_call x y u.w b ⟨hxc.1, by have := hxc.2; omega⟩ ⟨hyc.1, by have := hyc.2; omega⟩ hb)
              have K0 : ∀ u : Ext wr, u.w.cell? ⟨gb, go + i, none⟩ = some (.string (str x)) := fun u => u.cell k0
              have M0 : ∀ u : Ext wr, u.w.cell? ⟨kb, ko + i, none⟩ = some (.string (str y)) := fun u => u.cell m0
              have HBB : Hid (∀ u : Ext wr, Below w7.heap.size w7 u.w) := Lib.hid fun u => hbel.trans (u.below.mono hbel.size)
              have HV2 := Lib.hid hv
              clear hv hbel hgc hkc hb k0 m0 hxc hyc HV
              go_wp2_with fail
              refine wp_region_quiet (C := fun w' => ∃ u : Ext wr, w' = u.w) (by kernel_rfl) (by kernel_rfl) (Ext.drew wr) ?_
              try dsimp only []
              repeat (go_big_quiet_step ((go_at_call 25; rename_i u; refine (AK.out u).mono ?_; rintro e w9 ⟨rfl, b4⟩; exact ⟨rfl, u.on b4⟩)))
              refine wpQuiet_nil ?_
              rintro w' ⟨u, rfl⟩
              cases b with
              | true =>
                have hv := HV2.out
                rw [Bool.true_and] at hv
                have HV3 := Lib.hid hv
                clear hv
                go_wp2_with fail
                go_roundw
                case rel => exact ⟨i + 1, by omega, by go_num, HV3.out, HBB.out u⟩
                case measure => simp [intOf]; omega
              | false =>
                have hv := HV2.out
                rw [Bool.false_and] at hv
                subst hv
                go_wp2_with fail
                go_ret
                exact ⟨rfl, HB7.out.trans ((HBB.out u).mono HB7.out.size)⟩
            · obtain rfl : i = C.length := by omega
              rw [List.drop_length, HLEN.out, List.drop_length] at hv
              have hv0 : V = true := hv
              subst hv0
              have HBEL := Lib.hid hbel
              clear hv hbel HV
              go_wp2_with fail
              go_ret
              exact ⟨rfl, HB7.out.trans (HBEL.out.mono HB7.out.size)⟩
        · have hne : ((C.length : Int) != D.length) = true := by rw [bne_iff_ne]; omega
          have hv0 : V = false := by rw [hv1]; exact all2_len _ _ _ hlen
          subst hv0
          clear hlen hv1
          go_wp2_with fail
          go_ret
          exact ⟨rfl, HB7.out⟩
    · have hf1 : ((F : Int) != 0) = true := by rw [bne_iff_ne]; omega
      have hv0 : V = false := by rw [HMP.out, decide_eq_false hF0]; simp
      subst hv0
      clear hF0 HMP
      go_enter Tryz.func8, Tryz.ntmps8
      go_wp2_with fail
      refine (S1.out _).mono ?_
      rintro e w1 ⟨hb1, v1, hv1, rfl⟩
      have HB1 := Lib.hid hb1
      clear hb1 hv1
      go_wp2_with fail
      refine (S2.out _).mono ?_
      rintro e w2 ⟨hb2, v2, hv2, rfl⟩
      have HB2 := Lib.hid (HB1.out.trans (hb2.mono HB1.out.size))
      clear hb2 hv2
      go_wp2_with fail
      go_ret
      exact ⟨rfl, HB2.out⟩
  · have he1 : ((E : Int) != 0) = true := by rw [bne_iff_ne]; omega
    have hv0 : V = false := by rw [HMP.out, decide_eq_false hE0]; rfl
    subst hv0
    clear hE0 HMP
    go_enter Tryz.func8, Tryz.ntmps8
    go_wp2_with fail
    refine (S1.out _).mono ?_
    rintro e w1 ⟨hb1, v1, hv1, rfl⟩
    have HB1 := Lib.hid hb1
    clear hb1 hv1
    go_wp2_with fail
    refine (S2.out _).mono ?_
    rintro e w2 ⟨hb2, v2, hv2, rfl⟩
    have HB2 := Lib.hid (HB1.out.trans (hb2.mono HB1.out.size))
    clear hb2 hv2
    go_wp2_with fail
    go_ret
    exact ⟨rfl, HB2.out⟩
end Go.Proofs.YtbnhefibpjldfaaGreatDoor

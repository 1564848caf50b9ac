/- parse: compound. -/
import Derived.Test.YtlboejdhmggjpaaGreatWlA
set_option linter.all false
namespace Go.Proofs.YtlboejdhmggjpaaGreat.Pp
set_option maxRecDepth 100000
set_option maxHeartbeats 16000000
open Go.RowKit Go.BigFrame Go.Proofs.YtlboejdhmggjpaaGreat

theorem w_compound {E : En} (hE : E.ok) {n : Nat} (ih : ∀ m, m ≤ n → Wk E m) (x : Bs) (h : Nat × Nat) (s : Ps) (w : World) (hp : PW E w s) (hne : run E.L E.base (n + 1) (.compound x h) s ≠ .out) : Calls Tryz.prog 182 #[.pointer (some ⟨E.pb, 0, none⟩), .string (str x), hdV h] w (EndQ E vaU w (run E.L E.base (n + 1) (.compound x h) s)) := by
 obtain ⟨r, hr⟩ : ∃ r, run E.L E.base (n + 1) (.compound x h) s = r := ⟨_, rfl⟩
 rw [hr] at hne ⊢
 rw [run] at hr
 have HN := Hh hne
 have HR0 := Hh hr
 have HP0 := Hh hp
 have HK0 := Hh (KP.refl w)
 have IH := Hh ih
 clear hne hr hp ih
 obtain ⟨xB, hxB⟩ : ∃ b, str x = b := ⟨_, rfl⟩
 rw [hxB]
 have HXarg := Hh hxB
 clear hxB
 have HPo0 := Hh HP0.out
 have HKo0 := Hh HK0.out
 simp only [hdV]
 go_enter Tryz.func182, Tryz.ntmps182
 have HBarg0 := Hh (HdB.new w h)
 have HPn := Hh (HP0.out.ext hE (below_alloc w (.cells #[.int .i64 h.1, .int .i64 h.2] 77)))
 have HKn := Hh (KP.of_below (below_alloc w (.cells #[.int .i64 h.1, .int .i64 h.2] 77)))
 clear HP0 HK0
 have HP0 := Hh HPn.out
 have HK0 := Hh HKn.out
 clear HPn HKn
 obtain ⟨barg, hbarg⟩ : ∃ b, w.heap.size = b := ⟨_, rfl⟩
 have q := HBarg0.out
 rw [hbarg] at q
 clear HBarg0
 have HBarg0 := Hh q
 clear q
 by_cases htx_0 : x = [105, 102]
 ·have fxx_0 : (xB.toList == [105, 102]) = true := HXarg.out ▸ str_is htx_0
  have fyx_0_1 : (xB.toList == [115, 119, 105, 116, 99, 104]) = false := HXarg.out ▸ str_no (by rw [htx_0]; decide)
  have fyx_0_2 : (xB.toList == [119, 104, 105, 108, 101]) = false := HXarg.out ▸ str_no (by rw [htx_0]; decide)
  have fyx_0_3 : (xB.toList == [100, 111]) = false := HXarg.out ▸ str_no (by rw [htx_0]; decide)
  have fyx_0_4 : (xB.toList == [102, 111, 114]) = false := HXarg.out ▸ str_no (by rw [htx_0]; decide)
  replace HR0 := Hh (q_pos HR0.out (by simp [htx_0]))
  go_wp2_with fail
  try rw [hbarg]
  try rw [hbarg]
  refine mQ ((IH.out n (Nat.le_refl _)).f_condition  _ _ HP0.out (qne HR0.out HN.out)) HR0 HN HK0 (fun _ _ h => ⟨rfl, h⟩) ?_
  rintro v1 s1 y1 w1 HR1 rfl HP1 hkk HK1
  have HBarg1 := Hh (HBarg0.out.kp hkk)
  clear hkk
  go_wp2_with fail
  refine mQ ((IH.out n (Nat.le_refl _)).f_part  _ _ HP1.out (qne HR1.out HN.out)) HR1 HN HK1 (fun _ _ h => ⟨rfl, h⟩) ?_
  rintro v2 s2 y2 w2 HR2 rfl HP2 hkk HK2
  have HBarg2 := Hh (HBarg1.out.kp hkk)
  clear hkk
  go_wp2_with fail
  refine mR (wk_tookWord hE [101, 108, 115, 101] _ _ HP2.out) HR2 HN HK2 (fun _ _ h => ⟨rfl, h⟩) ?_
  rintro v3 s3 w3 HR3 HP3 hkk HK3
  have HBarg3 := Hh (HBarg2.out.kp hkk)
  clear hkk
  obtain ⟨bb3, hbb3⟩ : ∃ bb, v3 = bb := ⟨_, rfl⟩
  rw [hbb3] at HR3 ⊢
  clear hbb3
  cases bb3
  ·replace HR3 := Hh (q_iff HR3.out)
   obtain ⟨d0, d1⟩ := HBarg3.out.cells
   go_wp2_with fail
   with_reducible replace HR3 := Hh (q_pb HR3.out)
   refine mR (wk_node hE 27 h _ _ HP3.out (qne HR3.out HN.out)) HR3 HN HK3 (fun _ _ h => ⟨rfl, h⟩) ?_
   rintro v4 s4 w4 HR4 HP4 hkk HK4
   have HBarg4 := Hh (HBarg3.out.kp hkk)
   clear hkk
   try clear d0 d1
   skip
   go_wp2_with fail
   exact ⟨rfl, .tuple #[], by simp [results, Tryz.results182, go_sem], q_ok (q_pure HR4.out) rfl HP4.out HK4.out⟩
  ·replace HR3 := Hh (q_ift HR3.out)
   go_wp2_with fail
   refine mQ ((IH.out n (Nat.le_refl _)).f_part  _ _ HP3.out (qne HR3.out HN.out)) HR3 HN HK3 (fun _ _ h => ⟨rfl, h⟩) ?_
   rintro v5 s5 y5 w5 HR5 rfl HP5 hkk HK5
   have HBarg5 := Hh (HBarg3.out.kp hkk)
   clear hkk
   obtain ⟨d0, d1⟩ := HBarg5.out.cells
   go_wp2_with fail
   refine mR (wk_node hE 27 h _ _ HP5.out (qne HR5.out HN.out)) HR5 HN HK5 (fun _ _ h => ⟨rfl, h⟩) ?_
   rintro v6 s6 w6 HR6 HP6 hkk HK6
   have HBarg6 := Hh (HBarg5.out.kp hkk)
   clear hkk
   try clear d0 d1
   skip
   go_wp2_with fail
   exact ⟨rfl, .tuple #[], by simp [results, Tryz.results182, go_sem], q_ok (q_pure HR6.out) rfl HP6.out HK6.out⟩
 ·have fxx_0 : (xB.toList == [105, 102]) = false := HXarg.out ▸ str_no htx_0
  by_cases htx_1 : x = [115, 119, 105, 116, 99, 104]
  ·have fxx_1 : (xB.toList == [115, 119, 105, 116, 99, 104]) = true := HXarg.out ▸ str_is htx_1
   have fyx_1_2 : (xB.toList == [119, 104, 105, 108, 101]) = false := HXarg.out ▸ str_no (by rw [htx_1]; decide)
   have fyx_1_3 : (xB.toList == [100, 111]) = false := HXarg.out ▸ str_no (by rw [htx_1]; decide)
   have fyx_1_4 : (xB.toList == [102, 111, 114]) = false := HXarg.out ▸ str_no (by rw [htx_1]; decide)
   replace HR0 := Hh (q_neg HR0.out (by simp [htx_0, htx_1]))
   replace HR0 := Hh (q_pos HR0.out (by simp [htx_0, htx_1]))
   go_wp2_with fail
   try rw [hbarg]
   try rw [hbarg]
   refine mQ ((IH.out n (Nat.le_refl _)).f_condition  _ _ HP0.out (qne HR0.out HN.out)) HR0 HN HK0 (fun _ _ h => ⟨rfl, h⟩) ?_
   rintro v7 s7 y7 w7 HR7 rfl HP7 hkk HK7
   have HBarg7 := Hh (HBarg0.out.kp hkk)
   clear hkk
   go_wp2_with fail
   refine mQ ((IH.out n (Nat.le_refl _)).f_part  _ _ HP7.out (qne HR7.out HN.out)) HR7 HN HK7 (fun _ _ h => ⟨rfl, h⟩) ?_
   rintro v8 s8 y8 w8 HR8 rfl HP8 hkk HK8
   have HBarg8 := Hh (HBarg7.out.kp hkk)
   clear hkk
   obtain ⟨d0, d1⟩ := HBarg8.out.cells
   go_wp2_with fail
   refine mR (wk_node hE 28 h _ _ HP8.out (qne HR8.out HN.out)) HR8 HN HK8 (fun _ _ h => ⟨rfl, h⟩) ?_
   rintro v9 s9 w9 HR9 HP9 hkk HK9
   have HBarg9 := Hh (HBarg8.out.kp hkk)
   clear hkk
   try clear d0 d1
   skip
   go_wp2_with fail
   exact ⟨rfl, .tuple #[], by simp [results, Tryz.results182, go_sem], q_ok (q_pure HR9.out) rfl HP9.out HK9.out⟩
  ·have fxx_1 : (xB.toList == [115, 119, 105, 116, 99, 104]) = false := HXarg.out ▸ str_no htx_1
   by_cases htx_2 : x = [119, 104, 105, 108, 101]
   ·have fxx_2 : (xB.toList == [119, 104, 105, 108, 101]) = true := HXarg.out ▸ str_is htx_2
    have fyx_2_3 : (xB.toList == [100, 111]) = false := HXarg.out ▸ str_no (by rw [htx_2]; decide)
    have fyx_2_4 : (xB.toList == [102, 111, 114]) = false := HXarg.out ▸ str_no (by rw [htx_2]; decide)
    replace HR0 := Hh (q_neg HR0.out (by simp [htx_0, htx_1, htx_2]))
    replace HR0 := Hh (q_neg HR0.out (by simp [htx_0, htx_1, htx_2]))
    replace HR0 := Hh (q_pos HR0.out (by simp [htx_0, htx_1, htx_2]))
    go_wp2_with fail
    try rw [hbarg]
    try rw [hbarg]
    refine mQ ((IH.out n (Nat.le_refl _)).f_condition  _ _ HP0.out (qne HR0.out HN.out)) HR0 HN HK0 (fun _ _ h => ⟨rfl, h⟩) ?_
    rintro v10 s10 y10 w10 HR10 rfl HP10 hkk HK10
    have HBarg10 := Hh (HBarg0.out.kp hkk)
    clear hkk
    go_wp2_with fail
    refine mQ ((IH.out n (Nat.le_refl _)).f_part  _ _ HP10.out (qne HR10.out HN.out)) HR10 HN HK10 (fun _ _ h => ⟨rfl, h⟩) ?_
    rintro v11 s11 y11 w11 HR11 rfl HP11 hkk HK11
    have HBarg11 := Hh (HBarg10.out.kp hkk)
    clear hkk
    obtain ⟨d0, d1⟩ := HBarg11.out.cells
    go_wp2_with fail
    refine mR (wk_node hE 29 h _ _ HP11.out (qne HR11.out HN.out)) HR11 HN HK11 (fun _ _ h => ⟨rfl, h⟩) ?_
    rintro v12 s12 w12 HR12 HP12 hkk HK12
    have HBarg12 := Hh (HBarg11.out.kp hkk)
    clear hkk
    try clear d0 d1
    skip
    go_wp2_with fail
    exact ⟨rfl, .tuple #[], by simp [results, Tryz.results182, go_sem], q_ok (q_pure HR12.out) rfl HP12.out HK12.out⟩
   ·have fxx_2 : (xB.toList == [119, 104, 105, 108, 101]) = false := HXarg.out ▸ str_no htx_2
    by_cases htx_3 : x = [100, 111]
    ·have fxx_3 : (xB.toList == [100, 111]) = true := HXarg.out ▸ str_is htx_3
     have fyx_3_4 : (xB.toList == [102, 111, 114]) = false := HXarg.out ▸ str_no (by rw [htx_3]; decide)
     replace HR0 := Hh (q_neg HR0.out (by simp [htx_0, htx_1, htx_2, htx_3]))
     replace HR0 := Hh (q_neg HR0.out (by simp [htx_0, htx_1, htx_2, htx_3]))
     replace HR0 := Hh (q_neg HR0.out (by simp [htx_0, htx_1, htx_2, htx_3]))
     replace HR0 := Hh (q_pos HR0.out (by simp [htx_0, htx_1, htx_2, htx_3]))
     go_wp2_with fail
     try rw [hbarg]
     try rw [hbarg]
     refine mQ ((IH.out n (Nat.le_refl _)).f_part  _ _ HP0.out (qne HR0.out HN.out)) HR0 HN HK0 (fun _ _ h => ⟨rfl, h⟩) ?_
     rintro v13 s13 y13 w13 HR13 rfl HP13 hkk HK13
     have HBarg13 := Hh (HBarg0.out.kp hkk)
     clear hkk
     go_wp2_with fail
     refine mR (wk_tookWord hE [119, 104, 105, 108, 101] _ _ HP13.out) HR13 HN HK13 (fun _ _ h => ⟨rfl, h⟩) ?_
     rintro v14 s14 w14 HR14 HP14 hkk HK14
     have HBarg14 := Hh (HBarg13.out.kp hkk)
     clear hkk
     obtain ⟨bb14, hbb14⟩ : ∃ bb, v14 = bb := ⟨_, rfl⟩
     rw [hbb14] at HR14 ⊢
     clear hbb14
     cases bb14
     ·replace HR14 := Hh (q_iff HR14.out)
      go_wp2_with fail
      refine (wk_fail (α := Va) hE (fun _ => .tuple #[]) _ _ HP14.out).mono ?_
      rintro e wf ⟨⟨z, rfl⟩, hbf, hkf⟩
      exact ⟨rfl, q_no (q_fail HR14.out) hbf (HK14.out.trans hkf)⟩
     ·replace HR14 := Hh (q_ift HR14.out)
      go_wp2_with fail
      refine mQ ((IH.out n (Nat.le_refl _)).f_condition  _ _ HP14.out (qne HR14.out HN.out)) HR14 HN HK14 (fun _ _ h => ⟨rfl, h⟩) ?_
      rintro v15 s15 y15 w15 HR15 rfl HP15 hkk HK15
      have HBarg15 := Hh (HBarg14.out.kp hkk)
      clear hkk
      go_wp2_with fail
      refine mR (wk_need hE [59] _ _ HP15.out) HR15 HN HK15 (fun _ _ h => ⟨rfl, h⟩) ?_
      rintro v16 s16 w16 HR16 HP16 hkk HK16
      have HBarg16 := Hh (HBarg15.out.kp hkk)
      clear hkk
      obtain ⟨d0, d1⟩ := HBarg16.out.cells
      go_wp2_with fail
      refine mR (wk_node hE 30 h _ _ HP16.out (qne HR16.out HN.out)) HR16 HN HK16 (fun _ _ h => ⟨rfl, h⟩) ?_
      rintro v17 s17 w17 HR17 HP17 hkk HK17
      have HBarg17 := Hh (HBarg16.out.kp hkk)
      clear hkk
      try clear d0 d1
      skip
      go_wp2_with fail
      exact ⟨rfl, .tuple #[], by simp [results, Tryz.results182, go_sem], q_ok (q_pure HR17.out) rfl HP17.out HK17.out⟩
    ·have fxx_3 : (xB.toList == [100, 111]) = false := HXarg.out ▸ str_no htx_3
     by_cases htx_4 : x = [102, 111, 114]
     ·have fxx_4 : (xB.toList == [102, 111, 114]) = true := HXarg.out ▸ str_is htx_4
      replace HR0 := Hh (q_neg HR0.out (by simp [htx_0, htx_1, htx_2, htx_3, htx_4]))
      replace HR0 := Hh (q_neg HR0.out (by simp [htx_0, htx_1, htx_2, htx_3, htx_4]))
      replace HR0 := Hh (q_neg HR0.out (by simp [htx_0, htx_1, htx_2, htx_3, htx_4]))
      replace HR0 := Hh (q_neg HR0.out (by simp [htx_0, htx_1, htx_2, htx_3, htx_4]))
      replace HR0 := Hh (q_pos HR0.out (by simp [htx_0, htx_1, htx_2, htx_3, htx_4]))
      go_wp2_with fail
      try rw [hbarg]
      try rw [hbarg]
      refine mR (wk_need hE [40] _ _ HP0.out) HR0 HN HK0 (fun _ _ h => ⟨rfl, h⟩) ?_
      rintro v18 s18 w18 HR18 HP18 hkk HK18
      have HBarg18 := Hh (HBarg0.out.kp hkk)
      clear hkk
      go_wp2_with fail
      refine mR (wk_declares hE _ _ HP18.out) HR18 HN HK18 (fun _ _ h => ⟨rfl, h⟩) ?_
      rintro v19 s19 w19 HR19 HP19 hkk HK19
      have HBarg19 := Hh (HBarg18.out.kp hkk)
      clear hkk
      obtain ⟨bb19, hbb19⟩ : ∃ bb, v19 = bb := ⟨_, rfl⟩
      rw [hbb19] at HR19 ⊢
      clear hbb19
      cases bb19
      focus
       replace HR19 := Hh (q_iff HR19.out)
       go_wp2_with fail
       refine mQ ((IH.out n (Nat.le_refl _)).f_until [59] _ _ HP19.out (qne HR19.out HN.out)) HR19 HN HK19 (fun _ _ h => ⟨rfl, h⟩) ?_
       refine ?S1a
      rotate_left 1
      focus
       replace HR19 := Hh (q_ift HR19.out)
       go_wp2_with fail
       refine mQ ((IH.out n (Nat.le_refl _)).f_declaration  _ _ HP19.out (qne HR19.out HN.out)) HR19 HN HK19 (fun _ _ h => ⟨rfl, h⟩) ?_
       refine ?S1b
      case S1a | S1b =>
       rintro v20 s20 y20 w20 HR20 rfl HP20 hkk HK20
       have HBarg20 := Hh (HBarg19.out.kp hkk)
       clear hkk
       go_wp2_with fail
       refine mQ ((IH.out n (Nat.le_refl _)).f_until [59] _ _ HP20.out (qne HR20.out HN.out)) HR20 HN HK20 (fun _ _ h => ⟨rfl, h⟩) ?_
       rintro v21 s21 y21 w21 HR21 rfl HP21 hkk HK21
       have HBarg21 := Hh (HBarg20.out.kp hkk)
       clear hkk
       go_wp2_with fail
       refine mQ ((IH.out n (Nat.le_refl _)).f_until [41] _ _ HP21.out (qne HR21.out HN.out)) HR21 HN HK21 (fun _ _ h => ⟨rfl, h⟩) ?_
       rintro v22 s22 y22 w22 HR22 rfl HP22 hkk HK22
       have HBarg22 := Hh (HBarg21.out.kp hkk)
       clear hkk
       go_wp2_with fail
       refine mQ ((IH.out n (Nat.le_refl _)).f_part  _ _ HP22.out (qne HR22.out HN.out)) HR22 HN HK22 (fun _ _ h => ⟨rfl, h⟩) ?_
       rintro v23 s23 y23 w23 HR23 rfl HP23 hkk HK23
       have HBarg23 := Hh (HBarg22.out.kp hkk)
       clear hkk
       obtain ⟨d0, d1⟩ := HBarg23.out.cells
       go_wp2_with fail
       refine mR (wk_node hE 31 h _ _ HP23.out (qne HR23.out HN.out)) HR23 HN HK23 (fun _ _ h => ⟨rfl, h⟩) ?_
       rintro v24 s24 w24 HR24 HP24 hkk HK24
       have HBarg24 := Hh (HBarg23.out.kp hkk)
       clear hkk
       try clear d0 d1
       skip
       go_wp2_with fail
       exact ⟨rfl, .tuple #[], by simp [results, Tryz.results182, go_sem], q_ok (q_pure HR24.out) rfl HP24.out HK24.out⟩
     ·have fxx_4 : (xB.toList == [102, 111, 114]) = false := HXarg.out ▸ str_no htx_4
      replace HR0 := Hh (q_neg HR0.out (by simp [htx_0, htx_1, htx_2, htx_3, htx_4]))
      replace HR0 := Hh (q_neg HR0.out (by simp [htx_0, htx_1, htx_2, htx_3, htx_4]))
      replace HR0 := Hh (q_neg HR0.out (by simp [htx_0, htx_1, htx_2, htx_3, htx_4]))
      replace HR0 := Hh (q_neg HR0.out (by simp [htx_0, htx_1, htx_2, htx_3, htx_4]))
      replace HR0 := Hh (q_neg HR0.out (by simp [htx_0, htx_1, htx_2, htx_3, htx_4]))
      go_wp2_with fail
      try rw [hbarg]
      exact ⟨rfl, .tuple #[], by simp [results, Tryz.results182, go_sem], q_ok (q_pure HR0.out) rfl HP0.out HK0.out⟩
end Go.Proofs.YtlboejdhmggjpaaGreat.Pp

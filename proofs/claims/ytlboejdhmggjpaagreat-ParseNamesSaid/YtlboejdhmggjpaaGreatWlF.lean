/- parse: array. -/
import Derived.Test.YtlboejdhmggjpaaGreatWlA
set_option linter.all false
namespace Go.Proofs.YtlboejdhmggjpaaGreat.Pp
set_option maxRecDepth 100000
set_option maxHeartbeats 16000000
open Go.RowKit Go.BigFrame Go.Proofs.YtlboejdhmggjpaaGreat

theorem w_array {E : En} (hE : E.ok) {n : Nat} (ih : ∀ m, m ≤ n → Wk E m)  (s : Ps) (w : World) (hp : PW E w s) (hne : run E.L E.base (n + 1) (.array) s ≠ .out) : Calls Tryz.prog 124 #[.pointer (some ⟨E.pb, 0, none⟩)] w (EndQ E vaU w (run E.L E.base (n + 1) (.array) s)) := by
 obtain ⟨r, hr⟩ : ∃ r, run E.L E.base (n + 1) (.array) s = r := ⟨_, rfl⟩
 rw [hr] at hne ⊢
 rw [run] at hr
 have HN := Hh hne
 have HR0 := Hh hr
 have HP0 := Hh hp
 have HK0 := Hh (KP.refl w)
 have IH := Hh ih
 clear hne hr hp ih
 go_enter Tryz.func124, Tryz.ntmps124
 go_wp2_with fail
 refine mR (wk_here hE _ _ HP0.out) HR0 HN HK0 (fun _ _ h => ⟨rfl, h⟩) ?_
 rintro v1 s1 w1 HR1 HP1 - HK1
 have HBn := Hh (HdB.new w1 v1)
 have HPn := Hh (HP1.out.ext hE (below_alloc w1 (.cells #[.int .i64 v1.1, .int .i64 v1.2] 77)))
 have HKn := Hh (HK1.out.trans (KP.of_below (below_alloc w1 (.cells #[.int .i64 v1.1, .int .i64 v1.2] 77))))
 have HPo1 := Hh HP1.out
 have HKo1 := Hh HK1.out
 clear HP1 HK1
 have HP1 := Hh HPn.out
 have HK1 := Hh HKn.out
 clear HPn HKn
 simp only [hdV]
 obtain ⟨bh, hbh⟩ : ∃ b, w1.heap.size = b := ⟨_, rfl⟩
 have HBh1 := Hh (hbh ▸ HBn.out)
 clear HBn
 go_wp2_with fail
 try rw [hbh]
 refine mR (wk_need hE [91] _ _ HP1.out) HR1 HN HK1 (fun _ _ h => ⟨rfl, h⟩) ?_
 rintro v2 s2 w2 HR2 HP2 hkk HK2
 have HBh2 := Hh (HBh1.out.kp hkk)
 clear hkk
 go_wp2_with fail
 refine mR (wk_tookWord hE [115, 116, 97, 116, 105, 99] _ _ HP2.out) HR2 HN HK2 (fun _ _ h => ⟨rfl, h⟩) ?_
 rintro v3 s3 w3 HR3 HP3 hkk HK3
 have HBh3 := Hh (HBh2.out.kp hkk)
 clear hkk
 obtain ⟨bb3, hbb3⟩ : ∃ bb, v3 = bb := ⟨_, rfl⟩
 rw [hbb3] at HR3 ⊢
 clear hbb3
 cases bb3
 ·replace HR3 := Hh (q_iff HR3.out)
  with_reducible replace HR3 := Hh (q_assoc HR3.out)
  go_wp2_with fail
  refine mR (wk_quals hE _ _ HP3.out) HR3 HN HK3 (fun _ _ h => ⟨rfl, h⟩) ?_
  rintro v4 s4 w4 HR4 HP4 hkk HK4
  have HBh4 := Hh (HBh3.out.kp hkk)
  clear hkk
  obtain ⟨bb4, hbb4⟩ : ∃ bb, v4 = bb := ⟨_, rfl⟩
  rw [hbb4] at HR4 ⊢
  clear hbb4
  cases bb4
  focus
   replace HR4 := Hh (q_iffK HR4.out)
   with_reducible replace HR4 := Hh (q_assoc HR4.out)
   go_wp2_with fail
   with_reducible replace HR4 := Hh (q_pb HR4.out)
   with_reducible replace HR4 := Hh (q_assoc HR4.out)
   have hq := HR4.out
   first | replace hq := q_iffK hq | replace hq := q_iff hq | skip
   clear HR4
   have HR4 := Hh hq
   clear hq
   refine ?S1a
  rotate_left 1
  focus
   replace HR4 := Hh (q_iftK HR4.out)
   with_reducible replace HR4 := Hh (q_assoc HR4.out)
   go_wp2_with fail
   refine mR (wk_tookWord hE [115, 116, 97, 116, 105, 99] _ _ HP4.out) HR4 HN HK4 (fun _ _ h => ⟨rfl, h⟩) ?_
   rintro v19 s19 w19 HR19 HP19 hkk HK19
   have HBh19 := Hh (HBh4.out.kp hkk)
   clear hkk
   obtain ⟨bb19, hbb19⟩ : ∃ bb, v19 = bb := ⟨_, rfl⟩
   rw [hbb19] at HR19 ⊢
   clear hbb19
   cases bb19
   focus
    replace HR19 := Hh (q_iffK HR19.out)
    with_reducible replace HR19 := Hh (q_assoc HR19.out)
    have HP4 := HP19
    have HR4 := HR19
    have HK4 := HK19
    have HBh4 := HBh19
    refine ?S1b
   rotate_left 1
   ·replace HR19 := Hh (q_iftK HR19.out)
    go_wp2_with fail
    refine mQ ((IH.out n (Nat.le_refl _)).f_assign  _ _ HP19.out (qne HR19.out HN.out)) HR19 HN HK19 (fun _ _ h => ⟨rfl, h⟩) ?_
    rintro v34 s34 y34 w34 HR34 rfl HP34 hkk HK34
    have HBh34 := Hh (HBh19.out.kp hkk)
    clear hkk
    go_wp2_with fail
    refine mR (wk_need hE [93] _ _ HP34.out) HR34 HN HK34 (fun _ _ h => ⟨rfl, h⟩) ?_
    rintro v35 s35 w35 HR35 HP35 hkk HK35
    have HBh35 := Hh (HBh34.out.kp hkk)
    clear hkk
    obtain ⟨d0, d1⟩ := HBh35.out.cells
    go_wp2_with fail
    refine mR (wk_node hE 15 v1 _ _ HP35.out (qne HR35.out HN.out)) HR35 HN HK35 (fun _ _ h => ⟨rfl, h⟩) ?_
    rintro v36 s36 w36 HR36 HP36 hkk HK36
    have HBh36 := Hh (HBh35.out.kp hkk)
    clear hkk
    try clear d0 d1
    skip
    go_wp2_with fail
    exact ⟨rfl, .tuple #[], by simp [results, Tryz.results124, go_sem], q_ok (q_pure HR36.out) rfl HP36.out HK36.out⟩
  case S1a | S1b =>
   go_wp2_with fail
   refine mR (wk_sign hE 0 [93] _ _ (by omega) HP4.out) HR4 HN HK4 (fun _ _ h => ⟨rfl, h⟩) ?_
   rintro v5 s5 w5 HR5 HP5 hkk HK5
   have HBh5 := Hh (HBh4.out.kp hkk)
   clear hkk
   obtain ⟨bb5, hbb5⟩ : ∃ bb, v5 = bb := ⟨_, rfl⟩
   rw [hbb5] at HR5 ⊢
   clear hbb5
   cases bb5
   focus
    replace HR5 := Hh (q_iffK HR5.out)
    with_reducible replace HR5 := Hh (q_assoc HR5.out)
    go_wp2_with fail
    refine mR (wk_sign hE 0 [42] _ _ (by omega) HP5.out) HR5 HN HK5 (fun _ _ h => ⟨rfl, h⟩) ?_
    rintro v6 s6 w6 HR6 HP6 hkk HK6
    have HBh6 := Hh (HBh5.out.kp hkk)
    clear hkk
    with_reducible replace HR6 := Hh (q_assoc HR6.out)
    obtain ⟨bb6, hbb6⟩ : ∃ bb, v6 = bb := ⟨_, rfl⟩
    rw [hbb6] at HR6 ⊢
    clear hbb6
    cases bb6
    ·have hq := HR6.out
     replace hq := qone (x := sign E.L 1 [93]) hq rfl
     clear HR6
     have HR6 := Hh hq
     clear hq
     have hq := HR6.out
     simp only [Bool.false_and] at hq
     clear HR6
     have HR6 := Hh hq
     clear hq
     replace HR6 := Hh (q_negK HR6.out (by simp []))
     go_wp2_with fail
     refine mQ ((IH.out n (Nat.le_refl _)).f_assign  _ _ HP6.out (qne HR6.out HN.out)) HR6 HN HK6 (fun _ _ h => ⟨rfl, h⟩) ?_
     rintro v7 s7 y7 w7 HR7 rfl HP7 hkk HK7
     have HBh7 := Hh (HBh6.out.kp hkk)
     clear hkk
     go_wp2_with fail
     refine mR (wk_need hE [93] _ _ HP7.out) HR7 HN HK7 (fun _ _ h => ⟨rfl, h⟩) ?_
     rintro v8 s8 w8 HR8 HP8 hkk HK8
     have HBh8 := Hh (HBh7.out.kp hkk)
     clear hkk
     obtain ⟨d0, d1⟩ := HBh8.out.cells
     go_wp2_with fail
     refine mR (wk_node hE 15 v1 _ _ HP8.out (qne HR8.out HN.out)) HR8 HN HK8 (fun _ _ h => ⟨rfl, h⟩) ?_
     rintro v9 s9 w9 HR9 HP9 hkk HK9
     have HBh9 := Hh (HBh8.out.kp hkk)
     clear hkk
     try clear d0 d1
     skip
     go_wp2_with fail
     exact ⟨rfl, .tuple #[], by simp [results, Tryz.results124, go_sem], q_ok (q_pure HR9.out) rfl HP9.out HK9.out⟩
    focus
     have hq := HR6.out
     simp only [Bool.true_and] at hq
     clear HR6
     have HR6 := Hh hq
     clear hq
     go_wp2_with fail
     refine mR (wk_sign hE 1 [93] _ _ (by omega) HP6.out) HR6 HN HK6 (fun _ _ h => ⟨rfl, h⟩) ?_
     rintro v10 s10 w10 HR10 HP10 hkk HK10
     have HBh10 := Hh (HBh6.out.kp hkk)
     clear hkk
     obtain ⟨bb10, hbb10⟩ : ∃ bb, v10 = bb := ⟨_, rfl⟩
     rw [hbb10] at HR10 ⊢
     clear hbb10
     cases bb10
     ·replace HR10 := Hh (q_iffK HR10.out)
      go_wp2_with fail
      refine mQ ((IH.out n (Nat.le_refl _)).f_assign  _ _ HP10.out (qne HR10.out HN.out)) HR10 HN HK10 (fun _ _ h => ⟨rfl, h⟩) ?_
      rintro v11 s11 y11 w11 HR11 rfl HP11 hkk HK11
      have HBh11 := Hh (HBh10.out.kp hkk)
      clear hkk
      go_wp2_with fail
      refine mR (wk_need hE [93] _ _ HP11.out) HR11 HN HK11 (fun _ _ h => ⟨rfl, h⟩) ?_
      rintro v12 s12 w12 HR12 HP12 hkk HK12
      have HBh12 := Hh (HBh11.out.kp hkk)
      clear hkk
      obtain ⟨d0, d1⟩ := HBh12.out.cells
      go_wp2_with fail
      refine mR (wk_node hE 15 v1 _ _ HP12.out (qne HR12.out HN.out)) HR12 HN HK12 (fun _ _ h => ⟨rfl, h⟩) ?_
      rintro v13 s13 w13 HR13 HP13 hkk HK13
      have HBh13 := Hh (HBh12.out.kp hkk)
      clear hkk
      try clear d0 d1
      skip
      go_wp2_with fail
      exact ⟨rfl, .tuple #[], by simp [results, Tryz.results124, go_sem], q_ok (q_pure HR13.out) rfl HP13.out HK13.out⟩
     focus
      replace HR10 := Hh (q_iftK HR10.out)
      with_reducible replace HR10 := Hh (q_assoc HR10.out)
      obtain ⟨hle14, hr14⟩ := q_step HR10.out HN.out
      obtain ⟨c1, f1, -⟩ := HP10.out.at
      have hpb := HP10.out.lt
      obtain ⟨q141, q142⟩ := HP10.out.on hE hle14
      have hLn := hE.len
      obtain ⟨a14, hat14⟩ : ∃ a, Ps.at' s10 = a := ⟨_, rfl⟩
      rw [hat14] at c1 hle14 hr14 q141 q142
      have hi : a14 < 100000 := by omega
      obtain ⟨s14, hs14⟩ : ∃ t : Ps, (⟨a14 + 1, s10.done, s10.nm⟩ : Ps) = t := ⟨_, rfl⟩
      rw [hs14] at hr14 q141
      clear hs14
      have HR14 := Hh hr14
      have HP14 := Hh q141
      have HK14 := Hh (HK10.out.trans q142)
      have HBh14 := Hh (HBh10.out.kp q142)
      have HAT14 := Hh hat14
      clear q141 q142 hr14 hle14 hLn hat14
      go_wp2_with fail
      try clear c1 f1 hpb hi
      refine ?S2a
   rotate_left 1
   focus
    replace HR5 := Hh (q_iftK HR5.out)
    go_wp2_with fail
    have HR14 := HR5
    have HP14 := HP5
    have HK14 := HK5
    have HBh14 := HBh5
    refine ?S2b
   case S2a | S2b =>
    with_reducible replace HR14 := Hh (q_pb HR14.out)
    refine mR (wk_need hE [93] _ _ HP14.out) HR14 HN HK14 (fun _ _ h => ⟨rfl, h⟩) ?_
    rintro v15 s15 w15 HR15 HP15 hkk HK15
    have HBh15 := Hh (HBh14.out.kp hkk)
    clear hkk
    obtain ⟨d0, d1⟩ := HBh15.out.cells
    go_wp2_with fail
    refine mR (wk_node hE 15 v1 _ _ HP15.out (qne HR15.out HN.out)) HR15 HN HK15 (fun _ _ h => ⟨rfl, h⟩) ?_
    rintro v16 s16 w16 HR16 HP16 hkk HK16
    have HBh16 := Hh (HBh15.out.kp hkk)
    clear hkk
    try clear d0 d1
    skip
    go_wp2_with fail
    exact ⟨rfl, .tuple #[], by simp [results, Tryz.results124, go_sem], q_ok (q_pure HR16.out) rfl HP16.out HK16.out⟩
 ·replace HR3 := Hh (q_ift HR3.out)
  with_reducible replace HR3 := Hh (q_assoc HR3.out)
  go_wp2_with fail
  refine mR (wk_quals hE _ _ HP3.out) HR3 HN HK3 (fun _ _ h => ⟨rfl, h⟩) ?_
  rintro v37 s37 w37 HR37 HP37 hkk HK37
  have HBh37 := Hh (HBh3.out.kp hkk)
  clear hkk
  go_wp2_with fail
  refine mQ ((IH.out n (Nat.le_refl _)).f_assign  _ _ HP37.out (qne HR37.out HN.out)) HR37 HN HK37 (fun _ _ h => ⟨rfl, h⟩) ?_
  rintro v38 s38 y38 w38 HR38 rfl HP38 hkk HK38
  have HBh38 := Hh (HBh37.out.kp hkk)
  clear hkk
  go_wp2_with fail
  refine mR (wk_need hE [93] _ _ HP38.out) HR38 HN HK38 (fun _ _ h => ⟨rfl, h⟩) ?_
  rintro v39 s39 w39 HR39 HP39 hkk HK39
  have HBh39 := Hh (HBh38.out.kp hkk)
  clear hkk
  obtain ⟨d0, d1⟩ := HBh39.out.cells
  go_wp2_with fail
  refine mR (wk_node hE 15 v1 _ _ HP39.out (qne HR39.out HN.out)) HR39 HN HK39 (fun _ _ h => ⟨rfl, h⟩) ?_
  rintro v40 s40 w40 HR40 HP40 hkk HK40
  have HBh40 := Hh (HBh39.out.kp hkk)
  clear hkk
  try clear d0 d1
  skip
  go_wp2_with fail
  exact ⟨rfl, .tuple #[], by simp [results, Tryz.results124, go_sem], q_ok (q_pure HR40.out) rfl HP40.out HK40.out⟩
end Go.Proofs.YtlboejdhmggjpaaGreat.Pp

/- WlF -/
namespace Go.Proofs.YtlboejdhmggjpaaGreat.Pp
set_option maxRecDepth 100000
set_option maxHeartbeats 16000000
open Go.RowKit Go.BigFrame Go.Proofs.YtlboejdhmggjpaaGreat

theorem w_statement {E : En} (hE : E.ok) {n : Nat} (ih : ∀ m, m ≤ n → Wk E m)  (s : Ps) (w : World) (hp : PW E w s) (hne : run E.L E.base (n + 1) (.statement) s ≠ .out) : Calls Tryz.prog 129 #[.pointer (some ⟨E.pb, 0, none⟩)] w (EndQ E vaU w (run E.L E.base (n + 1) (.statement) s)) := by
 obtain ⟨r, hr⟩ : ∃ r, run E.L E.base (n + 1) (.statement) s = r := ⟨_, rfl⟩
 rw [hr] at hne ⊢
 rw [run] at hr
 have HN := Hh hne
 have HR0 := Hh hr
 have HP0 := Hh hp
 have HK0 := Hh (KP.refl w)
 have IH := Hh ih
 clear hne hr hp ih
 go_enter Tryz.func129, Tryz.ntmps129
 go_wp2_with fail
 refine mR (wk_here hE _ _ HP0.out) HR0 HN HK0 (fun _ _ h => ⟨rfl, h⟩) ?_
 rintro v1 s1 w1 HR1 HP1 - HK1
 have HBn := Hh (HdB.new w1 v1)
 have HPn := Hh (HP1.out.ext hE (below_alloc w1 (.cells #[.int .i64 v1.1, .int .i64 v1.2] 77)))
 have HKn := Hh (HK1.out.trans (KP.of_below (below_alloc w1 (.cells #[.int .i64 v1.1, .int .i64 v1.2] 77))))
 have HPo1 := Hh HP1.out
 have HKo1 := Hh HK1.out
 clear HP1 HK1
 have HP1 := Hh HPn.out
 have HK1 := Hh HKn.out
 clear HPn HKn
 simp only [hdV]
 obtain ⟨bh, hbh⟩ : ∃ b, w1.heap.size = b := ⟨_, rfl⟩
 have HBh1 := Hh (hbh ▸ HBn.out)
 clear HBn
 go_wp2_with fail
 try rw [hbh]
 obtain ⟨T, hT⟩ : ∃ T, peekS E.L s1 0 = T := ⟨_, rfl⟩
 have hxl : T.t.length ≤ maxLen := by rw [← hT]; exact peek_txt hE _ 0
 have pk := wk_peek hE 0 _ _ (by omega) HP1.out
 rw [hT] at pk
 have hq := qone (x := peek E.L 0) HR1.out rfl
 rw [hT] at hq
 clear hT
 obtain ⟨c2, t2⟩ := T
 unfold ctV at pk
 dsimp only at pk hq hxl
 obtain ⟨x2, hxs⟩ : ∃ x : ByteArray, str t2 = x := ⟨_, rfl⟩
 obtain ⟨z2, hzs⟩ : ∃ z : Int, (c2 : Int) = z := ⟨_, rfl⟩
 rw [hxs, hzs] at pk
 have HX2 := Hh hxs
 have HZ2 := Hh hzs
 have HL2 := Hh hxl
 have HR2 := Hh hq
 have PK := Hh pk
 clear hxs hzs hxl hq pk
 refine PK.out.mono ?_
 rintro e w2 ⟨rfl, hbl⟩
 have HBL := Hh hbl
 clear hbl PK
 have HPo2 := Hh (HP1.out.ext hE HBL.out)
 have HKo2 := Hh (HK1.out.trans (KP.of_below HBL.out))
 have HP2 := Hh (HPo2.out.ext hE (below_alloc w2 (.cells #[.int .i64 z2, .string x2] 54)))
 have HK2 := Hh (HKo2.out.trans (KP.of_below (below_alloc w2 (.cells #[.int .i64 z2, .string x2] 54))))
 have HBoh2 := Hh (HBh1.out.kp (KP.of_below HBL.out))
 have HBh2 := Hh (HBoh2.out.kp (KP.of_below (below_alloc w2 (.cells #[.int .i64 z2, .string x2] 54))))
 obtain ⟨bt, hbt⟩ : ∃ b, w2.heap.size = b := ⟨_, rfl⟩
 have HBt2 := Hh (hbt ▸ CtB.new w2 z2 x2)
 by_cases hc21 : c2 = 1
 focus
  have fc21 : (z2 == 1) = true := by rw [← HZ2.out, hc21]; rfl
  have fn21 : (z2 != 1) = false := by rw [← HZ2.out, hc21]; rfl
  go_wp2_with fail
  try rw [hbt]
  refine mR (wk_labelled hE _ _ HP2.out) HR2 HN HK2 (fun _ _ h => ⟨rfl, h⟩) ?_
  rintro v3 s3 w3 HR3 HP3 hkk HK3
  have HBh3 := Hh (HBh2.out.kp hkk)
  have HBt3 := Hh (HBt2.out.kp hkk)
  clear hkk
  obtain ⟨bb3, hbb3⟩ : ∃ bb, v3 = bb := ⟨_, rfl⟩
  rw [hbb3] at HR3 ⊢
  clear hbb3
  cases bb3
  focus
   replace HR3 := Hh (q_iff HR3.out)
   obtain ⟨e0, e1⟩ := HBt3.out.cells
   obtain ⟨d0, d1⟩ := HBh3.out.cells
   go_wp2_with fail
   try clear e0 e1 d0 d1
   refine mR (wk_sign hE 0 [123] _ _ (by omega) HP3.out) HR3 HN HK3 (fun _ _ h => ⟨rfl, h⟩) ?_
   rintro v4 s4 w4 HR4 HP4 hkk HK4
   have HBh4 := Hh (HBh3.out.kp hkk)
   have HBt4 := Hh (HBt3.out.kp hkk)
   clear hkk
   obtain ⟨bb4, hbb4⟩ : ∃ bb, v4 = bb := ⟨_, rfl⟩
   rw [hbb4] at HR4 ⊢
   clear hbb4
   cases bb4
   focus
    replace HR4 := Hh (q_iff HR4.out)
    obtain ⟨e0, e1⟩ := HBt4.out.cells
    obtain ⟨d0, d1⟩ := HBh4.out.cells
    go_wp2_with fail
    try clear e0 e1 d0 d1
    replace HR4 := Hh (q_pos HR4.out (by simp [hc21]))
    have hc := (IH.out n (Nat.le_refl _)).f_keyword t2 v1 _ _ HP4.out (qne HR4.out HN.out)
    rw [HX2.out] at hc
    have HC := Hh hc
    clear hc
    refine mQ (HC.out) HR4 HN HK4 (fun _ _ h => ⟨rfl, h⟩) ?_
    rintro v5 s5 y5 w5 HR5 rfl HP5 hkk HK5
    have HBh5 := Hh (HBh4.out.kp hkk)
    have HBt5 := Hh (HBt4.out.kp hkk)
    clear hkk
    clear HC
    obtain ⟨bb5, hbb5⟩ : ∃ bb, v5.bool = bb := ⟨_, rfl⟩
    rw [hbb5] at HR5 ⊢
    clear hbb5
    cases bb5
    focus
     replace HR5 := Hh (q_iff HR5.out)
     refine ?S3a
    rotate_left 1
    ·replace HR5 := Hh (q_ift HR5.out)
     obtain ⟨e0, e1⟩ := HBt5.out.cells
     obtain ⟨d0, d1⟩ := HBh5.out.cells
     go_wp2_with fail
     try clear e0 e1 d0 d1
     exact ⟨rfl, .tuple #[], by simp [results, Tryz.results129, go_sem], q_ok (q_pure HR5.out) rfl HP5.out HK5.out⟩
   rotate_left 1
   focus
    replace HR4 := Hh (q_ift HR4.out)
    refine ?S2a
  rotate_left 2
  focus
   replace HR3 := Hh (q_ift HR3.out)
   refine ?S1a
 rotate_left 3
 focus
  have fc21 : (z2 == 1) = false := by rw [← HZ2.out, beq_eq_false_iff_ne]; omega
  have fn21 : (z2 != 1) = true := by rw [← HZ2.out, bne_iff_ne]; omega
  obtain ⟨e0, e1⟩ := HBt2.out.cells
  obtain ⟨d0, d1⟩ := HBh2.out.cells
  go_wp2_with fail
  try clear e0 e1 d0 d1
  try rw [hbt]
  refine mR (wk_labelled hE _ _ HP2.out) HR2 HN HK2 (fun _ _ h => ⟨rfl, h⟩) ?_
  rintro v14 s14 w14 HR14 HP14 hkk HK14
  have HBh14 := Hh (HBh2.out.kp hkk)
  have HBt14 := Hh (HBt2.out.kp hkk)
  clear hkk
  obtain ⟨bb14, hbb14⟩ : ∃ bb, v14 = bb := ⟨_, rfl⟩
  rw [hbb14] at HR14 ⊢
  clear hbb14
  cases bb14
  focus
   replace HR14 := Hh (q_iff HR14.out)
   obtain ⟨e0, e1⟩ := HBt14.out.cells
   obtain ⟨d0, d1⟩ := HBh14.out.cells
   go_wp2_with fail
   try clear e0 e1 d0 d1
   refine mR (wk_sign hE 0 [123] _ _ (by omega) HP14.out) HR14 HN HK14 (fun _ _ h => ⟨rfl, h⟩) ?_
   rintro v15 s15 w15 HR15 HP15 hkk HK15
   have HBh15 := Hh (HBh14.out.kp hkk)
   have HBt15 := Hh (HBt14.out.kp hkk)
   clear hkk
   obtain ⟨bb15, hbb15⟩ : ∃ bb, v15 = bb := ⟨_, rfl⟩
   rw [hbb15] at HR15 ⊢
   clear hbb15
   cases bb15
   focus
    replace HR15 := Hh (q_iff HR15.out)
    obtain ⟨e0, e1⟩ := HBt15.out.cells
    obtain ⟨d0, d1⟩ := HBh15.out.cells
    go_wp2_with fail
    try clear e0 e1 d0 d1
    replace HR15 := Hh (q_neg HR15.out (by simp [hc21]))
    with_reducible replace HR15 := Hh (q_pb HR15.out)
    have hq := HR15.out
    first | replace hq := q_iff hq | skip
    clear HR15
    have HR15 := Hh hq
    clear hq
    have HBt5 := HBt15
    have HBh5 := HBh15
    have HP5 := HP15
    have HR5 := HR15
    have HK5 := HK15
    refine ?S3b
   rotate_left 1
   focus
    replace HR15 := Hh (q_ift HR15.out)
    have HBt4 := HBt15
    have HBh4 := HBh15
    have HP4 := HP15
    have HR4 := HR15
    have HK4 := HK15
    refine ?S2b
  rotate_left 2
  focus
   replace HR14 := Hh (q_ift HR14.out)
   have HR3 := HR14
   have HP3 := HP14
   obtain ⟨s3, rfl⟩ : ∃ q, q = s14 := ⟨_, rfl⟩
   have HK3 := HK14
   have HBh3 := HBh14
   have HBt3 := HBt14
   refine ?S1b
 rotate_left 2
 case S1a | S1b =>
  obtain ⟨hle11, hr11⟩ := q_step HR3.out HN.out
  obtain ⟨c1, f1, -⟩ := HP3.out.at
  have hpb := HP3.out.lt
  obtain ⟨q111, q112⟩ := HP3.out.on hE hle11
  have hLn := hE.len
  obtain ⟨a11, hat11⟩ : ∃ a, Ps.at' s3 = a := ⟨_, rfl⟩
  rw [hat11] at c1 hle11 hr11 q111 q112
  have hi : a11 < 100000 := by omega
  obtain ⟨s11, hs11⟩ : ∃ t : Ps, (⟨a11 + 2, s3.done, s3.nm⟩ : Ps) = t := ⟨_, rfl⟩
  rw [hs11] at hr11 q111
  clear hs11
  have HR11 := Hh hr11
  have HP11 := Hh q111
  have HK11 := Hh (HK3.out.trans q112)
  have HBh11 := Hh (HBh3.out.kp q112)
  have HBt11 := Hh (HBt3.out.kp q112)
  have HAT11 := Hh hat11
  clear q111 q112 hr11 hle11 hLn hat11
  obtain ⟨e0, e1⟩ := HBt11.out.cells
  obtain ⟨d0, d1⟩ := HBh11.out.cells
  go_wp2_with fail
  try clear e0 e1 d0 d1
  try clear c1 f1 hpb hi
  refine mQ ((IH.out n (Nat.le_refl _)).f_statement  _ _ HP11.out (qne HR11.out HN.out)) HR11 HN HK11 (fun _ _ h => ⟨rfl, h⟩) ?_
  rintro v12 s12 y12 w12 HR12 rfl HP12 hkk HK12
  have HBh12 := Hh (HBh11.out.kp hkk)
  have HBt12 := Hh (HBt11.out.kp hkk)
  clear hkk
  obtain ⟨e0, e1⟩ := HBt12.out.cells
  obtain ⟨d0, d1⟩ := HBh12.out.cells
  obtain ⟨d0, d1⟩ := HBh12.out.cells
  go_wp2_with fail
  try clear e0 e1 d0 d1
  refine mR (wk_node hE 23 v1 _ _ HP12.out (qne HR12.out HN.out)) HR12 HN HK12 (fun _ _ h => ⟨rfl, h⟩) ?_
  rintro v13 s13 w13 HR13 HP13 hkk HK13
  have HBh13 := Hh (HBh12.out.kp hkk)
  have HBt13 := Hh (HBt12.out.kp hkk)
  clear hkk
  try clear d0 d1
  skip
  obtain ⟨e0, e1⟩ := HBt13.out.cells
  obtain ⟨d0, d1⟩ := HBh13.out.cells
  go_wp2_with fail
  try clear e0 e1 d0 d1
  exact ⟨rfl, .tuple #[], by simp [results, Tryz.results129, go_sem], q_ok (q_pure HR13.out) rfl HP13.out HK13.out⟩
 case S2a | S2b =>
  obtain ⟨e0, e1⟩ := HBt4.out.cells
  obtain ⟨d0, d1⟩ := HBh4.out.cells
  go_wp2_with fail
  try clear e0 e1 d0 d1
  refine mR (wk_open hE _ _ HP4.out (qne HR4.out HN.out)) HR4 HN HK4 (fun _ _ h => ⟨rfl, h⟩) ?_
  rintro v8 s8 w8 HR8 HP8 hkk HK8
  have HBh8 := Hh (HBh4.out.kp hkk)
  have HBt8 := Hh (HBt4.out.kp hkk)
  clear hkk
  obtain ⟨e0, e1⟩ := HBt8.out.cells
  obtain ⟨d0, d1⟩ := HBh8.out.cells
  go_wp2_with fail
  try clear e0 e1 d0 d1
  refine mQ ((IH.out n (Nat.le_refl _)).f_items  _ _ HP8.out (qne HR8.out HN.out)) HR8 HN HK8 (fun _ _ h => ⟨rfl, h⟩) ?_
  rintro v9 s9 y9 w9 HR9 rfl HP9 hkk HK9
  have HBh9 := Hh (HBh8.out.kp hkk)
  have HBt9 := Hh (HBt8.out.kp hkk)
  clear hkk
  obtain ⟨e0, e1⟩ := HBt9.out.cells
  obtain ⟨d0, d1⟩ := HBh9.out.cells
  go_wp2_with fail
  try clear e0 e1 d0 d1
  refine mR (wk_close hE _ _ HP9.out (qne HR9.out HN.out)) HR9 HN HK9 (fun _ _ h => ⟨rfl, h⟩) ?_
  rintro v10 s10 w10 HR10 HP10 hkk HK10
  have HBh10 := Hh (HBh9.out.kp hkk)
  have HBt10 := Hh (HBt9.out.kp hkk)
  clear hkk
  obtain ⟨e0, e1⟩ := HBt10.out.cells
  obtain ⟨d0, d1⟩ := HBh10.out.cells
  go_wp2_with fail
  try clear e0 e1 d0 d1
  exact ⟨rfl, .tuple #[], by simp [results, Tryz.results129, go_sem], q_ok (q_pure HR10.out) rfl HP10.out HK10.out⟩
 case S3a | S3b =>
  obtain ⟨e0, e1⟩ := HBt5.out.cells
  obtain ⟨d0, d1⟩ := HBh5.out.cells
  go_wp2_with fail
  try clear e0 e1 d0 d1
  refine mQ ((IH.out n (Nat.le_refl _)).f_until [59] _ _ HP5.out (qne HR5.out HN.out)) HR5 HN HK5 (fun _ _ h => ⟨rfl, h⟩) ?_
  rintro v6 s6 y6 w6 HR6 rfl HP6 hkk HK6
  have HBh6 := Hh (HBh5.out.kp hkk)
  have HBt6 := Hh (HBt5.out.kp hkk)
  clear hkk
  obtain ⟨e0, e1⟩ := HBt6.out.cells
  obtain ⟨d0, d1⟩ := HBh6.out.cells
  obtain ⟨d0, d1⟩ := HBh6.out.cells
  go_wp2_with fail
  try clear e0 e1 d0 d1
  refine mR (wk_node hE 26 v1 _ _ HP6.out (qne HR6.out HN.out)) HR6 HN HK6 (fun _ _ h => ⟨rfl, h⟩) ?_
  rintro v7 s7 w7 HR7 HP7 hkk HK7
  have HBh7 := Hh (HBh6.out.kp hkk)
  have HBt7 := Hh (HBt6.out.kp hkk)
  clear hkk
  try clear d0 d1
  skip
  obtain ⟨e0, e1⟩ := HBt7.out.cells
  obtain ⟨d0, d1⟩ := HBh7.out.cells
  go_wp2_with fail
  try clear e0 e1 d0 d1
  exact ⟨rfl, .tuple #[], by simp [results, Tryz.results129, go_sem], q_ok (q_pure HR7.out) rfl HP7.out HK7.out⟩
end Go.Proofs.YtlboejdhmggjpaaGreat.Pp

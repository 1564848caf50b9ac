/- parse: primary. -/
import Derived.Test.YtlboejdhmggjpaaGreatWlA
set_option linter.all false
namespace Go.Proofs.YtlboejdhmggjpaaGreat.Pp
set_option maxRecDepth 100000
set_option maxHeartbeats 16000000
open Go.RowKit Go.BigFrame Go.Proofs.YtlboejdhmggjpaaGreat

theorem w_primary {E : En} (hE : E.ok) {n : Nat} (ih : ∀ m, m ≤ n → Wk E m)  (s : Ps) (w : World) (hp : PW E w s) (hne : run E.L E.base (n + 1) (.primary) s ≠ .out) : Calls Tryz.prog 199 #[.pointer (some ⟨E.pb, 0, none⟩)] w (EndQ E vaU w (run E.L E.base (n + 1) (.primary) s)) := by
 obtain ⟨r, hr⟩ : ∃ r, run E.L E.base (n + 1) (.primary) s = r := ⟨_, rfl⟩
 rw [hr] at hne ⊢
 rw [run] at hr
 have HN := Hh hne
 have HR0 := Hh hr
 have HP0 := Hh hp
 have HK0 := Hh (KP.refl w)
 have IH := Hh ih
 clear hne hr hp ih
 go_enter Tryz.func199, Tryz.ntmps199
 go_wp2_with fail
 refine mR (wk_here hE _ _ HP0.out) HR0 HN HK0 (fun _ _ h => ⟨rfl, h⟩) ?_
 rintro v1 s1 w1 HR1 HP1 - HK1
 have HBn := Hh (HdB.new w1 v1)
 have HPn := Hh (HP1.out.ext hE (below_alloc w1 (.cells #[.int .i64 v1.1, .int .i64 v1.2] 77)))
 have HKn := Hh (HK1.out.trans (KP.of_below (below_alloc w1 (.cells #[.int .i64 v1.1, .int .i64 v1.2] 77))))
 have HPo1 := Hh HP1.out
 have HKo1 := Hh HK1.out
 clear HP1 HK1
 have HP1 := Hh HPn.out
 have HK1 := Hh HKn.out
 clear HPn HKn
 simp only [hdV]
 obtain ⟨bh, hbh⟩ : ∃ b, w1.heap.size = b := ⟨_, rfl⟩
 have HBh1 := Hh (hbh ▸ HBn.out)
 clear HBn
 go_wp2_with fail
 try rw [hbh]
 obtain ⟨T, hT⟩ : ∃ T, peekS E.L s1 0 = T := ⟨_, rfl⟩
 have hxl : T.t.length ≤ maxLen := by rw [← hT]; exact peek_txt hE _ 0
 have pk := wk_peek hE 0 _ _ (by omega) HP1.out
 rw [hT] at pk
 have hq := qone (x := peek E.L 0) HR1.out rfl
 rw [hT] at hq
 clear hT
 obtain ⟨c2, t2⟩ := T
 unfold ctV at pk
 dsimp only at pk hq hxl
 obtain ⟨x2, hxs⟩ : ∃ x : ByteArray, str t2 = x := ⟨_, rfl⟩
 obtain ⟨z2, hzs⟩ : ∃ z : Int, (c2 : Int) = z := ⟨_, rfl⟩
 rw [hxs, hzs] at pk
 have HX2 := Hh hxs
 have HZ2 := Hh hzs
 have HL2 := Hh hxl
 have HR2 := Hh hq
 have PK := Hh pk
 clear hxs hzs hxl hq pk
 refine PK.out.mono ?_
 rintro e w2 ⟨rfl, hbl⟩
 have HBL := Hh hbl
 clear hbl PK
 have HPo2 := Hh (HP1.out.ext hE HBL.out)
 have HKo2 := Hh (HK1.out.trans (KP.of_below HBL.out))
 have HP2 := Hh (HPo2.out.ext hE (below_alloc w2 (.cells #[.int .i64 z2, .string x2] 54)))
 have HK2 := Hh (HKo2.out.trans (KP.of_below (below_alloc w2 (.cells #[.int .i64 z2, .string x2] 54))))
 have HBoh2 := Hh (HBh1.out.kp (KP.of_below HBL.out))
 have HBh2 := Hh (HBoh2.out.kp (KP.of_below (below_alloc w2 (.cells #[.int .i64 z2, .string x2] 54))))
 obtain ⟨bt, hbt⟩ : ∃ b, w2.heap.size = b := ⟨_, rfl⟩
 have HBt2 := Hh (hbt ▸ CtB.new w2 z2 x2)
 have hq := HR2.out
 replace hq := qone (x := get') hq rfl
 clear HR2
 have HR2 := Hh hq
 clear hq
 by_cases hc22 : c2 = 2
 focus
  have fc22 : (z2 == 2) = true := by rw [← HZ2.out, hc22]; rfl
  have fn22 : (z2 != 2) = false := by rw [← HZ2.out, hc22]; rfl
  have fc23 : (z2 == 3) = false := by rw [← HZ2.out, beq_eq_false_iff_ne]; omega
  have fn23 : (z2 != 3) = true := by rw [← HZ2.out, bne_iff_ne]; omega
  have fc24 : (z2 == 4) = false := by rw [← HZ2.out, beq_eq_false_iff_ne]; omega
  have fn24 : (z2 != 4) = true := by rw [← HZ2.out, bne_iff_ne]; omega
  have fc25 : (z2 == 5) = false := by rw [← HZ2.out, beq_eq_false_iff_ne]; omega
  have fn25 : (z2 != 5) = true := by rw [← HZ2.out, bne_iff_ne]; omega
  have fc26 : (z2 == 6) = false := by rw [← HZ2.out, beq_eq_false_iff_ne]; omega
  have fn26 : (z2 != 6) = true := by rw [← HZ2.out, bne_iff_ne]; omega
  have hq := HR2.out
  obtain ⟨B2, hB⟩ : ∃ B, Ns.isType E.base s1.nm t2 = B := ⟨_, rfl⟩
  rw [hB] at hq
  clear HR2
  have HR2 := Hh hq
  have IS := Hh (fun (W : World) (hW : PW E W s1) => (by have h := wk_isType hE t2 s1 W HL2.out hW; rw [hB, HX2.out] at h; exact h : Calls Tryz.prog 74 #[.pointer (some ⟨E.pb, 3, none⟩), .string x2] W fun e w' => e = .returned (.bool B2) ∧ Below W.heap.size W w'))
  clear hB hq
  cases B2
  ·go_wp2_with fail
   try rw [hbt]
   obtain ⟨W3, hW3⟩ : ∃ W, W = w2.alloc (.cells #[.int .i64 z2, .string x2] 54) := ⟨_, rfl⟩
   have hpW : PW E W3 s1 := hW3 ▸ HP2.out
   have hkW : KP w W3 := hW3 ▸ HK2.out
   have hbWh : HdB W3 bh v1 := hW3 ▸ HBh2.out
   have hbWt : CtB W3 bt z2 x2 := hW3 ▸ HBt2.out
   rw [← hW3]
   clear hW3
   have g1 : ∀ u : Ext W3, u.w.cell? ⟨bt, 1, none⟩ = some (.string x2) := fun u => u.cell hbWt.cells.2
   have g0 : ∀ u : Ext W3, u.w.cell? ⟨bt, 0, none⟩ = some (.int .i64 z2) := fun u => u.cell hbWt.cells.1
   have HPW := Hh hpW
   clear hpW
   refine wp_region_quiet (C := fun w' => ∃ u : Ext W3, w' = u.w) (by kernel_rfl) (by kernel_rfl) (Ext.drew W3) ?_
   dsimp only []
   repeat (go_big_quiet_step ((go_at_call 74; rename_i u; refine (IS.out _ (HPW.out.ext hE u.below)).mono ?_; rintro e w2 ⟨rfl, b2⟩; exact ⟨rfl, u.on b2⟩)))
   refine wpQuiet_nil ?_
   rintro w' ⟨u, rfl⟩
   obtain ⟨w3, hw⟩ : ∃ w', w' = u.w := ⟨_, rfl⟩
   have hbe := u.below
   rw [← hw] at hbe ⊢
   have HP3 := Hh (HPW.out.ext hE hbe)
   have HK3 := Hh (hkW.trans (KP.of_below hbe))
   have HBh3 := Hh (hbWh.kp (KP.of_below hbe))
   have HBt3 := Hh (hbWt.kp (KP.of_below hbe))
   clear hw hbe hkW HPW IS g0 g1 hbWh hbWt
   clear u
   have HR3 := Hh HR2.out
   obtain ⟨e0, e1⟩ := HBt3.out.cells
   replace HR3 := Hh (q_pos HR3.out (by simp [hc22]))
   obtain ⟨hle4, hr4⟩ := q_step HR3.out HN.out
   obtain ⟨c1, f1, -⟩ := HP3.out.at
   have hpb := HP3.out.lt
   obtain ⟨d0, d1⟩ := HBh3.out.cells
   have hne1 : ¬ E.pb = bh := HBh3.out.ne HP3.out
   obtain ⟨q41, q42⟩ := HP3.out.on hE hle4
   have hLn := hE.len
   obtain ⟨a4, hat4⟩ : ∃ a, Ps.at' s1 = a := ⟨_, rfl⟩
   rw [hat4] at c1 hle4 hr4 q41 q42
   have hi : a4 < 100000 := by omega
   obtain ⟨s4, hs4⟩ : ∃ t : Ps, (⟨a4 + 1, s1.done, s1.nm⟩ : Ps) = t := ⟨_, rfl⟩
   rw [hs4] at hr4 q41
   clear hs4
   have HR4 := Hh hr4
   have HP4 := Hh q41
   have HK4 := Hh (HK3.out.trans q42)
   have HBh4 := Hh (HBh3.out.kp q42)
   have HBt4 := Hh (HBt3.out.kp q42)
   have HAT4 := Hh hat4
   clear q41 q42 hr4 hle4 hLn hat4
   go_wp2_with fail
   try clear c1 f1 hpb hi
   refine mR (wk_node hE 57 v1 _ _ HP4.out (qne HR4.out HN.out)) HR4 HN HK4 (fun _ _ h => ⟨rfl, h⟩) ?_
   rintro v5 s5 w5 HR5 HP5 hkk HK5
   have HBh5 := Hh (HBh4.out.kp hkk)
   have HBt5 := Hh (HBt4.out.kp hkk)
   clear hkk
   try clear d0 d1
   skip
   go_wp2_with fail
   exact ⟨rfl, .tuple #[], by simp [results, Tryz.results199, go_sem], q_ok (q_pure HR5.out) rfl HP5.out HK5.out⟩
  focus
   go_wp2_with fail
   try rw [hbt]
   obtain ⟨W6, hW6⟩ : ∃ W, W = w2.alloc (.cells #[.int .i64 z2, .string x2] 54) := ⟨_, rfl⟩
   have hpW : PW E W6 s1 := hW6 ▸ HP2.out
   have hkW : KP w W6 := hW6 ▸ HK2.out
   have hbWh : HdB W6 bh v1 := hW6 ▸ HBh2.out
   have hbWt : CtB W6 bt z2 x2 := hW6 ▸ HBt2.out
   rw [← hW6]
   clear hW6
   have g1 : ∀ u : Ext W6, u.w.cell? ⟨bt, 1, none⟩ = some (.string x2) := fun u => u.cell hbWt.cells.2
   have g0 : ∀ u : Ext W6, u.w.cell? ⟨bt, 0, none⟩ = some (.int .i64 z2) := fun u => u.cell hbWt.cells.1
   have HPW := Hh hpW
   clear hpW
   refine wp_region_quiet (C := fun w' => ∃ u : Ext W6, w' = u.w) (by kernel_rfl) (by kernel_rfl) (Ext.drew W6) ?_
   dsimp only []
   repeat (go_big_quiet_step ((go_at_call 74; rename_i u; refine (IS.out _ (HPW.out.ext hE u.below)).mono ?_; rintro e w2 ⟨rfl, b2⟩; exact ⟨rfl, u.on b2⟩)))
   refine wpQuiet_nil ?_
   rintro w' ⟨u, rfl⟩
   obtain ⟨w6, hw⟩ : ∃ w', w' = u.w := ⟨_, rfl⟩
   have hbe := u.below
   rw [← hw] at hbe ⊢
   have HP6 := Hh (HPW.out.ext hE hbe)
   have HK6 := Hh (hkW.trans (KP.of_below hbe))
   have HBh6 := Hh (hbWh.kp (KP.of_below hbe))
   have HBt6 := Hh (hbWt.kp (KP.of_below hbe))
   clear hw hbe hkW HPW IS g0 g1 hbWh hbWt
   clear u
   have HR6 := Hh HR2.out
   obtain ⟨e0, e1⟩ := HBt6.out.cells
   replace HR6 := Hh (q_neg HR6.out (by simp [hc22]))
   replace HR6 := Hh (q_neg HR6.out (by simp [hc22]))
   replace HR6 := Hh (q_neg HR6.out (by simp [hc22]))
   refine ?S1a
 rotate_left 1
 focus
  by_cases hc23 : c2 = 3
  focus
   have fc22 : (z2 == 2) = false := by rw [← HZ2.out, beq_eq_false_iff_ne]; omega
   have fn22 : (z2 != 2) = true := by rw [← HZ2.out, bne_iff_ne]; omega
   have fc23 : (z2 == 3) = true := by rw [← HZ2.out, hc23]; rfl
   have fn23 : (z2 != 3) = false := by rw [← HZ2.out, hc23]; rfl
   have fc24 : (z2 == 4) = false := by rw [← HZ2.out, beq_eq_false_iff_ne]; omega
   have fn24 : (z2 != 4) = true := by rw [← HZ2.out, bne_iff_ne]; omega
   have fc25 : (z2 == 5) = false := by rw [← HZ2.out, beq_eq_false_iff_ne]; omega
   have fn25 : (z2 != 5) = true := by rw [← HZ2.out, bne_iff_ne]; omega
   have fc26 : (z2 == 6) = false := by rw [← HZ2.out, beq_eq_false_iff_ne]; omega
   have fn26 : (z2 != 6) = true := by rw [← HZ2.out, bne_iff_ne]; omega
   go_wp2_with fail
   try rw [hbt]
   obtain ⟨W14, hW14⟩ : ∃ W, W = w2.alloc (.cells #[.int .i64 z2, .string x2] 54) := ⟨_, rfl⟩
   have hpW : PW E W14 s1 := hW14 ▸ HP2.out
   have hkW : KP w W14 := hW14 ▸ HK2.out
   have hbWh : HdB W14 bh v1 := hW14 ▸ HBh2.out
   have hbWt : CtB W14 bt z2 x2 := hW14 ▸ HBt2.out
   rw [← hW14]
   clear hW14
   have g1 : ∀ u : Ext W14, u.w.cell? ⟨bt, 1, none⟩ = some (.string x2) := fun u => u.cell hbWt.cells.2
   have g0 : ∀ u : Ext W14, u.w.cell? ⟨bt, 0, none⟩ = some (.int .i64 z2) := fun u => u.cell hbWt.cells.1
   have HPW := Hh hpW
   clear hpW
   refine wp_region_quiet (C := fun w' => ∃ u : Ext W14, w' = u.w) (by kernel_rfl) (by kernel_rfl) (Ext.drew W14) ?_
   dsimp only []
   repeat (go_big_quiet_step (fail))
   refine wpQuiet_nil ?_
   rintro w' ⟨u, rfl⟩
   obtain ⟨w14, hw⟩ : ∃ w', w' = u.w := ⟨_, rfl⟩
   have hbe := u.below
   rw [← hw] at hbe ⊢
   have HP14 := Hh (HPW.out.ext hE hbe)
   have HK14 := Hh (hkW.trans (KP.of_below hbe))
   have HBh14 := Hh (hbWh.kp (KP.of_below hbe))
   have HBt14 := Hh (hbWt.kp (KP.of_below hbe))
   clear hw hbe hkW HPW g0 g1 hbWh hbWt
   clear u
   have HR14 := Hh HR2.out
   obtain ⟨e0, e1⟩ := HBt14.out.cells
   replace HR14 := Hh (q_neg HR14.out (by simp [hc22, hc23]))
   replace HR14 := Hh (q_pos HR14.out (by simp [hc22, hc23]))
   refine ?S2a
  rotate_left 1
  focus
   by_cases hc24 : c2 = 4
   focus
    have fc22 : (z2 == 2) = false := by rw [← HZ2.out, beq_eq_false_iff_ne]; omega
    have fn22 : (z2 != 2) = true := by rw [← HZ2.out, bne_iff_ne]; omega
    have fc23 : (z2 == 3) = false := by rw [← HZ2.out, beq_eq_false_iff_ne]; omega
    have fn23 : (z2 != 3) = true := by rw [← HZ2.out, bne_iff_ne]; omega
    have fc24 : (z2 == 4) = true := by rw [← HZ2.out, hc24]; rfl
    have fn24 : (z2 != 4) = false := by rw [← HZ2.out, hc24]; rfl
    have fc25 : (z2 == 5) = false := by rw [← HZ2.out, beq_eq_false_iff_ne]; omega
    have fn25 : (z2 != 5) = true := by rw [← HZ2.out, bne_iff_ne]; omega
    have fc26 : (z2 == 6) = false := by rw [← HZ2.out, beq_eq_false_iff_ne]; omega
    have fn26 : (z2 != 6) = true := by rw [← HZ2.out, bne_iff_ne]; omega
    go_wp2_with fail
    try rw [hbt]
    obtain ⟨W17, hW17⟩ : ∃ W, W = w2.alloc (.cells #[.int .i64 z2, .string x2] 54) := ⟨_, rfl⟩
    have hpW : PW E W17 s1 := hW17 ▸ HP2.out
    have hkW : KP w W17 := hW17 ▸ HK2.out
    have hbWh : HdB W17 bh v1 := hW17 ▸ HBh2.out
    have hbWt : CtB W17 bt z2 x2 := hW17 ▸ HBt2.out
    rw [← hW17]
    clear hW17
    have g1 : ∀ u : Ext W17, u.w.cell? ⟨bt, 1, none⟩ = some (.string x2) := fun u => u.cell hbWt.cells.2
    have g0 : ∀ u : Ext W17, u.w.cell? ⟨bt, 0, none⟩ = some (.int .i64 z2) := fun u => u.cell hbWt.cells.1
    have HPW := Hh hpW
    clear hpW
    refine wp_region_quiet (C := fun w' => ∃ u : Ext W17, w' = u.w) (by kernel_rfl) (by kernel_rfl) (Ext.drew W17) ?_
    dsimp only []
    repeat (go_big_quiet_step (fail))
    refine wpQuiet_nil ?_
    rintro w' ⟨u, rfl⟩
    obtain ⟨w17, hw⟩ : ∃ w', w' = u.w := ⟨_, rfl⟩
    have hbe := u.below
    rw [← hw] at hbe ⊢
    have HP17 := Hh (HPW.out.ext hE hbe)
    have HK17 := Hh (hkW.trans (KP.of_below hbe))
    have HBh17 := Hh (hbWh.kp (KP.of_below hbe))
    have HBt17 := Hh (hbWt.kp (KP.of_below hbe))
    clear hw hbe hkW HPW g0 g1 hbWh hbWt
    clear u
    have HR17 := Hh HR2.out
    obtain ⟨e0, e1⟩ := HBt17.out.cells
    replace HR17 := Hh (q_neg HR17.out (by simp [hc22, hc23, hc24]))
    replace HR17 := Hh (q_pos HR17.out (by simp [hc22, hc23, hc24]))
    have HR14 := HR17
    have HP14 := HP17
    have HBh14 := HBh17
    have HK14 := HK17
    have HBt14 := HBt17
    refine ?S2b
   rotate_left 1
   focus
    by_cases hc25 : c2 = 5
    focus
     have fc22 : (z2 == 2) = false := by rw [← HZ2.out, beq_eq_false_iff_ne]; omega
     have fn22 : (z2 != 2) = true := by rw [← HZ2.out, bne_iff_ne]; omega
     have fc23 : (z2 == 3) = false := by rw [← HZ2.out, beq_eq_false_iff_ne]; omega
     have fn23 : (z2 != 3) = true := by rw [← HZ2.out, bne_iff_ne]; omega
     have fc24 : (z2 == 4) = false := by rw [← HZ2.out, beq_eq_false_iff_ne]; omega
     have fn24 : (z2 != 4) = true := by rw [← HZ2.out, bne_iff_ne]; omega
     have fc25 : (z2 == 5) = true := by rw [← HZ2.out, hc25]; rfl
     have fn25 : (z2 != 5) = false := by rw [← HZ2.out, hc25]; rfl
     have fc26 : (z2 == 6) = false := by rw [← HZ2.out, beq_eq_false_iff_ne]; omega
     have fn26 : (z2 != 6) = true := by rw [← HZ2.out, bne_iff_ne]; omega
     go_wp2_with fail
     try rw [hbt]
     obtain ⟨W20, hW20⟩ : ∃ W, W = w2.alloc (.cells #[.int .i64 z2, .string x2] 54) := ⟨_, rfl⟩
     have hpW : PW E W20 s1 := hW20 ▸ HP2.out
     have hkW : KP w W20 := hW20 ▸ HK2.out
     have hbWh : HdB W20 bh v1 := hW20 ▸ HBh2.out
     have hbWt : CtB W20 bt z2 x2 := hW20 ▸ HBt2.out
     rw [← hW20]
     clear hW20
     have g1 : ∀ u : Ext W20, u.w.cell? ⟨bt, 1, none⟩ = some (.string x2) := fun u => u.cell hbWt.cells.2
     have g0 : ∀ u : Ext W20, u.w.cell? ⟨bt, 0, none⟩ = some (.int .i64 z2) := fun u => u.cell hbWt.cells.1
     have HPW := Hh hpW
     clear hpW
     refine wp_region_quiet (C := fun w' => ∃ u : Ext W20, w' = u.w) (by kernel_rfl) (by kernel_rfl) (Ext.drew W20) ?_
     dsimp only []
     repeat (go_big_quiet_step (fail))
     refine wpQuiet_nil ?_
     rintro w' ⟨u, rfl⟩
     obtain ⟨w20, hw⟩ : ∃ w', w' = u.w := ⟨_, rfl⟩
     have hbe := u.below
     rw [← hw] at hbe ⊢
     have HP20 := Hh (HPW.out.ext hE hbe)
     have HK20 := Hh (hkW.trans (KP.of_below hbe))
     have HBh20 := Hh (hbWh.kp (KP.of_below hbe))
     have HBt20 := Hh (hbWt.kp (KP.of_below hbe))
     clear hw hbe hkW HPW g0 g1 hbWh hbWt
     clear u
     have HR20 := Hh HR2.out
     obtain ⟨e0, e1⟩ := HBt20.out.cells
     replace HR20 := Hh (q_neg HR20.out (by simp [hc22, hc23, hc24, hc25]))
     replace HR20 := Hh (q_pos HR20.out (by simp [hc22, hc23, hc24, hc25]))
     have HR14 := HR20
     have HP14 := HP20
     have HBh14 := HBh20
     have HK14 := HK20
     have HBt14 := HBt20
     refine ?S2c
    rotate_left 1
    focus
     by_cases hc26 : c2 = 6
     ·have fc22 : (z2 == 2) = false := by rw [← HZ2.out, beq_eq_false_iff_ne]; omega
      have fn22 : (z2 != 2) = true := by rw [← HZ2.out, bne_iff_ne]; omega
      have fc23 : (z2 == 3) = false := by rw [← HZ2.out, beq_eq_false_iff_ne]; omega
      have fn23 : (z2 != 3) = true := by rw [← HZ2.out, bne_iff_ne]; omega
      have fc24 : (z2 == 4) = false := by rw [← HZ2.out, beq_eq_false_iff_ne]; omega
      have fn24 : (z2 != 4) = true := by rw [← HZ2.out, bne_iff_ne]; omega
      have fc25 : (z2 == 5) = false := by rw [← HZ2.out, beq_eq_false_iff_ne]; omega
      have fn25 : (z2 != 5) = true := by rw [← HZ2.out, bne_iff_ne]; omega
      have fc26 : (z2 == 6) = true := by rw [← HZ2.out, hc26]; rfl
      have fn26 : (z2 != 6) = false := by rw [← HZ2.out, hc26]; rfl
      go_wp2_with fail
      try rw [hbt]
      obtain ⟨W23, hW23⟩ : ∃ W, W = w2.alloc (.cells #[.int .i64 z2, .string x2] 54) := ⟨_, rfl⟩
      have hpW : PW E W23 s1 := hW23 ▸ HP2.out
      have hkW : KP w W23 := hW23 ▸ HK2.out
      have hbWh : HdB W23 bh v1 := hW23 ▸ HBh2.out
      have hbWt : CtB W23 bt z2 x2 := hW23 ▸ HBt2.out
      rw [← hW23]
      clear hW23
      have g1 : ∀ u : Ext W23, u.w.cell? ⟨bt, 1, none⟩ = some (.string x2) := fun u => u.cell hbWt.cells.2
      have g0 : ∀ u : Ext W23, u.w.cell? ⟨bt, 0, none⟩ = some (.int .i64 z2) := fun u => u.cell hbWt.cells.1
      have HPW := Hh hpW
      clear hpW
      refine wp_region_quiet (C := fun w' => ∃ u : Ext W23, w' = u.w) (by kernel_rfl) (by kernel_rfl) (Ext.drew W23) ?_
      dsimp only []
      repeat (go_big_quiet_step (fail))
      refine wpQuiet_nil ?_
      rintro w' ⟨u, rfl⟩
      obtain ⟨w23, hw⟩ : ∃ w', w' = u.w := ⟨_, rfl⟩
      have hbe := u.below
      rw [← hw] at hbe ⊢
      have HP23 := Hh (HPW.out.ext hE hbe)
      have HK23 := Hh (hkW.trans (KP.of_below hbe))
      have HBh23 := Hh (hbWh.kp (KP.of_below hbe))
      have HBt23 := Hh (hbWt.kp (KP.of_below hbe))
      clear hw hbe hkW HPW g0 g1 hbWh hbWt
      clear u
      have HR23 := Hh HR2.out
      obtain ⟨e0, e1⟩ := HBt23.out.cells
      replace HR23 := Hh (q_neg HR23.out (by simp [hc22, hc23, hc24, hc25, hc26]))
      replace HR23 := Hh (q_neg HR23.out (by simp [hc22, hc23, hc24, hc25, hc26]))
      replace HR23 := Hh (q_pos HR23.out (by simp [hc22, hc23, hc24, hc25, hc26]))
      go_wp2_with fail
      refine mR (wk_strings hE _ _ HP23.out) HR23 HN HK23 (fun _ _ h => ⟨rfl, h⟩) ?_
      rintro v24 s24 w24 HR24 HP24 hkk HK24
      have HBh24 := Hh (HBh23.out.kp hkk)
      have HBt24 := Hh (HBt23.out.kp hkk)
      clear hkk
      obtain ⟨d0, d1⟩ := HBh24.out.cells
      go_wp2_with fail
      refine mR (wk_node hE 58 v1 _ _ HP24.out (qne HR24.out HN.out)) HR24 HN HK24 (fun _ _ h => ⟨rfl, h⟩) ?_
      rintro v25 s25 w25 HR25 HP25 hkk HK25
      have HBh25 := Hh (HBh24.out.kp hkk)
      have HBt25 := Hh (HBt24.out.kp hkk)
      clear hkk
      try clear d0 d1
      skip
      go_wp2_with fail
      exact ⟨rfl, .tuple #[], by simp [results, Tryz.results199, go_sem], q_ok (q_pure HR25.out) rfl HP25.out HK25.out⟩
     focus
      have fc22 : (z2 == 2) = false := by rw [← HZ2.out, beq_eq_false_iff_ne]; omega
      have fn22 : (z2 != 2) = true := by rw [← HZ2.out, bne_iff_ne]; omega
      have fc23 : (z2 == 3) = false := by rw [← HZ2.out, beq_eq_false_iff_ne]; omega
      have fn23 : (z2 != 3) = true := by rw [← HZ2.out, bne_iff_ne]; omega
      have fc24 : (z2 == 4) = false := by rw [← HZ2.out, beq_eq_false_iff_ne]; omega
      have fn24 : (z2 != 4) = true := by rw [← HZ2.out, bne_iff_ne]; omega
      have fc25 : (z2 == 5) = false := by rw [← HZ2.out, beq_eq_false_iff_ne]; omega
      have fn25 : (z2 != 5) = true := by rw [← HZ2.out, bne_iff_ne]; omega
      have fc26 : (z2 == 6) = false := by rw [← HZ2.out, beq_eq_false_iff_ne]; omega
      have fn26 : (z2 != 6) = true := by rw [← HZ2.out, bne_iff_ne]; omega
      go_wp2_with fail
      try rw [hbt]
      obtain ⟨W26, hW26⟩ : ∃ W, W = w2.alloc (.cells #[.int .i64 z2, .string x2] 54) := ⟨_, rfl⟩
      have hpW : PW E W26 s1 := hW26 ▸ HP2.out
      have hkW : KP w W26 := hW26 ▸ HK2.out
      have hbWh : HdB W26 bh v1 := hW26 ▸ HBh2.out
      have hbWt : CtB W26 bt z2 x2 := hW26 ▸ HBt2.out
      rw [← hW26]
      clear hW26
      have g1 : ∀ u : Ext W26, u.w.cell? ⟨bt, 1, none⟩ = some (.string x2) := fun u => u.cell hbWt.cells.2
      have g0 : ∀ u : Ext W26, u.w.cell? ⟨bt, 0, none⟩ = some (.int .i64 z2) := fun u => u.cell hbWt.cells.1
      have HPW := Hh hpW
      clear hpW
      refine wp_region_quiet (C := fun w' => ∃ u : Ext W26, w' = u.w) (by kernel_rfl) (by kernel_rfl) (Ext.drew W26) ?_
      dsimp only []
      repeat (go_big_quiet_step (fail))
      refine wpQuiet_nil ?_
      rintro w' ⟨u, rfl⟩
      obtain ⟨w26, hw⟩ : ∃ w', w' = u.w := ⟨_, rfl⟩
      have hbe := u.below
      rw [← hw] at hbe ⊢
      have HP26 := Hh (HPW.out.ext hE hbe)
      have HK26 := Hh (hkW.trans (KP.of_below hbe))
      have HBh26 := Hh (hbWh.kp (KP.of_below hbe))
      have HBt26 := Hh (hbWt.kp (KP.of_below hbe))
      clear hw hbe hkW HPW g0 g1 hbWh hbWt
      clear u
      have HR26 := Hh HR2.out
      obtain ⟨e0, e1⟩ := HBt26.out.cells
      replace HR26 := Hh (q_neg HR26.out (by simp [hc22, hc23, hc24, hc25, hc26]))
      replace HR26 := Hh (q_neg HR26.out (by simp [hc22, hc23, hc24, hc25, hc26]))
      replace HR26 := Hh (q_neg HR26.out (by simp [hc22, hc23, hc24, hc25, hc26]))
      have HP6 := HP26
      have HR6 := HR26
      have HK6 := HK26
      have HBh6 := HBh26
      have HBt6 := HBt26
      refine ?S1b
  case S2a | S2b | S2c =>
   obtain ⟨hle15, hr15⟩ := q_step HR14.out HN.out
   obtain ⟨c1, f1, -⟩ := HP14.out.at
   have hpb := HP14.out.lt
   obtain ⟨d0, d1⟩ := HBh14.out.cells
   have hne1 : ¬ E.pb = bh := HBh14.out.ne HP14.out
   obtain ⟨q151, q152⟩ := HP14.out.on hE hle15
   have hLn := hE.len
   obtain ⟨a15, hat15⟩ : ∃ a, Ps.at' s1 = a := ⟨_, rfl⟩
   rw [hat15] at c1 hle15 hr15 q151 q152
   have hi : a15 < 100000 := by omega
   obtain ⟨s15, hs15⟩ : ∃ t : Ps, (⟨a15 + 1, s1.done, s1.nm⟩ : Ps) = t := ⟨_, rfl⟩
   rw [hs15] at hr15 q151
   clear hs15
   have HR15 := Hh hr15
   have HP15 := Hh q151
   have HK15 := Hh (HK14.out.trans q152)
   have HBh15 := Hh (HBh14.out.kp q152)
   have HBt15 := Hh (HBt14.out.kp q152)
   have HAT15 := Hh hat15
   clear q151 q152 hr15 hle15 hLn hat15
   go_wp2_with fail
   try clear c1 f1 hpb hi
   refine mR (wk_node hE 58 v1 _ _ HP15.out (qne HR15.out HN.out)) HR15 HN HK15 (fun _ _ h => ⟨rfl, h⟩) ?_
   rintro v16 s16 w16 HR16 HP16 hkk HK16
   have HBh16 := Hh (HBh15.out.kp hkk)
   have HBt16 := Hh (HBt15.out.kp hkk)
   clear hkk
   try clear d0 d1
   skip
   go_wp2_with fail
   exact ⟨rfl, .tuple #[], by simp [results, Tryz.results199, go_sem], q_ok (q_pure HR16.out) rfl HP16.out HK16.out⟩
 case S1a | S1b =>
  go_wp2_with fail
  refine mR (wk_took hE [40] _ _ HP6.out) HR6 HN HK6 (fun _ _ h => ⟨rfl, h⟩) ?_
  rintro v7 s7 w7 HR7 HP7 hkk HK7
  have HBh7 := Hh (HBh6.out.kp hkk)
  have HBt7 := Hh (HBt6.out.kp hkk)
  clear hkk
  obtain ⟨bb7, hbb7⟩ : ∃ bb, v7 = bb := ⟨_, rfl⟩
  rw [hbb7] at HR7 ⊢
  clear hbb7
  cases bb7
  ·replace HR7 := Hh (q_iff HR7.out)
   go_wp2_with fail
   refine mR (wk_tookWord hE [95, 71, 101, 110, 101, 114, 105, 99] _ _ HP7.out) HR7 HN HK7 (fun _ _ h => ⟨rfl, h⟩) ?_
   rintro v8 s8 w8 HR8 HP8 hkk HK8
   have HBh8 := Hh (HBh7.out.kp hkk)
   have HBt8 := Hh (HBt7.out.kp hkk)
   clear hkk
   obtain ⟨bb8, hbb8⟩ : ∃ bb, v8 = bb := ⟨_, rfl⟩
   rw [hbb8] at HR8 ⊢
   clear hbb8
   cases bb8
   ·replace HR8 := Hh (q_iff HR8.out)
    go_wp2_with fail
    refine (wk_fail (α := Va) hE (fun _ => .tuple #[]) _ _ HP8.out).mono ?_
    rintro e wf ⟨⟨z, rfl⟩, hbf, hkf⟩
    exact ⟨rfl, q_no (q_fail HR8.out) hbf (HK8.out.trans hkf)⟩
   ·replace HR8 := Hh (q_ift HR8.out)
    go_wp2_with fail
    refine mQ ((IH.out n (Nat.le_refl _)).f_generic  _ _ HP8.out (qne HR8.out HN.out)) HR8 HN HK8 (fun _ _ h => ⟨rfl, h⟩) ?_
    rintro v9 s9 y9 w9 HR9 rfl HP9 hkk HK9
    have HBh9 := Hh (HBh8.out.kp hkk)
    have HBt9 := Hh (HBt8.out.kp hkk)
    clear hkk
    obtain ⟨d0, d1⟩ := HBh9.out.cells
    go_wp2_with fail
    refine mR (wk_node hE 54 v1 _ _ HP9.out (qne HR9.out HN.out)) HR9 HN HK9 (fun _ _ h => ⟨rfl, h⟩) ?_
    rintro v10 s10 w10 HR10 HP10 hkk HK10
    have HBh10 := Hh (HBh9.out.kp hkk)
    have HBt10 := Hh (HBt9.out.kp hkk)
    clear hkk
    try clear d0 d1
    skip
    go_wp2_with fail
    exact ⟨rfl, .tuple #[], by simp [results, Tryz.results199, go_sem], q_ok (q_pure HR10.out) rfl HP10.out HK10.out⟩
  ·replace HR7 := Hh (q_ift HR7.out)
   go_wp2_with fail
   refine mQ ((IH.out n (Nat.le_refl _)).f_expr  _ _ HP7.out (qne HR7.out HN.out)) HR7 HN HK7 (fun _ _ h => ⟨rfl, h⟩) ?_
   rintro v11 s11 y11 w11 HR11 rfl HP11 hkk HK11
   have HBh11 := Hh (HBh7.out.kp hkk)
   have HBt11 := Hh (HBt7.out.kp hkk)
   clear hkk
   go_wp2_with fail
   refine mR (wk_need hE [41] _ _ HP11.out) HR11 HN HK11 (fun _ _ h => ⟨rfl, h⟩) ?_
   rintro v12 s12 w12 HR12 HP12 hkk HK12
   have HBh12 := Hh (HBh11.out.kp hkk)
   have HBt12 := Hh (HBt11.out.kp hkk)
   clear hkk
   obtain ⟨d0, d1⟩ := HBh12.out.cells
   go_wp2_with fail
   refine mR (wk_node hE 56 v1 _ _ HP12.out (qne HR12.out HN.out)) HR12 HN HK12 (fun _ _ h => ⟨rfl, h⟩) ?_
   rintro v13 s13 w13 HR13 HP13 hkk HK13
   have HBh13 := Hh (HBh12.out.kp hkk)
   have HBt13 := Hh (HBt12.out.kp hkk)
   clear hkk
   try clear d0 d1
   skip
   go_wp2_with fail
   exact ⟨rfl, .tuple #[], by simp [results, Tryz.results199, go_sem], q_ok (q_pure HR13.out) rfl HP13.out HK13.out⟩
end Go.Proofs.YtlboejdhmggjpaaGreat.Pp

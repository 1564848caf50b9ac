/- parse: specs. -/
import Derived.Test.YtlboejdhmggjpaaGreatWlA
set_option linter.all false
namespace Go.Proofs.YtlboejdhmggjpaaGreat.Pp
set_option maxRecDepth 100000
set_option maxHeartbeats 16000000
open Go.RowKit Go.BigFrame Go.Proofs.YtlboejdhmggjpaaGreat

theorem w_specs {E : En} (hE : E.ok) {n : Nat} (ih : ∀ m, m ≤ n → Wk E m) (a : Bool) (s : Ps) (w : World) (hp : PW E w s) (hne : run E.L E.base (n + 1) (.specs a) s ≠ .out) : Calls Tryz.prog 46 #[.pointer (some ⟨E.pb, 0, none⟩), .bool a] w (EndQ E vaB w (run E.L E.base (n + 1) (.specs a) s)) := by
 obtain ⟨r, hr⟩ : ∃ r, run E.L E.base (n + 1) (.specs a) s = r := ⟨_, rfl⟩
 rw [hr] at hne ⊢
 rw [run] at hr
 have HN := Hh hne
 have HR0 := Hh hr
 have HP0 := Hh hp
 have HK0 := Hh (KP.refl w)
 have IH := Hh ih
 clear hne hr hp ih
 go_enter Tryz.func46, Tryz.ntmps46
 go_wp2_with fail
 go_step3
 go_wp2_with fail
 refine mR (wk_here hE _ _ HP0.out) HR0 HN HK0 (fun _ _ h => ⟨rfl, h⟩) ?_
 rintro v1 s1 w1 HR1 HP1 - HK1
 have HBn := Hh (HdB.new w1 v1)
 have HPn := Hh (HP1.out.ext hE (below_alloc w1 (.cells #[.int .i64 v1.1, .int .i64 v1.2] 77)))
 have HKn := Hh (HK1.out.trans (KP.of_below (below_alloc w1 (.cells #[.int .i64 v1.1, .int .i64 v1.2] 77))))
 have HPo1 := Hh HP1.out
 have HKo1 := Hh HK1.out
 clear HP1 HK1
 have HP1 := Hh HPn.out
 have HK1 := Hh HKn.out
 clear HPn HKn
 simp only [hdV]
 obtain ⟨bh, hbh⟩ : ∃ b, w1.heap.size = b := ⟨_, rfl⟩
 have HBh1 := Hh (hbh ▸ HBn.out)
 clear HBn
 go_wp2_with fail
 try rw [hbh]
 go_step3
 go_wp2_with fail
 go_loopg [4, 6, 7, 8, 9] n (fun gf q4 q6 q7 q8 q9 wr => ∃ (s' : Ps) (wd : Nat) (oo : Nat) (td : Bool), q4 = .bool td ∧ q6 = .int .i64 (wd : Nat) ∧ q7 = .int .i64 (oo : Nat) ∧ gf ≤ n ∧ (run E.L E.base gf (.specsR a wd oo td) >>= fun r => (do node E.L 5 v1; pure r)) s' = r ∧ PW E wr s' ∧ KP w wr ∧ HdB wr bh v1)
 case atStart => exact ⟨_, 0, 0, false, rfl, rfl, rfl, Nat.le_refl _, HR1.out, HP1.out, HK1.out, HBh1.out⟩
 case round =>
  obtain ⟨s2, wd, oo, td, rfl, rfl, rfl, hgn2, hr2, hp2, hk2, hhh2⟩ := hrel
  cases gk with
  | zero => exact absurd (q_0 hr2) HN.out
  | succ g2 =>
   rw [run] at hr2
   have HR2 := Hh hr2
   have HP2 := Hh hp2
   have HK2 := Hh hk2
   have HBh2 := Hh hhh2
   clear hr2 hp2 hk2 hhh2
   have hwo : ¬ E.L.length < wd + oo := fun hlt => HN.out (by have hq := HR2.out; rw [if_pos hlt] at hq; exact hq.symm)
   replace HR2 := Hh (q_negK HR2.out (hwo))
   with_reducible replace HR2 := Hh (q_assoc HR2.out)
   have hLn := hE.len
   have hbw : wd < 200000 := by omega
   have hbo : oo < 200000 := by omega
   clear hLn hwo
   go_wp2_with fail
   obtain ⟨T, hT⟩ : ∃ T, peekS E.L s2 0 = T := ⟨_, rfl⟩
   have hxl : T.t.length ≤ maxLen := by rw [← hT]; exact peek_txt hE _ 0
   have pk := wk_peek hE 0 _ _ (by omega) HP2.out
   rw [hT] at pk
   have hq := qone (x := peek E.L 0) HR2.out rfl
   rw [hT] at hq
   clear hT
   obtain ⟨c3, t3⟩ := T
   unfold ctV at pk
   dsimp only at pk hq hxl
   obtain ⟨x3, hxs⟩ : ∃ x : ByteArray, str t3 = x := ⟨_, rfl⟩
   obtain ⟨z3, hzs⟩ : ∃ z : Int, (c3 : Int) = z := ⟨_, rfl⟩
   rw [hxs, hzs] at pk
   have HX3 := Hh hxs
   have HZ3 := Hh hzs
   have HL3 := Hh hxl
   have HR3 := Hh hq
   have PK := Hh pk
   clear hxs hzs hxl hq pk
   refine PK.out.mono ?_
   rintro e w3 ⟨rfl, hbl⟩
   have HBL := Hh hbl
   clear hbl PK
   have HPo3 := Hh (HP2.out.ext hE HBL.out)
   have HKo3 := Hh (HK2.out.trans (KP.of_below HBL.out))
   have HP3 := Hh (HPo3.out.ext hE (below_alloc w3 (.cells #[.int .i64 z3, .string x3] 54)))
   have HK3 := Hh (HKo3.out.trans (KP.of_below (below_alloc w3 (.cells #[.int .i64 z3, .string x3] 54))))
   have HBoh3 := Hh (HBh2.out.kp (KP.of_below HBL.out))
   have HBh3 := Hh (HBoh3.out.kp (KP.of_below (below_alloc w3 (.cells #[.int .i64 z3, .string x3] 54))))
   obtain ⟨bt, hbt⟩ : ∃ b, w3.heap.size = b := ⟨_, rfl⟩
   have HBt3 := Hh (hbt ▸ CtB.new w3 z3 x3)
   with_reducible replace HR3 := Hh (q_assoc HR3.out)
   have hq := HR3.out
   replace hq := qone (x := get') hq rfl
   clear HR3
   have HR3 := Hh hq
   clear hq
   by_cases hc32 : c3 = 2
   ·have fc32 : (z3 == 2) = true := by rw [← HZ3.out, hc32]; rfl
    have fn32 : (z3 != 2) = false := by rw [← HZ3.out, hc32]; rfl
    have fc31 : (z3 == 1) = false := by rw [← HZ3.out, beq_eq_false_iff_ne]; omega
    have fn31 : (z3 != 1) = true := by rw [← HZ3.out, bne_iff_ne]; omega
    by_cases hwo : 0 < wd + oo
    ·have hwo2 : decide (0 < wd + oo) = true := decide_eq_true hwo
     have hwo3 : decide ((0 : Int) < (wd : Int) + (oo : Int)) = true := decide_eq_true (by omega)
     go_wp2_with fail
     try rw [hbt]
     obtain ⟨W4, hW4⟩ : ∃ W, W = w3.alloc (.cells #[.int .i64 z3, .string x3] 54) := ⟨_, rfl⟩
     have hpW : PW E W4 s2 := hW4 ▸ HP3.out
     have hkW : KP w W4 := hW4 ▸ HK3.out
     have hbWh : HdB W4 bh v1 := hW4 ▸ HBh3.out
     have hbWt : CtB W4 bt z3 x3 := hW4 ▸ HBt3.out
     rw [← hW4]
     clear hW4
     have g1 : ∀ u : Ext W4, u.w.cell? ⟨bt, 1, none⟩ = some (.string x3) := fun u => u.cell hbWt.cells.2
     have g0 : ∀ u : Ext W4, u.w.cell? ⟨bt, 0, none⟩ = some (.int .i64 z3) := fun u => u.cell hbWt.cells.1
     have HPW := Hh hpW
     clear hpW
     refine wp_region_quiet (C := fun w' => ∃ u : Ext W4, w' = u.w) (by kernel_rfl) (by kernel_rfl) (Ext.drew W4) ?_
     dsimp only []
     repeat (go_big_quiet_step (fail))
     refine wpQuiet_nil ?_
     rintro w' ⟨u, rfl⟩
     obtain ⟨w4, hw⟩ : ∃ w', w' = u.w := ⟨_, rfl⟩
     have hbe := u.below
     rw [← hw] at hbe ⊢
     have HP4 := Hh (HPW.out.ext hE hbe)
     have HK4 := Hh (hkW.trans (KP.of_below hbe))
     have HBh4 := Hh (hbWh.kp (KP.of_below hbe))
     have HBt4 := Hh (hbWt.kp (KP.of_below hbe))
     clear hw hbe hkW HPW g0 g1 hbWh hbWt
     clear u
     have HR4 := Hh HR3.out
     obtain ⟨e0, e1⟩ := HBt4.out.cells
     replace HR4 := Hh (q_posK HR4.out (by simp [hc32, hwo]))
     replace HR4 := Hh (q_posK HR4.out (by simp [hc32, hwo]))
     by_cases hw0 : wd = 0
     focus
      subst hw0
      by_cases ho0 : oo = 0
      ·subst ho0
       exfalso; omega
      focus
       by_cases ho1 : oo = 1
       focus
        subst ho1
        refine ?S4a
       rotate_left 1
       ·have f1 : ((oo : Int) == 0) = false := by rw [beq_eq_false_iff_ne]; omega
        have f2 : 1 < oo := by omega
        replace HR4 := Hh (q_posK HR4.out (by omega))
        go_wp2_with fail
        refine (wk_fail (α := Va) hE (fun _ => .tuple #[]) _ _ HP4.out).mono ?_
        rintro e wf ⟨⟨z, rfl⟩, hbf, hkf⟩
        exact ⟨rfl, q_no (show r = .no from HR4.out.symm) hbf (HK4.out.trans hkf)⟩
     rotate_left 1
     focus
      have f1 : ((wd : Int) + (oo : Int) == 0) = false := by rw [beq_eq_false_iff_ne]; omega
      have f3 : 0 < wd := by omega
      by_cases ho0 : oo = 0
      focus
       subst ho0
       have f4 : ((wd : Int) == 0) = false := by rw [beq_eq_false_iff_ne]; omega
       refine ?S4b
      rotate_left 1
      ·have f5 : 0 < oo := by omega
       by_cases ho1 : 1 < oo
       ·replace HR4 := Hh (q_posK HR4.out (by omega))
        go_wp2_with fail
        refine (wk_fail (α := Va) hE (fun _ => .tuple #[]) _ _ HP4.out).mono ?_
        rintro e wf ⟨⟨z, rfl⟩, hbf, hkf⟩
        exact ⟨rfl, q_no (show r = .no from HR4.out.symm) hbf (HK4.out.trans hkf)⟩
       ·have f6 : decide (1 < oo) = false := decide_eq_false ho1
        replace HR4 := Hh (q_posK HR4.out (by omega))
        go_wp2_with fail
        refine (wk_fail (α := Va) hE (fun _ => .tuple #[]) _ _ HP4.out).mono ?_
        rintro e wf ⟨⟨z, rfl⟩, hbf, hkf⟩
        exact ⟨rfl, q_no (show r = .no from HR4.out.symm) hbf (HK4.out.trans hkf)⟩
     case S4a | S4b =>
      replace HR4 := Hh (q_negK HR4.out (by omega))
      with_reducible replace HR4 := Hh (q_pb HR4.out)
      obtain ⟨d0, d1⟩ := HBh4.out.cells
      go_wp2_with fail
      refine mR (wk_node hE 5 v1 _ _ HP4.out (qne HR4.out HN.out)) HR4 HN HK4 (fun _ _ h => ⟨rfl, h⟩) ?_
      rintro v5 s5 w5 HR5 HP5 hkk HK5
      have HBh5 := Hh (HBh4.out.kp hkk)
      have HBt5 := Hh (HBt4.out.kp hkk)
      clear hkk
      try clear d0 d1
      skip
      go_wp2_with fail
      exact ⟨rfl, .bool td, by simp [results, Tryz.results46, go_sem], q_ok (q_pure HR5.out) rfl HP5.out HK5.out⟩
    ·obtain ⟨rfl, rfl⟩ : wd = 0 ∧ oo = 0 := by omega
     have hq := HR3.out
     obtain ⟨B3, hB⟩ : ∃ B, Ns.isType E.base s2.nm t3 = B := ⟨_, rfl⟩
     rw [hB] at hq
     clear HR3
     have HR3 := Hh hq
     have IS := Hh (fun (W : World) (hW : PW E W s2) => (by have h := wk_isType hE t3 s2 W HL3.out hW; rw [hB, HX3.out] at h; exact h : Calls Tryz.prog 74 #[.pointer (some ⟨E.pb, 3, none⟩), .string x3] W fun e w' => e = .returned (.bool B3) ∧ Below W.heap.size W w'))
     clear hB hq
     cases B3
     ·go_wp2_with fail
      try rw [hbt]
      obtain ⟨W7, hW7⟩ : ∃ W, W = w3.alloc (.cells #[.int .i64 z3, .string x3] 54) := ⟨_, rfl⟩
      have hpW : PW E W7 s2 := hW7 ▸ HP3.out
      have hkW : KP w W7 := hW7 ▸ HK3.out
      have hbWh : HdB W7 bh v1 := hW7 ▸ HBh3.out
      have hbWt : CtB W7 bt z3 x3 := hW7 ▸ HBt3.out
      rw [← hW7]
      clear hW7
      have g1 : ∀ u : Ext W7, u.w.cell? ⟨bt, 1, none⟩ = some (.string x3) := fun u => u.cell hbWt.cells.2
      have g0 : ∀ u : Ext W7, u.w.cell? ⟨bt, 0, none⟩ = some (.int .i64 z3) := fun u => u.cell hbWt.cells.1
      have HPW := Hh hpW
      clear hpW
      refine wp_region_quiet (C := fun w' => ∃ u : Ext W7, w' = u.w) (by kernel_rfl) (by kernel_rfl) (Ext.drew W7) ?_
      dsimp only []
      repeat (go_big_quiet_step ((go_at_call 74; rename_i u; refine (IS.out _ (HPW.out.ext hE u.below)).mono ?_; rintro e w2 ⟨rfl, b2⟩; exact ⟨rfl, u.on b2⟩)))
      refine wpQuiet_nil ?_
      rintro w' ⟨u, rfl⟩
      obtain ⟨w7, hw⟩ : ∃ w', w' = u.w := ⟨_, rfl⟩
      have hbe := u.below
      rw [← hw] at hbe ⊢
      have HP7 := Hh (HPW.out.ext hE hbe)
      have HK7 := Hh (hkW.trans (KP.of_below hbe))
      have HBh7 := Hh (hbWh.kp (KP.of_below hbe))
      have HBt7 := Hh (hbWt.kp (KP.of_below hbe))
      clear hw hbe hkW HPW IS g0 g1 hbWh hbWt
      clear u
      have HR7 := Hh HR3.out
      obtain ⟨e0, e1⟩ := HBt7.out.cells
      replace HR7 := Hh (q_posK HR7.out (by simp [hc32]))
      replace HR7 := Hh (q_posK HR7.out (by simp [hc32]))
      replace HR7 := Hh (q_posK HR7.out (by simp [hc32]))
      go_wp2_with fail
      refine (wk_fail (α := Va) hE (fun _ => .tuple #[]) _ _ HP7.out).mono ?_
      rintro e wf ⟨⟨z, rfl⟩, hbf, hkf⟩
      exact ⟨rfl, q_no (show r = .no from HR7.out.symm) hbf (HK7.out.trans hkf)⟩
     ·go_wp2_with fail
      try rw [hbt]
      obtain ⟨W8, hW8⟩ : ∃ W, W = w3.alloc (.cells #[.int .i64 z3, .string x3] 54) := ⟨_, rfl⟩
      have hpW : PW E W8 s2 := hW8 ▸ HP3.out
      have hkW : KP w W8 := hW8 ▸ HK3.out
      have hbWh : HdB W8 bh v1 := hW8 ▸ HBh3.out
      have hbWt : CtB W8 bt z3 x3 := hW8 ▸ HBt3.out
      rw [← hW8]
      clear hW8
      have g1 : ∀ u : Ext W8, u.w.cell? ⟨bt, 1, none⟩ = some (.string x3) := fun u => u.cell hbWt.cells.2
      have g0 : ∀ u : Ext W8, u.w.cell? ⟨bt, 0, none⟩ = some (.int .i64 z3) := fun u => u.cell hbWt.cells.1
      have HPW := Hh hpW
      clear hpW
      refine wp_region_quiet (C := fun w' => ∃ u : Ext W8, w' = u.w) (by kernel_rfl) (by kernel_rfl) (Ext.drew W8) ?_
      dsimp only []
      repeat (go_big_quiet_step ((go_at_call 74; rename_i u; refine (IS.out _ (HPW.out.ext hE u.below)).mono ?_; rintro e w2 ⟨rfl, b2⟩; exact ⟨rfl, u.on b2⟩)))
      refine wpQuiet_nil ?_
      rintro w' ⟨u, rfl⟩
      obtain ⟨w8, hw⟩ : ∃ w', w' = u.w := ⟨_, rfl⟩
      have hbe := u.below
      rw [← hw] at hbe ⊢
      have HP8 := Hh (HPW.out.ext hE hbe)
      have HK8 := Hh (hkW.trans (KP.of_below hbe))
      have HBh8 := Hh (hbWh.kp (KP.of_below hbe))
      have HBt8 := Hh (hbWt.kp (KP.of_below hbe))
      clear hw hbe hkW HPW IS g0 g1 hbWh hbWt
      clear u
      have HR8 := Hh HR3.out
      obtain ⟨e0, e1⟩ := HBt8.out.cells
      replace HR8 := Hh (q_posK HR8.out (by simp [hc32]))
      replace HR8 := Hh (q_negK HR8.out (by simp [hc32]))
      with_reducible replace HR8 := Hh (q_assoc HR8.out)
      obtain ⟨hle9, hr9⟩ := q_step HR8.out HN.out
      obtain ⟨c1, f1, -⟩ := HP8.out.at
      have hpb := HP8.out.lt
      obtain ⟨q91, q92⟩ := HP8.out.on hE hle9
      have hLn := hE.len
      obtain ⟨a9, hat9⟩ : ∃ a, Ps.at' s2 = a := ⟨_, rfl⟩
      rw [hat9] at c1 hle9 hr9 q91 q92
      have hi : a9 < 100000 := by omega
      obtain ⟨s9, hs9⟩ : ∃ t : Ps, (⟨a9 + 1, s2.done, s2.nm⟩ : Ps) = t := ⟨_, rfl⟩
      rw [hs9] at hr9 q91
      clear hs9
      have HR9 := Hh hr9
      have HP9 := Hh q91
      have HK9 := Hh (HK8.out.trans q92)
      have HBh9 := Hh (HBh8.out.kp q92)
      have HBt9 := Hh (HBt8.out.kp q92)
      have HAT9 := Hh hat9
      clear q91 q92 hr9 hle9 hLn hat9
      go_wp2_with fail
      try clear c1 f1 hpb hi
      go_roundg g2
      case measure => omega
      case rel => exact ⟨_, _, 1, _, rfl, rfl, rfl, by omega, HR9.out, HP9.out, HK9.out, HBh9.out⟩
   ·by_cases hc31 : c3 = 1
    focus
     have fc32 : (z3 == 2) = false := by rw [← HZ3.out, beq_eq_false_iff_ne]; omega
     have fn32 : (z3 != 2) = true := by rw [← HZ3.out, bne_iff_ne]; omega
     have fc31 : (z3 == 1) = true := by rw [← HZ3.out, hc31]; rfl
     have fn31 : (z3 != 1) = false := by rw [← HZ3.out, hc31]; rfl
     rcases spec_cases t3 with hk | hk | hk | hk | hk | hk | hk | hk
     focus
      have SP := Hh (fun W : World => (by have h := wk_spec t3 W; rw [HX3.out, hk] at h; exact h : Calls Tryz.prog 75 #[.string x3] W fun e w' => e = .returned (.int .i64 (0 : Nat)) ∧ w' = W))
      go_wp2_with fail
      try rw [hbt]
      refine (SP.out _).mono ?_
      rintro e wsp ⟨rfl, rfl⟩
      clear SP
      replace HR3 := Hh (q_negK HR3.out (by simp [hc32, hc31, hk]))
      replace HR3 := Hh (q_negK HR3.out (by simp [hc32, hc31, hk]))
      replace HR3 := Hh (q_negK HR3.out (by simp [hc32, hc31, hk]))
      replace HR3 := Hh (q_negK HR3.out (by simp [hc32, hc31, hk]))
      replace HR3 := Hh (q_negK HR3.out (by simp [hc32, hc31, hk]))
      replace HR3 := Hh (q_negK HR3.out (by simp [hc32, hc31, hk]))
      replace HR3 := Hh (q_negK HR3.out (by simp [hc32, hc31, hk]))
      replace HR3 := Hh (q_negK HR3.out (by simp [hc32, hc31, hk]))
      replace HR3 := Hh (q_negK HR3.out (by simp [hc32, hc31, hk]))
      refine ?S1a
     rotate_left 1
     focus
      have SP := Hh (fun W : World => (by have h := wk_spec t3 W; rw [HX3.out, hk] at h; exact h : Calls Tryz.prog 75 #[.string x3] W fun e w' => e = .returned (.int .i64 (1 : Nat)) ∧ w' = W))
      go_wp2_with fail
      try rw [hbt]
      refine (SP.out _).mono ?_
      rintro e wsp ⟨rfl, rfl⟩
      clear SP
      cases a
      focus
       replace HR3 := Hh (q_negK HR3.out (by simp [hc32, hc31, hk]))
       replace HR3 := Hh (q_negK HR3.out (by simp [hc32, hc31, hk]))
       replace HR3 := Hh (q_negK HR3.out (by simp [hc32, hc31, hk]))
       replace HR3 := Hh (q_negK HR3.out (by simp [hc32, hc31, hk]))
       replace HR3 := Hh (q_negK HR3.out (by simp [hc32, hc31, hk]))
       replace HR3 := Hh (q_negK HR3.out (by simp [hc32, hc31, hk]))
       replace HR3 := Hh (q_negK HR3.out (by simp [hc32, hc31, hk]))
       replace HR3 := Hh (q_negK HR3.out (by simp [hc32, hc31, hk]))
       replace HR3 := Hh (q_negK HR3.out (by simp [hc32, hc31, hk]))
       refine ?S1b
      rotate_left 1
      ·replace HR3 := Hh (q_negK HR3.out (by simp [hc32, hc31, hk]))
       replace HR3 := Hh (q_negK HR3.out (by simp [hc32, hc31, hk]))
       replace HR3 := Hh (q_posK HR3.out (by simp [hc32, hc31, hk]))
       with_reducible replace HR3 := Hh (q_assoc HR3.out)
       cases td
       focus
        by_cases htt3_0 : t3 = [116, 121, 112, 101, 100, 101, 102]
        focus
         have fxt3_0 : (x3.toList == [116, 121, 112, 101, 100, 101, 102]) = true := HX3.out ▸ str_is htt3_0
         have hq := HR3.out
         rw [show (false || (t3 == [116, 121, 112, 101, 100, 101, 102] : Bool)) = true from by rw [htt3_0]; rfl] at hq
         refine ?S2a
        rotate_left 1
        ·have fxt3_0 : (x3.toList == [116, 121, 112, 101, 100, 101, 102]) = false := HX3.out ▸ str_no htt3_0
         have hq := HR3.out
         rw [show (false || (t3 == [116, 121, 112, 101, 100, 101, 102] : Bool)) = false from by rw [Bool.false_or, beq_eq_false_iff_ne]; exact htt3_0] at hq
         clear HR3
         have HR3 := Hh hq
         clear hq
         obtain ⟨hle15, hr15⟩ := q_step HR3.out HN.out
         obtain ⟨c1, f1, -⟩ := HPo3.out.at
         have hpb := HPo3.out.lt
         rw [hbt] at hpb
         obtain ⟨q151, q152⟩ := HPo3.out.on hE hle15
         have hLn := hE.len
         obtain ⟨a15, hat15⟩ : ∃ a, Ps.at' s2 = a := ⟨_, rfl⟩
         rw [hat15] at c1 hle15 hr15 q151 q152
         have hi : a15 < 100000 := by omega
         obtain ⟨s15, hs15⟩ : ∃ t : Ps, (⟨a15 + 1, s2.done, s2.nm⟩ : Ps) = t := ⟨_, rfl⟩
         rw [hs15] at hr15 q151
         clear hs15
         have HR15 := Hh hr15
         have HP15 := Hh (q151.ext hE (below_alloc _ (.cells #[.int .i64 z3, .string x3] 54)))
         have hkx := KP.of_below (below_alloc (World.setCell w3 ⟨E.pb, 1, none⟩ (.int .i64 ((a15 + 1 : Nat) : Int))) (.cells #[.int .i64 z3, .string x3] 54))
         have HK15 := Hh (HKo3.out.trans (q152.trans hkx))
         have HBh15 := Hh ((HBoh3.out.kp q152).kp hkx)
         have HBt15 := Hh (hbt ▸ CtB.new' w3 ⟨E.pb, 1, none⟩ (.int .i64 ((a15 + 1 : Nat) : Int)) z3 x3)
         have HAT15 := Hh hat15
         clear q151 q152 hr15 hle15 hLn hat15 hkx
         go_wp2_with fail
         try rw [hbt]
         try clear c1 f1 hpb hi
         go_roundg g2
         case measure => omega
         case rel => exact ⟨_, _, _, false, rfl, rfl, rfl, by omega, HR15.out, HP15.out, HK15.out, HBh15.out⟩
       rotate_left 1
       focus
        have hq := HR3.out
        simp only [Bool.true_or] at hq
        refine ?S2b
       case S2a | S2b =>
        clear HR3
        have HR3 := Hh hq
        clear hq
        obtain ⟨hle14, hr14⟩ := q_step HR3.out HN.out
        obtain ⟨c1, f1, -⟩ := HPo3.out.at
        have hpb := HPo3.out.lt
        rw [hbt] at hpb
        obtain ⟨q141, q142⟩ := HPo3.out.on hE hle14
        have hLn := hE.len
        obtain ⟨a14, hat14⟩ : ∃ a, Ps.at' s2 = a := ⟨_, rfl⟩
        rw [hat14] at c1 hle14 hr14 q141 q142
        have hi : a14 < 100000 := by omega
        obtain ⟨s14, hs14⟩ : ∃ t : Ps, (⟨a14 + 1, s2.done, s2.nm⟩ : Ps) = t := ⟨_, rfl⟩
        rw [hs14] at hr14 q141
        clear hs14
        have HR14 := Hh hr14
        have HP14 := Hh (q141.ext hE (below_alloc _ (.cells #[.int .i64 z3, .string x3] 54)))
        have hkx := KP.of_below (below_alloc (World.setCell w3 ⟨E.pb, 1, none⟩ (.int .i64 ((a14 + 1 : Nat) : Int))) (.cells #[.int .i64 z3, .string x3] 54))
        have HK14 := Hh (HKo3.out.trans (q142.trans hkx))
        have HBh14 := Hh ((HBoh3.out.kp q142).kp hkx)
        have HBt14 := Hh (hbt ▸ CtB.new' w3 ⟨E.pb, 1, none⟩ (.int .i64 ((a14 + 1 : Nat) : Int)) z3 x3)
        have HAT14 := Hh hat14
        clear q141 q142 hr14 hle14 hLn hat14 hkx
        go_wp2_with fail
        try rw [hbt]
        try clear c1 f1 hpb hi
        go_roundg g2
        case measure => omega
        case rel => exact ⟨_, _, _, true, rfl, rfl, rfl, by omega, HR14.out, HP14.out, HK14.out, HBh14.out⟩
     rotate_left 1
     focus
      have SP := Hh (fun W : World => (by have h := wk_spec t3 W; rw [HX3.out, hk] at h; exact h : Calls Tryz.prog 75 #[.string x3] W fun e w' => e = .returned (.int .i64 (2 : Nat)) ∧ w' = W))
      go_wp2_with fail
      try rw [hbt]
      refine (SP.out _).mono ?_
      rintro e wsp ⟨rfl, rfl⟩
      clear SP
      cases a
      focus
       replace HR3 := Hh (q_negK HR3.out (by simp [hc32, hc31, hk]))
       replace HR3 := Hh (q_negK HR3.out (by simp [hc32, hc31, hk]))
       replace HR3 := Hh (q_negK HR3.out (by simp [hc32, hc31, hk]))
       replace HR3 := Hh (q_negK HR3.out (by simp [hc32, hc31, hk]))
       replace HR3 := Hh (q_negK HR3.out (by simp [hc32, hc31, hk]))
       replace HR3 := Hh (q_negK HR3.out (by simp [hc32, hc31, hk]))
       replace HR3 := Hh (q_negK HR3.out (by simp [hc32, hc31, hk]))
       replace HR3 := Hh (q_negK HR3.out (by simp [hc32, hc31, hk]))
       replace HR3 := Hh (q_negK HR3.out (by simp [hc32, hc31, hk]))
       refine ?S1c
      rotate_left 1
      ·replace HR3 := Hh (q_negK HR3.out (by simp [hc32, hc31, hk]))
       replace HR3 := Hh (q_negK HR3.out (by simp [hc32, hc31, hk]))
       replace HR3 := Hh (q_negK HR3.out (by simp [hc32, hc31, hk]))
       replace HR3 := Hh (q_posK HR3.out (by simp [hc32, hc31, hk]))
       with_reducible replace HR3 := Hh (q_assoc HR3.out)
       go_wp2_with fail
       try rw [hbt]
       refine mQ ((IH.out g2 (by omega)).f_align  _ _ HP3.out (qne HR3.out HN.out)) HR3 HN HK3 (fun _ _ h => ⟨rfl, h⟩) ?_
       rintro v19 s19 y19 w19 HR19 rfl HP19 hkk HK19
       have HBh19 := Hh (HBh3.out.kp hkk)
       have HBt19 := Hh (HBt3.out.kp hkk)
       clear hkk
       go_wp2_with fail
       go_roundg g2
       case measure => omega
       case rel => exact ⟨_, _, _, _, rfl, rfl, rfl, by omega, HR19.out, HP19.out, HK19.out, HBh19.out⟩
     rotate_left 1
     ·have SP := Hh (fun W : World => (by have h := wk_spec t3 W; rw [HX3.out, hk] at h; exact h : Calls Tryz.prog 75 #[.string x3] W fun e w' => e = .returned (.int .i64 (3 : Nat)) ∧ w' = W))
      go_wp2_with fail
      try rw [hbt]
      refine (SP.out _).mono ?_
      rintro e wsp ⟨rfl, rfl⟩
      clear SP
      replace HR3 := Hh (q_negK HR3.out (by simp [hc32, hc31, hk]))
      replace HR3 := Hh (q_negK HR3.out (by simp [hc32, hc31, hk]))
      replace HR3 := Hh (q_negK HR3.out (by simp [hc32, hc31, hk]))
      replace HR3 := Hh (q_negK HR3.out (by simp [hc32, hc31, hk]))
      replace HR3 := Hh (q_posK HR3.out (by simp [hc32, hc31, hk]))
      with_reducible replace HR3 := Hh (q_assoc HR3.out)
      obtain ⟨hle20, hr20⟩ := q_step HR3.out HN.out
      obtain ⟨c1, f1, -⟩ := HPo3.out.at
      have hpb := HPo3.out.lt
      rw [hbt] at hpb
      obtain ⟨q201, q202⟩ := HPo3.out.on hE hle20
      have hLn := hE.len
      obtain ⟨a20, hat20⟩ : ∃ a, Ps.at' s2 = a := ⟨_, rfl⟩
      rw [hat20] at c1 hle20 hr20 q201 q202
      have hi : a20 < 100000 := by omega
      obtain ⟨s20, hs20⟩ : ∃ t : Ps, (⟨a20 + 1, s2.done, s2.nm⟩ : Ps) = t := ⟨_, rfl⟩
      rw [hs20] at hr20 q201
      clear hs20
      have HR20 := Hh hr20
      have HP20 := Hh (q201.ext hE (below_alloc _ (.cells #[.int .i64 z3, .string x3] 54)))
      have hkx := KP.of_below (below_alloc (World.setCell w3 ⟨E.pb, 1, none⟩ (.int .i64 ((a20 + 1 : Nat) : Int))) (.cells #[.int .i64 z3, .string x3] 54))
      have HK20 := Hh (HKo3.out.trans (q202.trans hkx))
      have HBh20 := Hh ((HBoh3.out.kp q202).kp hkx)
      have HBt20 := Hh (hbt ▸ CtB.new' w3 ⟨E.pb, 1, none⟩ (.int .i64 ((a20 + 1 : Nat) : Int)) z3 x3)
      have HAT20 := Hh hat20
      clear q201 q202 hr20 hle20 hLn hat20 hkx
      go_wp2_with fail
      try rw [hbt]
      try clear c1 f1 hpb hi
      go_roundg g2
      case measure => omega
      case rel => exact ⟨_, _, _, _, rfl, rfl, rfl, by omega, HR20.out, HP20.out, HK20.out, HBh20.out⟩
     ·have SP := Hh (fun W : World => (by have h := wk_spec t3 W; rw [HX3.out, hk] at h; exact h : Calls Tryz.prog 75 #[.string x3] W fun e w' => e = .returned (.int .i64 (4 : Nat)) ∧ w' = W))
      go_wp2_with fail
      try rw [hbt]
      refine (SP.out _).mono ?_
      rintro e wsp ⟨rfl, rfl⟩
      clear SP
      obtain ⟨B21, hB⟩ : ∃ B, signS E.L s2 1 [40] = B := ⟨_, rfl⟩
      have hq := HR3.out
      rw [hB] at hq
      have HR21 := Hh hq
      clear hq
      have SG := Hh (by have h := wk_sign hE 1 [40] s2 _ (by omega) HP3.out; rw [show sign E.L 1 [40] s2 = .ok (signS E.L s2 1 [40]) s2 from rfl, hB] at h; exact h : Calls Tryz.prog 47 #[.pointer (some ⟨E.pb, 0, none⟩), .int .i64 1, .string (str [40])] _ (EndR E .bool _ (.ok B21 s2)))
      clear hB
      cases B21
      ·go_wp2_with fail
       try rw [hbt]
       refine SG.out.mono ?_
       rintro e w21 ⟨rfl, hp21, hkk⟩
       clear SG
       have HP21 := Hh hp21
       have HK21 := Hh (HK3.out.trans hkk)
       have HBh21 := Hh (HBh3.out.kp hkk)
       have HBt21 := Hh (HBt3.out.kp hkk)
       clear hp21 hkk
       replace HR21 := Hh (q_negK HR21.out (by simp [hc32, hc31, hk]))
       replace HR21 := Hh (q_negK HR21.out (by simp [hc32, hc31, hk]))
       replace HR21 := Hh (q_negK HR21.out (by simp [hc32, hc31, hk]))
       replace HR21 := Hh (q_negK HR21.out (by simp [hc32, hc31, hk]))
       replace HR21 := Hh (q_posK HR21.out (by simp [hc32, hc31, hk]))
       with_reducible replace HR21 := Hh (q_assoc HR21.out)
       obtain ⟨hle22, hr22⟩ := q_step HR21.out HN.out
       obtain ⟨c1, f1, -⟩ := HP21.out.at
       have hpb := HP21.out.lt
       obtain ⟨q221, q222⟩ := HP21.out.on hE hle22
       have hLn := hE.len
       obtain ⟨a22, hat22⟩ : ∃ a, Ps.at' s2 = a := ⟨_, rfl⟩
       rw [hat22] at c1 hle22 hr22 q221 q222
       have hi : a22 < 100000 := by omega
       obtain ⟨s22, hs22⟩ : ∃ t : Ps, (⟨a22 + 1, s2.done, s2.nm⟩ : Ps) = t := ⟨_, rfl⟩
       rw [hs22] at hr22 q221
       clear hs22
       have HR22 := Hh hr22
       have HP22 := Hh q221
       have HK22 := Hh (HK21.out.trans q222)
       have HBh22 := Hh (HBh21.out.kp q222)
       have HBt22 := Hh (HBt21.out.kp q222)
       have HAT22 := Hh hat22
       clear q221 q222 hr22 hle22 hLn hat22
       go_wp2_with fail
       try clear c1 f1 hpb hi
       go_roundg g2
       case measure => omega
       case rel => exact ⟨_, _, _, _, rfl, rfl, rfl, by omega, HR22.out, HP22.out, HK22.out, HBh22.out⟩
      ·go_wp2_with fail
       try rw [hbt]
       refine SG.out.mono ?_
       rintro e w21 ⟨rfl, hp21, hkk⟩
       clear SG
       have HP21 := Hh hp21
       have HK21 := Hh (HK3.out.trans hkk)
       have HBh21 := Hh (HBh3.out.kp hkk)
       have HBt21 := Hh (HBt3.out.kp hkk)
       clear hp21 hkk
       replace HR21 := Hh (q_negK HR21.out (by simp [hc32, hc31, hk]))
       replace HR21 := Hh (q_negK HR21.out (by simp [hc32, hc31, hk]))
       replace HR21 := Hh (q_negK HR21.out (by simp [hc32, hc31, hk]))
       replace HR21 := Hh (q_negK HR21.out (by simp [hc32, hc31, hk]))
       replace HR21 := Hh (q_negK HR21.out (by simp [hc32, hc31, hk]))
       replace HR21 := Hh (q_negK HR21.out (by simp [hc32, hc31, hk]))
       replace HR21 := Hh (q_posK HR21.out (by simp [hc32, hc31, hk]))
       with_reducible replace HR21 := Hh (q_assoc HR21.out)
       go_wp2_with fail
       refine mQ ((IH.out g2 (by omega)).f_atomic  _ _ HP21.out (qne HR21.out HN.out)) HR21 HN HK21 (fun _ _ h => ⟨rfl, h⟩) ?_
       rintro v23 s23 y23 w23 HR23 rfl HP23 hkk HK23
       have HBh23 := Hh (HBh21.out.kp hkk)
       have HBt23 := Hh (HBt21.out.kp hkk)
       clear hkk
       go_wp2_with fail
       go_roundg g2
       case measure => omega
       case rel => exact ⟨_, _, (oo + 1), _, rfl, rfl, by go_num, by omega, HR23.out, HP23.out, HK23.out, HBh23.out⟩
     ·have SP := Hh (fun W : World => (by have h := wk_spec t3 W; rw [HX3.out, hk] at h; exact h : Calls Tryz.prog 75 #[.string x3] W fun e w' => e = .returned (.int .i64 (5 : Nat)) ∧ w' = W))
      go_wp2_with fail
      try rw [hbt]
      refine (SP.out _).mono ?_
      rintro e wsp ⟨rfl, rfl⟩
      clear SP
      replace HR3 := Hh (q_negK HR3.out (by simp [hc32, hc31, hk]))
      replace HR3 := Hh (q_negK HR3.out (by simp [hc32, hc31, hk]))
      replace HR3 := Hh (q_negK HR3.out (by simp [hc32, hc31, hk]))
      replace HR3 := Hh (q_negK HR3.out (by simp [hc32, hc31, hk]))
      replace HR3 := Hh (q_negK HR3.out (by simp [hc32, hc31, hk]))
      replace HR3 := Hh (q_posK HR3.out (by simp [hc32, hc31, hk]))
      with_reducible replace HR3 := Hh (q_assoc HR3.out)
      obtain ⟨hle24, hr24⟩ := q_step HR3.out HN.out
      obtain ⟨c1, f1, -⟩ := HPo3.out.at
      have hpb := HPo3.out.lt
      rw [hbt] at hpb
      obtain ⟨q241, q242⟩ := HPo3.out.on hE hle24
      have hLn := hE.len
      obtain ⟨a24, hat24⟩ : ∃ a, Ps.at' s2 = a := ⟨_, rfl⟩
      rw [hat24] at c1 hle24 hr24 q241 q242
      have hi : a24 < 100000 := by omega
      obtain ⟨s24, hs24⟩ : ∃ t : Ps, (⟨a24 + 1, s2.done, s2.nm⟩ : Ps) = t := ⟨_, rfl⟩
      rw [hs24] at hr24 q241
      clear hs24
      have HR24 := Hh hr24
      have HP24 := Hh (q241.ext hE (below_alloc _ (.cells #[.int .i64 z3, .string x3] 54)))
      have hkx := KP.of_below (below_alloc (World.setCell w3 ⟨E.pb, 1, none⟩ (.int .i64 ((a24 + 1 : Nat) : Int))) (.cells #[.int .i64 z3, .string x3] 54))
      have HK24 := Hh (HKo3.out.trans (q242.trans hkx))
      have HBh24 := Hh ((HBoh3.out.kp q242).kp hkx)
      have HBt24 := Hh (hbt ▸ CtB.new' w3 ⟨E.pb, 1, none⟩ (.int .i64 ((a24 + 1 : Nat) : Int)) z3 x3)
      have HAT24 := Hh hat24
      clear q241 q242 hr24 hle24 hLn hat24 hkx
      go_wp2_with fail
      try rw [hbt]
      try clear c1 f1 hpb hi
      go_roundg g2
      case measure => omega
      case rel => exact ⟨_, (wd + 1), _, _, rfl, by go_num, rfl, by omega, HR24.out, HP24.out, HK24.out, HBh24.out⟩
     ·have SP := Hh (fun W : World => (by have h := wk_spec t3 W; rw [HX3.out, hk] at h; exact h : Calls Tryz.prog 75 #[.string x3] W fun e w' => e = .returned (.int .i64 (6 : Nat)) ∧ w' = W))
      go_wp2_with fail
      try rw [hbt]
      refine (SP.out _).mono ?_
      rintro e wsp ⟨rfl, rfl⟩
      clear SP
      replace HR3 := Hh (q_negK HR3.out (by simp [hc32, hc31, hk]))
      replace HR3 := Hh (q_negK HR3.out (by simp [hc32, hc31, hk]))
      replace HR3 := Hh (q_negK HR3.out (by simp [hc32, hc31, hk]))
      replace HR3 := Hh (q_negK HR3.out (by simp [hc32, hc31, hk]))
      replace HR3 := Hh (q_negK HR3.out (by simp [hc32, hc31, hk]))
      replace HR3 := Hh (q_negK HR3.out (by simp [hc32, hc31, hk]))
      replace HR3 := Hh (q_negK HR3.out (by simp [hc32, hc31, hk]))
      replace HR3 := Hh (q_posK HR3.out (by simp [hc32, hc31, hk]))
      with_reducible replace HR3 := Hh (q_assoc HR3.out)
      go_wp2_with fail
      try rw [hbt]
      refine mQ ((IH.out g2 (by omega)).f_record  _ _ HP3.out (qne HR3.out HN.out)) HR3 HN HK3 (fun _ _ h => ⟨rfl, h⟩) ?_
      rintro v25 s25 y25 w25 HR25 rfl HP25 hkk HK25
      have HBh25 := Hh (HBh3.out.kp hkk)
      have HBt25 := Hh (HBt3.out.kp hkk)
      clear hkk
      go_wp2_with fail
      go_roundg g2
      case measure => omega
      case rel => exact ⟨_, _, (oo + 1), _, rfl, rfl, by go_num, by omega, HR25.out, HP25.out, HK25.out, HBh25.out⟩
     ·have SP := Hh (fun W : World => (by have h := wk_spec t3 W; rw [HX3.out, hk] at h; exact h : Calls Tryz.prog 75 #[.string x3] W fun e w' => e = .returned (.int .i64 (7 : Nat)) ∧ w' = W))
      go_wp2_with fail
      try rw [hbt]
      refine (SP.out _).mono ?_
      rintro e wsp ⟨rfl, rfl⟩
      clear SP
      replace HR3 := Hh (q_negK HR3.out (by simp [hc32, hc31, hk]))
      replace HR3 := Hh (q_negK HR3.out (by simp [hc32, hc31, hk]))
      replace HR3 := Hh (q_negK HR3.out (by simp [hc32, hc31, hk]))
      replace HR3 := Hh (q_negK HR3.out (by simp [hc32, hc31, hk]))
      replace HR3 := Hh (q_negK HR3.out (by simp [hc32, hc31, hk]))
      replace HR3 := Hh (q_negK HR3.out (by simp [hc32, hc31, hk]))
      replace HR3 := Hh (q_negK HR3.out (by simp [hc32, hc31, hk]))
      replace HR3 := Hh (q_negK HR3.out (by simp [hc32, hc31, hk]))
      replace HR3 := Hh (q_posK HR3.out (by simp [hc32, hc31, hk]))
      with_reducible replace HR3 := Hh (q_assoc HR3.out)
      go_wp2_with fail
      try rw [hbt]
      refine mQ ((IH.out g2 (by omega)).f_enum  _ _ HP3.out (qne HR3.out HN.out)) HR3 HN HK3 (fun _ _ h => ⟨rfl, h⟩) ?_
      rintro v26 s26 y26 w26 HR26 rfl HP26 hkk HK26
      have HBh26 := Hh (HBh3.out.kp hkk)
      have HBt26 := Hh (HBt3.out.kp hkk)
      clear hkk
      go_wp2_with fail
      go_roundg g2
      case measure => omega
      case rel => exact ⟨_, _, (oo + 1), _, rfl, rfl, by go_num, by omega, HR26.out, HP26.out, HK26.out, HBh26.out⟩
    rotate_left 3
    focus
     have fc32 : (z3 == 2) = false := by rw [← HZ3.out, beq_eq_false_iff_ne]; omega
     have fn32 : (z3 != 2) = true := by rw [← HZ3.out, bne_iff_ne]; omega
     have fc31 : (z3 == 1) = false := by rw [← HZ3.out, beq_eq_false_iff_ne]; omega
     have fn31 : (z3 != 1) = true := by rw [← HZ3.out, bne_iff_ne]; omega
     replace HR3 := Hh (q_negK HR3.out (by simp [hc32, hc31]))
     replace HR3 := Hh (q_posK HR3.out (by simp [hc32, hc31]))
     refine ?S1d
    case S1a | S1b | S1c | S1d =>
     by_cases hw0 : wd = 0
     focus
      subst hw0
      by_cases ho0 : oo = 0
      ·subst ho0
       replace HR3 := Hh (q_posK HR3.out (by omega))
       go_wp2_with fail
       try rw [hbt]
       refine (wk_fail (α := Va) hE (fun _ => .tuple #[]) _ _ HP3.out).mono ?_
       rintro e wf ⟨⟨z, rfl⟩, hbf, hkf⟩
       exact ⟨rfl, q_no (show r = .no from HR3.out.symm) hbf (HK3.out.trans hkf)⟩
      focus
       by_cases ho1 : oo = 1
       focus
        subst ho1
        refine ?S3a
       rotate_left 1
       ·have f1 : ((oo : Int) == 0) = false := by rw [beq_eq_false_iff_ne]; omega
        have f2 : 1 < oo := by omega
        replace HR3 := Hh (q_posK HR3.out (by omega))
        go_wp2_with fail
        try rw [hbt]
        refine (wk_fail (α := Va) hE (fun _ => .tuple #[]) _ _ HP3.out).mono ?_
        rintro e wf ⟨⟨z, rfl⟩, hbf, hkf⟩
        exact ⟨rfl, q_no (show r = .no from HR3.out.symm) hbf (HK3.out.trans hkf)⟩
     rotate_left 1
     focus
      have f1 : ((wd : Int) + (oo : Int) == 0) = false := by rw [beq_eq_false_iff_ne]; omega
      have f3 : 0 < wd := by omega
      by_cases ho0 : oo = 0
      focus
       subst ho0
       have f4 : ((wd : Int) == 0) = false := by rw [beq_eq_false_iff_ne]; omega
       refine ?S3b
      rotate_left 1
      ·have f5 : 0 < oo := by omega
       by_cases ho1 : 1 < oo
       ·replace HR3 := Hh (q_posK HR3.out (by omega))
        go_wp2_with fail
        try rw [hbt]
        refine (wk_fail (α := Va) hE (fun _ => .tuple #[]) _ _ HP3.out).mono ?_
        rintro e wf ⟨⟨z, rfl⟩, hbf, hkf⟩
        exact ⟨rfl, q_no (show r = .no from HR3.out.symm) hbf (HK3.out.trans hkf)⟩
       ·have f6 : decide (1 < oo) = false := decide_eq_false ho1
        replace HR3 := Hh (q_posK HR3.out (by omega))
        go_wp2_with fail
        try rw [hbt]
        refine (wk_fail (α := Va) hE (fun _ => .tuple #[]) _ _ HP3.out).mono ?_
        rintro e wf ⟨⟨z, rfl⟩, hbf, hkf⟩
        exact ⟨rfl, q_no (show r = .no from HR3.out.symm) hbf (HK3.out.trans hkf)⟩
     case S3a | S3b =>
      replace HR3 := Hh (q_negK HR3.out (by omega))
      with_reducible replace HR3 := Hh (q_pb HR3.out)
      obtain ⟨d0, d1⟩ := HBh3.out.cells
      go_wp2_with fail
      try rw [hbt]
      refine mR (wk_node hE 5 v1 _ _ HP3.out (qne HR3.out HN.out)) HR3 HN HK3 (fun _ _ h => ⟨rfl, h⟩) ?_
      rintro v10 s10 w10 HR10 HP10 hkk HK10
      have HBh10 := Hh (HBh3.out.kp hkk)
      have HBt10 := Hh (HBt3.out.kp hkk)
      clear hkk
      try clear d0 d1
      skip
      go_wp2_with fail
      exact ⟨rfl, .bool td, by simp [results, Tryz.results46, go_sem], q_ok (q_pure HR10.out) rfl HP10.out HK10.out⟩
end Go.Proofs.YtlboejdhmggjpaaGreat.Pp

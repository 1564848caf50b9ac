/- parse: enum, record. -/
import Derived.Test.YtlboejdhmggjpaaGreatWkP
set_option linter.all false
namespace Go.Proofs.YtlboejdhmggjpaaGreat.Pp
set_option maxRecDepth 100000
set_option maxHeartbeats 16000000
open Go.RowKit Go.BigFrame Go.Proofs.YtlboejdhmggjpaaGreat

theorem w_enum {E : En} (hE : E.ok) {n : Nat} (ih : ∀ m, m ≤ n → Wk E m)  (s : Ps) (w : World) (hp : PW E w s) (hne : run E.L E.base (n + 1) (.enum) s ≠ .out) : Calls Tryz.prog 79 #[.pointer (some ⟨E.pb, 0, none⟩)] w (EndQ E vaU w (run E.L E.base (n + 1) (.enum) s)) := by
 obtain ⟨r, hr⟩ : ∃ r, run E.L E.base (n + 1) (.enum) s = r := ⟨_, rfl⟩
 rw [hr] at hne ⊢
 rw [run] at hr
 have HN := Hh hne
 have HR0 := Hh hr
 have HP0 := Hh hp
 have HK0 := Hh (KP.refl w)
 have IH := Hh ih
 clear hne hr hp ih
 have hF : ∀ (z : Int) (x : ByteArray) (W : World), (Instr.field 54 (.agg #[.int .i64 z, .string x]) 0).run Tryz.prog W = .ok (.int .i64 z) W := fun z x W => by kernel_rfl
 go_enter Tryz.func79, Tryz.ntmps79
 go_wp2_with fail
 refine mR (wk_here hE _ _ HP0.out) HR0 HN HK0 (fun _ _ h => ⟨rfl, h⟩) ?_
 rintro v1 s1 w1 HR1 HP1 - HK1
 have HBn := Hh (HdB.new w1 v1)
 have HPn := Hh (HP1.out.ext hE (below_alloc w1 (.cells #[.int .i64 v1.1, .int .i64 v1.2] 77)))
 have HKn := Hh (HK1.out.trans (KP.of_below (below_alloc w1 (.cells #[.int .i64 v1.1, .int .i64 v1.2] 77))))
 have HPo1 := Hh HP1.out
 have HKo1 := Hh HK1.out
 clear HP1 HK1
 have HP1 := Hh HPn.out
 have HK1 := Hh HKn.out
 clear HPn HKn
 simp only [hdV]
 obtain ⟨bh, hbh⟩ : ∃ b, w1.heap.size = b := ⟨_, rfl⟩
 have HBh1 := Hh (hbh ▸ HBn.out)
 clear HBn
 obtain ⟨hle2, hr2⟩ := q_step HR1.out HN.out
 obtain ⟨c1, f1, -⟩ := HPo1.out.at
 have hpb := HPo1.out.lt
 rw [hbh] at hpb
 obtain ⟨q21, q22⟩ := HPo1.out.on hE hle2
 have hLn := hE.len
 obtain ⟨a2, hat2⟩ : ∃ a, Ps.at' s1 = a := ⟨_, rfl⟩
 rw [hat2] at c1 hle2 hr2 q21 q22
 have hi : a2 < 100000 := by omega
 obtain ⟨s2, hs2⟩ : ∃ t : Ps, (⟨a2 + 1, s1.done, s1.nm⟩ : Ps) = t := ⟨_, rfl⟩
 rw [hs2] at hr2 q21
 clear hs2
 have HR2 := Hh hr2
 have HP2 := Hh (q21.ext hE (below_alloc _ (.cells #[.int .i64 v1.1, .int .i64 v1.2] 77)))
 have hkx := KP.of_below (below_alloc (World.setCell w1 ⟨E.pb, 1, none⟩ (.int .i64 ((a2 + 1 : Nat) : Int))) (.cells #[.int .i64 v1.1, .int .i64 v1.2] 77))
 have HK2 := Hh (HKo1.out.trans (q22.trans hkx))
 have HBh2 := Hh (hbh ▸ HdB.new' w1 ⟨E.pb, 1, none⟩ (.int .i64 ((a2 + 1 : Nat) : Int)) v1)
 have HAT2 := Hh hat2
 clear q21 q22 hr2 hle2 hLn hat2 hkx
 go_wp2_with fail
 try rw [hbh]
 try clear c1 f1 hpb hi
 obtain ⟨T3, hT3⟩ : ∃ T, peekS E.L s2 0 = T := ⟨_, rfl⟩
 have pk3 := wk_peek hE 0 _ _ (by omega) HP2.out
 rw [hT3] at pk3
 unfold ctV at pk3
 have hq := qone (x := peek E.L 0) HR2.out rfl
 rw [hT3] at hq
 have HR3 := Hh hq
 clear hq hT3
 refine pk3.mono ?_
 rintro e w3 ⟨rfl, hb3⟩
 have HP3 := Hh (HP2.out.ext hE hb3)
 have HK3 := Hh (HK2.out.trans (KP.of_below hb3))
 have HBh3 := Hh (HBh2.out.kp (KP.of_below hb3))
 clear hb3 pk3
 by_cases hc3 : T3.c = 2
 focus
  replace HR3 := Hh (q_posK HR3.out hc3)
  obtain ⟨hle4, hr4⟩ := q_step HR3.out HN.out
  obtain ⟨c1, f1, -⟩ := HP3.out.at
  have hpb := HP3.out.lt
  obtain ⟨q41, q42⟩ := HP3.out.on hE hle4
  have hLn := hE.len
  obtain ⟨a4, hat4⟩ : ∃ a, Ps.at' s2 = a := ⟨_, rfl⟩
  rw [hat4] at c1 hle4 hr4 q41 q42
  have hi : a4 < 100000 := by omega
  obtain ⟨s4, hs4⟩ : ∃ t : Ps, (⟨a4 + 1, s2.done, s2.nm⟩ : Ps) = t := ⟨_, rfl⟩
  rw [hs4] at hr4 q41
  clear hs4
  have HR4 := Hh hr4
  have HP4 := Hh q41
  have HK4 := Hh (HK3.out.trans q42)
  have HBh4 := Hh (HBh3.out.kp q42)
  have HAT4 := Hh hat4
  clear q41 q42 hr4 hle4 hLn hat4
  go_wp2_with fail
  try clear c1 f1 hpb hi
  refine mR (wk_took hE [123] _ _ HP4.out) HR4 HN HK4 (fun _ _ h => ⟨rfl, h⟩) ?_
  rintro v5 s5 w5 HR5 HP5 hkk HK5
  have HBh5 := Hh (HBh4.out.kp hkk)
  clear hkk
  obtain ⟨bb5, hbb5⟩ : ∃ bb, v5 = bb := ⟨_, rfl⟩
  rw [hbb5] at HR5 ⊢
  clear hbb5
  cases bb5
  ·have HQ := Hh (q_iff HR5.out)
   clear HR5
   have HR5 := Hh HQ.out
   clear HQ
   obtain ⟨d0, d1⟩ := HBh5.out.cells
   go_wp2_with fail
   replace HR5 := Hh (q_pos HR5.out hc3)
   refine mR (wk_node hE 9 v1 _ _ HP5.out (qne HR5.out HN.out)) HR5 HN HK5 (fun _ _ h => ⟨rfl, h⟩) ?_
   rintro v6 s6 w6 HR6 HP6 hkk HK6
   have HBh6 := Hh (HBh5.out.kp hkk)
   clear hkk
   try clear d0 d1
   skip
   go_wp2_with fail
   exact ⟨rfl, .tuple #[], by simp [results, Tryz.results79, go_sem], q_ok (q_pure HR6.out) rfl HP6.out HK6.out⟩
  focus
   have HQ := Hh (q_ift HR5.out)
   clear HR5
   refine ?S1a
 rotate_left 1
 focus
  have hn3 : ((T3.c : Int) == 2) = false := by rw [beq_eq_false_iff_ne]; omega
  replace HR3 := Hh (q_negK HR3.out hc3)
  go_wp2_with fail
  with_reducible replace HR3 := Hh (q_pb HR3.out)
  refine mR (wk_took hE [123] _ _ HP3.out) HR3 HN HK3 (fun _ _ h => ⟨rfl, h⟩) ?_
  rintro v16 s16 w16 HR16 HP16 hkk HK16
  have HBh16 := Hh (HBh3.out.kp hkk)
  clear hkk
  obtain ⟨bb16, hbb16⟩ : ∃ bb, v16 = bb := ⟨_, rfl⟩
  rw [hbb16] at HR16 ⊢
  clear hbb16
  cases bb16
  ·have HQ := Hh (q_iff HR16.out)
   clear HR16
   have HR16 := Hh HQ.out
   clear HQ
   go_wp2_with fail
   replace HR16 := Hh (q_neg HR16.out hc3)
   refine (wk_fail (α := Va) hE (fun _ => .tuple #[]) _ _ HP16.out).mono ?_
   rintro e wf ⟨⟨z, rfl⟩, hbf, hkf⟩
   exact ⟨rfl, q_no (q_fail HR16.out) hbf (HK16.out.trans hkf)⟩
  focus
   have HQ := Hh (q_ift HR16.out)
   clear HR16
   have HP5 := HP16
   have HK5 := HK16
   have HBh5 := HBh16
   refine ?S1b
 case S1a | S1b =>
  have HR5 := Hh HQ.out
  clear HQ
  go_wp2_with fail
  refine mQ ((IH.out n (Nat.le_refl _)).f_enumerator  _ _ HP5.out (qne HR5.out HN.out)) HR5 HN HK5 (fun _ _ h => ⟨rfl, h⟩) ?_
  rintro v7 s7 y7 w7 HR7 rfl HP7 hkk HK7
  have HBh7 := Hh (HBh5.out.kp hkk)
  clear hkk
  go_wp2_with fail
  go_loopg [] n (fun k wr => ∃ s', k ≤ n ∧ (run E.L E.base k (.enumR) >>= fun _ => (do need E.L [125]; node E.L 9 v1; pure Va.un)) s' = r ∧ PW E wr s' ∧ KP w wr ∧ HdB wr bh v1)
  case atStart => exact ⟨_, Nat.le_refl _, HR7.out, HP7.out, HK7.out, HBh7.out⟩
  case round =>
   obtain ⟨s8, hgn8, hr8, hp8, hk8, hhh8⟩ := hrel
   cases gk with
   | zero => exact absurd (q_0 hr8) HN.out
   | succ g8 =>
    rw [run] at hr8
    have HR8 := Hh hr8
    have HP8 := Hh hp8
    have HK8 := Hh hk8
    have HBh8 := Hh hhh8
    clear hr8 hp8 hk8 hhh8
    with_reducible replace HR8 := Hh (q_assoc HR8.out)
    go_wp2_with fail
    refine mR (wk_took hE [44] _ _ HP8.out) HR8 HN HK8 (fun _ _ h => ⟨rfl, h⟩) ?_
    rintro v9 s9 w9 HR9 HP9 hkk HK9
    have HBh9 := Hh (HBh8.out.kp hkk)
    clear hkk
    obtain ⟨bb9, hbb9⟩ : ∃ bb, v9 = bb := ⟨_, rfl⟩
    rw [hbb9] at HR9 ⊢
    clear hbb9
    cases bb9
    focus
     have HQ := Hh (q_iffK HR9.out)
     clear HR9
     refine ?S3a
    rotate_left 1
    focus
     have HQ := Hh (q_iftK HR9.out)
     clear HR9
     have HR9 := Hh HQ.out
     clear HQ
     with_reducible replace HR9 := Hh (q_assoc HR9.out)
     go_wp2_with fail
     refine mR (wk_sign hE 0 [125] _ _ (by omega) HP9.out) HR9 HN HK9 (fun _ _ h => ⟨rfl, h⟩) ?_
     rintro v12 s12 w12 HR12 HP12 hkk HK12
     have HBh12 := Hh (HBh9.out.kp hkk)
     clear hkk
     obtain ⟨bb12, hbb12⟩ : ∃ bb, v12 = bb := ⟨_, rfl⟩
     rw [hbb12] at HR12 ⊢
     clear hbb12
     cases bb12
     ·have HQ := Hh (q_iffK HR12.out)
      clear HR12
      have HR12 := Hh HQ.out
      clear HQ
      with_reducible replace HR12 := Hh (q_assoc HR12.out)
      go_wp2_with fail
      refine mQ ((IH.out g8 (by omega)).f_enumerator  _ _ HP12.out (qne HR12.out HN.out)) HR12 HN HK12 (fun _ _ h => ⟨rfl, h⟩) ?_
      rintro v13 s13 y13 w13 HR13 rfl HP13 hkk HK13
      have HBh13 := Hh (HBh12.out.kp hkk)
      clear hkk
      go_wp2_with fail
      go_roundg g8
      case measure => omega
      case rel => exact ⟨_, by omega, HR13.out, HP13.out, HK13.out, HBh13.out⟩
     focus
      have HQ := Hh (q_iftK HR12.out)
      clear HR12
      have HP9 := HP12
      have HK9 := HK12
      have HBh9 := HBh12
      refine ?S3b
    case S3a | S3b =>
     have HR9 := Hh HQ.out
     clear HQ
     go_wp2_with fail
     with_reducible replace HR9 := Hh (q_pb HR9.out)
     refine mR (wk_need hE [125] _ _ HP9.out) HR9 HN HK9 (fun _ _ h => ⟨rfl, h⟩) ?_
     rintro v10 s10 w10 HR10 HP10 hkk HK10
     have HBh10 := Hh (HBh9.out.kp hkk)
     clear hkk
     obtain ⟨d0, d1⟩ := HBh10.out.cells
     go_wp2_with fail
     refine mR (wk_node hE 9 v1 _ _ HP10.out (qne HR10.out HN.out)) HR10 HN HK10 (fun _ _ h => ⟨rfl, h⟩) ?_
     rintro v11 s11 w11 HR11 HP11 hkk HK11
     have HBh11 := Hh (HBh10.out.kp hkk)
     clear hkk
     try clear d0 d1
     skip
     go_wp2_with fail
     exact ⟨rfl, .tuple #[], by simp [results, Tryz.results79, go_sem], q_ok (q_pure HR11.out) rfl HP11.out HK11.out⟩
theorem w_record {E : En} (hE : E.ok) {n : Nat} (ih : ∀ m, m ≤ n → Wk E m)  (s : Ps) (w : World) (hp : PW E w s) (hne : run E.L E.base (n + 1) (.record) s ≠ .out) : Calls Tryz.prog 78 #[.pointer (some ⟨E.pb, 0, none⟩)] w (EndQ E vaU w (run E.L E.base (n + 1) (.record) s)) := by
 obtain ⟨r, hr⟩ : ∃ r, run E.L E.base (n + 1) (.record) s = r := ⟨_, rfl⟩
 rw [hr] at hne ⊢
 rw [run] at hr
 have HN := Hh hne
 have HR0 := Hh hr
 have HP0 := Hh hp
 have HK0 := Hh (KP.refl w)
 have IH := Hh ih
 clear hne hr hp ih
 have hF : ∀ (z : Int) (x : ByteArray) (W : World), (Instr.field 54 (.agg #[.int .i64 z, .string x]) 0).run Tryz.prog W = .ok (.int .i64 z) W := fun z x W => by kernel_rfl
 go_enter Tryz.func78, Tryz.ntmps78
 go_wp2_with fail
 refine mR (wk_here hE _ _ HP0.out) HR0 HN HK0 (fun _ _ h => ⟨rfl, h⟩) ?_
 rintro v1 s1 w1 HR1 HP1 - HK1
 have HBn := Hh (HdB.new w1 v1)
 have HPn := Hh (HP1.out.ext hE (below_alloc w1 (.cells #[.int .i64 v1.1, .int .i64 v1.2] 77)))
 have HKn := Hh (HK1.out.trans (KP.of_below (below_alloc w1 (.cells #[.int .i64 v1.1, .int .i64 v1.2] 77))))
 have HPo1 := Hh HP1.out
 have HKo1 := Hh HK1.out
 clear HP1 HK1
 have HP1 := Hh HPn.out
 have HK1 := Hh HKn.out
 clear HPn HKn
 simp only [hdV]
 obtain ⟨bh, hbh⟩ : ∃ b, w1.heap.size = b := ⟨_, rfl⟩
 have HBh1 := Hh (hbh ▸ HBn.out)
 clear HBn
 obtain ⟨hle2, hr2⟩ := q_step HR1.out HN.out
 obtain ⟨c1, f1, -⟩ := HPo1.out.at
 have hpb := HPo1.out.lt
 rw [hbh] at hpb
 obtain ⟨q21, q22⟩ := HPo1.out.on hE hle2
 have hLn := hE.len
 obtain ⟨a2, hat2⟩ : ∃ a, Ps.at' s1 = a := ⟨_, rfl⟩
 rw [hat2] at c1 hle2 hr2 q21 q22
 have hi : a2 < 100000 := by omega
 obtain ⟨s2, hs2⟩ : ∃ t : Ps, (⟨a2 + 1, s1.done, s1.nm⟩ : Ps) = t := ⟨_, rfl⟩
 rw [hs2] at hr2 q21
 clear hs2
 have HR2 := Hh hr2
 have HP2 := Hh (q21.ext hE (below_alloc _ (.cells #[.int .i64 v1.1, .int .i64 v1.2] 77)))
 have hkx := KP.of_below (below_alloc (World.setCell w1 ⟨E.pb, 1, none⟩ (.int .i64 ((a2 + 1 : Nat) : Int))) (.cells #[.int .i64 v1.1, .int .i64 v1.2] 77))
 have HK2 := Hh (HKo1.out.trans (q22.trans hkx))
 have HBh2 := Hh (hbh ▸ HdB.new' w1 ⟨E.pb, 1, none⟩ (.int .i64 ((a2 + 1 : Nat) : Int)) v1)
 have HAT2 := Hh hat2
 clear q21 q22 hr2 hle2 hLn hat2 hkx
 go_wp2_with fail
 try rw [hbh]
 try clear c1 f1 hpb hi
 obtain ⟨T3, hT3⟩ : ∃ T, peekS E.L s2 0 = T := ⟨_, rfl⟩
 have pk3 := wk_peek hE 0 _ _ (by omega) HP2.out
 rw [hT3] at pk3
 unfold ctV at pk3
 have hq := qone (x := peek E.L 0) HR2.out rfl
 rw [hT3] at hq
 have HR3 := Hh hq
 clear hq hT3
 refine pk3.mono ?_
 rintro e w3 ⟨rfl, hb3⟩
 have HP3 := Hh (HP2.out.ext hE hb3)
 have HK3 := Hh (HK2.out.trans (KP.of_below hb3))
 have HBh3 := Hh (HBh2.out.kp (KP.of_below hb3))
 clear hb3 pk3
 by_cases hc3 : T3.c = 2
 focus
  replace HR3 := Hh (q_posK HR3.out hc3)
  obtain ⟨hle4, hr4⟩ := q_step HR3.out HN.out
  obtain ⟨c1, f1, -⟩ := HP3.out.at
  have hpb := HP3.out.lt
  obtain ⟨q41, q42⟩ := HP3.out.on hE hle4
  have hLn := hE.len
  obtain ⟨a4, hat4⟩ : ∃ a, Ps.at' s2 = a := ⟨_, rfl⟩
  rw [hat4] at c1 hle4 hr4 q41 q42
  have hi : a4 < 100000 := by omega
  obtain ⟨s4, hs4⟩ : ∃ t : Ps, (⟨a4 + 1, s2.done, s2.nm⟩ : Ps) = t := ⟨_, rfl⟩
  rw [hs4] at hr4 q41
  clear hs4
  have HR4 := Hh hr4
  have HP4 := Hh q41
  have HK4 := Hh (HK3.out.trans q42)
  have HBh4 := Hh (HBh3.out.kp q42)
  have HAT4 := Hh hat4
  clear q41 q42 hr4 hle4 hLn hat4
  go_wp2_with fail
  try clear c1 f1 hpb hi
  refine mR (wk_took hE [123] _ _ HP4.out) HR4 HN HK4 (fun _ _ h => ⟨rfl, h⟩) ?_
  rintro v5 s5 w5 HR5 HP5 hkk HK5
  have HBh5 := Hh (HBh4.out.kp hkk)
  clear hkk
  obtain ⟨bb5, hbb5⟩ : ∃ bb, v5 = bb := ⟨_, rfl⟩
  rw [hbb5] at HR5 ⊢
  clear hbb5
  cases bb5
  ·have HQ := Hh (q_iff HR5.out)
   clear HR5
   have HR5 := Hh HQ.out
   clear HQ
   obtain ⟨d0, d1⟩ := HBh5.out.cells
   go_wp2_with fail
   replace HR5 := Hh (q_pos HR5.out hc3)
   refine mR (wk_node hE 6 v1 _ _ HP5.out (qne HR5.out HN.out)) HR5 HN HK5 (fun _ _ h => ⟨rfl, h⟩) ?_
   rintro v6 s6 w6 HR6 HP6 hkk HK6
   have HBh6 := Hh (HBh5.out.kp hkk)
   clear hkk
   try clear d0 d1
   skip
   go_wp2_with fail
   exact ⟨rfl, .tuple #[], by simp [results, Tryz.results78, go_sem], q_ok (q_pure HR6.out) rfl HP6.out HK6.out⟩
  focus
   have HQ := Hh (q_ift HR5.out)
   clear HR5
   refine ?S2a
 rotate_left 1
 focus
  have hn3 : ((T3.c : Int) == 2) = false := by rw [beq_eq_false_iff_ne]; omega
  replace HR3 := Hh (q_negK HR3.out hc3)
  go_wp2_with fail
  with_reducible replace HR3 := Hh (q_pb HR3.out)
  refine mR (wk_took hE [123] _ _ HP3.out) HR3 HN HK3 (fun _ _ h => ⟨rfl, h⟩) ?_
  rintro v12 s12 w12 HR12 HP12 hkk HK12
  have HBh12 := Hh (HBh3.out.kp hkk)
  clear hkk
  obtain ⟨bb12, hbb12⟩ : ∃ bb, v12 = bb := ⟨_, rfl⟩
  rw [hbb12] at HR12 ⊢
  clear hbb12
  cases bb12
  ·have HQ := Hh (q_iff HR12.out)
   clear HR12
   have HR12 := Hh HQ.out
   clear HQ
   go_wp2_with fail
   replace HR12 := Hh (q_neg HR12.out hc3)
   refine (wk_fail (α := Va) hE (fun _ => .tuple #[]) _ _ HP12.out).mono ?_
   rintro e wf ⟨⟨z, rfl⟩, hbf, hkf⟩
   exact ⟨rfl, q_no (q_fail HR12.out) hbf (HK12.out.trans hkf)⟩
  focus
   have HQ := Hh (q_ift HR12.out)
   clear HR12
   have HP5 := HP12
   have HK5 := HK12
   have HBh5 := HBh12
   refine ?S2b
 case S2a | S2b =>
  have HR5 := Hh HQ.out
  clear HQ
  go_wp2_with fail
  refine mQ ((IH.out n (Nat.le_refl _)).f_member  _ _ HP5.out (qne HR5.out HN.out)) HR5 HN HK5 (fun _ _ h => ⟨rfl, h⟩) ?_
  rintro v7 s7 y7 w7 HR7 rfl HP7 hkk HK7
  have HBh7 := Hh (HBh5.out.kp hkk)
  clear hkk
  go_wp2_with fail
  go_loopg [] n (fun k wr => ∃ s', k ≤ n ∧ (run E.L E.base k (.recordR) >>= fun _ => (do node E.L 6 v1; pure Va.un)) s' = r ∧ PW E wr s' ∧ KP w wr ∧ HdB wr bh v1)
  case atStart => exact ⟨_, Nat.le_refl _, HR7.out, HP7.out, HK7.out, HBh7.out⟩
  case round =>
   obtain ⟨s8, hgn8, hr8, hp8, hk8, hhh8⟩ := hrel
   cases gk with
   | zero => exact absurd (q_0 hr8) HN.out
   | succ g8 =>
    rw [run] at hr8
    have HR8 := Hh hr8
    have HP8 := Hh hp8
    have HK8 := Hh hk8
    have HBh8 := Hh hhh8
    clear hr8 hp8 hk8 hhh8
    with_reducible replace HR8 := Hh (q_assoc HR8.out)
    go_wp2_with fail
    refine mR (wk_took hE [125] _ _ HP8.out) HR8 HN HK8 (fun _ _ h => ⟨rfl, h⟩) ?_
    rintro v9 s9 w9 HR9 HP9 hkk HK9
    have HBh9 := Hh (HBh8.out.kp hkk)
    clear hkk
    obtain ⟨bb9, hbb9⟩ : ∃ bb, v9 = bb := ⟨_, rfl⟩
    rw [hbb9] at HR9 ⊢
    clear hbb9
    cases bb9
    ·have HQ := Hh (q_iffK HR9.out)
     clear HR9
     have HR9 := Hh HQ.out
     clear HQ
     with_reducible replace HR9 := Hh (q_assoc HR9.out)
     go_wp2_with fail
     refine mQ ((IH.out g8 (by omega)).f_member  _ _ HP9.out (qne HR9.out HN.out)) HR9 HN HK9 (fun _ _ h => ⟨rfl, h⟩) ?_
     rintro v10 s10 y10 w10 HR10 rfl HP10 hkk HK10
     have HBh10 := Hh (HBh9.out.kp hkk)
     clear hkk
     go_wp2_with fail
     go_roundg g8
     case measure => omega
     case rel => exact ⟨_, by omega, HR10.out, HP10.out, HK10.out, HBh10.out⟩
    ·have HQ := Hh (q_iftK HR9.out)
     clear HR9
     have HR9 := Hh HQ.out
     clear HQ
     obtain ⟨d0, d1⟩ := HBh9.out.cells
     go_wp2_with fail
     with_reducible replace HR9 := Hh (q_pb HR9.out)
     refine mR (wk_node hE 6 v1 _ _ HP9.out (qne HR9.out HN.out)) HR9 HN HK9 (fun _ _ h => ⟨rfl, h⟩) ?_
     rintro v11 s11 w11 HR11 HP11 hkk HK11
     have HBh11 := Hh (HBh9.out.kp hkk)
     clear hkk
     try clear d0 d1
     skip
     go_wp2_with fail
     exact ⟨rfl, .tuple #[], by simp [results, Tryz.results78, go_sem], q_ok (q_pure HR11.out) rfl HP11.out HK11.out⟩
end Go.Proofs.YtlboejdhmggjpaaGreat.Pp

/- parse: assert, items, field, align. -/
import Derived.Test.YtlboejdhmggjpaaGreatWkO
import Derived.Test.YtlboejdhmggjpaaGreatWkS
set_option linter.all false
namespace Go.Proofs.YtlboejdhmggjpaaGreat.Pp
set_option maxRecDepth 100000
set_option maxHeartbeats 16000000
open Go.RowKit Go.BigFrame Go.Proofs.YtlboejdhmggjpaaGreat

theorem w_assert {E : En} (hE : E.ok) {n : Nat} (ih : ∀ m, m ≤ n → Wk E m)  (s : Ps) (w : World) (hp : PW E w s) (hne : run E.L E.base (n + 1) (.assert) s ≠ .out) : Calls Tryz.prog 45 #[.pointer (some ⟨E.pb, 0, none⟩)] w (EndQ E vaU w (run E.L E.base (n + 1) (.assert) s)) := by
 obtain ⟨r, hr⟩ : ∃ r, run E.L E.base (n + 1) (.assert) s = r := ⟨_, rfl⟩
 rw [hr] at hne ⊢
 rw [run] at hr
 have HN := Hh hne
 have HR0 := Hh hr
 have HP0 := Hh hp
 have HK0 := Hh (KP.refl w)
 have IH := Hh ih
 clear hne hr hp ih
 go_enter Tryz.func45, Tryz.ntmps45
 go_wp2_with fail
 refine mR (wk_here hE _ _ HP0.out) HR0 HN HK0 (fun _ _ h => ⟨rfl, h⟩) ?_
 rintro v1 s1 w1 HR1 HP1 - HK1
 have HBn := Hh (HdB.new w1 v1)
 have HPn := Hh (HP1.out.ext hE (below_alloc w1 (.cells #[.int .i64 v1.1, .int .i64 v1.2] 77)))
 have HKn := Hh (HK1.out.trans (KP.of_below (below_alloc w1 (.cells #[.int .i64 v1.1, .int .i64 v1.2] 77))))
 have HPo1 := Hh HP1.out
 have HKo1 := Hh HK1.out
 clear HP1 HK1
 have HP1 := Hh HPn.out
 have HK1 := Hh HKn.out
 clear HPn HKn
 simp only [hdV]
 obtain ⟨bh, hbh⟩ : ∃ b, w1.heap.size = b := ⟨_, rfl⟩
 have HBh1 := Hh (hbh ▸ HBn.out)
 clear HBn
 obtain ⟨hle2, hr2⟩ := q_step HR1.out HN.out
 obtain ⟨c1, f1, -⟩ := HPo1.out.at
 have hpb := HPo1.out.lt
 rw [hbh] at hpb
 obtain ⟨q21, q22⟩ := HPo1.out.on hE hle2
 have hLn := hE.len
 obtain ⟨a2, hat2⟩ : ∃ a, Ps.at' s1 = a := ⟨_, rfl⟩
 rw [hat2] at c1 hle2 hr2 q21 q22
 have hi : a2 < 100000 := by omega
 obtain ⟨s2, hs2⟩ : ∃ t : Ps, (⟨a2 + 1, s1.done, s1.nm⟩ : Ps) = t := ⟨_, rfl⟩
 rw [hs2] at hr2 q21
 clear hs2
 have HR2 := Hh hr2
 have HP2 := Hh (q21.ext hE (below_alloc _ (.cells #[.int .i64 v1.1, .int .i64 v1.2] 77)))
 have hkx := KP.of_below (below_alloc (World.setCell w1 ⟨E.pb, 1, none⟩ (.int .i64 ((a2 + 1 : Nat) : Int))) (.cells #[.int .i64 v1.1, .int .i64 v1.2] 77))
 have HK2 := Hh (HKo1.out.trans (q22.trans hkx))
 have HBh2 := Hh (hbh ▸ HdB.new' w1 ⟨E.pb, 1, none⟩ (.int .i64 ((a2 + 1 : Nat) : Int)) v1)
 have HAT2 := Hh hat2
 clear q21 q22 hr2 hle2 hLn hat2 hkx
 go_wp2_with fail
 try rw [hbh]
 try clear c1 f1 hpb hi
 refine mR (wk_need hE [40] _ _ HP2.out) HR2 HN HK2 (fun _ _ h => ⟨rfl, h⟩) ?_
 rintro v3 s3 w3 HR3 HP3 hkk HK3
 have HBh3 := Hh (HBh2.out.kp hkk)
 clear hkk
 go_wp2_with fail
 refine mQ ((IH.out n (Nat.le_refl _)).f_choice  _ _ HP3.out (qne HR3.out HN.out)) HR3 HN HK3 (fun _ _ h => ⟨rfl, h⟩) ?_
 rintro v4 s4 y4 w4 HR4 rfl HP4 hkk HK4
 have HBh4 := Hh (HBh3.out.kp hkk)
 clear hkk
 go_wp2_with fail
 refine mR (wk_need hE [44] _ _ HP4.out) HR4 HN HK4 (fun _ _ h => ⟨rfl, h⟩) ?_
 rintro v5 s5 w5 HR5 HP5 hkk HK5
 have HBh5 := Hh (HBh4.out.kp hkk)
 clear hkk
 go_wp2_with fail
 refine mR (wk_strings hE _ _ HP5.out) HR5 HN HK5 (fun _ _ h => ⟨rfl, h⟩) ?_
 rintro v6 s6 w6 HR6 HP6 hkk HK6
 have HBh6 := Hh (HBh5.out.kp hkk)
 clear hkk
 go_wp2_with fail
 refine mR (wk_need hE [41] _ _ HP6.out) HR6 HN HK6 (fun _ _ h => ⟨rfl, h⟩) ?_
 rintro v7 s7 w7 HR7 HP7 hkk HK7
 have HBh7 := Hh (HBh6.out.kp hkk)
 clear hkk
 go_wp2_with fail
 refine mR (wk_need hE [59] _ _ HP7.out) HR7 HN HK7 (fun _ _ h => ⟨rfl, h⟩) ?_
 rintro v8 s8 w8 HR8 HP8 hkk HK8
 have HBh8 := Hh (HBh7.out.kp hkk)
 clear hkk
 obtain ⟨d0, d1⟩ := HBh8.out.cells
 go_wp2_with fail
 refine mR (wk_node hE 4 v1 _ _ HP8.out (qne HR8.out HN.out)) HR8 HN HK8 (fun _ _ h => ⟨rfl, h⟩) ?_
 rintro v9 s9 w9 HR9 HP9 hkk HK9
 have HBh9 := Hh (HBh8.out.kp hkk)
 clear hkk
 try clear d0 d1
 skip
 go_wp2_with fail
 exact ⟨rfl, .tuple #[], by simp [results, Tryz.results45, go_sem], q_ok (q_pure HR9.out) rfl HP9.out HK9.out⟩
theorem w_items {E : En} (hE : E.ok) {n : Nat} (ih : ∀ m, m ≤ n → Wk E m)  (s : Ps) (w : World) (hp : PW E w s) (hne : run E.L E.base (n + 1) (.items) s ≠ .out) : Calls Tryz.prog 87 #[.pointer (some ⟨E.pb, 0, none⟩)] w (EndQ E vaU w (run E.L E.base (n + 1) (.items) s)) := by
 obtain ⟨r, hr⟩ : ∃ r, run E.L E.base (n + 1) (.items) s = r := ⟨_, rfl⟩
 rw [hr] at hne ⊢
 rw [run] at hr
 have HN := Hh hne
 have HR0 := Hh hr
 have HP0 := Hh hp
 have HK0 := Hh (KP.refl w)
 have IH := Hh ih
 clear hne hr hp ih
 go_enter Tryz.func87, Tryz.ntmps87
 go_wp2_with fail
 refine mR (wk_here hE _ _ HP0.out) HR0 HN HK0 (fun _ _ h => ⟨rfl, h⟩) ?_
 rintro v1 s1 w1 HR1 HP1 - HK1
 have HBn := Hh (HdB.new w1 v1)
 have HPn := Hh (HP1.out.ext hE (below_alloc w1 (.cells #[.int .i64 v1.1, .int .i64 v1.2] 77)))
 have HKn := Hh (HK1.out.trans (KP.of_below (below_alloc w1 (.cells #[.int .i64 v1.1, .int .i64 v1.2] 77))))
 have HPo1 := Hh HP1.out
 have HKo1 := Hh HK1.out
 clear HP1 HK1
 have HP1 := Hh HPn.out
 have HK1 := Hh HKn.out
 clear HPn HKn
 simp only [hdV]
 obtain ⟨bh, hbh⟩ : ∃ b, w1.heap.size = b := ⟨_, rfl⟩
 have HBh1 := Hh (hbh ▸ HBn.out)
 clear HBn
 go_wp2_with fail
 try rw [hbh]
 refine mR (wk_need hE [123] _ _ HP1.out) HR1 HN HK1 (fun _ _ h => ⟨rfl, h⟩) ?_
 rintro v2 s2 w2 HR2 HP2 hkk HK2
 have HBh2 := Hh (HBh1.out.kp hkk)
 clear hkk
 go_wp2_with fail
 go_loopg [] n (fun k wr => ∃ s', k ≤ n ∧ (run E.L E.base k (.itemsR) >>= fun _ => (do node E.L 22 v1; pure Va.un)) s' = r ∧ PW E wr s' ∧ KP w wr ∧ HdB wr bh v1)
 case atStart => exact ⟨_, Nat.le_refl _, HR2.out, HP2.out, HK2.out, HBh2.out⟩
 case round =>
  obtain ⟨s3, hgn3, hr3, hp3, hk3, hhh3⟩ := hrel
  cases gk with
  | zero => exact absurd (q_0 hr3) HN.out
  | succ g3 =>
   rw [run] at hr3
   have HR3 := Hh hr3
   have HP3 := Hh hp3
   have HK3 := Hh hk3
   have HBh3 := Hh hhh3
   clear hr3 hp3 hk3 hhh3
   with_reducible replace HR3 := Hh (q_assoc HR3.out)
   go_wp2_with fail
   refine mR (wk_took hE [125] _ _ HP3.out) HR3 HN HK3 (fun _ _ h => ⟨rfl, h⟩) ?_
   rintro v4 s4 w4 HR4 HP4 hkk HK4
   have HBh4 := Hh (HBh3.out.kp hkk)
   clear hkk
   obtain ⟨bb4, hbb4⟩ : ∃ bb, v4 = bb := ⟨_, rfl⟩
   rw [hbb4] at HR4 ⊢
   clear hbb4
   cases bb4
   ·have HQ := Hh (q_iffK HR4.out)
    clear HR4
    have HR4 := Hh HQ.out
    clear HQ
    with_reducible replace HR4 := Hh (q_assoc HR4.out)
    go_wp2_with fail
    refine mR (wk_labelled hE _ _ HP4.out) HR4 HN HK4 (fun _ _ h => ⟨rfl, h⟩) ?_
    rintro v5 s5 w5 HR5 HP5 hkk HK5
    have HBh5 := Hh (HBh4.out.kp hkk)
    clear hkk
    with_reducible replace HR5 := Hh (q_assoc HR5.out)
    obtain ⟨bb5, hbb5⟩ : ∃ bb, v5 = bb := ⟨_, rfl⟩
    rw [hbb5] at HR5 ⊢
    clear hbb5
    cases bb5
    ·have hq := HR5.out
     try simp only [Bool.not_false, Bool.true_and] at hq
     clear HR5
     have HR5 := Hh hq
     clear hq
     go_wp2_with fail
     refine mR (wk_declares hE _ _ HP5.out) HR5 HN HK5 (fun _ _ h => ⟨rfl, h⟩) ?_
     rintro v6 s6 w6 HR6 HP6 hkk HK6
     have HBh6 := Hh (HBh5.out.kp hkk)
     clear hkk
     obtain ⟨bb6, hbb6⟩ : ∃ bb, v6 = bb := ⟨_, rfl⟩
     rw [hbb6] at HR6 ⊢
     clear hbb6
     cases bb6
     ·have HQ := Hh (q_iffK HR6.out)
      clear HR6
      have HR6 := Hh HQ.out
      clear HQ
      with_reducible replace HR6 := Hh (q_assoc HR6.out)
      go_wp2_with fail
      refine mQ ((IH.out g3 (by omega)).f_statement  _ _ HP6.out (qne HR6.out HN.out)) HR6 HN HK6 (fun _ _ h => ⟨rfl, h⟩) ?_
      rintro v7 s7 y7 w7 HR7 rfl HP7 hkk HK7
      have HBh7 := Hh (HBh6.out.kp hkk)
      clear hkk
      go_wp2_with fail
      go_roundg g3
      case measure => omega
      case rel => exact ⟨_, by omega, HR7.out, HP7.out, HK7.out, HBh7.out⟩
     ·have HQ := Hh (q_iftK HR6.out)
      clear HR6
      have HR6 := Hh HQ.out
      clear HQ
      with_reducible replace HR6 := Hh (q_assoc HR6.out)
      go_wp2_with fail
      refine mQ ((IH.out g3 (by omega)).f_declaration  _ _ HP6.out (qne HR6.out HN.out)) HR6 HN HK6 (fun _ _ h => ⟨rfl, h⟩) ?_
      rintro v8 s8 y8 w8 HR8 rfl HP8 hkk HK8
      have HBh8 := Hh (HBh6.out.kp hkk)
      clear hkk
      go_wp2_with fail
      go_roundg g3
      case measure => omega
      case rel => exact ⟨_, by omega, HR8.out, HP8.out, HK8.out, HBh8.out⟩
    ·have hq := HR5.out
     (with_reducible replace hq := q_assoc hq)
     try simp only [Bool.not_true, Bool.false_and] at hq
     try (replace hq := qone (x := declares E.L E.base) hq rfl)
     first | replace hq := q_iffK hq | replace hq := q_iff hq | skip
     clear HR5
     have HR5 := Hh hq
     clear hq
     go_wp2_with fail
     refine mQ ((IH.out g3 (by omega)).f_statement  _ _ HP5.out (qne HR5.out HN.out)) HR5 HN HK5 (fun _ _ h => ⟨rfl, h⟩) ?_
     rintro v9 s9 y9 w9 HR9 rfl HP9 hkk HK9
     have HBh9 := Hh (HBh5.out.kp hkk)
     clear hkk
     go_wp2_with fail
     go_roundg g3
     case measure => omega
     case rel => exact ⟨_, by omega, HR9.out, HP9.out, HK9.out, HBh9.out⟩
   ·have HQ := Hh (q_iftK HR4.out)
    clear HR4
    have HR4 := Hh HQ.out
    clear HQ
    obtain ⟨d0, d1⟩ := HBh4.out.cells
    go_wp2_with fail
    with_reducible replace HR4 := Hh (q_pb HR4.out)
    refine mR (wk_node hE 22 v1 _ _ HP4.out (qne HR4.out HN.out)) HR4 HN HK4 (fun _ _ h => ⟨rfl, h⟩) ?_
    rintro v10 s10 w10 HR10 HP10 hkk HK10
    have HBh10 := Hh (HBh4.out.kp hkk)
    clear hkk
    try clear d0 d1
    skip
    go_wp2_with fail
    exact ⟨rfl, .tuple #[], by simp [results, Tryz.results87, go_sem], q_ok (q_pure HR10.out) rfl HP10.out HK10.out⟩
theorem w_field {E : En} (hE : E.ok) {n : Nat} (ih : ∀ m, m ≤ n → Wk E m)  (s : Ps) (w : World) (hp : PW E w s) (hne : run E.L E.base (n + 1) (.field) s ≠ .out) : Calls Tryz.prog 157 #[.pointer (some ⟨E.pb, 0, none⟩)] w (EndQ E vaU w (run E.L E.base (n + 1) (.field) s)) := by
 obtain ⟨r, hr⟩ : ∃ r, run E.L E.base (n + 1) (.field) s = r := ⟨_, rfl⟩
 rw [hr] at hne ⊢
 rw [run] at hr
 have HN := Hh hne
 have HR0 := Hh hr
 have HP0 := Hh hp
 have HK0 := Hh (KP.refl w)
 have IH := Hh ih
 clear hne hr hp ih
 go_enter Tryz.func157, Tryz.ntmps157
 go_wp2_with fail
 refine mR (wk_here hE _ _ HP0.out) HR0 HN HK0 (fun _ _ h => ⟨rfl, h⟩) ?_
 rintro v1 s1 w1 HR1 HP1 - HK1
 have HBn := Hh (HdB.new w1 v1)
 have HPn := Hh (HP1.out.ext hE (below_alloc w1 (.cells #[.int .i64 v1.1, .int .i64 v1.2] 77)))
 have HKn := Hh (HK1.out.trans (KP.of_below (below_alloc w1 (.cells #[.int .i64 v1.1, .int .i64 v1.2] 77))))
 have HPo1 := Hh HP1.out
 have HKo1 := Hh HK1.out
 clear HP1 HK1
 have HP1 := Hh HPn.out
 have HK1 := Hh HKn.out
 clear HPn HKn
 simp only [hdV]
 obtain ⟨bh, hbh⟩ : ∃ b, w1.heap.size = b := ⟨_, rfl⟩
 have HBh1 := Hh (hbh ▸ HBn.out)
 clear HBn
 go_wp2_with fail
 try rw [hbh]
 refine mR (wk_sign hE 0 [58] _ _ (by omega) HP1.out) HR1 HN HK1 (fun _ _ h => ⟨rfl, h⟩) ?_
 rintro v2 s2 w2 HR2 HP2 hkk HK2
 have HBh2 := Hh (HBh1.out.kp hkk)
 clear hkk
 obtain ⟨bb2, hbb2⟩ : ∃ bb, v2 = bb := ⟨_, rfl⟩
 rw [hbb2] at HR2 ⊢
 clear hbb2
 cases bb2
 ·have HQ := Hh (q_iff HR2.out)
  clear HR2
  have HR2 := Hh HQ.out
  clear HQ
  go_wp2_with fail
  refine ((IH.out n (Nat.le_refl _)).f_declarator 0 _ _ HP2.out (qne HR2.out HN.out)).mono ?_
  intro e w3 he
  rcases qstep (x := run E.L E.base n (.declarator 0)) HR2.out HN.out HK2.out he with ⟨v3, s3, y3, hr3, -, rfl, ⟨yf3, rfl, hdc3, hnl3⟩, hp3, hkk, hk3⟩ | ⟨hr3, ⟨z, rfl⟩, hb3, hk3⟩
  case' inr => exact ⟨rfl, q_no hr3 hb3 hk3⟩
  have HR3 := Hh hr3
  have HP3 := Hh hp3
  have HK3 := Hh hk3
  have HBh3 := Hh (HBh2.out.kp hkk)
  clear he hr3 hp3 hkk hk3
  go_wp2_with fail
  refine mR (wk_took hE [58] _ _ HP3.out) HR3 HN HK3 (fun _ _ h => ⟨rfl, h⟩) ?_
  rintro v4 s4 w4 HR4 HP4 hkk HK4
  have HBh4 := Hh (HBh3.out.kp hkk)
  clear hkk
  obtain ⟨bb4, hbb4⟩ : ∃ bb, v4 = bb := ⟨_, rfl⟩
  rw [hbb4] at HR4 ⊢
  clear hbb4
  cases bb4
  ·have HQ := Hh (q_iff HR4.out)
   clear HR4
   have HR4 := Hh HQ.out
   clear HQ
   obtain ⟨d0, d1⟩ := HBh4.out.cells
   go_wp2_with fail
   with_reducible replace HR4 := Hh (q_pb HR4.out)
   refine mR (wk_node hE 8 v1 _ _ HP4.out (qne HR4.out HN.out)) HR4 HN HK4 (fun _ _ h => ⟨rfl, h⟩) ?_
   rintro v5 s5 w5 HR5 HP5 hkk HK5
   have HBh5 := Hh (HBh4.out.kp hkk)
   clear hkk
   try clear d0 d1
   skip
   go_wp2_with fail
   exact ⟨rfl, .tuple #[], by simp [results, Tryz.results157, go_sem], q_ok (q_pure HR5.out) rfl HP5.out HK5.out⟩
  ·have HQ := Hh (q_ift HR4.out)
   clear HR4
   have HR4 := Hh HQ.out
   clear HQ
   go_wp2_with fail
   refine mQ ((IH.out n (Nat.le_refl _)).f_choice  _ _ HP4.out (qne HR4.out HN.out)) HR4 HN HK4 (fun _ _ h => ⟨rfl, h⟩) ?_
   rintro v6 s6 y6 w6 HR6 rfl HP6 hkk HK6
   have HBh6 := Hh (HBh4.out.kp hkk)
   clear hkk
   obtain ⟨d0, d1⟩ := HBh6.out.cells
   go_wp2_with fail
   refine mR (wk_node hE 8 v1 _ _ HP6.out (qne HR6.out HN.out)) HR6 HN HK6 (fun _ _ h => ⟨rfl, h⟩) ?_
   rintro v7 s7 w7 HR7 HP7 hkk HK7
   have HBh7 := Hh (HBh6.out.kp hkk)
   clear hkk
   try clear d0 d1
   skip
   go_wp2_with fail
   exact ⟨rfl, .tuple #[], by simp [results, Tryz.results157, go_sem], q_ok (q_pure HR7.out) rfl HP7.out HK7.out⟩
 ·have HQ := Hh (q_ift HR2.out)
  clear HR2
  have HR2 := Hh HQ.out
  clear HQ
  go_wp2_with fail
  with_reducible replace HR2 := Hh (q_pb HR2.out)
  refine mR (wk_took hE [58] _ _ HP2.out) HR2 HN HK2 (fun _ _ h => ⟨rfl, h⟩) ?_
  rintro v8 s8 w8 HR8 HP8 hkk HK8
  have HBh8 := Hh (HBh2.out.kp hkk)
  clear hkk
  obtain ⟨bb8, hbb8⟩ : ∃ bb, v8 = bb := ⟨_, rfl⟩
  rw [hbb8] at HR8 ⊢
  clear hbb8
  cases bb8
  ·have HQ := Hh (q_iff HR8.out)
   clear HR8
   have HR8 := Hh HQ.out
   clear HQ
   obtain ⟨d0, d1⟩ := HBh8.out.cells
   go_wp2_with fail
   with_reducible replace HR8 := Hh (q_pb HR8.out)
   refine mR (wk_node hE 8 v1 _ _ HP8.out (qne HR8.out HN.out)) HR8 HN HK8 (fun _ _ h => ⟨rfl, h⟩) ?_
   rintro v9 s9 w9 HR9 HP9 hkk HK9
   have HBh9 := Hh (HBh8.out.kp hkk)
   clear hkk
   try clear d0 d1
   skip
   go_wp2_with fail
   exact ⟨rfl, .tuple #[], by simp [results, Tryz.results157, go_sem], q_ok (q_pure HR9.out) rfl HP9.out HK9.out⟩
  ·have HQ := Hh (q_ift HR8.out)
   clear HR8
   have HR8 := Hh HQ.out
   clear HQ
   go_wp2_with fail
   refine mQ ((IH.out n (Nat.le_refl _)).f_choice  _ _ HP8.out (qne HR8.out HN.out)) HR8 HN HK8 (fun _ _ h => ⟨rfl, h⟩) ?_
   rintro v10 s10 y10 w10 HR10 rfl HP10 hkk HK10
   have HBh10 := Hh (HBh8.out.kp hkk)
   clear hkk
   obtain ⟨d0, d1⟩ := HBh10.out.cells
   go_wp2_with fail
   refine mR (wk_node hE 8 v1 _ _ HP10.out (qne HR10.out HN.out)) HR10 HN HK10 (fun _ _ h => ⟨rfl, h⟩) ?_
   rintro v11 s11 w11 HR11 HP11 hkk HK11
   have HBh11 := Hh (HBh10.out.kp hkk)
   clear hkk
   try clear d0 d1
   skip
   go_wp2_with fail
   exact ⟨rfl, .tuple #[], by simp [results, Tryz.results157, go_sem], q_ok (q_pure HR11.out) rfl HP11.out HK11.out⟩
theorem w_align {E : En} (hE : E.ok) {n : Nat} (ih : ∀ m, m ≤ n → Wk E m)  (s : Ps) (w : World) (hp : PW E w s) (hne : run E.L E.base (n + 1) (.align) s ≠ .out) : Calls Tryz.prog 76 #[.pointer (some ⟨E.pb, 0, none⟩)] w (EndQ E vaU w (run E.L E.base (n + 1) (.align) s)) := by
 obtain ⟨r, hr⟩ : ∃ r, run E.L E.base (n + 1) (.align) s = r := ⟨_, rfl⟩
 rw [hr] at hne ⊢
 rw [run] at hr
 have HN := Hh hne
 have HR0 := Hh hr
 have HP0 := Hh hp
 have HK0 := Hh (KP.refl w)
 have IH := Hh ih
 clear hne hr hp ih
 go_enter Tryz.func76, Tryz.ntmps76
 go_wp2_with fail
 refine mR (wk_here hE _ _ HP0.out) HR0 HN HK0 (fun _ _ h => ⟨rfl, h⟩) ?_
 rintro v1 s1 w1 HR1 HP1 - HK1
 have HBn := Hh (HdB.new w1 v1)
 have HPn := Hh (HP1.out.ext hE (below_alloc w1 (.cells #[.int .i64 v1.1, .int .i64 v1.2] 77)))
 have HKn := Hh (HK1.out.trans (KP.of_below (below_alloc w1 (.cells #[.int .i64 v1.1, .int .i64 v1.2] 77))))
 have HPo1 := Hh HP1.out
 have HKo1 := Hh HK1.out
 clear HP1 HK1
 have HP1 := Hh HPn.out
 have HK1 := Hh HKn.out
 clear HPn HKn
 simp only [hdV]
 obtain ⟨bh, hbh⟩ : ∃ b, w1.heap.size = b := ⟨_, rfl⟩
 have HBh1 := Hh (hbh ▸ HBn.out)
 clear HBn
 obtain ⟨hle2, hr2⟩ := q_step HR1.out HN.out
 obtain ⟨c1, f1, -⟩ := HPo1.out.at
 have hpb := HPo1.out.lt
 rw [hbh] at hpb
 obtain ⟨q21, q22⟩ := HPo1.out.on hE hle2
 have hLn := hE.len
 obtain ⟨a2, hat2⟩ : ∃ a, Ps.at' s1 = a := ⟨_, rfl⟩
 rw [hat2] at c1 hle2 hr2 q21 q22
 have hi : a2 < 100000 := by omega
 obtain ⟨s2, hs2⟩ : ∃ t : Ps, (⟨a2 + 1, s1.done, s1.nm⟩ : Ps) = t := ⟨_, rfl⟩
 rw [hs2] at hr2 q21
 clear hs2
 have HR2 := Hh hr2
 have HP2 := Hh (q21.ext hE (below_alloc _ (.cells #[.int .i64 v1.1, .int .i64 v1.2] 77)))
 have hkx := KP.of_below (below_alloc (World.setCell w1 ⟨E.pb, 1, none⟩ (.int .i64 ((a2 + 1 : Nat) : Int))) (.cells #[.int .i64 v1.1, .int .i64 v1.2] 77))
 have HK2 := Hh (HKo1.out.trans (q22.trans hkx))
 have HBh2 := Hh (hbh ▸ HdB.new' w1 ⟨E.pb, 1, none⟩ (.int .i64 ((a2 + 1 : Nat) : Int)) v1)
 have HAT2 := Hh hat2
 clear q21 q22 hr2 hle2 hLn hat2 hkx
 go_wp2_with fail
 try rw [hbh]
 try clear c1 f1 hpb hi
 refine mR (wk_need hE [40] _ _ HP2.out) HR2 HN HK2 (fun _ _ h => ⟨rfl, h⟩) ?_
 rintro v3 s3 w3 HR3 HP3 hkk HK3
 have HBh3 := Hh (HBh2.out.kp hkk)
 clear hkk
 go_wp2_with fail
 refine mR (wk_bLess hE 0 _ _ (by omega) HP3.out) HR3 HN HK3 (fun _ _ h => ⟨rfl, h⟩) ?_
 rintro v4 s4 w4 HR4 HP4 hkk HK4
 have HBh4 := Hh (HBh3.out.kp hkk)
 clear hkk
 obtain ⟨bb4, hbb4⟩ : ∃ bb, v4 = bb := ⟨_, rfl⟩
 rw [hbb4] at HR4 ⊢
 clear hbb4
 cases bb4
 ·have HQ := Hh (q_iff HR4.out)
  clear HR4
  have HR4 := Hh HQ.out
  clear HQ
  go_wp2_with fail
  refine mQ ((IH.out n (Nat.le_refl _)).f_choice  _ _ HP4.out (qne HR4.out HN.out)) HR4 HN HK4 (fun _ _ h => ⟨rfl, h⟩) ?_
  rintro v5 s5 y5 w5 HR5 rfl HP5 hkk HK5
  have HBh5 := Hh (HBh4.out.kp hkk)
  clear hkk
  go_wp2_with fail
  refine mR (wk_need hE [41] _ _ HP5.out) HR5 HN HK5 (fun _ _ h => ⟨rfl, h⟩) ?_
  rintro v6 s6 w6 HR6 HP6 hkk HK6
  have HBh6 := Hh (HBh5.out.kp hkk)
  clear hkk
  obtain ⟨d0, d1⟩ := HBh6.out.cells
  go_wp2_with fail
  refine mR (wk_node hE 11 v1 _ _ HP6.out (qne HR6.out HN.out)) HR6 HN HK6 (fun _ _ h => ⟨rfl, h⟩) ?_
  rintro v7 s7 w7 HR7 HP7 hkk HK7
  have HBh7 := Hh (HBh6.out.kp hkk)
  clear hkk
  try clear d0 d1
  skip
  go_wp2_with fail
  exact ⟨rfl, .tuple #[], by simp [results, Tryz.results76, go_sem], q_ok (q_pure HR7.out) rfl HP7.out HK7.out⟩
 ·have HQ := Hh (q_ift HR4.out)
  clear HR4
  have HR4 := Hh HQ.out
  clear HQ
  go_wp2_with fail
  refine mQ ((IH.out n (Nat.le_refl _)).f_typeName  _ _ HP4.out (qne HR4.out HN.out)) HR4 HN HK4 (fun _ _ h => ⟨rfl, h⟩) ?_
  rintro v8 s8 y8 w8 HR8 rfl HP8 hkk HK8
  have HBh8 := Hh (HBh4.out.kp hkk)
  clear hkk
  go_wp2_with fail
  refine mR (wk_need hE [41] _ _ HP8.out) HR8 HN HK8 (fun _ _ h => ⟨rfl, h⟩) ?_
  rintro v9 s9 w9 HR9 HP9 hkk HK9
  have HBh9 := Hh (HBh8.out.kp hkk)
  clear hkk
  obtain ⟨d0, d1⟩ := HBh9.out.cells
  go_wp2_with fail
  refine mR (wk_node hE 11 v1 _ _ HP9.out (qne HR9.out HN.out)) HR9 HN HK9 (fun _ _ h => ⟨rfl, h⟩) ?_
  rintro v10 s10 w10 HR10 HP10 hkk HK10
  have HBh10 := Hh (HBh9.out.kp hkk)
  clear hkk
  try clear d0 d1
  skip
  go_wp2_with fail
  exact ⟨rfl, .tuple #[], by simp [results, Tryz.results76, go_sem], q_ok (q_pure HR10.out) rfl HP10.out HK10.out⟩
end Go.Proofs.YtlboejdhmggjpaaGreat.Pp

/- WkW -/
namespace Go.Proofs.YtlboejdhmggjpaaGreat.Pp
set_option maxRecDepth 100000
set_option maxHeartbeats 16000000
open Go.RowKit Go.BigFrame Go.Proofs.YtlboejdhmggjpaaGreat

theorem w_typeName {E : En} (hE : E.ok) {n : Nat} (ih : ∀ m, m ≤ n → Wk E m)  (s : Ps) (w : World) (hp : PW E w s) (hne : run E.L E.base (n + 1) (.typeName) s ≠ .out) : Calls Tryz.prog 119 #[.pointer (some ⟨E.pb, 0, none⟩)] w (EndQ E vaU w (run E.L E.base (n + 1) (.typeName) s)) := by
 obtain ⟨r, hr⟩ : ∃ r, run E.L E.base (n + 1) (.typeName) s = r := ⟨_, rfl⟩
 rw [hr] at hne ⊢
 rw [run] at hr
 have HN := Hh hne
 have HR0 := Hh hr
 have HP0 := Hh hp
 have HK0 := Hh (KP.refl w)
 have IH := Hh ih
 clear hne hr hp ih
 go_enter Tryz.func119, Tryz.ntmps119
 go_wp2_with fail
 refine mR (wk_here hE _ _ HP0.out) HR0 HN HK0 (fun _ _ h => ⟨rfl, h⟩) ?_
 rintro v1 s1 w1 HR1 HP1 - HK1
 have HBn := Hh (HdB.new w1 v1)
 have HPn := Hh (HP1.out.ext hE (below_alloc w1 (.cells #[.int .i64 v1.1, .int .i64 v1.2] 77)))
 have HKn := Hh (HK1.out.trans (KP.of_below (below_alloc w1 (.cells #[.int .i64 v1.1, .int .i64 v1.2] 77))))
 have HPo1 := Hh HP1.out
 have HKo1 := Hh HK1.out
 clear HP1 HK1
 have HP1 := Hh HPn.out
 have HK1 := Hh HKn.out
 clear HPn HKn
 simp only [hdV]
 obtain ⟨bh, hbh⟩ : ∃ b, w1.heap.size = b := ⟨_, rfl⟩
 have HBh1 := Hh (hbh ▸ HBn.out)
 clear HBn
 go_wp2_with fail
 try rw [hbh]
 refine mQ ((IH.out n (Nat.le_refl _)).f_specs false _ _ HP1.out (qne HR1.out HN.out)) HR1 HN HK1 (fun _ _ h => ⟨rfl, h⟩) ?_
 rintro v2 s2 y2 w2 HR2 rfl HP2 hkk HK2
 have HBh2 := Hh (HBh1.out.kp hkk)
 clear hkk
 go_wp2_with fail
 refine mR (wk_sign hE 0 [42] _ _ (by omega) HP2.out) HR2 HN HK2 (fun _ _ h => ⟨rfl, h⟩) ?_
 rintro v3 s3 w3 HR3 HP3 hkk HK3
 have HBh3 := Hh (HBh2.out.kp hkk)
 clear hkk
 obtain ⟨bb3, hbb3⟩ : ∃ bb, v3 = bb := ⟨_, rfl⟩
 rw [hbb3] at HR3 ⊢
 clear hbb3
 cases bb3
 ·have hq := HR3.out
  try simp only [Bool.false_or] at hq
  clear HR3
  have HR3 := Hh hq
  clear hq
  go_wp2_with fail
  refine mR (wk_sign hE 0 [40] _ _ (by omega) HP3.out) HR3 HN HK3 (fun _ _ h => ⟨rfl, h⟩) ?_
  rintro v4 s4 w4 HR4 HP4 hkk HK4
  have HBh4 := Hh (HBh3.out.kp hkk)
  clear hkk
  obtain ⟨bb4, hbb4⟩ : ∃ bb, v4 = bb := ⟨_, rfl⟩
  rw [hbb4] at HR4 ⊢
  clear hbb4
  cases bb4
  ·have hq := HR4.out
   try simp only [Bool.false_or] at hq
   clear HR4
   have HR4 := Hh hq
   clear hq
   go_wp2_with fail
   refine mR (wk_sign hE 0 [91] _ _ (by omega) HP4.out) HR4 HN HK4 (fun _ _ h => ⟨rfl, h⟩) ?_
   rintro v5 s5 w5 HR5 HP5 hkk HK5
   have HBh5 := Hh (HBh4.out.kp hkk)
   clear hkk
   obtain ⟨bb5, hbb5⟩ : ∃ bb, v5 = bb := ⟨_, rfl⟩
   rw [hbb5] at HR5 ⊢
   clear hbb5
   cases bb5
   ·have hq := HR5.out
    try simp only [Bool.false_or] at hq
    first | replace hq := q_iffK hq | replace hq := q_iff hq | skip
    clear HR5
    have HR5 := Hh hq
    clear hq
    obtain ⟨d0, d1⟩ := HBh5.out.cells
    go_wp2_with fail
    with_reducible replace HR5 := Hh (q_pb HR5.out)
    refine mR (wk_node hE 18 v1 _ _ HP5.out (qne HR5.out HN.out)) HR5 HN HK5 (fun _ _ h => ⟨rfl, h⟩) ?_
    rintro v6 s6 w6 HR6 HP6 hkk HK6
    have HBh6 := Hh (HBh5.out.kp hkk)
    clear hkk
    try clear d0 d1
    skip
    go_wp2_with fail
    exact ⟨rfl, .tuple #[], by simp [results, Tryz.results119, go_sem], q_ok (q_pure HR6.out) rfl HP6.out HK6.out⟩
   ·have hq := HR5.out
    try simp only [Bool.true_or, Bool.or_true] at hq
    first | replace hq := q_iftK hq | replace hq := q_ift hq | skip
    clear HR5
    have HR5 := Hh hq
    clear hq
    go_wp2_with fail
    refine ((IH.out n (Nat.le_refl _)).f_declarator 2 _ _ HP5.out (qne HR5.out HN.out)).mono ?_
    intro e w7 he
    rcases qstep (x := run E.L E.base n (.declarator 2)) HR5.out HN.out HK5.out he with ⟨v7, s7, y7, hr7, -, rfl, ⟨yf7, rfl, hdc7, hnl7⟩, hp7, hkk, hk7⟩ | ⟨hr7, ⟨z, rfl⟩, hb7, hk7⟩
    case' inr => exact ⟨rfl, q_no hr7 hb7 hk7⟩
    have HR7 := Hh hr7
    have HP7 := Hh hp7
    have HK7 := Hh hk7
    have HBh7 := Hh (HBh5.out.kp hkk)
    clear he hr7 hp7 hkk hk7
    obtain ⟨d0, d1⟩ := HBh7.out.cells
    go_wp2_with fail
    refine mR (wk_node hE 18 v1 _ _ HP7.out (qne HR7.out HN.out)) HR7 HN HK7 (fun _ _ h => ⟨rfl, h⟩) ?_
    rintro v8 s8 w8 HR8 HP8 hkk HK8
    have HBh8 := Hh (HBh7.out.kp hkk)
    clear hkk
    try clear d0 d1
    skip
    go_wp2_with fail
    exact ⟨rfl, .tuple #[], by simp [results, Tryz.results119, go_sem], q_ok (q_pure HR8.out) rfl HP8.out HK8.out⟩
  ·have hq := HR4.out
   replace hq := qone (x := sign E.L 0 [91]) hq rfl
   try simp only [Bool.true_or, Bool.or_true] at hq
   first | replace hq := q_iftK hq | replace hq := q_ift hq | skip
   clear HR4
   have HR4 := Hh hq
   clear hq
   go_wp2_with fail
   refine ((IH.out n (Nat.le_refl _)).f_declarator 2 _ _ HP4.out (qne HR4.out HN.out)).mono ?_
   intro e w9 he
   rcases qstep (x := run E.L E.base n (.declarator 2)) HR4.out HN.out HK4.out he with ⟨v9, s9, y9, hr9, -, rfl, ⟨yf9, rfl, hdc9, hnl9⟩, hp9, hkk, hk9⟩ | ⟨hr9, ⟨z, rfl⟩, hb9, hk9⟩
   case' inr => exact ⟨rfl, q_no hr9 hb9 hk9⟩
   have HR9 := Hh hr9
   have HP9 := Hh hp9
   have HK9 := Hh hk9
   have HBh9 := Hh (HBh4.out.kp hkk)
   clear he hr9 hp9 hkk hk9
   obtain ⟨d0, d1⟩ := HBh9.out.cells
   go_wp2_with fail
   refine mR (wk_node hE 18 v1 _ _ HP9.out (qne HR9.out HN.out)) HR9 HN HK9 (fun _ _ h => ⟨rfl, h⟩) ?_
   rintro v10 s10 w10 HR10 HP10 hkk HK10
   have HBh10 := Hh (HBh9.out.kp hkk)
   clear hkk
   try clear d0 d1
   skip
   go_wp2_with fail
   exact ⟨rfl, .tuple #[], by simp [results, Tryz.results119, go_sem], q_ok (q_pure HR10.out) rfl HP10.out HK10.out⟩
 ·have hq := HR3.out
  replace hq := qone (x := sign E.L 0 [40]) hq rfl
  replace hq := qone (x := sign E.L 0 [91]) hq rfl
  try simp only [Bool.true_or, Bool.or_true] at hq
  first | replace hq := q_iftK hq | replace hq := q_ift hq | skip
  clear HR3
  have HR3 := Hh hq
  clear hq
  go_wp2_with fail
  refine ((IH.out n (Nat.le_refl _)).f_declarator 2 _ _ HP3.out (qne HR3.out HN.out)).mono ?_
  intro e w11 he
  rcases qstep (x := run E.L E.base n (.declarator 2)) HR3.out HN.out HK3.out he with ⟨v11, s11, y11, hr11, -, rfl, ⟨yf11, rfl, hdc11, hnl11⟩, hp11, hkk, hk11⟩ | ⟨hr11, ⟨z, rfl⟩, hb11, hk11⟩
  case' inr => exact ⟨rfl, q_no hr11 hb11 hk11⟩
  have HR11 := Hh hr11
  have HP11 := Hh hp11
  have HK11 := Hh hk11
  have HBh11 := Hh (HBh3.out.kp hkk)
  clear he hr11 hp11 hkk hk11
  obtain ⟨d0, d1⟩ := HBh11.out.cells
  go_wp2_with fail
  refine mR (wk_node hE 18 v1 _ _ HP11.out (qne HR11.out HN.out)) HR11 HN HK11 (fun _ _ h => ⟨rfl, h⟩) ?_
  rintro v12 s12 w12 HR12 HP12 hkk HK12
  have HBh12 := Hh (HBh11.out.kp hkk)
  clear hkk
  try clear d0 d1
  skip
  go_wp2_with fail
  exact ⟨rfl, .tuple #[], by simp [results, Tryz.results119, go_sem], q_ok (q_pure HR12.out) rfl HP12.out HK12.out⟩
end Go.Proofs.YtlboejdhmggjpaaGreat.Pp

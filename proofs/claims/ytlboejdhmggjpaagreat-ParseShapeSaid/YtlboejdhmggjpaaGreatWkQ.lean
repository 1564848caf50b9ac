/- parse: assign, call, generic, assoc, braces, desig. -/
import Derived.Test.YtlboejdhmggjpaaGreatWkO
set_option linter.all false
namespace Go.Proofs.YtlboejdhmggjpaaGreat.Pp
set_option maxRecDepth 100000
set_option maxHeartbeats 16000000
open Go.RowKit Go.BigFrame Go.Proofs.YtlboejdhmggjpaaGreat

theorem w_assign {E : En} (hE : E.ok) {n : Nat} (ih : ∀ m, m ≤ n → Wk E m)  (s : Ps) (w : World) (hp : PW E w s) (hne : run E.L E.base (n + 1) (.assign) s ≠ .out) : Calls Tryz.prog 131 #[.pointer (some ⟨E.pb, 0, none⟩)] w (EndQ E vaU w (run E.L E.base (n + 1) (.assign) s)) := by
 obtain ⟨r, hr⟩ : ∃ r, run E.L E.base (n + 1) (.assign) s = r := ⟨_, rfl⟩
 rw [hr] at hne ⊢
 rw [run] at hr
 have HN := Hh hne
 have HR0 := Hh hr
 have HP0 := Hh hp
 have HK0 := Hh (KP.refl w)
 have IH := Hh ih
 clear hne hr hp ih
 go_enter Tryz.func131, Tryz.ntmps131
 go_wp2_with fail
 refine mR (wk_here hE _ _ HP0.out) HR0 HN HK0 (fun _ _ h => ⟨rfl, h⟩) ?_
 rintro v1 s1 w1 HR1 HP1 - HK1
 have HBn := Hh (HdB.new w1 v1)
 have HPn := Hh (HP1.out.ext hE (below_alloc w1 (.cells #[.int .i64 v1.1, .int .i64 v1.2] 77)))
 have HKn := Hh (HK1.out.trans (KP.of_below (below_alloc w1 (.cells #[.int .i64 v1.1, .int .i64 v1.2] 77))))
 have HPo1 := Hh HP1.out
 have HKo1 := Hh HK1.out
 clear HP1 HK1
 have HP1 := Hh HPn.out
 have HK1 := Hh HKn.out
 clear HPn HKn
 simp only [hdV]
 obtain ⟨bh, hbh⟩ : ∃ b, w1.heap.size = b := ⟨_, rfl⟩
 have HBh1 := Hh (hbh ▸ HBn.out)
 clear HBn
 go_wp2_with fail
 try rw [hbh]
 refine mQ ((IH.out n (Nat.le_refl _)).f_choice  _ _ HP1.out (qne HR1.out HN.out)) HR1 HN HK1 (fun _ _ h => ⟨rfl, h⟩) ?_
 rintro v2 s2 y2 w2 HR2 rfl HP2 hkk HK2
 have HBh2 := Hh (HBh1.out.kp hkk)
 clear hkk
 obtain ⟨ab2, hab2⟩ : ∃ bb, v2.bool = bb := ⟨_, rfl⟩
 rw [hab2] at HR2 ⊢
 clear hab2
 cases ab2
 ·have HQ := Hh (qone HR2.out rfl)
  have hq := HQ.out
  simp only [Bool.false_and] at hq
  clear HR2 HQ
  have HR2 := Hh (q_iff hq)
  clear hq
  go_wp2_with fail
  exact ⟨rfl, .tuple #[], by simp [results, Tryz.results131, go_sem], q_ok (q_pure HR2.out) rfl HP2.out HK2.out⟩
 ·go_wp2_with fail
  have hq := HR2.out
  simp only [Bool.true_and] at hq
  clear HR2
  have HR2 := Hh hq
  clear hq
  refine mR (wk_assigns hE _ _ HP2.out) HR2 HN HK2 (fun _ _ h => ⟨rfl, h⟩) ?_
  rintro v3 s3 w3 HR3 HP3 hkk HK3
  have HBh3 := Hh (HBh2.out.kp hkk)
  clear hkk
  obtain ⟨bb3, hbb3⟩ : ∃ bb, v3 = bb := ⟨_, rfl⟩
  rw [hbb3] at HR3 ⊢
  clear hbb3
  cases bb3
  ·have HQ := Hh (q_iff HR3.out)
   clear HR3
   have HR3 := Hh HQ.out
   clear HQ
   go_wp2_with fail
   exact ⟨rfl, .tuple #[], by simp [results, Tryz.results131, go_sem], q_ok (q_pure HR3.out) rfl HP3.out HK3.out⟩
  ·have HQ := Hh (q_ift HR3.out)
   clear HR3
   have HR3 := Hh HQ.out
   clear HQ
   obtain ⟨hle4, hr4⟩ := q_step HR3.out HN.out
   obtain ⟨c1, f1, -⟩ := HP3.out.at
   have hpb := HP3.out.lt
   obtain ⟨q41, q42⟩ := HP3.out.on hE hle4
   have hLn := hE.len
   obtain ⟨a4, hat4⟩ : ∃ a, Ps.at' s3 = a := ⟨_, rfl⟩
   rw [hat4] at c1 hle4 hr4 q41 q42
   have hi : a4 < 100000 := by omega
   obtain ⟨s4, hs4⟩ : ∃ t : Ps, (⟨a4 + 1, s3.done, s3.nm⟩ : Ps) = t := ⟨_, rfl⟩
   rw [hs4] at hr4 q41
   clear hs4
   have HR4 := Hh hr4
   have HP4 := Hh q41
   have HK4 := Hh (HK3.out.trans q42)
   have HBh4 := Hh (HBh3.out.kp q42)
   have HAT4 := Hh hat4
   clear q41 q42 hr4 hle4 hLn hat4
   go_wp2_with fail
   try clear c1 f1 hpb hi
   refine mQ ((IH.out n (Nat.le_refl _)).f_assign  _ _ HP4.out (qne HR4.out HN.out)) HR4 HN HK4 (fun _ _ h => ⟨rfl, h⟩) ?_
   rintro v5 s5 y5 w5 HR5 rfl HP5 hkk HK5
   have HBh5 := Hh (HBh4.out.kp hkk)
   clear hkk
   obtain ⟨d0, d1⟩ := HBh5.out.cells
   go_wp2_with fail
   refine mR (wk_node hE 34 v1 _ _ HP5.out (qne HR5.out HN.out)) HR5 HN HK5 (fun _ _ h => ⟨rfl, h⟩) ?_
   rintro v6 s6 w6 HR6 HP6 hkk HK6
   have HBh6 := Hh (HBh5.out.kp hkk)
   clear hkk
   try clear d0 d1
   skip
   go_wp2_with fail
   exact ⟨rfl, .tuple #[], by simp [results, Tryz.results131, go_sem], q_ok (q_pure HR6.out) rfl HP6.out HK6.out⟩
theorem w_call {E : En} (hE : E.ok) {n : Nat} (ih : ∀ m, m ≤ n → Wk E m)  (s : Ps) (w : World) (hp : PW E w s) (hne : run E.L E.base (n + 1) (.call) s ≠ .out) : Calls Tryz.prog 200 #[.pointer (some ⟨E.pb, 0, none⟩)] w (EndQ E vaU w (run E.L E.base (n + 1) (.call) s)) := by
 obtain ⟨r, hr⟩ : ∃ r, run E.L E.base (n + 1) (.call) s = r := ⟨_, rfl⟩
 rw [hr] at hne ⊢
 rw [run] at hr
 have HN := Hh hne
 have HR0 := Hh hr
 have HP0 := Hh hp
 have HK0 := Hh (KP.refl w)
 have IH := Hh ih
 clear hne hr hp ih
 go_enter Tryz.func200, Tryz.ntmps200
 go_wp2_with fail
 refine mR (wk_need hE [40] _ _ HP0.out) HR0 HN HK0 (fun _ _ h => ⟨rfl, h⟩) ?_
 rintro v1 s1 w1 HR1 HP1 - HK1
 go_wp2_with fail
 refine mR (wk_took hE [41] _ _ HP1.out) HR1 HN HK1 (fun _ _ h => ⟨rfl, h⟩) ?_
 rintro v2 s2 w2 HR2 HP2 - HK2
 obtain ⟨bb2, hbb2⟩ : ∃ bb, v2 = bb := ⟨_, rfl⟩
 rw [hbb2] at HR2 ⊢
 clear hbb2
 cases bb2
 ·have HQ := Hh (q_iff HR2.out)
  clear HR2
  have HR2 := Hh HQ.out
  clear HQ
  go_wp2_with fail
  refine mQ ((IH.out n (Nat.le_refl _)).f_assign  _ _ HP2.out (qne HR2.out HN.out)) HR2 HN HK2 (fun _ _ h => ⟨rfl, h⟩) ?_
  rintro v3 s3 y3 w3 HR3 rfl HP3 - HK3
  go_wp2_with fail
  go_loopg [] n (fun k wr => ∃ s', k ≤ n ∧ (run E.L E.base k (.callR) >>= fun _ => (do need E.L [41]; pure Va.un)) s' = r ∧ PW E wr s' ∧ KP w wr)
  case atStart => exact ⟨_, Nat.le_refl _, HR3.out, HP3.out, HK3.out⟩
  case round =>
   obtain ⟨s4, hgn4, hr4, hp4, hk4⟩ := hrel
   cases gk with
   | zero => exact absurd (q_0 hr4) HN.out
   | succ g4 =>
    rw [run] at hr4
    have HR4 := Hh hr4
    have HP4 := Hh hp4
    have HK4 := Hh hk4
    clear hr4 hp4 hk4
    with_reducible replace HR4 := Hh (q_assoc HR4.out)
    go_wp2_with fail
    refine mR (wk_took hE [44] _ _ HP4.out) HR4 HN HK4 (fun _ _ h => ⟨rfl, h⟩) ?_
    rintro v5 s5 w5 HR5 HP5 - HK5
    obtain ⟨bb5, hbb5⟩ : ∃ bb, v5 = bb := ⟨_, rfl⟩
    rw [hbb5] at HR5 ⊢
    clear hbb5
    cases bb5
    ·have HQ := Hh (q_iffK HR5.out)
     clear HR5
     have HR5 := Hh HQ.out
     clear HQ
     go_wp2_with fail
     with_reducible replace HR5 := Hh (q_pb HR5.out)
     refine mR (wk_need hE [41] _ _ HP5.out) HR5 HN HK5 (fun _ _ h => ⟨rfl, h⟩) ?_
     rintro v6 s6 w6 HR6 HP6 - HK6
     go_wp2_with fail
     exact ⟨rfl, .tuple #[], by simp [results, Tryz.results200, go_sem], q_ok (q_pure HR6.out) rfl HP6.out HK6.out⟩
    ·have HQ := Hh (q_iftK HR5.out)
     clear HR5
     have HR5 := Hh HQ.out
     clear HQ
     with_reducible replace HR5 := Hh (q_assoc HR5.out)
     go_wp2_with fail
     refine mQ ((IH.out g4 (by omega)).f_assign  _ _ HP5.out (qne HR5.out HN.out)) HR5 HN HK5 (fun _ _ h => ⟨rfl, h⟩) ?_
     rintro v7 s7 y7 w7 HR7 rfl HP7 - HK7
     go_wp2_with fail
     go_roundg g4
     case measure => omega
     case rel => exact ⟨_, by omega, HR7.out, HP7.out, HK7.out⟩
 ·have HQ := Hh (q_ift HR2.out)
  clear HR2
  have HR2 := Hh HQ.out
  clear HQ
  go_wp2_with fail
  exact ⟨rfl, .tuple #[], by simp [results, Tryz.results200, go_sem], q_ok (q_pure HR2.out) rfl HP2.out HK2.out⟩
theorem w_generic {E : En} (hE : E.ok) {n : Nat} (ih : ∀ m, m ≤ n → Wk E m)  (s : Ps) (w : World) (hp : PW E w s) (hne : run E.L E.base (n + 1) (.generic) s ≠ .out) : Calls Tryz.prog 201 #[.pointer (some ⟨E.pb, 0, none⟩)] w (EndQ E vaU w (run E.L E.base (n + 1) (.generic) s)) := by
 obtain ⟨r, hr⟩ : ∃ r, run E.L E.base (n + 1) (.generic) s = r := ⟨_, rfl⟩
 rw [hr] at hne ⊢
 rw [run] at hr
 have HN := Hh hne
 have HR0 := Hh hr
 have HP0 := Hh hp
 have HK0 := Hh (KP.refl w)
 have IH := Hh ih
 clear hne hr hp ih
 go_enter Tryz.func201, Tryz.ntmps201
 go_wp2_with fail
 refine mR (wk_need hE [40] _ _ HP0.out) HR0 HN HK0 (fun _ _ h => ⟨rfl, h⟩) ?_
 rintro v1 s1 w1 HR1 HP1 - HK1
 go_wp2_with fail
 refine mQ ((IH.out n (Nat.le_refl _)).f_assign  _ _ HP1.out (qne HR1.out HN.out)) HR1 HN HK1 (fun _ _ h => ⟨rfl, h⟩) ?_
 rintro v2 s2 y2 w2 HR2 rfl HP2 - HK2
 go_wp2_with fail
 refine mR (wk_need hE [44] _ _ HP2.out) HR2 HN HK2 (fun _ _ h => ⟨rfl, h⟩) ?_
 rintro v3 s3 w3 HR3 HP3 - HK3
 go_wp2_with fail
 refine mQ ((IH.out n (Nat.le_refl _)).f_assoc  _ _ HP3.out (qne HR3.out HN.out)) HR3 HN HK3 (fun _ _ h => ⟨rfl, h⟩) ?_
 rintro v4 s4 y4 w4 HR4 rfl HP4 - HK4
 go_wp2_with fail
 go_loopg [] n (fun k wr => ∃ s', k ≤ n ∧ (run E.L E.base k (.genericR) >>= fun _ => (do need E.L [41]; pure Va.un)) s' = r ∧ PW E wr s' ∧ KP w wr)
 case atStart => exact ⟨_, Nat.le_refl _, HR4.out, HP4.out, HK4.out⟩
 case round =>
  obtain ⟨s5, hgn5, hr5, hp5, hk5⟩ := hrel
  cases gk with
  | zero => exact absurd (q_0 hr5) HN.out
  | succ g5 =>
   rw [run] at hr5
   have HR5 := Hh hr5
   have HP5 := Hh hp5
   have HK5 := Hh hk5
   clear hr5 hp5 hk5
   with_reducible replace HR5 := Hh (q_assoc HR5.out)
   go_wp2_with fail
   refine mR (wk_took hE [44] _ _ HP5.out) HR5 HN HK5 (fun _ _ h => ⟨rfl, h⟩) ?_
   rintro v6 s6 w6 HR6 HP6 - HK6
   obtain ⟨bb6, hbb6⟩ : ∃ bb, v6 = bb := ⟨_, rfl⟩
   rw [hbb6] at HR6 ⊢
   clear hbb6
   cases bb6
   ·have HQ := Hh (q_iffK HR6.out)
    clear HR6
    have HR6 := Hh HQ.out
    clear HQ
    go_wp2_with fail
    with_reducible replace HR6 := Hh (q_pb HR6.out)
    refine mR (wk_need hE [41] _ _ HP6.out) HR6 HN HK6 (fun _ _ h => ⟨rfl, h⟩) ?_
    rintro v7 s7 w7 HR7 HP7 - HK7
    go_wp2_with fail
    exact ⟨rfl, .tuple #[], by simp [results, Tryz.results201, go_sem], q_ok (q_pure HR7.out) rfl HP7.out HK7.out⟩
   ·have HQ := Hh (q_iftK HR6.out)
    clear HR6
    have HR6 := Hh HQ.out
    clear HQ
    with_reducible replace HR6 := Hh (q_assoc HR6.out)
    go_wp2_with fail
    refine mQ ((IH.out g5 (by omega)).f_assoc  _ _ HP6.out (qne HR6.out HN.out)) HR6 HN HK6 (fun _ _ h => ⟨rfl, h⟩) ?_
    rintro v8 s8 y8 w8 HR8 rfl HP8 - HK8
    go_wp2_with fail
    go_roundg g5
    case measure => omega
    case rel => exact ⟨_, by omega, HR8.out, HP8.out, HK8.out⟩
theorem w_assoc {E : En} (hE : E.ok) {n : Nat} (ih : ∀ m, m ≤ n → Wk E m)  (s : Ps) (w : World) (hp : PW E w s) (hne : run E.L E.base (n + 1) (.assoc) s ≠ .out) : Calls Tryz.prog 202 #[.pointer (some ⟨E.pb, 0, none⟩)] w (EndQ E vaU w (run E.L E.base (n + 1) (.assoc) s)) := by
 obtain ⟨r, hr⟩ : ∃ r, run E.L E.base (n + 1) (.assoc) s = r := ⟨_, rfl⟩
 rw [hr] at hne ⊢
 rw [run] at hr
 have HN := Hh hne
 have HR0 := Hh hr
 have HP0 := Hh hp
 have HK0 := Hh (KP.refl w)
 have IH := Hh ih
 clear hne hr hp ih
 go_enter Tryz.func202, Tryz.ntmps202
 go_wp2_with fail
 refine mR (wk_here hE _ _ HP0.out) HR0 HN HK0 (fun _ _ h => ⟨rfl, h⟩) ?_
 rintro v1 s1 w1 HR1 HP1 - HK1
 have HBn := Hh (HdB.new w1 v1)
 have HPn := Hh (HP1.out.ext hE (below_alloc w1 (.cells #[.int .i64 v1.1, .int .i64 v1.2] 77)))
 have HKn := Hh (HK1.out.trans (KP.of_below (below_alloc w1 (.cells #[.int .i64 v1.1, .int .i64 v1.2] 77))))
 have HPo1 := Hh HP1.out
 have HKo1 := Hh HK1.out
 clear HP1 HK1
 have HP1 := Hh HPn.out
 have HK1 := Hh HKn.out
 clear HPn HKn
 simp only [hdV]
 obtain ⟨bh, hbh⟩ : ∃ b, w1.heap.size = b := ⟨_, rfl⟩
 have HBh1 := Hh (hbh ▸ HBn.out)
 clear HBn
 go_wp2_with fail
 try rw [hbh]
 refine mR (wk_tookWord hE [100, 101, 102, 97, 117, 108, 116] _ _ HP1.out) HR1 HN HK1 (fun _ _ h => ⟨rfl, h⟩) ?_
 rintro v2 s2 w2 HR2 HP2 hkk HK2
 have HBh2 := Hh (HBh1.out.kp hkk)
 clear hkk
 obtain ⟨bb2, hbb2⟩ : ∃ bb, v2 = bb := ⟨_, rfl⟩
 rw [hbb2] at HR2 ⊢
 clear hbb2
 cases bb2
 ·have HQ := Hh (q_iff HR2.out)
  clear HR2
  have HR2 := Hh HQ.out
  clear HQ
  go_wp2_with fail
  refine mQ ((IH.out n (Nat.le_refl _)).f_typeName  _ _ HP2.out (qne HR2.out HN.out)) HR2 HN HK2 (fun _ _ h => ⟨rfl, h⟩) ?_
  rintro v3 s3 y3 w3 HR3 rfl HP3 hkk HK3
  have HBh3 := Hh (HBh2.out.kp hkk)
  clear hkk
  go_wp2_with fail
  refine mR (wk_need hE [58] _ _ HP3.out) HR3 HN HK3 (fun _ _ h => ⟨rfl, h⟩) ?_
  rintro v4 s4 w4 HR4 HP4 hkk HK4
  have HBh4 := Hh (HBh3.out.kp hkk)
  clear hkk
  go_wp2_with fail
  refine mQ ((IH.out n (Nat.le_refl _)).f_assign  _ _ HP4.out (qne HR4.out HN.out)) HR4 HN HK4 (fun _ _ h => ⟨rfl, h⟩) ?_
  rintro v5 s5 y5 w5 HR5 rfl HP5 hkk HK5
  have HBh5 := Hh (HBh4.out.kp hkk)
  clear hkk
  obtain ⟨d0, d1⟩ := HBh5.out.cells
  go_wp2_with fail
  refine mR (wk_node hE 55 v1 _ _ HP5.out (qne HR5.out HN.out)) HR5 HN HK5 (fun _ _ h => ⟨rfl, h⟩) ?_
  rintro v6 s6 w6 HR6 HP6 hkk HK6
  have HBh6 := Hh (HBh5.out.kp hkk)
  clear hkk
  try clear d0 d1
  skip
  go_wp2_with fail
  exact ⟨rfl, .tuple #[], by simp [results, Tryz.results202, go_sem], q_ok (q_pure HR6.out) rfl HP6.out HK6.out⟩
 ·have HQ := Hh (q_ift HR2.out)
  clear HR2
  have HR2 := Hh HQ.out
  clear HQ
  go_wp2_with fail
  with_reducible replace HR2 := Hh (q_pb HR2.out)
  refine mR (wk_need hE [58] _ _ HP2.out) HR2 HN HK2 (fun _ _ h => ⟨rfl, h⟩) ?_
  rintro v7 s7 w7 HR7 HP7 hkk HK7
  have HBh7 := Hh (HBh2.out.kp hkk)
  clear hkk
  go_wp2_with fail
  refine mQ ((IH.out n (Nat.le_refl _)).f_assign  _ _ HP7.out (qne HR7.out HN.out)) HR7 HN HK7 (fun _ _ h => ⟨rfl, h⟩) ?_
  rintro v8 s8 y8 w8 HR8 rfl HP8 hkk HK8
  have HBh8 := Hh (HBh7.out.kp hkk)
  clear hkk
  obtain ⟨d0, d1⟩ := HBh8.out.cells
  go_wp2_with fail
  refine mR (wk_node hE 55 v1 _ _ HP8.out (qne HR8.out HN.out)) HR8 HN HK8 (fun _ _ h => ⟨rfl, h⟩) ?_
  rintro v9 s9 w9 HR9 HP9 hkk HK9
  have HBh9 := Hh (HBh8.out.kp hkk)
  clear hkk
  try clear d0 d1
  skip
  go_wp2_with fail
  exact ⟨rfl, .tuple #[], by simp [results, Tryz.results202, go_sem], q_ok (q_pure HR9.out) rfl HP9.out HK9.out⟩
theorem w_braces {E : En} (hE : E.ok) {n : Nat} (ih : ∀ m, m ≤ n → Wk E m)  (s : Ps) (w : World) (hp : PW E w s) (hne : run E.L E.base (n + 1) (.braces) s ≠ .out) : Calls Tryz.prog 130 #[.pointer (some ⟨E.pb, 0, none⟩)] w (EndQ E vaU w (run E.L E.base (n + 1) (.braces) s)) := by
 obtain ⟨r, hr⟩ : ∃ r, run E.L E.base (n + 1) (.braces) s = r := ⟨_, rfl⟩
 rw [hr] at hne ⊢
 rw [run] at hr
 have HN := Hh hne
 have HR0 := Hh hr
 have HP0 := Hh hp
 have HK0 := Hh (KP.refl w)
 have IH := Hh ih
 clear hne hr hp ih
 go_enter Tryz.func130, Tryz.ntmps130
 go_wp2_with fail
 refine mR (wk_here hE _ _ HP0.out) HR0 HN HK0 (fun _ _ h => ⟨rfl, h⟩) ?_
 rintro v1 s1 w1 HR1 HP1 - HK1
 have HBn := Hh (HdB.new w1 v1)
 have HPn := Hh (HP1.out.ext hE (below_alloc w1 (.cells #[.int .i64 v1.1, .int .i64 v1.2] 77)))
 have HKn := Hh (HK1.out.trans (KP.of_below (below_alloc w1 (.cells #[.int .i64 v1.1, .int .i64 v1.2] 77))))
 have HPo1 := Hh HP1.out
 have HKo1 := Hh HK1.out
 clear HP1 HK1
 have HP1 := Hh HPn.out
 have HK1 := Hh HKn.out
 clear HPn HKn
 simp only [hdV]
 obtain ⟨bh, hbh⟩ : ∃ b, w1.heap.size = b := ⟨_, rfl⟩
 have HBh1 := Hh (hbh ▸ HBn.out)
 clear HBn
 go_wp2_with fail
 try rw [hbh]
 refine mR (wk_need hE [123] _ _ HP1.out) HR1 HN HK1 (fun _ _ h => ⟨rfl, h⟩) ?_
 rintro v2 s2 w2 HR2 HP2 hkk HK2
 have HBh2 := Hh (HBh1.out.kp hkk)
 clear hkk
 go_wp2_with fail
 refine mQ ((IH.out n (Nat.le_refl _)).f_item  _ _ HP2.out (qne HR2.out HN.out)) HR2 HN HK2 (fun _ _ h => ⟨rfl, h⟩) ?_
 rintro v3 s3 y3 w3 HR3 rfl HP3 hkk HK3
 have HBh3 := Hh (HBh2.out.kp hkk)
 clear hkk
 go_wp2_with fail
 go_loopg [] n (fun k wr => ∃ s', k ≤ n ∧ (run E.L E.base k (.bracesR) >>= fun _ => (do need E.L [125]; node E.L 19 v1; pure Va.un)) s' = r ∧ PW E wr s' ∧ KP w wr ∧ HdB wr bh v1)
 case atStart => exact ⟨_, Nat.le_refl _, HR3.out, HP3.out, HK3.out, HBh3.out⟩
 case round =>
  obtain ⟨s4, hgn4, hr4, hp4, hk4, hhh4⟩ := hrel
  cases gk with
  | zero => exact absurd (q_0 hr4) HN.out
  | succ g4 =>
   rw [run] at hr4
   have HR4 := Hh hr4
   have HP4 := Hh hp4
   have HK4 := Hh hk4
   have HBh4 := Hh hhh4
   clear hr4 hp4 hk4 hhh4
   with_reducible replace HR4 := Hh (q_assoc HR4.out)
   go_wp2_with fail
   refine mR (wk_took hE [44] _ _ HP4.out) HR4 HN HK4 (fun _ _ h => ⟨rfl, h⟩) ?_
   rintro v5 s5 w5 HR5 HP5 hkk HK5
   have HBh5 := Hh (HBh4.out.kp hkk)
   clear hkk
   obtain ⟨bb5, hbb5⟩ : ∃ bb, v5 = bb := ⟨_, rfl⟩
   rw [hbb5] at HR5 ⊢
   clear hbb5
   cases bb5
   ·have HQ := Hh (q_iffK HR5.out)
    clear HR5
    have HR5 := Hh HQ.out
    clear HQ
    go_wp2_with fail
    with_reducible replace HR5 := Hh (q_pb HR5.out)
    refine mR (wk_need hE [125] _ _ HP5.out) HR5 HN HK5 (fun _ _ h => ⟨rfl, h⟩) ?_
    rintro v6 s6 w6 HR6 HP6 hkk HK6
    have HBh6 := Hh (HBh5.out.kp hkk)
    clear hkk
    obtain ⟨d0, d1⟩ := HBh6.out.cells
    go_wp2_with fail
    refine mR (wk_node hE 19 v1 _ _ HP6.out (qne HR6.out HN.out)) HR6 HN HK6 (fun _ _ h => ⟨rfl, h⟩) ?_
    rintro v7 s7 w7 HR7 HP7 hkk HK7
    have HBh7 := Hh (HBh6.out.kp hkk)
    clear hkk
    try clear d0 d1
    skip
    go_wp2_with fail
    exact ⟨rfl, .tuple #[], by simp [results, Tryz.results130, go_sem], q_ok (q_pure HR7.out) rfl HP7.out HK7.out⟩
   ·have HQ := Hh (q_iftK HR5.out)
    clear HR5
    have HR5 := Hh HQ.out
    clear HQ
    with_reducible replace HR5 := Hh (q_assoc HR5.out)
    go_wp2_with fail
    refine mR (wk_sign hE 0 [125] _ _ (by omega) HP5.out) HR5 HN HK5 (fun _ _ h => ⟨rfl, h⟩) ?_
    rintro v8 s8 w8 HR8 HP8 hkk HK8
    have HBh8 := Hh (HBh5.out.kp hkk)
    clear hkk
    obtain ⟨bb8, hbb8⟩ : ∃ bb, v8 = bb := ⟨_, rfl⟩
    rw [hbb8] at HR8 ⊢
    clear hbb8
    cases bb8
    ·have HQ := Hh (q_iffK HR8.out)
     clear HR8
     have HR8 := Hh HQ.out
     clear HQ
     with_reducible replace HR8 := Hh (q_assoc HR8.out)
     go_wp2_with fail
     refine mQ ((IH.out g4 (by omega)).f_item  _ _ HP8.out (qne HR8.out HN.out)) HR8 HN HK8 (fun _ _ h => ⟨rfl, h⟩) ?_
     rintro v9 s9 y9 w9 HR9 rfl HP9 hkk HK9
     have HBh9 := Hh (HBh8.out.kp hkk)
     clear hkk
     go_wp2_with fail
     go_roundg g4
     case measure => omega
     case rel => exact ⟨_, by omega, HR9.out, HP9.out, HK9.out, HBh9.out⟩
    ·have HQ := Hh (q_iftK HR8.out)
     clear HR8
     have HR8 := Hh HQ.out
     clear HQ
     go_wp2_with fail
     with_reducible replace HR8 := Hh (q_pb HR8.out)
     refine mR (wk_need hE [125] _ _ HP8.out) HR8 HN HK8 (fun _ _ h => ⟨rfl, h⟩) ?_
     rintro v10 s10 w10 HR10 HP10 hkk HK10
     have HBh10 := Hh (HBh8.out.kp hkk)
     clear hkk
     obtain ⟨d0, d1⟩ := HBh10.out.cells
     go_wp2_with fail
     refine mR (wk_node hE 19 v1 _ _ HP10.out (qne HR10.out HN.out)) HR10 HN HK10 (fun _ _ h => ⟨rfl, h⟩) ?_
     rintro v11 s11 w11 HR11 HP11 hkk HK11
     have HBh11 := Hh (HBh10.out.kp hkk)
     clear hkk
     try clear d0 d1
     skip
     go_wp2_with fail
     exact ⟨rfl, .tuple #[], by simp [results, Tryz.results130, go_sem], q_ok (q_pure HR11.out) rfl HP11.out HK11.out⟩
theorem w_desig {E : En} (hE : E.ok) {n : Nat} (ih : ∀ m, m ≤ n → Wk E m)  (s : Ps) (w : World) (hp : PW E w s) (hne : run E.L E.base (n + 1) (.desig) s ≠ .out) : Calls Tryz.prog 183 #[.pointer (some ⟨E.pb, 0, none⟩)] w (EndQ E vaB w (run E.L E.base (n + 1) (.desig) s)) := by
 obtain ⟨r, hr⟩ : ∃ r, run E.L E.base (n + 1) (.desig) s = r := ⟨_, rfl⟩
 rw [hr] at hne ⊢
 rw [run] at hr
 have HN := Hh hne
 have HR0 := Hh hr
 have HP0 := Hh hp
 have HK0 := Hh (KP.refl w)
 have IH := Hh ih
 clear hne hr hp ih
 go_enter Tryz.func183, Tryz.ntmps183
 go_wp2_with fail
 refine mR (wk_here hE _ _ HP0.out) HR0 HN HK0 (fun _ _ h => ⟨rfl, h⟩) ?_
 rintro v1 s1 w1 HR1 HP1 - HK1
 have HBn := Hh (HdB.new w1 v1)
 have HPn := Hh (HP1.out.ext hE (below_alloc w1 (.cells #[.int .i64 v1.1, .int .i64 v1.2] 77)))
 have HKn := Hh (HK1.out.trans (KP.of_below (below_alloc w1 (.cells #[.int .i64 v1.1, .int .i64 v1.2] 77))))
 have HPo1 := Hh HP1.out
 have HKo1 := Hh HK1.out
 clear HP1 HK1
 have HP1 := Hh HPn.out
 have HK1 := Hh HKn.out
 clear HPn HKn
 simp only [hdV]
 obtain ⟨bh, hbh⟩ : ∃ b, w1.heap.size = b := ⟨_, rfl⟩
 have HBh1 := Hh (hbh ▸ HBn.out)
 clear HBn
 go_wp2_with fail
 try rw [hbh]
 refine mR (wk_took hE [91] _ _ HP1.out) HR1 HN HK1 (fun _ _ h => ⟨rfl, h⟩) ?_
 rintro v2 s2 w2 HR2 HP2 hkk HK2
 have HBh2 := Hh (HBh1.out.kp hkk)
 clear hkk
 obtain ⟨bb2, hbb2⟩ : ∃ bb, v2 = bb := ⟨_, rfl⟩
 rw [hbb2] at HR2 ⊢
 clear hbb2
 cases bb2
 ·have HQ := Hh (q_iff HR2.out)
  clear HR2
  have HR2 := Hh HQ.out
  clear HQ
  go_wp2_with fail
  refine mR (wk_took hE [46] _ _ HP2.out) HR2 HN HK2 (fun _ _ h => ⟨rfl, h⟩) ?_
  rintro v3 s3 w3 HR3 HP3 hkk HK3
  have HBh3 := Hh (HBh2.out.kp hkk)
  clear hkk
  obtain ⟨bb3, hbb3⟩ : ∃ bb, v3 = bb := ⟨_, rfl⟩
  rw [hbb3] at HR3 ⊢
  clear hbb3
  cases bb3
  ·have HQ := Hh (q_iff HR3.out)
   clear HR3
   have HR3 := Hh HQ.out
   clear HQ
   go_wp2_with fail
   exact ⟨rfl, .bool false, by simp [results, Tryz.results183, go_sem], q_ok (q_pure HR3.out) rfl HP3.out HK3.out⟩
  ·have HQ := Hh (q_ift HR3.out)
   clear HR3
   have HR3 := Hh HQ.out
   clear HQ
   go_wp2_with fail
   refine (wk_name hE _ _ HP3.out).mono ?_
   intro e w4 he
   rcases qstepR (x := name' E.L) HR3.out HN.out HK3.out he with ⟨v4, s4, hr4, hxe4, rfl, hp4, hkk, hk4⟩ | ⟨hr4, ⟨z, rfl⟩, hb4, hk4⟩
   case' inr => exact ⟨rfl, q_no hr4 hb4 hk4⟩
   have HR4 := Hh hr4
   have HP4 := Hh hp4
   have HK4 := Hh hk4
   have HBh4 := Hh (HBh3.out.kp hkk)
   clear he hr4 hp4 hkk hk4
   have HLn4 := Hh (name_len hE hxe4)
   clear hxe4
   simp only [stV]
   obtain ⟨d0, d1⟩ := HBh4.out.cells
   go_wp2_with fail
   refine mR (wk_node hE 21 v1 _ _ HP4.out (qne HR4.out HN.out)) HR4 HN HK4 (fun _ _ h => ⟨rfl, h⟩) ?_
   rintro v5 s5 w5 HR5 HP5 hkk HK5
   have HBh5 := Hh (HBh4.out.kp hkk)
   clear hkk
   try clear d0 d1
   skip
   go_wp2_with fail
   exact ⟨rfl, .bool true, by simp [results, Tryz.results183, go_sem], q_ok (q_pure HR5.out) rfl HP5.out HK5.out⟩
 ·have HQ := Hh (q_ift HR2.out)
  clear HR2
  have HR2 := Hh HQ.out
  clear HQ
  go_wp2_with fail
  refine mQ ((IH.out n (Nat.le_refl _)).f_choice  _ _ HP2.out (qne HR2.out HN.out)) HR2 HN HK2 (fun _ _ h => ⟨rfl, h⟩) ?_
  rintro v6 s6 y6 w6 HR6 rfl HP6 hkk HK6
  have HBh6 := Hh (HBh2.out.kp hkk)
  clear hkk
  go_wp2_with fail
  refine mR (wk_need hE [93] _ _ HP6.out) HR6 HN HK6 (fun _ _ h => ⟨rfl, h⟩) ?_
  rintro v7 s7 w7 HR7 HP7 hkk HK7
  have HBh7 := Hh (HBh6.out.kp hkk)
  clear hkk
  obtain ⟨d0, d1⟩ := HBh7.out.cells
  go_wp2_with fail
  refine mR (wk_node hE 21 v1 _ _ HP7.out (qne HR7.out HN.out)) HR7 HN HK7 (fun _ _ h => ⟨rfl, h⟩) ?_
  rintro v8 s8 w8 HR8 HP8 hkk HK8
  have HBh8 := Hh (HBh7.out.kp hkk)
  clear hkk
  try clear d0 d1
  skip
  go_wp2_with fail
  exact ⟨rfl, .bool true, by simp [results, Tryz.results183, go_sem], q_ok (q_pure HR8.out) rfl HP8.out HK8.out⟩
end Go.Proofs.YtlboejdhmggjpaaGreat.Pp

/- WkQ -/
namespace Go.Proofs.YtlboejdhmggjpaaGreat.Pp
set_option maxRecDepth 100000
set_option maxHeartbeats 16000000
open Go.RowKit Go.BigFrame Go.Proofs.YtlboejdhmggjpaaGreat

theorem w_item {E : En} (hE : E.ok) {n : Nat} (ih : ∀ m, m ≤ n → Wk E m)  (s : Ps) (w : World) (hp : PW E w s) (hne : run E.L E.base (n + 1) (.item) s ≠ .out) : Calls Tryz.prog 162 #[.pointer (some ⟨E.pb, 0, none⟩)] w (EndQ E vaU w (run E.L E.base (n + 1) (.item) s)) := by
 obtain ⟨r, hr⟩ : ∃ r, run E.L E.base (n + 1) (.item) s = r := ⟨_, rfl⟩
 rw [hr] at hne ⊢
 rw [run] at hr
 have HN := Hh hne
 have HR0 := Hh hr
 have HP0 := Hh hp
 have HK0 := Hh (KP.refl w)
 have IH := Hh ih
 clear hne hr hp ih
 go_enter Tryz.func162, Tryz.ntmps162
 go_wp2_with fail
 refine mR (wk_here hE _ _ HP0.out) HR0 HN HK0 (fun _ _ h => ⟨rfl, h⟩) ?_
 rintro v1 s1 w1 HR1 HP1 - HK1
 have HBn := Hh (HdB.new w1 v1)
 have HPn := Hh (HP1.out.ext hE (below_alloc w1 (.cells #[.int .i64 v1.1, .int .i64 v1.2] 77)))
 have HKn := Hh (HK1.out.trans (KP.of_below (below_alloc w1 (.cells #[.int .i64 v1.1, .int .i64 v1.2] 77))))
 have HPo1 := Hh HP1.out
 have HKo1 := Hh HK1.out
 clear HP1 HK1
 have HP1 := Hh HPn.out
 have HK1 := Hh HKn.out
 clear HPn HKn
 simp only [hdV]
 obtain ⟨bh, hbh⟩ : ∃ b, w1.heap.size = b := ⟨_, rfl⟩
 have HBh1 := Hh (hbh ▸ HBn.out)
 clear HBn
 go_wp2_with fail
 try rw [hbh]
 refine mQ ((IH.out n (Nat.le_refl _)).f_desig  _ _ HP1.out (qne HR1.out HN.out)) HR1 HN HK1 (fun _ _ h => ⟨rfl, h⟩) ?_
 rintro v2 s2 y2 w2 HR2 rfl HP2 hkk HK2
 have HBh2 := Hh (HBh1.out.kp hkk)
 clear hkk
 obtain ⟨bb2, hbb2⟩ : ∃ bb, v2.bool = bb := ⟨_, rfl⟩
 rw [hbb2] at HR2 ⊢
 clear hbb2
 cases bb2
 ·have HQ := Hh (q_iff HR2.out)
  clear HR2
  have HR2 := Hh HQ.out
  clear HQ
  go_wp2_with fail
  with_reducible replace HR2 := Hh (q_pb HR2.out)
  refine mQ ((IH.out n (Nat.le_refl _)).f_initializer  _ _ HP2.out (qne HR2.out HN.out)) HR2 HN HK2 (fun _ _ h => ⟨rfl, h⟩) ?_
  rintro v3 s3 y3 w3 HR3 rfl HP3 hkk HK3
  have HBh3 := Hh (HBh2.out.kp hkk)
  clear hkk
  obtain ⟨d0, d1⟩ := HBh3.out.cells
  go_wp2_with fail
  refine mR (wk_node hE 20 v1 _ _ HP3.out (qne HR3.out HN.out)) HR3 HN HK3 (fun _ _ h => ⟨rfl, h⟩) ?_
  rintro v4 s4 w4 HR4 HP4 hkk HK4
  have HBh4 := Hh (HBh3.out.kp hkk)
  clear hkk
  try clear d0 d1
  skip
  go_wp2_with fail
  exact ⟨rfl, .tuple #[], by simp [results, Tryz.results162, go_sem], q_ok (q_pure HR4.out) rfl HP4.out HK4.out⟩
 ·have HQ := Hh (q_ift HR2.out)
  clear HR2
  have HR2 := Hh HQ.out
  clear HQ
  with_reducible replace HR2 := Hh (q_assoc HR2.out)
  go_wp2_with fail
  go_loopg [] n (fun k wr => ∃ s', k ≤ n ∧ (run E.L E.base k (.itemR) >>= fun _ => ((do need E.L [61]; pure Va.un) >>= fun _ => (do let _ ← run E.L E.base n .initializer; node E.L 20 v1; pure Va.un))) s' = r ∧ PW E wr s' ∧ KP w wr ∧ HdB wr bh v1)
  case atStart => exact ⟨_, Nat.le_refl _, HR2.out, HP2.out, HK2.out, HBh2.out⟩
  case round =>
   obtain ⟨s5, hgn5, hr5, hp5, hk5, hhh5⟩ := hrel
   cases gk with
   | zero => exact absurd (q_0 hr5) HN.out
   | succ g5 =>
    rw [run] at hr5
    have HR5 := Hh hr5
    have HP5 := Hh hp5
    have HK5 := Hh hk5
    have HBh5 := Hh hhh5
    clear hr5 hp5 hk5 hhh5
    with_reducible replace HR5 := Hh (q_assoc HR5.out)
    go_wp2_with fail
    refine mQ ((IH.out g5 (by omega)).f_desig  _ _ HP5.out (qne HR5.out HN.out)) HR5 HN HK5 (fun _ _ h => ⟨rfl, h⟩) ?_
    rintro v6 s6 y6 w6 HR6 rfl HP6 hkk HK6
    have HBh6 := Hh (HBh5.out.kp hkk)
    clear hkk
    obtain ⟨bb6, hbb6⟩ : ∃ bb, v6.bool = bb := ⟨_, rfl⟩
    rw [hbb6] at HR6 ⊢
    clear hbb6
    cases bb6
    ·have HQ := Hh (q_iffK HR6.out)
     clear HR6
     have HR6 := Hh HQ.out
     clear HQ
     with_reducible replace HR6 := Hh (q_assoc HR6.out)
     go_wp2_with fail
     refine mR (wk_need hE [61] _ _ HP6.out) HR6 HN HK6 (fun _ _ h => ⟨rfl, h⟩) ?_
     rintro v7 s7 w7 HR7 HP7 hkk HK7
     have HBh7 := Hh (HBh6.out.kp hkk)
     clear hkk
     go_wp2_with fail
     with_reducible replace HR7 := Hh (q_pb HR7.out)
     refine mQ ((IH.out n (Nat.le_refl _)).f_initializer  _ _ HP7.out (qne HR7.out HN.out)) HR7 HN HK7 (fun _ _ h => ⟨rfl, h⟩) ?_
     rintro v8 s8 y8 w8 HR8 rfl HP8 hkk HK8
     have HBh8 := Hh (HBh7.out.kp hkk)
     clear hkk
     obtain ⟨d0, d1⟩ := HBh8.out.cells
     go_wp2_with fail
     refine mR (wk_node hE 20 v1 _ _ HP8.out (qne HR8.out HN.out)) HR8 HN HK8 (fun _ _ h => ⟨rfl, h⟩) ?_
     rintro v9 s9 w9 HR9 HP9 hkk HK9
     have HBh9 := Hh (HBh8.out.kp hkk)
     clear hkk
     try clear d0 d1
     skip
     go_wp2_with fail
     exact ⟨rfl, .tuple #[], by simp [results, Tryz.results162, go_sem], q_ok (q_pure HR9.out) rfl HP9.out HK9.out⟩
    ·have HQ := Hh (q_iftK HR6.out)
     clear HR6
     have HR6 := Hh HQ.out
     clear HQ
     go_wp2_with fail
     go_roundg g5
     case measure => omega
     case rel => exact ⟨_, by omega, HR6.out, HP6.out, HK6.out, HBh6.out⟩
theorem w_atomic {E : En} (hE : E.ok) {n : Nat} (ih : ∀ m, m ≤ n → Wk E m)  (s : Ps) (w : World) (hp : PW E w s) (hne : run E.L E.base (n + 1) (.atomic) s ≠ .out) : Calls Tryz.prog 77 #[.pointer (some ⟨E.pb, 0, none⟩)] w (EndQ E vaU w (run E.L E.base (n + 1) (.atomic) s)) := by
 obtain ⟨r, hr⟩ : ∃ r, run E.L E.base (n + 1) (.atomic) s = r := ⟨_, rfl⟩
 rw [hr] at hne ⊢
 rw [run] at hr
 have HN := Hh hne
 have HR0 := Hh hr
 have HP0 := Hh hp
 have HK0 := Hh (KP.refl w)
 have IH := Hh ih
 clear hne hr hp ih
 go_enter Tryz.func77, Tryz.ntmps77
 go_wp2_with fail
 refine mR (wk_here hE _ _ HP0.out) HR0 HN HK0 (fun _ _ h => ⟨rfl, h⟩) ?_
 rintro v1 s1 w1 HR1 HP1 - HK1
 have HBn := Hh (HdB.new w1 v1)
 have HPn := Hh (HP1.out.ext hE (below_alloc w1 (.cells #[.int .i64 v1.1, .int .i64 v1.2] 77)))
 have HKn := Hh (HK1.out.trans (KP.of_below (below_alloc w1 (.cells #[.int .i64 v1.1, .int .i64 v1.2] 77))))
 have HPo1 := Hh HP1.out
 have HKo1 := Hh HK1.out
 clear HP1 HK1
 have HP1 := Hh HPn.out
 have HK1 := Hh HKn.out
 clear HPn HKn
 simp only [hdV]
 obtain ⟨bh, hbh⟩ : ∃ b, w1.heap.size = b := ⟨_, rfl⟩
 have HBh1 := Hh (hbh ▸ HBn.out)
 clear HBn
 obtain ⟨hle2, hr2⟩ := q_step HR1.out HN.out
 obtain ⟨c1, f1, -⟩ := HPo1.out.at
 have hpb := HPo1.out.lt
 rw [hbh] at hpb
 obtain ⟨q21, q22⟩ := HPo1.out.on hE hle2
 have hLn := hE.len
 obtain ⟨a2, hat2⟩ : ∃ a, Ps.at' s1 = a := ⟨_, rfl⟩
 rw [hat2] at c1 hle2 hr2 q21 q22
 have hi : a2 < 100000 := by omega
 obtain ⟨s2, hs2⟩ : ∃ t : Ps, (⟨a2 + 1, s1.done, s1.nm⟩ : Ps) = t := ⟨_, rfl⟩
 rw [hs2] at hr2 q21
 clear hs2
 have HR2 := Hh hr2
 have HP2 := Hh (q21.ext hE (below_alloc _ (.cells #[.int .i64 v1.1, .int .i64 v1.2] 77)))
 have hkx := KP.of_below (below_alloc (World.setCell w1 ⟨E.pb, 1, none⟩ (.int .i64 ((a2 + 1 : Nat) : Int))) (.cells #[.int .i64 v1.1, .int .i64 v1.2] 77))
 have HK2 := Hh (HKo1.out.trans (q22.trans hkx))
 have HBh2 := Hh (hbh ▸ HdB.new' w1 ⟨E.pb, 1, none⟩ (.int .i64 ((a2 + 1 : Nat) : Int)) v1)
 have HAT2 := Hh hat2
 clear q21 q22 hr2 hle2 hLn hat2 hkx
 go_wp2_with fail
 try rw [hbh]
 try clear c1 f1 hpb hi
 refine mQ ((IH.out n (Nat.le_refl _)).f_typeIn  _ _ HP2.out (qne HR2.out HN.out)) HR2 HN HK2 (fun _ _ h => ⟨rfl, h⟩) ?_
 rintro v3 s3 y3 w3 HR3 rfl HP3 hkk HK3
 have HBh3 := Hh (HBh2.out.kp hkk)
 clear hkk
 obtain ⟨d0, d1⟩ := HBh3.out.cells
 go_wp2_with fail
 refine mR (wk_node hE 12 v1 _ _ HP3.out (qne HR3.out HN.out)) HR3 HN HK3 (fun _ _ h => ⟨rfl, h⟩) ?_
 rintro v4 s4 w4 HR4 HP4 hkk HK4
 have HBh4 := Hh (HBh3.out.kp hkk)
 clear hkk
 try clear d0 d1
 skip
 go_wp2_with fail
 exact ⟨rfl, .tuple #[], by simp [results, Tryz.results77, go_sem], q_ok (q_pure HR4.out) rfl HP4.out HK4.out⟩
theorem w_until {E : En} (hE : E.ok) {n : Nat} (ih : ∀ m, m ≤ n → Wk E m) (x : Bs) (s : Ps) (w : World) (hp : PW E w s) (hne : run E.L E.base (n + 1) (.until' x) s ≠ .out) : Calls Tryz.prog 161 #[.pointer (some ⟨E.pb, 0, none⟩), .string (str x)] w (EndQ E vaU w (run E.L E.base (n + 1) (.until' x) s)) := by
 obtain ⟨r, hr⟩ : ∃ r, run E.L E.base (n + 1) (.until' x) s = r := ⟨_, rfl⟩
 rw [hr] at hne ⊢
 rw [run] at hr
 have HN := Hh hne
 have HR0 := Hh hr
 have HP0 := Hh hp
 have HK0 := Hh (KP.refl w)
 have IH := Hh ih
 clear hne hr hp ih
 go_enter Tryz.func161, Tryz.ntmps161
 go_wp2_with fail
 refine mR (wk_sign hE 0 x _ _ (by omega) HP0.out) HR0 HN HK0 (fun _ _ h => ⟨rfl, h⟩) ?_
 rintro v1 s1 w1 HR1 HP1 - HK1
 obtain ⟨bb1, hbb1⟩ : ∃ bb, v1 = bb := ⟨_, rfl⟩
 rw [hbb1] at HR1 ⊢
 clear hbb1
 cases bb1
 ·have HQ := Hh (q_iff HR1.out)
  clear HR1
  have HR1 := Hh HQ.out
  clear HQ
  go_wp2_with fail
  refine mQ ((IH.out n (Nat.le_refl _)).f_expr  _ _ HP1.out (qne HR1.out HN.out)) HR1 HN HK1 (fun _ _ h => ⟨rfl, h⟩) ?_
  rintro v2 s2 y2 w2 HR2 rfl HP2 - HK2
  go_wp2_with fail
  refine mR (wk_need hE x _ _ HP2.out) HR2 HN HK2 (fun _ _ h => ⟨rfl, h⟩) ?_
  rintro v3 s3 w3 HR3 HP3 - HK3
  go_wp2_with fail
  exact ⟨rfl, .tuple #[], by simp [results, Tryz.results161, go_sem], q_ok (q_pure HR3.out) rfl HP3.out HK3.out⟩
 ·have HQ := Hh (q_ift HR1.out)
  clear HR1
  have HR1 := Hh HQ.out
  clear HQ
  go_wp2_with fail
  with_reducible replace HR1 := Hh (q_pb HR1.out)
  refine mR (wk_need hE x _ _ HP1.out) HR1 HN HK1 (fun _ _ h => ⟨rfl, h⟩) ?_
  rintro v4 s4 w4 HR4 HP4 - HK4
  go_wp2_with fail
  exact ⟨rfl, .tuple #[], by simp [results, Tryz.results161, go_sem], q_ok (q_pure HR4.out) rfl HP4.out HK4.out⟩
theorem w_moreInits {E : En} (hE : E.ok) {n : Nat} (ih : ∀ m, m ≤ n → Wk E m) (t : Bool) (s : Ps) (w : World) (hp : PW E w s) (hne : run E.L E.base (n + 1) (.moreInits t) s ≠ .out) : Calls Tryz.prog 52 #[.pointer (some ⟨E.pb, 0, none⟩), .bool t] w (EndQ E vaU w (run E.L E.base (n + 1) (.moreInits t) s)) := by
 obtain ⟨r, hr⟩ : ∃ r, run E.L E.base (n + 1) (.moreInits t) s = r := ⟨_, rfl⟩
 rw [hr] at hne ⊢
 have HN := Hh hne
 have HR0 := Hh hr
 have HP0 := Hh hp
 have HK0 := Hh (KP.refl w)
 have IH := Hh ih
 clear hne hr hp ih
 go_enter Tryz.func52, Tryz.ntmps52
 go_wp2_with fail
 go_loopg [] (n + 1) (fun k wr => ∃ s', k ≤ (n + 1) ∧ run E.L E.base k (.moreInits t) s' = r ∧ PW E wr s' ∧ KP w wr)
 case atStart => exact ⟨_, Nat.le_refl _, HR0.out, HP0.out, HK0.out⟩
 case round =>
  obtain ⟨s1, hgn1, hr1, hp1, hk1⟩ := hrel
  cases gk with
  | zero => rw [run0] at hr1; exact absurd hr1.symm HN.out
  | succ g1 =>
   rw [run] at hr1
   have HR1 := Hh hr1
   have HP1 := Hh hp1
   have HK1 := Hh hk1
   clear hr1 hp1 hk1
   go_wp2_with fail
   refine mR (wk_took hE [44] _ _ HP1.out) HR1 HN HK1 (fun _ _ h => ⟨rfl, h⟩) ?_
   rintro v2 s2 w2 HR2 HP2 - HK2
   obtain ⟨bb2, hbb2⟩ : ∃ bb, v2 = bb := ⟨_, rfl⟩
   rw [hbb2] at HR2 ⊢
   clear hbb2
   cases bb2
   ·have HQ := Hh (q_iff HR2.out)
    clear HR2
    have HR2 := Hh HQ.out
    clear HQ
    go_wp2_with fail
    exact ⟨rfl, .tuple #[], by simp [results, Tryz.results52, go_sem], q_ok (q_pure HR2.out) rfl HP2.out HK2.out⟩
   ·have HQ := Hh (q_ift HR2.out)
    clear HR2
    have HR2 := Hh HQ.out
    clear HQ
    go_wp2_with fail
    refine mQ ((IH.out g1 (by omega)).f_init t _ _ HP2.out (qne HR2.out HN.out)) HR2 HN HK2 (fun _ _ h => ⟨rfl, h⟩) ?_
    rintro v3 s3 y3 w3 HR3 rfl HP3 - HK3
    go_wp2_with fail
    go_roundg g1
    case measure => omega
    case rel => exact ⟨_, by omega, HR3.out, HP3.out, HK3.out⟩
theorem w_restOfInit {E : En} (hE : E.ok) {n : Nat} (ih : ∀ m, m ≤ n → Wk E m) (h : Nat × Nat) (s : Ps) (w : World) (hp : PW E w s) (hne : run E.L E.base (n + 1) (.restOfInit h) s ≠ .out) : Calls Tryz.prog 51 #[.pointer (some ⟨E.pb, 0, none⟩), hdV h] w (EndQ E vaU w (run E.L E.base (n + 1) (.restOfInit h) s)) := by
 obtain ⟨r, hr⟩ : ∃ r, run E.L E.base (n + 1) (.restOfInit h) s = r := ⟨_, rfl⟩
 rw [hr] at hne ⊢
 rw [run] at hr
 have HN := Hh hne
 have HR0 := Hh hr
 have HP0 := Hh hp
 have HK0 := Hh (KP.refl w)
 have IH := Hh ih
 clear hne hr hp ih
 simp only [hdV]
 go_enter Tryz.func51, Tryz.ntmps51
 have HBarg0 := Hh (HdB.new w h)
 have HPn := Hh (HP0.out.ext hE (below_alloc w (.cells #[.int .i64 h.1, .int .i64 h.2] 77)))
 have HKn := Hh (KP.of_below (below_alloc w (.cells #[.int .i64 h.1, .int .i64 h.2] 77)))
 clear HP0 HK0
 have HP0 := Hh HPn.out
 have HK0 := Hh HKn.out
 clear HPn HKn
 go_wp2_with fail
 refine mR (wk_took hE [61] _ _ HP0.out) HR0 HN HK0 (fun _ _ h => ⟨rfl, h⟩) ?_
 rintro v1 s1 w1 HR1 HP1 hkk HK1
 have HBarg1 := Hh (HBarg0.out.kp hkk)
 clear hkk
 obtain ⟨bb1, hbb1⟩ : ∃ bb, v1 = bb := ⟨_, rfl⟩
 rw [hbb1] at HR1 ⊢
 clear hbb1
 cases bb1
 ·have HQ := Hh (q_iff HR1.out)
  clear HR1
  have HR1 := Hh HQ.out
  clear HQ
  obtain ⟨d0, d1⟩ := HBarg1.out.cells
  go_wp2_with fail
  with_reducible replace HR1 := Hh (q_pb HR1.out)
  refine mR (wk_node hE 13 h _ _ HP1.out (qne HR1.out HN.out)) HR1 HN HK1 (fun _ _ h => ⟨rfl, h⟩) ?_
  rintro v2 s2 w2 HR2 HP2 hkk HK2
  have HBarg2 := Hh (HBarg1.out.kp hkk)
  clear hkk
  try clear d0 d1
  skip
  go_wp2_with fail
  exact ⟨rfl, .tuple #[], by simp [results, Tryz.results51, go_sem], q_ok (q_pure HR2.out) rfl HP2.out HK2.out⟩
 ·have HQ := Hh (q_ift HR1.out)
  clear HR1
  have HR1 := Hh HQ.out
  clear HQ
  go_wp2_with fail
  refine mQ ((IH.out n (Nat.le_refl _)).f_initializer  _ _ HP1.out (qne HR1.out HN.out)) HR1 HN HK1 (fun _ _ h => ⟨rfl, h⟩) ?_
  rintro v3 s3 y3 w3 HR3 rfl HP3 hkk HK3
  have HBarg3 := Hh (HBarg1.out.kp hkk)
  clear hkk
  obtain ⟨d0, d1⟩ := HBarg3.out.cells
  go_wp2_with fail
  refine mR (wk_node hE 13 h _ _ HP3.out (qne HR3.out HN.out)) HR3 HN HK3 (fun _ _ h => ⟨rfl, h⟩) ?_
  rintro v4 s4 w4 HR4 HP4 hkk HK4
  have HBarg4 := Hh (HBarg3.out.kp hkk)
  clear hkk
  try clear d0 d1
  skip
  go_wp2_with fail
  exact ⟨rfl, .tuple #[], by simp [results, Tryz.results51, go_sem], q_ok (q_pure HR4.out) rfl HP4.out HK4.out⟩
theorem w_member {E : En} (hE : E.ok) {n : Nat} (ih : ∀ m, m ≤ n → Wk E m)  (s : Ps) (w : World) (hp : PW E w s) (hne : run E.L E.base (n + 1) (.member) s ≠ .out) : Calls Tryz.prog 121 #[.pointer (some ⟨E.pb, 0, none⟩)] w (EndQ E vaU w (run E.L E.base (n + 1) (.member) s)) := by
 obtain ⟨r, hr⟩ : ∃ r, run E.L E.base (n + 1) (.member) s = r := ⟨_, rfl⟩
 rw [hr] at hne ⊢
 rw [run] at hr
 have HN := Hh hne
 have HR0 := Hh hr
 have HP0 := Hh hp
 have HK0 := Hh (KP.refl w)
 have IH := Hh ih
 clear hne hr hp ih
 go_enter Tryz.func121, Tryz.ntmps121
 go_wp2_with fail
 refine mR (wk_word hE [95, 83, 116, 97, 116, 105, 99, 95, 97, 115, 115, 101, 114, 116] _ _ HP0.out) HR0 HN HK0 (fun _ _ h => ⟨rfl, h⟩) ?_
 rintro v1 s1 w1 HR1 HP1 - HK1
 obtain ⟨bb1, hbb1⟩ : ∃ bb, v1 = bb := ⟨_, rfl⟩
 rw [hbb1] at HR1 ⊢
 clear hbb1
 cases bb1
 ·have HQ := Hh (q_iff HR1.out)
  clear HR1
  have HR1 := Hh HQ.out
  clear HQ
  go_wp2_with fail
  refine mR (wk_here hE _ _ HP1.out) HR1 HN HK1 (fun _ _ h => ⟨rfl, h⟩) ?_
  rintro v2 s2 w2 HR2 HP2 - HK2
  have HBn := Hh (HdB.new w2 v2)
  have HPn := Hh (HP2.out.ext hE (below_alloc w2 (.cells #[.int .i64 v2.1, .int .i64 v2.2] 77)))
  have HKn := Hh (HK2.out.trans (KP.of_below (below_alloc w2 (.cells #[.int .i64 v2.1, .int .i64 v2.2] 77))))
  have HPo2 := Hh HP2.out
  have HKo2 := Hh HK2.out
  clear HP2 HK2
  have HP2 := Hh HPn.out
  have HK2 := Hh HKn.out
  clear HPn HKn
  simp only [hdV]
  obtain ⟨bh, hbh⟩ : ∃ b, w2.heap.size = b := ⟨_, rfl⟩
  have HBh2 := Hh (hbh ▸ HBn.out)
  clear HBn
  go_wp2_with fail
  try rw [hbh]
  refine mQ ((IH.out n (Nat.le_refl _)).f_specs false _ _ HP2.out (qne HR2.out HN.out)) HR2 HN HK2 (fun _ _ h => ⟨rfl, h⟩) ?_
  rintro v3 s3 y3 w3 HR3 rfl HP3 hkk HK3
  have HBh3 := Hh (HBh2.out.kp hkk)
  clear hkk
  go_wp2_with fail
  refine mR (wk_sign hE 0 [59] _ _ (by omega) HP3.out) HR3 HN HK3 (fun _ _ h => ⟨rfl, h⟩) ?_
  rintro v4 s4 w4 HR4 HP4 hkk HK4
  have HBh4 := Hh (HBh3.out.kp hkk)
  clear hkk
  obtain ⟨bb4, hbb4⟩ : ∃ bb, v4 = bb := ⟨_, rfl⟩
  rw [hbb4] at HR4 ⊢
  clear hbb4
  cases bb4
  ·have HQ := Hh (q_iff HR4.out)
   clear HR4
   have HR4 := Hh HQ.out
   clear HQ
   with_reducible replace HR4 := Hh (q_assoc HR4.out)
   go_wp2_with fail
   refine mQ ((IH.out n (Nat.le_refl _)).f_field  _ _ HP4.out (qne HR4.out HN.out)) HR4 HN HK4 (fun _ _ h => ⟨rfl, h⟩) ?_
   rintro v5 s5 y5 w5 HR5 rfl HP5 hkk HK5
   have HBh5 := Hh (HBh4.out.kp hkk)
   clear hkk
   go_wp2_with fail
   go_loopg [] n (fun k wr => ∃ s', k ≤ n ∧ (run E.L E.base k (.memberR) >>= fun _ => (do need E.L [59]; node E.L 7 v2; pure Va.un)) s' = r ∧ PW E wr s' ∧ KP w wr ∧ HdB wr bh v2)
   case atStart => exact ⟨_, Nat.le_refl _, HR5.out, HP5.out, HK5.out, HBh5.out⟩
   case round =>
    obtain ⟨s6, hgn6, hr6, hp6, hk6, hhh6⟩ := hrel
    cases gk with
    | zero => exact absurd (q_0 hr6) HN.out
    | succ g6 =>
     rw [run] at hr6
     have HR6 := Hh hr6
     have HP6 := Hh hp6
     have HK6 := Hh hk6
     have HBh6 := Hh hhh6
     clear hr6 hp6 hk6 hhh6
     with_reducible replace HR6 := Hh (q_assoc HR6.out)
     go_wp2_with fail
     refine mR (wk_took hE [44] _ _ HP6.out) HR6 HN HK6 (fun _ _ h => ⟨rfl, h⟩) ?_
     rintro v7 s7 w7 HR7 HP7 hkk HK7
     have HBh7 := Hh (HBh6.out.kp hkk)
     clear hkk
     obtain ⟨bb7, hbb7⟩ : ∃ bb, v7 = bb := ⟨_, rfl⟩
     rw [hbb7] at HR7 ⊢
     clear hbb7
     cases bb7
     ·have HQ := Hh (q_iffK HR7.out)
      clear HR7
      have HR7 := Hh HQ.out
      clear HQ
      go_wp2_with fail
      with_reducible replace HR7 := Hh (q_pb HR7.out)
      refine mR (wk_need hE [59] _ _ HP7.out) HR7 HN HK7 (fun _ _ h => ⟨rfl, h⟩) ?_
      rintro v8 s8 w8 HR8 HP8 hkk HK8
      have HBh8 := Hh (HBh7.out.kp hkk)
      clear hkk
      obtain ⟨d0, d1⟩ := HBh8.out.cells
      go_wp2_with fail
      refine mR (wk_node hE 7 v2 _ _ HP8.out (qne HR8.out HN.out)) HR8 HN HK8 (fun _ _ h => ⟨rfl, h⟩) ?_
      rintro v9 s9 w9 HR9 HP9 hkk HK9
      have HBh9 := Hh (HBh8.out.kp hkk)
      clear hkk
      try clear d0 d1
      skip
      go_wp2_with fail
      exact ⟨rfl, .tuple #[], by simp [results, Tryz.results121, go_sem], q_ok (q_pure HR9.out) rfl HP9.out HK9.out⟩
     ·have HQ := Hh (q_iftK HR7.out)
      clear HR7
      have HR7 := Hh HQ.out
      clear HQ
      with_reducible replace HR7 := Hh (q_assoc HR7.out)
      go_wp2_with fail
      refine mQ ((IH.out g6 (by omega)).f_field  _ _ HP7.out (qne HR7.out HN.out)) HR7 HN HK7 (fun _ _ h => ⟨rfl, h⟩) ?_
      rintro v10 s10 y10 w10 HR10 rfl HP10 hkk HK10
      have HBh10 := Hh (HBh7.out.kp hkk)
      clear hkk
      go_wp2_with fail
      go_roundg g6
      case measure => omega
      case rel => exact ⟨_, by omega, HR10.out, HP10.out, HK10.out, HBh10.out⟩
  ·have HQ := Hh (q_ift HR4.out)
   clear HR4
   have HR4 := Hh HQ.out
   clear HQ
   go_wp2_with fail
   with_reducible replace HR4 := Hh (q_pb HR4.out)
   refine mR (wk_need hE [59] _ _ HP4.out) HR4 HN HK4 (fun _ _ h => ⟨rfl, h⟩) ?_
   rintro v11 s11 w11 HR11 HP11 hkk HK11
   have HBh11 := Hh (HBh4.out.kp hkk)
   clear hkk
   obtain ⟨d0, d1⟩ := HBh11.out.cells
   go_wp2_with fail
   refine mR (wk_node hE 7 v2 _ _ HP11.out (qne HR11.out HN.out)) HR11 HN HK11 (fun _ _ h => ⟨rfl, h⟩) ?_
   rintro v12 s12 w12 HR12 HP12 hkk HK12
   have HBh12 := Hh (HBh11.out.kp hkk)
   clear hkk
   try clear d0 d1
   skip
   go_wp2_with fail
   exact ⟨rfl, .tuple #[], by simp [results, Tryz.results121, go_sem], q_ok (q_pure HR12.out) rfl HP12.out HK12.out⟩
 ·have HQ := Hh (q_ift HR1.out)
  clear HR1
  have HR1 := Hh HQ.out
  clear HQ
  go_wp2_with fail
  have HT := Hh (show run E.L E.base n (.assert) _ = r from HR1.out)
  refine ((IH.out n (Nat.le_refl _)).f_assert  _ _ HP1.out (by rw [HT.out]; exact HN.out)).mono ?_
  intro e w13 he
  rw [HT.out] at he
  rcases qtail HN.out HK1.out he with ⟨v13, s13, y13, hr13, rfl, hy13, hp13, hk13⟩ | ⟨hr13, ⟨z, rfl⟩, hb13, hk13⟩
  case' inr => exact ⟨rfl, q_no hr13 hb13 hk13⟩
  obtain rfl := hy13
  have HT13 := Hh hr13
  have HP13 := Hh hp13
  have HK13 := Hh hk13
  clear he hr13 hp13 hk13 HT
  go_wp2_with fail
  exact ⟨rfl, .tuple #[], by simp [results, Tryz.results121, go_sem], q_ok HT13.out rfl HP13.out HK13.out⟩
theorem w_declaration {E : En} (hE : E.ok) {n : Nat} (ih : ∀ m, m ≤ n → Wk E m)  (s : Ps) (w : World) (hp : PW E w s) (hne : run E.L E.base (n + 1) (.declaration) s ≠ .out) : Calls Tryz.prog 128 #[.pointer (some ⟨E.pb, 0, none⟩)] w (EndQ E vaU w (run E.L E.base (n + 1) (.declaration) s)) := by
 obtain ⟨r, hr⟩ : ∃ r, run E.L E.base (n + 1) (.declaration) s = r := ⟨_, rfl⟩
 rw [hr] at hne ⊢
 rw [run] at hr
 have HN := Hh hne
 have HR0 := Hh hr
 have HP0 := Hh hp
 have HK0 := Hh (KP.refl w)
 have IH := Hh ih
 clear hne hr hp ih
 go_enter Tryz.func128, Tryz.ntmps128
 go_wp2_with fail
 refine mR (wk_word hE [95, 83, 116, 97, 116, 105, 99, 95, 97, 115, 115, 101, 114, 116] _ _ HP0.out) HR0 HN HK0 (fun _ _ h => ⟨rfl, h⟩) ?_
 rintro v1 s1 w1 HR1 HP1 - HK1
 obtain ⟨bb1, hbb1⟩ : ∃ bb, v1 = bb := ⟨_, rfl⟩
 rw [hbb1] at HR1 ⊢
 clear hbb1
 cases bb1
 ·have HQ := Hh (q_iff HR1.out)
  clear HR1
  have HR1 := Hh HQ.out
  clear HQ
  go_wp2_with fail
  refine mR (wk_here hE _ _ HP1.out) HR1 HN HK1 (fun _ _ h => ⟨rfl, h⟩) ?_
  rintro v2 s2 w2 HR2 HP2 - HK2
  have HBn := Hh (HdB.new w2 v2)
  have HPn := Hh (HP2.out.ext hE (below_alloc w2 (.cells #[.int .i64 v2.1, .int .i64 v2.2] 77)))
  have HKn := Hh (HK2.out.trans (KP.of_below (below_alloc w2 (.cells #[.int .i64 v2.1, .int .i64 v2.2] 77))))
  have HPo2 := Hh HP2.out
  have HKo2 := Hh HK2.out
  clear HP2 HK2
  have HP2 := Hh HPn.out
  have HK2 := Hh HKn.out
  clear HPn HKn
  simp only [hdV]
  obtain ⟨bh, hbh⟩ : ∃ b, w2.heap.size = b := ⟨_, rfl⟩
  have HBh2 := Hh (hbh ▸ HBn.out)
  clear HBn
  go_wp2_with fail
  try rw [hbh]
  refine mQ ((IH.out n (Nat.le_refl _)).f_specs true _ _ HP2.out (qne HR2.out HN.out)) HR2 HN HK2 (fun _ _ h => ⟨rfl, h⟩) ?_
  rintro v3 s3 y3 w3 HR3 rfl HP3 hkk HK3
  have HBh3 := Hh (HBh2.out.kp hkk)
  clear hkk
  go_wp2_with fail
  refine mR (wk_sign hE 0 [59] _ _ (by omega) HP3.out) HR3 HN HK3 (fun _ _ h => ⟨rfl, h⟩) ?_
  rintro v4 s4 w4 HR4 HP4 hkk HK4
  have HBh4 := Hh (HBh3.out.kp hkk)
  clear hkk
  obtain ⟨bb4, hbb4⟩ : ∃ bb, v4 = bb := ⟨_, rfl⟩
  rw [hbb4] at HR4 ⊢
  clear hbb4
  cases bb4
  ·have HQ := Hh (q_iff HR4.out)
   clear HR4
   have HR4 := Hh HQ.out
   clear HQ
   with_reducible replace HR4 := Hh (q_assoc HR4.out)
   go_wp2_with fail
   refine mQ ((IH.out n (Nat.le_refl _)).f_init v3.bool _ _ HP4.out (qne HR4.out HN.out)) HR4 HN HK4 (fun _ _ h => ⟨rfl, h⟩) ?_
   rintro v5 s5 y5 w5 HR5 rfl HP5 hkk HK5
   have HBh5 := Hh (HBh4.out.kp hkk)
   clear hkk
   go_wp2_with fail
   refine mQ ((IH.out n (Nat.le_refl _)).f_moreInits v3.bool _ _ HP5.out (qne HR5.out HN.out)) HR5 HN HK5 (fun _ _ h => ⟨rfl, h⟩) ?_
   rintro v6 s6 y6 w6 HR6 rfl HP6 hkk HK6
   have HBh6 := Hh (HBh5.out.kp hkk)
   clear hkk
   go_wp2_with fail
   refine mR (wk_need hE [59] _ _ HP6.out) HR6 HN HK6 (fun _ _ h => ⟨rfl, h⟩) ?_
   rintro v7 s7 w7 HR7 HP7 hkk HK7
   have HBh7 := Hh (HBh6.out.kp hkk)
   clear hkk
   obtain ⟨d0, d1⟩ := HBh7.out.cells
   go_wp2_with fail
   refine mR (wk_node hE 3 v2 _ _ HP7.out (qne HR7.out HN.out)) HR7 HN HK7 (fun _ _ h => ⟨rfl, h⟩) ?_
   rintro v8 s8 w8 HR8 HP8 hkk HK8
   have HBh8 := Hh (HBh7.out.kp hkk)
   clear hkk
   try clear d0 d1
   skip
   go_wp2_with fail
   exact ⟨rfl, .tuple #[], by simp [results, Tryz.results128, go_sem], q_ok (q_pure HR8.out) rfl HP8.out HK8.out⟩
  ·have HQ := Hh (q_ift HR4.out)
   clear HR4
   have HR4 := Hh HQ.out
   clear HQ
   go_wp2_with fail
   with_reducible replace HR4 := Hh (q_pb HR4.out)
   refine mR (wk_need hE [59] _ _ HP4.out) HR4 HN HK4 (fun _ _ h => ⟨rfl, h⟩) ?_
   rintro v9 s9 w9 HR9 HP9 hkk HK9
   have HBh9 := Hh (HBh4.out.kp hkk)
   clear hkk
   obtain ⟨d0, d1⟩ := HBh9.out.cells
   go_wp2_with fail
   refine mR (wk_node hE 3 v2 _ _ HP9.out (qne HR9.out HN.out)) HR9 HN HK9 (fun _ _ h => ⟨rfl, h⟩) ?_
   rintro v10 s10 w10 HR10 HP10 hkk HK10
   have HBh10 := Hh (HBh9.out.kp hkk)
   clear hkk
   try clear d0 d1
   skip
   go_wp2_with fail
   exact ⟨rfl, .tuple #[], by simp [results, Tryz.results128, go_sem], q_ok (q_pure HR10.out) rfl HP10.out HK10.out⟩
 ·have HQ := Hh (q_ift HR1.out)
  clear HR1
  have HR1 := Hh HQ.out
  clear HQ
  go_wp2_with fail
  have HT := Hh (show run E.L E.base n (.assert) _ = r from HR1.out)
  refine ((IH.out n (Nat.le_refl _)).f_assert  _ _ HP1.out (by rw [HT.out]; exact HN.out)).mono ?_
  intro e w11 he
  rw [HT.out] at he
  rcases qtail HN.out HK1.out he with ⟨v11, s11, y11, hr11, rfl, hy11, hp11, hk11⟩ | ⟨hr11, ⟨z, rfl⟩, hb11, hk11⟩
  case' inr => exact ⟨rfl, q_no hr11 hb11 hk11⟩
  obtain rfl := hy11
  have HT11 := Hh hr11
  have HP11 := Hh hp11
  have HK11 := Hh hk11
  clear he hr11 hp11 hk11 HT
  go_wp2_with fail
  exact ⟨rfl, .tuple #[], by simp [results, Tryz.results128, go_sem], q_ok HT11.out rfl HP11.out HK11.out⟩
end Go.Proofs.YtlboejdhmggjpaaGreat.Pp

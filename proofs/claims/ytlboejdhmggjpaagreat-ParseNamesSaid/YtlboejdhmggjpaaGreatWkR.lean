/- parse: item, atomic, until', moreInits, restOfInit, member, declaration. -/
import Derived.Test.YtlboejdhmggjpaaGreatWkP
set_option linter.all false
namespace Go.Proofs.YtlboejdhmggjpaaGreat.Pp
set_option maxRecDepth 100000
set_option maxHeartbeats 16000000
open Go.RowKit Go.BigFrame Go.Proofs.YtlboejdhmggjpaaGreat

theorem w_item {E : En} (hE : E.ok) {n : Nat} (ih : ∀ m, m ≤ n → Wk E m)  (s : Ps) (w : World) (hp : PW E w s) (hne : run E.L E.base (n + 1) (.item) s ≠ .out) : Calls Tryz.prog 162 #[.pointer (some ⟨E.pb, 0, none⟩)] w (EndQ E vaU w (run E.L E.base (n + 1) (.item) s)) := by
 obtain ⟨r, hr⟩ : ∃ r, run E.L E.base (n + 1) (.item) s = r := ⟨_, rfl⟩
 rw [hr] at hne ⊢
 rw [run] at hr
 have HN := Hh hne
 have HR0 := Hh hr
 have HP0 := Hh hp
 have HK0 := Hh (KP.refl w)
 have IH := Hh ih
 clear hne hr hp ih
 go_enter Tryz.func162, Tryz.ntmps162
 go_wp2_with fail
 refine mR (wk_here hE _ _ HP0.out) HR0 HN HK0 (fun _ _ h => ⟨rfl, h⟩) ?_
 rintro v1 s1 w1 HR1 HP1 - HK1
 have HBn := Hh (HdB.new w1 v1)
 have HPn := Hh (HP1.out.ext hE (below_alloc w1 (.cells #[.int .i64 v1.1, .int .i64 v1.2] 77)))
 have HKn := Hh (HK1.out.trans (KP.of_below (below_alloc w1 (.cells #[.int .i64 v1.1, .int .i64 v1.2] 77))))
 have HPo1 := Hh HP1.out
 have HKo1 := Hh HK1.out
 clear HP1 HK1
 have HP1 := Hh HPn.out
 have HK1 := Hh HKn.out
 clear HPn HKn
 simp only [hdV]
 obtain ⟨bh, hbh⟩ : ∃ b, w1.heap.size = b := ⟨_, rfl⟩
 have HBh1 := Hh (hbh ▸ HBn.out)
 clear HBn
 go_wp2_with fail
 try rw [hbh]
 refine mQ ((IH.out n (Nat.le_refl _)).f_desig  _ _ HP1.out (qne HR1.out HN.out)) HR1 HN HK1 (fun _ _ h => ⟨rfl, h⟩) ?_
 rintro v2 s2 y2 w2 HR2 rfl HP2 hkk HK2
 have HBh2 := Hh (HBh1.out.kp hkk)
 clear hkk
 obtain ⟨bb2, hbb2⟩ : ∃ bb, v2.bool = bb := ⟨_, rfl⟩
 rw [hbb2] at HR2 ⊢
 clear hbb2
 cases bb2
 ·have HQ := Hh (q_iff HR2.out)
  clear HR2
  have HR2 := Hh HQ.out
  clear HQ
  go_wp2_with fail
  with_reducible replace HR2 := Hh (q_pb HR2.out)
  refine mQ ((IH.out n (Nat.le_refl _)).f_initializer  _ _ HP2.out (qne HR2.out HN.out)) HR2 HN HK2 (fun _ _ h => ⟨rfl, h⟩) ?_
  rintro v3 s3 y3 w3 HR3 rfl HP3 hkk HK3
  have HBh3 := Hh (HBh2.out.kp hkk)
  clear hkk
  obtain ⟨d0, d1⟩ := HBh3.out.cells
  go_wp2_with fail
  refine mR (wk_node hE 20 v1 _ _ HP3.out (qne HR3.out HN.out)) HR3 HN HK3 (fun _ _ h => ⟨rfl, h⟩) ?_
  rintro v4 s4 w4 HR4 HP4 hkk HK4
  have HBh4 := Hh (HBh3.out.kp hkk)
  clear hkk
  try clear d0 d1
  skip
  go_wp2_with fail
  exact ⟨rfl, .tuple #[], by simp [results, Tryz.results162, go_sem], q_ok (q_pure HR4.out) rfl HP4.out HK4.out⟩
 ·have HQ := Hh (q_ift HR2.out)
  clear HR2
  have HR2 := Hh HQ.out
  clear HQ
  with_reducible replace HR2 := Hh (q_assoc HR2.out)
  go_wp2_with fail
  go_loopg [] n (fun k wr => ∃ s', k ≤ n ∧ (run E.L E.base k (.itemR) >>= fun _ => ((do need E.L [61]; pure Va.un) >>= fun _ => (do let _ ← run E.L E.base n .initializer; node E.L 20 v1; pure Va.un))) s' = r ∧ PW E wr s' ∧ KP w wr ∧ HdB wr bh v1)
  case atStart => exact ⟨_, Nat.le_refl _, HR2.out, HP2.out, HK2.out, HBh2.out⟩
  case round =>
   obtain ⟨s5, hgn5, hr5, hp5, hk5, hhh5⟩ := hrel
   cases gk with
   | zero => exact absurd (q_0 hr5) HN.out
   | succ g5 =>
    rw [run] at hr5
    have HR5 := Hh hr5
    have HP5 := Hh hp5
    have HK5 := Hh hk5
    have HBh5 := Hh hhh5
    clear hr5 hp5 hk5 hhh5
    with_reducible replace HR5 := Hh (q_assoc HR5.out)
    go_wp2_with fail
    refine mQ ((IH.out g5 (by omega)).f_desig  _ _ HP5.out (qne HR5.out HN.out)) HR5 HN HK5 (fun _ _ h => ⟨rfl, h⟩) ?_
    rintro v6 s6 y6 w6 HR6 rfl HP6 hkk HK6
    have HBh6 := Hh (HBh5.out.kp hkk)
    clear hkk
    obtain ⟨bb6, hbb6⟩ : ∃ bb, v6.bool = bb := ⟨_, rfl⟩
    rw [hbb6] at HR6 ⊢
    clear hbb6
    cases bb6
    ·have HQ := Hh (q_iffK HR6.out)
     clear HR6
     have HR6 := Hh HQ.out
     clear HQ
     with_reducible replace HR6 := Hh (q_assoc HR6.out)
     go_wp2_with fail
     refine mR (wk_need hE [61] _ _ HP6.out) HR6 HN HK6 (fun _ _ h => ⟨rfl, h⟩) ?_
     rintro v7 s7 w7 HR7 HP7 hkk HK7
     have HBh7 := Hh (HBh6.out.kp hkk)
     clear hkk
     go_wp2_with fail
     with_reducible replace HR7 := Hh (q_pb HR7.out)
     refine mQ ((IH.out n (Nat.le_refl _)).f_initializer  _ _ HP7.out (qne HR7.out HN.out)) HR7 HN HK7 (fun _ _ h => ⟨rfl, h⟩) ?_
     rintro v8 s8 y8 w8 HR8 rfl HP8 hkk HK8
     have HBh8 := Hh (HBh7.out.kp hkk)
     clear hkk
     obtain ⟨d0, d1⟩ := HBh8.out.cells
     go_wp2_with fail
     refine mR (wk_node hE 20 v1 _ _ HP8.out (qne HR8.out HN.out)) HR8 HN HK8 (fun _ _ h => ⟨rfl, h⟩) ?_
     rintro v9 s9 w9 HR9 HP9 hkk HK9
     have HBh9 := Hh (HBh8.out.kp hkk)
     clear hkk
     try clear d0 d1
     skip
     go_wp2_with fail
     exact ⟨rfl, .tuple #[], by simp [results, Tryz.results162, go_sem], q_ok (q_pure HR9.out) rfl HP9.out HK9.out⟩
    ·have HQ := Hh (q_iftK HR6.out)
     clear HR6
     have HR6 := Hh HQ.out
     clear HQ
     go_wp2_with fail
     go_roundg g5
     case measure => omega
     case rel => exact ⟨_, by omega, HR6.out, HP6.out, HK6.out, HBh6.out⟩
theorem w_atomic {E : En} (hE : E.ok) {n : Nat} (ih : ∀ m, m ≤ n → Wk E m)  (s : Ps) (w : World) (hp : PW E w s) (hne : run E.L E.base (n + 1) (.atomic) s ≠ .out) : Calls Tryz.prog 77 #[.pointer (some ⟨E.pb, 0, none⟩)] w (EndQ E vaU w (run E.L E.base (n + 1) (.atomic) s)) := by
 obtain ⟨r, hr⟩ : ∃ r, run E.L E.base (n + 1) (.atomic) s = r := ⟨_, rfl⟩
 rw [hr] at hne ⊢
 rw [run] at hr
 have HN := Hh hne
 have HR0 := Hh hr
 have HP0 := Hh hp
 have HK0 := Hh (KP.refl w)
 have IH := Hh ih
 clear hne hr hp ih
 go_enter Tryz.func77, Tryz.ntmps77
 go_wp2_with fail
 refine mR (wk_here hE _ _ HP0.out) HR0 HN HK0 (fun _ _ h => ⟨rfl, h⟩) ?_
 rintro v1 s1 w1 HR1 HP1 - HK1
 have HBn := Hh (HdB.new w1 v1)
 have HPn := Hh (HP1.out.ext hE (below_alloc w1 (.cells #[.int .i64 v1.1, .int .i64 v1.2] 77)))
 have HKn := Hh (HK1.out.trans (KP.of_below (below_alloc w1 (.cells #[.int .i64 v1.1, .int .i64 v1.2] 77))))
 have HPo1 := Hh HP1.out
 have HKo1 := Hh HK1.out
 clear HP1 HK1
 have HP1 := Hh HPn.out
 have HK1 := Hh HKn.out
 clear HPn HKn
 simp only [hdV]
 obtain ⟨bh, hbh⟩ : ∃ b, w1.heap.size = b := ⟨_, rfl⟩
 have HBh1 := Hh (hbh ▸ HBn.out)
 clear HBn
 obtain ⟨hle2, hr2⟩ := q_step HR1.out HN.out
 obtain ⟨c1, f1, -⟩ := HPo1.out.at
 have hpb := HPo1.out.lt
 rw [hbh] at hpb
 obtain ⟨q21, q22⟩ := HPo1.out.on hE hle2
 have hLn := hE.len
 obtain ⟨a2, hat2⟩ : ∃ a, Ps.at' s1 = a := ⟨_, rfl⟩
 rw [hat2] at c1 hle2 hr2 q21 q22
 have hi : a2 < 100000 := by omega
 obtain ⟨s2, hs2⟩ : ∃ t : Ps, (⟨a2 + 1, s1.done, s1.nm⟩ : Ps) = t := ⟨_, rfl⟩
 rw [hs2] at hr2 q21
 clear hs2
 have HR2 := Hh hr2
 have HP2 := Hh (q21.ext hE (below_alloc _ (.cells #[.int .i64 v1.1, .int .i64 v1.2] 77)))
 have hkx := KP.of_below (below_alloc (World.setCell w1 ⟨E.pb, 1, none⟩ (.int .i64 ((a2 + 1 : Nat) : Int))) (.cells #[.int .i64 v1.1, .int .i64 v1.2] 77))
 have HK2 := Hh (HKo1.out.trans (q22.trans hkx))
 have HBh2 := Hh (hbh ▸ HdB.new' w1 ⟨E.pb, 1, none⟩ (.int .i64 ((a2 + 1 : Nat) : Int)) v1)
 have HAT2 := Hh hat2
 clear q21 q22 hr2 hle2 hLn hat2 hkx
 go_wp2_with fail
 try rw [hbh]
 try clear c1 f1 hpb hi
 refine mQ ((IH.out n (Nat.le_refl _)).f_typeIn  _ _ HP2.out (qne HR2.out HN.out)) HR2 HN HK2 (fun _ _ h => ⟨rfl, h⟩) ?_
 rintro v3 s3 y3 w3 HR3 rfl HP3 hkk HK3
 have HBh3 := Hh (HBh2.out.kp hkk)
 clear hkk
 obtain ⟨d0, d1⟩ := HBh3.out.cells
 go_wp2_with fail
 refine mR (wk_node hE 12 v1 _ _ HP3.out (qne HR3.out HN.out)) HR3 HN HK3 (fun _ _ h => ⟨rfl, h⟩) ?_
 rintro v4 s4 w4 HR4 HP4 hkk HK4
 have HBh4 := Hh (HBh3.out.kp hkk)
 clear hkk
 try clear d0 d1
 skip
 go_wp2_with fail
 exact ⟨rfl, .tuple #[], by simp [results, Tryz.results77, go_sem], q_ok (q_pure HR4.out) rfl HP4.out HK4.out⟩
theorem w_until {E : En} (hE : E.ok) {n : Nat} (ih : ∀ m, m ≤ n → Wk E m) (x : Bs) (s : Ps) (w : World) (hp : PW E w s) (hne : run E.L E.base (n + 1) (.until' x) s ≠ .out) : Calls Tryz.prog 161 #[.pointer (some ⟨E.pb, 0, none⟩), .string (str x)] w (EndQ E vaU w (run E.L E.base (n + 1) (.until' x) s)) := by
 obtain ⟨r, hr⟩ : ∃ r, run E.L E.base (n + 1) (.until' x) s = r := ⟨_, rfl⟩
 rw [hr] at hne ⊢
 rw [run] at hr
 have HN := Hh hne
 have HR0 := Hh hr
 have HP0 := Hh hp
 have HK0 := Hh (KP.refl w)
 have IH := Hh ih
 clear hne hr hp ih
 go_enter Tryz.func161, Tryz.ntmps161
 go_wp2_with fail
 refine mR (wk_sign hE 0 x _ _ (by omega) HP0.out) HR0 HN HK0 (fun _ _ h => ⟨rfl, h⟩) ?_
 rintro v1 s1 w1 HR1 HP1 - HK1
 obtain ⟨bb1, hbb1⟩ : ∃ bb, v1 = bb := ⟨_, rfl⟩
 rw [hbb1] at HR1 ⊢
 clear hbb1
 cases bb1
 ·have HQ := Hh (q_iff HR1.out)
  clear HR1
  have HR1 := Hh HQ.out
  clear HQ
  go_wp2_with fail
  refine mQ ((IH.out n (Nat.le_refl _)).f_expr  _ _ HP1.out (qne HR1.out HN.out)) HR1 HN HK1 (fun _ _ h => ⟨rfl, h⟩) ?_
  rintro v2 s2 y2 w2 HR2 rfl HP2 - HK2
  go_wp2_with fail
  refine mR (wk_need hE x _ _ HP2.out) HR2 HN HK2 (fun _ _ h => ⟨rfl, h⟩) ?_
  rintro v3 s3 w3 HR3 HP3 - HK3
  go_wp2_with fail
  exact ⟨rfl, .tuple #[], by simp [results, Tryz.results161, go_sem], q_ok (q_pure HR3.out) rfl HP3.out HK3.out⟩
 ·have HQ := Hh (q_ift HR1.out)
  clear HR1
  have HR1 := Hh HQ.out
  clear HQ
  go_wp2_with fail
  with_reducible replace HR1 := Hh (q_pb HR1.out)
  refine mR (wk_need hE x _ _ HP1.out) HR1 HN HK1 (fun _ _ h => ⟨rfl, h⟩) ?_
  rintro v4 s4 w4 HR4 HP4 - HK4
  go_wp2_with fail
  exact ⟨rfl, .tuple #[], by simp [results, Tryz.results161, go_sem], q_ok (q_pure HR4.out) rfl HP4.out HK4.out⟩
theorem w_moreInits {E : En} (hE : E.ok) {n : Nat} (ih : ∀ m, m ≤ n → Wk E m) (t : Bool) (s : Ps) (w : World) (hp : PW E w s) (hne : run E.L E.base (n + 1) (.moreInits t) s ≠ .out) : Calls Tryz.prog 52 #[.pointer (some ⟨E.pb, 0, none⟩), .bool t] w (EndQ E vaU w (run E.L E.base (n + 1) (.moreInits t) s)) := by
 obtain ⟨r, hr⟩ : ∃ r, run E.L E.base (n + 1) (.moreInits t) s = r := ⟨_, rfl⟩
 rw [hr] at hne ⊢
 have HN := Hh hne
 have HR0 := Hh hr
 have HP0 := Hh hp
 have HK0 := Hh (KP.refl w)
 have IH := Hh ih
 clear hne hr hp ih
 go_enter Tryz.func52, Tryz.ntmps52
 go_wp2_with fail
 go_loopg [] (n + 1) (fun k wr => ∃ s', k ≤ (n + 1) ∧ run E.L E.base k (.moreInits t) s' = r ∧ PW E wr s' ∧ KP w wr)
 case atStart => exact ⟨_, Nat.le_refl _, HR0.out, HP0.out, HK0.out⟩
 case round =>
  obtain ⟨s1, hgn1, hr1, hp1, hk1⟩ := hrel
  cases gk with
  | zero => rw [run0] at hr1; exact absurd hr1.symm HN.out
  | succ g1 =>
   rw [run] at hr1
   have HR1 := Hh hr1
   have HP1 := Hh hp1
   have HK1 := Hh hk1
   clear hr1 hp1 hk1
   go_wp2_with fail
   refine mR (wk_took hE [44] _ _ HP1.out) HR1 HN HK1 (fun _ _ h => ⟨rfl, h⟩) ?_
   rintro v2 s2 w2 HR2 HP2 - HK2
   obtain ⟨bb2, hbb2⟩ : ∃ bb, v2 = bb := ⟨_, rfl⟩
   rw [hbb2] at HR2 ⊢
   clear hbb2
   cases bb2
   ·have HQ := Hh (q_iff HR2.out)
    clear HR2
    have HR2 := Hh HQ.out
    clear HQ
    go_wp2_with fail
    exact ⟨rfl, .tuple #[], by simp [results, Tryz.results52, go_sem], q_ok (q_pure HR2.out) rfl HP2.out HK2.out⟩
   ·have HQ := Hh (q_ift HR2.out)
    clear HR2
    have HR2 := Hh HQ.out
    clear HQ
    go_wp2_with fail
    refine mQ ((IH.out g1 (by omega)).f_init t _ _ HP2.out (qne HR2.out HN.out)) HR2 HN HK2 (fun _ _ h => ⟨rfl, h⟩) ?_
    rintro v3 s3 y3 w3 HR3 rfl HP3 - HK3
    go_wp2_with fail
    go_roundg g1
    case measure => omega
    case rel => exact ⟨_, by omega, HR3.out, HP3.out, HK3.out⟩
theorem w_restOfInit {E : En} (hE : E.ok) {n : Nat} (ih : ∀ m, m ≤ n → Wk E m) (h : Nat × Nat) (s : Ps) (w : World) (hp : PW E w s) (hne : run E.L E.base (n + 1) (.restOfInit h) s ≠ .out) : Calls Tryz.prog 51 #[.pointer (some ⟨E.pb, 0, none⟩), hdV h] w (EndQ E vaU w (run E.L E.base (n + 1) (.restOfInit h) s)) := by
 obtain ⟨r, hr⟩ : ∃ r, run E.L E.base (n + 1) (.restOfInit h) s = r := ⟨_, rfl⟩
 rw [hr] at hne ⊢
 rw [run] at hr
 have HN := Hh hne
 have HR0 := Hh hr
 have HP0 := Hh hp
 have HK0 := Hh (KP.refl w)
 have IH := Hh ih
 clear hne hr hp ih
 simp only [hdV]
 go_enter Tryz.func51, Tryz.ntmps51
 have HBarg0 := Hh (HdB.new w h)
 have HPn := Hh (HP0.out.ext hE (below_alloc w (.cells #[.int .i64 h.1, .int .i64 h.2] 77)))
 have HKn := Hh (KP.of_below (below_alloc w (.cells #[.int .i64 h.1, .int .i64 h.2] 77)))
 clear HP0 HK0
 have HP0 := Hh HPn.out
 have HK0 := Hh HKn.out
 clear HPn HKn
 go_wp2_with fail
 refine mR (wk_took hE [61] _ _ HP0.out) HR0 HN HK0 (fun _ _ h => ⟨rfl, h⟩) ?_
 rintro v1 s1 w1 HR1 HP1 hkk HK1
 have HBarg1 := Hh (HBarg0.out.kp hkk)
 clear hkk
 obtain ⟨bb1, hbb1⟩ : ∃ bb, v1 = bb := ⟨_, rfl⟩
 rw [hbb1] at HR1 ⊢
 clear hbb1
 cases bb1
 ·have HQ := Hh (q_iff HR1.out)
  clear HR1
  have HR1 := Hh HQ.out
  clear HQ
  obtain ⟨d0, d1⟩ := HBarg1.out.cells
  go_wp2_with fail
  with_reducible replace HR1 := Hh (q_pb HR1.out)
  refine mR (wk_node hE 13 h _ _ HP1.out (qne HR1.out HN.out)) HR1 HN HK1 (fun _ _ h => ⟨rfl, h⟩) ?_
  rintro v2 s2 w2 HR2 HP2 hkk HK2
  have HBarg2 := Hh (HBarg1.out.kp hkk)
  clear hkk
  try clear d0 d1
  skip
  go_wp2_with fail
  exact ⟨rfl, .tuple #[], by simp [results, Tryz.results51, go_sem], q_ok (q_pure HR2.out) rfl HP2.out HK2.out⟩
 ·have HQ := Hh (q_ift HR1.out)
  clear HR1
  have HR1 := Hh HQ.out
  clear HQ
  go_wp2_with fail
  refine mQ ((IH.out n (Nat.le_refl _)).f_initializer  _ _ HP1.out (qne HR1.out HN.out)) HR1 HN HK1 (fun _ _ h => ⟨rfl, h⟩) ?_
  rintro v3 s3 y3 w3 HR3 rfl HP3 hkk HK3
  have HBarg3 := Hh (HBarg1.out.kp hkk)
  clear hkk
  obtain ⟨d0, d1⟩ := HBarg3.out.cells
  go_wp2_with fail
  refine mR (wk_node hE 13 h _ _ HP3.out (qne HR3.out HN.out)) HR3 HN HK3 (fun _ _ h => ⟨rfl, h⟩) ?_
  rintro v4 s4 w4 HR4 HP4 hkk HK4
  have HBarg4 := Hh (HBarg3.out.kp hkk)
  clear hkk
  try clear d0 d1
  skip
  go_wp2_with fail
  exact ⟨rfl, .tuple #[], by simp [results, Tryz.results51, go_sem], q_ok (q_pure HR4.out) rfl HP4.out HK4.out⟩
theorem w_member {E : En} (hE : E.ok) {n : Nat} (ih : ∀ m, m ≤ n → Wk E m)  (s : Ps) (w : World) (hp : PW E w s) (hne : run E.L E.base (n + 1) (.member) s ≠ .out) : Calls Tryz.prog 121 #[.pointer (some ⟨E.pb, 0, none⟩)] w (EndQ E vaU w (run E.L E.base (n + 1) (.member) s)) := by
 obtain ⟨r, hr⟩ : ∃ r, run E.L E.base (n + 1) (.member) s = r := ⟨_, rfl⟩
 rw [hr] at hne ⊢
 rw [run] at hr
 have HN := Hh hne
 have HR0 := Hh hr
 have HP0 := Hh hp
 have HK0 := Hh (KP.refl w)
 have IH := Hh ih
 clear hne hr hp ih
 go_enter Tryz.func121, Tryz.ntmps121
 go_wp2_with fail
 refine mR (wk_word hE [95, 83, 116, 97, 116, 105, 99, 95, 97, 115, 115, 101, 114, 116] _ _ HP0.out) HR0 HN HK0 (fun _ _ h => ⟨rfl, h⟩) ?_
 rintro v1 s1 w1 HR1 HP1 - HK1
 obtain ⟨bb1, hbb1⟩ : ∃ bb, v1 = bb := ⟨_, rfl⟩
 rw [hbb1] at HR1 ⊢
 clear hbb1
 cases bb1
 ·have HQ := Hh (q_iff HR1.out)
  clear HR1
  have HR1 := Hh HQ.out
  clear HQ
  go_wp2_with fail
  refine mR (wk_here hE _ _ HP1.out) HR1 HN HK1 (fun _ _ h => ⟨rfl, h⟩) ?_
  rintro v2 s2 w2 HR2 HP2 - HK2
  have HBn := Hh (HdB.new w2 v2)
  have HPn := Hh (HP2.out.ext hE (below_alloc w2 (.cells #[.int .i64 v2.1, .int .i64 v2.2] 77)))
  have HKn := Hh (HK2.out.trans (KP.of_below (below_alloc w2 (.cells #[.int .i64 v2.1, .int .i64 v2.2] 77))))
  have HPo2 := Hh HP2.out
  have HKo2 := Hh HK2.out
  clear HP2 HK2
  have HP2 := Hh HPn.out
  have HK2 := Hh HKn.out
  clear HPn HKn
  simp only [hdV]
  obtain ⟨bh, hbh⟩ : ∃ b, w2.heap.size = b := ⟨_, rfl⟩
  have HBh2 := Hh (hbh ▸ HBn.out)
  clear HBn
  go_wp2_with fail
  try rw [hbh]
  refine mQ ((IH.out n (Nat.le_refl _)).f_specs false _ _ HP2.out (qne HR2.out HN.out)) HR2 HN HK2 (fun _ _ h => ⟨rfl, h⟩) ?_
  rintro v3 s3 y3 w3 HR3 rfl HP3 hkk HK3
  have HBh3 := Hh (HBh2.out.kp hkk)
  clear hkk
  go_wp2_with fail
  refine mR (wk_sign hE 0 [59] _ _ (by omega) HP3.out) HR3 HN HK3 (fun _ _ h => ⟨rfl, h⟩) ?_
  rintro v4 s4 w4 HR4 HP4 hkk HK4
  have HBh4 := Hh (HBh3.out.kp hkk)
  clear hkk
  obtain ⟨bb4, hbb4⟩ : ∃ bb, v4 = bb := ⟨_, rfl⟩
  rw [hbb4] at HR4 ⊢
  clear hbb4
  cases bb4
  ·have HQ := Hh (q_iff HR4.out)
   clear HR4
   have HR4 := Hh HQ.out
   clear HQ
   with_reducible replace HR4 := Hh (q_assoc HR4.out)
   go_wp2_with fail
   refine mQ ((IH.out n (Nat.le_refl _)).f_field  _ _ HP4.out (qne HR4.out HN.out)) HR4 HN HK4 (fun _ _ h => ⟨rfl, h⟩) ?_
   rintro v5 s5 y5 w5 HR5 rfl HP5 hkk HK5
   have HBh5 := Hh (HBh4.out.kp hkk)
   clear hkk
   go_wp2_with fail
   go_loopg [] n (fun k wr => ∃ s', k ≤ n ∧ (run E.L E.base k (.memberR) >>= fun _ => (do need E.L [59]; node E.L 7 v2; pure Va.un)) s' = r ∧ PW E wr s' ∧ KP w wr ∧ HdB wr bh v2)
   case atStart => exact ⟨_, Nat.le_refl _, HR5.out, HP5.out, HK5.out, HBh5.out⟩
   case round =>
    obtain ⟨s6, hgn6, hr6, hp6, hk6, hhh6⟩ := hrel
    cases gk with
    | zero => exact absurd (q_0 hr6) HN.out
    | succ g6 =>
     rw [run] at hr6
     have HR6 := Hh hr6
     have HP6 := Hh hp6
     have HK6 := Hh hk6
     have HBh6 := Hh hhh6
     clear hr6 hp6 hk6 hhh6
     with_reducible replace HR6 := Hh (q_assoc HR6.out)
     go_wp2_with fail
     refine mR (wk_took hE [44] _ _ HP6.out) HR6 HN HK6 (fun _ _ h => ⟨rfl, h⟩) ?_
     rintro v7 s7 w7 HR7 HP7 hkk HK7
     have HBh7 := Hh (HBh6.out.kp hkk)
     clear hkk
     obtain ⟨bb7, hbb7⟩ : ∃ bb, v7 = bb := ⟨_, rfl⟩
     rw [hbb7] at HR7 ⊢
     clear hbb7
     cases bb7
     ·have HQ := Hh (q_iffK HR7.out)
      clear HR7
      have HR7 := Hh HQ.out
      clear HQ
      go_wp2_with fail
      with_reducible replace HR7 := Hh (q_pb HR7.out)
      refine mR (wk_need hE [59] _ _ HP7.out) HR7 HN HK7 (fun _ _ h => ⟨rfl, h⟩) ?_
      rintro v8 s8 w8 HR8 HP8 hkk HK8
      have HBh8 := Hh (HBh7.out.kp hkk)
      clear hkk
      obtain ⟨d0, d1⟩ := HBh8.out.cells
      go_wp2_with fail
      refine mR (wk_node hE 7 v2 _ _ HP8.out (qne HR8.out HN.out)) HR8 HN HK8 (fun _ _ h => ⟨rfl, h⟩) ?_
      rintro v9 s9 w9 HR9 HP9 hkk HK9
      have HBh9 := Hh (HBh8.out.kp hkk)
      clear hkk
      try clear d0 d1
      skip
      go_wp2_with fail
      exact ⟨rfl, .tuple #[], by simp [results, Tryz.results121, go_sem], q_ok (q_pure HR9.out) rfl HP9.out HK9.out⟩
     ·have HQ := Hh (q_iftK HR7.out)
      clear HR7
      have HR7 := Hh HQ.out
      clear HQ
      with_reducible replace HR7 := Hh (q_assoc HR7.out)
      go_wp2_with fail
      refine mQ ((IH.out g6 (by omega)).f_field  _ _ HP7.out (qne HR7.out HN.out)) HR7 HN HK7 (fun _ _ h => ⟨rfl, h⟩) ?_
      rintro v10 s10 y10 w10 HR10 rfl HP10 hkk HK10
      have HBh10 := Hh (HBh7.out.kp hkk)
      clear hkk
      go_wp2_with fail
      go_roundg g6
      case measure => omega
      case rel => exact ⟨_, by omega, HR10.out, HP10.out, HK10.out, HBh10.out⟩
  ·have HQ := Hh (q_ift HR4.out)
   clear HR4
   have HR4 := Hh HQ.out
   clear HQ
   go_wp2_with fail
   with_reducible replace HR4 := Hh (q_pb HR4.out)
   refine mR (wk_need hE [59] _ _ HP4.out) HR4 HN HK4 (fun _ _ h => ⟨rfl, h⟩) ?_
   rintro v11 s11 w11 HR11 HP11 hkk HK11
   have HBh11 := Hh (HBh4.out.kp hkk)
   clear hkk
   obtain ⟨d0, d1⟩ := HBh11.out.cells
   go_wp2_with fail
   refine mR (wk_node hE 7 v2 _ _ HP11.out (qne HR11.out HN.out)) HR11 HN HK11 (fun _ _ h => ⟨rfl, h⟩) ?_
   rintro v12 s12 w12 HR12 HP12 hkk HK12
   have HBh12 := Hh (HBh11.out.kp hkk)
   clear hkk
   try clear d0 d1
   skip
   go_wp2_with fail
   exact ⟨rfl, .tuple #[], by simp [results, Tryz.results121, go_sem], q_ok (q_pure HR12.out) rfl HP12.out HK12.out⟩
 ·have HQ := Hh (q_ift HR1.out)
  clear HR1
  have HR1 := Hh HQ.out
  clear HQ
  go_wp2_with fail
  have HT := Hh (show run E.L E.base n (.assert) _ = r from HR1.out)
  refine ((IH.out n (Nat.le_refl _)).f_assert  _ _ HP1.out (by rw [HT.out]; exact HN.out)).mono ?_
  intro e w13 he
  rw [HT.out] at he
  rcases qtail HN.out HK1.out he with ⟨v13, s13, y13, hr13, rfl, hy13, hp13, hk13⟩ | ⟨hr13, ⟨z, rfl⟩, hb13, hk13⟩
  case' inr => exact ⟨rfl, q_no hr13 hb13 hk13⟩
  obtain rfl := hy13
  have HT13 := Hh hr13
  have HP13 := Hh hp13
  have HK13 := Hh hk13
  clear he hr13 hp13 hk13 HT
  go_wp2_with fail
  exact ⟨rfl, .tuple #[], by simp [results, Tryz.results121, go_sem], q_ok HT13.out rfl HP13.out HK13.out⟩
theorem w_declaration {E : En} (hE : E.ok) {n : Nat} (ih : ∀ m, m ≤ n → Wk E m)  (s : Ps) (w : World) (hp : PW E w s) (hne : run E.L E.base (n + 1) (.declaration) s ≠ .out) : Calls Tryz.prog 128 #[.pointer (some ⟨E.pb, 0, none⟩)] w (EndQ E vaU w (run E.L E.base (n + 1) (.declaration) s)) := by
 obtain ⟨r, hr⟩ : ∃ r, run E.L E.base (n + 1) (.declaration) s = r := ⟨_, rfl⟩
 rw [hr] at hne ⊢
 rw [run] at hr
 have HN := Hh hne
 have HR0 := Hh hr
 have HP0 := Hh hp
 have HK0 := Hh (KP.refl w)
 have IH := Hh ih
 clear hne hr hp ih
 go_enter Tryz.func128, Tryz.ntmps128
 go_wp2_with fail
 refine mR (wk_word hE [95, 83, 116, 97, 116, 105, 99, 95, 97, 115, 115, 101, 114, 116] _ _ HP0.out) HR0 HN HK0 (fun _ _ h => ⟨rfl, h⟩) ?_
 rintro v1 s1 w1 HR1 HP1 - HK1
 obtain ⟨bb1, hbb1⟩ : ∃ bb, v1 = bb := ⟨_, rfl⟩
 rw [hbb1] at HR1 ⊢
 clear hbb1
 cases bb1
 ·have HQ := Hh (q_iff HR1.out)
  clear HR1
  have HR1 := Hh HQ.out
  clear HQ
  go_wp2_with fail
  refine mR (wk_here hE _ _ HP1.out) HR1 HN HK1 (fun _ _ h => ⟨rfl, h⟩) ?_
  rintro v2 s2 w2 HR2 HP2 - HK2
  have HBn := Hh (HdB.new w2 v2)
  have HPn := Hh (HP2.out.ext hE (below_alloc w2 (.cells #[.int .i64 v2.1, .int .i64 v2.2] 77)))
  have HKn := Hh (HK2.out.trans (KP.of_below (below_alloc w2 (.cells #[.int .i64 v2.1, .int .i64 v2.2] 77))))
  have HPo2 := Hh HP2.out
  have HKo2 := Hh HK2.out
  clear HP2 HK2
  have HP2 := Hh HPn.out
  have HK2 := Hh HKn.out
  clear HPn HKn
  simp only [hdV]
  obtain ⟨bh, hbh⟩ : ∃ b, w2.heap.size = b := ⟨_, rfl⟩
  have HBh2 := Hh (hbh ▸ HBn.out)
  clear HBn
  go_wp2_with fail
  try rw [hbh]
  refine mQ ((IH.out n (Nat.le_refl _)).f_specs true _ _ HP2.out (qne HR2.out HN.out)) HR2 HN HK2 (fun _ _ h => ⟨rfl, h⟩) ?_
  rintro v3 s3 y3 w3 HR3 rfl HP3 hkk HK3
  have HBh3 := Hh (HBh2.out.kp hkk)
  clear hkk
  go_wp2_with fail
  refine mR (wk_sign hE 0 [59] _ _ (by omega) HP3.out) HR3 HN HK3 (fun _ _ h => ⟨rfl, h⟩) ?_
  rintro v4 s4 w4 HR4 HP4 hkk HK4
  have HBh4 := Hh (HBh3.out.kp hkk)
  clear hkk
  obtain ⟨bb4, hbb4⟩ : ∃ bb, v4 = bb := ⟨_, rfl⟩
  rw [hbb4] at HR4 ⊢
  clear hbb4
  cases bb4
  focus
   have HQ := Hh (q_iff HR4.out)
   clear HR4
   have HR4 := Hh HQ.out
   clear HQ
   with_reducible replace HR4 := Hh (q_assoc HR4.out)
   go_wp2_with fail
   refine mQ ((IH.out n (Nat.le_refl _)).f_init v3.bool _ _ HP4.out (qne HR4.out HN.out)) HR4 HN HK4 (fun _ _ h => ⟨rfl, h⟩) ?_
   rintro v5 s5 y5 w5 HR5 rfl HP5 hkk HK5
   have HBh5 := Hh (HBh4.out.kp hkk)
   clear hkk
   go_wp2_with fail
   refine mQ ((IH.out n (Nat.le_refl _)).f_moreInits v3.bool _ _ HP5.out (qne HR5.out HN.out)) HR5 HN HK5 (fun _ _ h => ⟨rfl, h⟩) ?_
   rintro v6 s6 y6 w6 HR6 rfl HP6 hkk HK6
   have HBh6 := Hh (HBh5.out.kp hkk)
   clear hkk
   go_wp2_with fail
   refine ?S1a
  rotate_left 1
  focus
   have HQ := Hh (q_ift HR4.out)
   clear HR4
   have HR4 := Hh HQ.out
   clear HQ
   go_wp2_with fail
   with_reducible replace HR4 := Hh (q_pb HR4.out)
   have HP6 := HP4
   have HR6 := HR4
   have HK6 := HK4
   have HBh6 := HBh4
   refine ?S1b
  case S1a | S1b =>
   refine mR (wk_need hE [59] _ _ HP6.out) HR6 HN HK6 (fun _ _ h => ⟨rfl, h⟩) ?_
   rintro v7 s7 w7 HR7 HP7 hkk HK7
   have HBh7 := Hh (HBh6.out.kp hkk)
   clear hkk
   obtain ⟨d0, d1⟩ := HBh7.out.cells
   go_wp2_with fail
   refine mR (wk_node hE 3 v2 _ _ HP7.out (qne HR7.out HN.out)) HR7 HN HK7 (fun _ _ h => ⟨rfl, h⟩) ?_
   rintro v8 s8 w8 HR8 HP8 hkk HK8
   have HBh8 := Hh (HBh7.out.kp hkk)
   clear hkk
   try clear d0 d1
   skip
   go_wp2_with fail
   exact ⟨rfl, .tuple #[], by simp [results, Tryz.results128, go_sem], q_ok (q_pure HR8.out) rfl HP8.out HK8.out⟩
 ·have HQ := Hh (q_ift HR1.out)
  clear HR1
  have HR1 := Hh HQ.out
  clear HQ
  go_wp2_with fail
  have HT := Hh (show run E.L E.base n (.assert) _ = r from HR1.out)
  refine ((IH.out n (Nat.le_refl _)).f_assert  _ _ HP1.out (by rw [HT.out]; exact HN.out)).mono ?_
  intro e w11 he
  rw [HT.out] at he
  rcases qtail HN.out HK1.out he with ⟨v11, s11, y11, hr11, rfl, hy11, hp11, hk11⟩ | ⟨hr11, ⟨z, rfl⟩, hb11, hk11⟩
  case' inr => exact ⟨rfl, q_no hr11 hb11 hk11⟩
  obtain rfl := hy11
  have HT11 := Hh hr11
  have HP11 := Hh hp11
  have HK11 := Hh hk11
  clear he hr11 hp11 hk11 HT
  go_wp2_with fail
  exact ⟨rfl, .tuple #[], by simp [results, Tryz.results128, go_sem], q_ok HT11.out rfl HP11.out HK11.out⟩
end Go.Proofs.YtlboejdhmggjpaaGreat.Pp

/- WkR -/
namespace Go.Proofs.YtlboejdhmggjpaaGreat.Pp
set_option maxRecDepth 100000
set_option maxHeartbeats 16000000
open Go.RowKit Go.BigFrame Go.Proofs.YtlboejdhmggjpaaGreat

theorem wk_strings {E : En} (hE : E.ok) (s : Ps) (w : World) (h : PW E w s) : Calls Tryz.prog 73 #[.pointer (some ⟨E.pb, 0, none⟩)] w (EndR E unV w (strings E.L s)) := by
  have hF : ∀ (z : Int) (x : ByteArray) (W : World), (Instr.field 54 (.agg #[.int .i64 z, .string x]) 0).run Tryz.prog W = .ok (.int .i64 z) W := fun z x W => by kernel_rfl
  obtain ⟨T, hT⟩ : ∃ T, peekS E.L s 0 = T := ⟨_, rfl⟩
  have pk := wk_peek hE 0 s w (by omega) h
  rw [hT] at pk
  unfold ctV at pk
  obtain ⟨F, hFF⟩ : ∃ F, strsF E.L (E.L.length - s.at' + 1) s = F := ⟨_, rfl⟩
  have hr : strings E.L s = if T.c = 6 then .ok () { s with at' := F } else .no := by unfold strings; rw [hT, hFF]
  rw [hr]
  have PK := Hh pk
  have H := Hh h
  have HFF := Hh hFF
  have HL := Hh hE.len
  have hle := h.at.2.2
  have HLE := Hh hle
  clear pk h hr hT hFF hle
  by_cases hc : T.c = 6
  · rw [if_pos hc]
    go_enter Tryz.func73, Tryz.ntmps73
    go_wp2_with fail
    refine PK.out.mono ?_
    rintro e w1 ⟨rfl, hb1⟩
    have HP1 := Hh (H.out.ext hE hb1)
    have HK1 := Hh (KP.of_below hb1)
    clear hb1
    go_wp2_with fail
    go_loopg [] (E.L.length - s.at' + 1) (fun k wr => ∃ i, E.L.length + 1 ≤ i + k ∧ strsF E.L k { s with at' := i } = F ∧ PW E wr { s with at' := i } ∧ KP w wr)
    case atStart => exact ⟨s.at', by have := HLE.out; omega, HFF.out, HP1.out, HK1.out⟩
    case round =>
      obtain ⟨i, hik, hst, hp2, hk2⟩ := hrel
      have hil := hp2.at.2.2
      cases gk with
      | zero => exfalso; simp only at hil; omega
      | succ g =>
        obtain ⟨U, hU⟩ : ∃ U, peekS E.L { s with at' := i } 0 = U := ⟨_, rfl⟩
        have pk := wk_peek hE 0 { s with at' := i } wr (by omega) hp2
        rw [hU] at pk
        unfold ctV at pk
        have hlt : U.c = 6 → i + 0 < E.L.length := fun e => peek_lt (l := E.L) (s := { s with at' := i }) (k := 0) (by rw [hU, e]; decide)
        unfold strsF at hst
        rw [hU] at hst
        have PK2 := Hh pk
        have HP2 := Hh hp2
        have HK2 := Hh hk2
        have HIK := Hh hik
        clear pk hp2 hk2 hU hik hil
        by_cases hd : U.c = 6
        · rw [if_pos hd] at hst
          have HST := Hh hst
          have HLT := Hh (hlt hd)
          have hi : i < 100000 := by have := hlt hd; have := HL.out; omega
          clear hst hlt
          go_wp2_with fail
          refine PK2.out.mono ?_
          rintro e w3 ⟨rfl, hb3⟩
          have hp3 := HP2.out.ext hE hb3
          obtain ⟨c1, f1, -⟩ := hp3.at
          simp only at c1
          have HP3 := Hh hp3
          have HK3 := Hh (HK2.out.trans (KP.of_below hb3))
          clear hb3 hp3
          go_wp2_with fail
          obtain ⟨q1, q2⟩ := HP3.out.on hE (n := i + 1) (by have := HLT.out; omega)
          have Q1 := Hh q1
          have Q2 := Hh q2
          clear q1 q2
          go_roundg g
          case measure => omega
          case rel => exact ⟨i + 1, by have := HIK.out; omega, HST.out, Q1.out, HK3.out.trans Q2.out⟩
        · rw [if_neg hd] at hst
          have hd' : ((U.c : Int) == 6) = false := by rw [beq_eq_false_iff_ne]; omega
          have HST := Hh hst
          clear hst hlt
          go_wp2_with fail
          refine PK2.out.mono ?_
          rintro e w3 ⟨rfl, hb3⟩
          have HB3 := Hh hb3
          clear hb3
          go_wp2_with fail
          have hst : i = F := HST.out
          refine ⟨rfl, .tuple #[], by simp [results, Tryz.results73, go_sem], ?_⟩
          rw [← hst]
          exact ⟨rfl, HP2.out.ext hE HB3.out, HK2.out.trans (KP.of_below HB3.out)⟩
  · rw [if_neg hc]
    have hc' : ((T.c : Int) != 6) = true := by rw [bne_iff_ne]; omega
    go_enter Tryz.func73, Tryz.ntmps73
    go_wp2_with fail
    refine PK.out.mono ?_
    rintro e w1 ⟨rfl, hb1⟩
    have HB := Hh hb1
    clear hb1
    go_wp2_with fail
    refine (wk_fail hE unV s _ (H.out.ext hE HB.out)).mono ?_
    rintro e w2 ⟨⟨n, rfl⟩, hb, hk2⟩
    exact ⟨rfl, ⟨_, rfl⟩, hb, (KP.of_below HB.out).trans hk2⟩
theorem wk_quals {E : En} (hE : E.ok) (s : Ps) (w : World) (h : PW E w s) : Calls Tryz.prog 82 #[.pointer (some ⟨E.pb, 0, none⟩)] w (EndR E .bool w (quals E.L s)) := by
  obtain ⟨F, hFF⟩ : ∃ F, qualsF E.L (E.L.length - s.at' + 1) s = F := ⟨_, rfl⟩
  have hr : quals E.L s = .ok (decide (s.at' < F)) { s with at' := F } := by unfold quals; rw [hFF]
  rw [hr]
  obtain ⟨c1, f1, hle⟩ := h.at
  have hlt := h.lt
  obtain ⟨a, ha⟩ : ∃ a, s.at' = a := ⟨_, rfl⟩
  rw [ha] at c1 hle hFF ⊢
  have H := Hh h
  have HFF := Hh hFF
  have HL := Hh hE.len
  have HLE := Hh hle
  have HA := Hh ha
  clear h hr hFF hle ha
  go_enter Tryz.func82, Tryz.ntmps82
  go_wp2_with fail
  go_step3
  go_wp2_with fail
  go_step3
  go_wp2_with fail
  go_loopg [] (E.L.length - a + 1) (fun k wr => ∃ i, E.L.length + 1 ≤ i + k ∧ qualsF E.L k { s with at' := i } = F ∧ PW E wr { s with at' := i } ∧ KP w wr)
  case atStart => exact ⟨a, by have := HLE.out; omega, by have q := HFF.out; have e : s = { s with at' := a } := by rw [← HA.out]; 
                                                          rw [← e]; exact q, by have q := H.out; have e : s = { s with at' := a } := by rw [← HA.out]; 
                                                                                rw [← e]; exact q, KP.refl _⟩
  case round =>
    clear c1 f1
    obtain ⟨i, hik, hst, hp2, hk2⟩ := hrel
    have hil := hp2.at.2.2
    cases gk with
    | zero => exfalso; simp only at hil; omega
    | succ g =>
      obtain ⟨U, hU⟩ : ∃ U, peekS E.L { s with at' := i } 0 = U := ⟨_, rfl⟩
      obtain ⟨B, hB⟩ : ∃ B, signS E.L { s with at' := i } 1 [40] = B := ⟨_, rfl⟩
      obtain ⟨q, hq⟩ : ∃ q, spec U.t = q := ⟨_, rfl⟩
      have pk := wk_peek hE 0 { s with at' := i } wr (by omega) hp2
      rw [hU] at pk
      unfold ctV at pk
      have hlt2 : U.c = 1 → i + 0 < E.L.length := fun e => peek_lt (l := E.L) (s := { s with at' := i }) (k := 0) (by rw [hU, e]; decide)
      unfold qualsF at hst
      rw [hU, hB, hq] at hst
      have SP := Hh (fun W : World => (hq ▸ wk_spec U.t W : Calls Tryz.prog 75 #[.string (str U.t)] W fun e w' => e = .returned (.int .i64 q) ∧ w' = W))
      have SG := Hh (fun (W : World) (hW : PW E W { s with at' := i }) => (hB ▸ wk_sign hE 1 [40] { s with at' := i } W (by omega) hW : Calls Tryz.prog 47 #[.pointer (some ⟨E.pb, 0, none⟩), .int .i64 1, .string (str [40])] W (EndR E .bool W (.ok B { s with at' := i }))))
      have PK2 := Hh pk
      have HP2 := Hh hp2
      have HK2 := Hh hk2
      have HIK := Hh hik
      clear pk hp2 hk2 hU hik hil hB hq
      have key : (U.c = 1 ∧ q = 3 ∧ qualsF E.L g { s with at' := i + 1 } = F) ∨ (U.c = 1 ∧ ((q : Int) == 3) = false ∧ q = 4 ∧ B = false ∧ qualsF E.L g { s with at' := i + 1 } = F) ∨ (U.c = 1 ∧ ((q : Int) == 3) = false ∧ q = 4 ∧ B = true ∧ i = F) ∨ (U.c = 1 ∧ ((q : Int) == 3) = false ∧ ((q : Int) == 4) = false ∧ i = F) ∨ (((U.c : Int) != 1) = true ∧ i = F) := by
        by_cases h1 : U.c = 1
        · by_cases h3 : q = 3
          · rw [if_pos ⟨h1, .inl h3⟩] at hst; exact .inl ⟨h1, h3, hst⟩
          · have h3' : ((q : Int) == 3) = false := by rw [beq_eq_false_iff_ne]; omega
            by_cases h4 : q = 4
            · cases B
              · rw [if_pos ⟨h1, .inr ⟨h4, rfl⟩⟩] at hst; exact .inr (.inl ⟨h1, h3', h4, rfl, hst⟩)
              · rw [if_neg (fun e => e.2.elim h3 (fun x => by cases x.2))] at hst; exact .inr (.inr (.inl ⟨h1, h3', h4, rfl, hst⟩))
            · rw [if_neg (fun e => e.2.elim h3 (fun x => h4 x.1))] at hst; exact .inr (.inr (.inr (.inl ⟨h1, h3', by rw [beq_eq_false_iff_ne]; omega, hst⟩)))
        · rw [if_neg (fun e => h1 e.1)] at hst; exact .inr (.inr (.inr (.inr ⟨by rw [bne_iff_ne]; omega, hst⟩)))
      clear hst
      have HLT2 := Hh hlt2
      clear hlt2
      rcases key with ⟨UC, QV, qf⟩ | ⟨UC, QN, QV, rfl, qf⟩ | ⟨UC, QN, QV, rfl, qf⟩ | ⟨UC, QN, QN2, qf⟩ | ⟨UC, qf⟩
      · have QF := Hh qf
        clear qf
        go_wp2_with fail
        refine PK2.out.mono ?_
        rintro e w3 ⟨rfl, hb3⟩
        have HB3 := Hh hb3
        clear hb3
        go_wp2_with fail
        refine (SP.out _).mono ?_
        rintro e w4 ⟨rfl, rfl⟩
        have hb4 : Below wr.heap.size wr (w3.alloc (.cells #[.int .i64 1, .string (str U.t)] 54)) := HB3.out.trans ((below_alloc _ _).mono HB3.out.size)
        have HP4 := Hh (HP2.out.ext hE hb4)
        have HK4 := Hh (HK2.out.trans (KP.of_below hb4))
        clear hb4
        have hi : i < 100000 := by have := HLT2.out UC; have := HL.out; omega
        obtain ⟨c1, f1, -⟩ := (HP2.out.ext hE HB3.out).at
        have hpb := (HP2.out.ext hE HB3.out).lt
        simp only at c1
        go_wp2_with fail
        obtain ⟨q1, q2⟩ := (HP2.out.ext hE HB3.out).on hE (n := i + 1) (by have := HLT2.out UC; omega)
        have Q1 := Hh q1
        have Q2 := Hh q2
        clear q1 q2
        go_roundg g
        case measure => omega
        case rel => exact ⟨i + 1, by have := HIK.out; omega, QF.out, Q1.out.ext hE (below_alloc _ _), ((HK2.out.trans (KP.of_below HB3.out)).trans Q2.out).trans (KP.of_below (below_alloc _ _))⟩
      · have QF := Hh qf
        clear qf
        go_wp2_with fail
        refine PK2.out.mono ?_
        rintro e w3 ⟨rfl, hb3⟩
        have HB3 := Hh hb3
        clear hb3
        go_wp2_with fail
        refine (SP.out _).mono ?_
        rintro e w4 ⟨rfl, rfl⟩
        have hb4 : Below wr.heap.size wr (w3.alloc (.cells #[.int .i64 1, .string (str U.t)] 54)) := HB3.out.trans ((below_alloc _ _).mono HB3.out.size)
        have HP4 := Hh (HP2.out.ext hE hb4)
        have HK4 := Hh (HK2.out.trans (KP.of_below hb4))
        clear hb4
        go_wp2_with fail
        refine (SG.out _ HP4.out).mono ?_
        rintro e w5 ⟨rfl, hp5, hk5⟩
        have hi : i < 100000 := by have := HLT2.out UC; have := HL.out; omega
        obtain ⟨c1, f1, -⟩ := hp5.at
        have hpb := hp5.lt
        simp only at c1
        obtain ⟨q1, q2⟩ := hp5.on hE (n := i + 1) (by have := HLT2.out UC; omega)
        have Q1 := Hh q1
        have Q2 := Hh (hk5.trans q2)
        clear q1 q2 hp5 hk5
        go_wp2_with fail
        go_roundg g
        case measure => omega
        case rel => exact ⟨i + 1, by have := HIK.out; omega, QF.out, Q1.out, HK4.out.trans Q2.out⟩
      · have QF := Hh qf
        clear qf
        go_wp2_with fail
        refine PK2.out.mono ?_
        rintro e w3 ⟨rfl, hb3⟩
        have HB3 := Hh hb3
        clear hb3
        go_wp2_with fail
        refine (SP.out _).mono ?_
        rintro e w4 ⟨rfl, rfl⟩
        have hb4 : Below wr.heap.size wr (w3.alloc (.cells #[.int .i64 1, .string (str U.t)] 54)) := HB3.out.trans ((below_alloc _ _).mono HB3.out.size)
        have HP4 := Hh (HP2.out.ext hE hb4)
        have HK4 := Hh (HK2.out.trans (KP.of_below hb4))
        clear hb4
        go_wp2_with fail
        refine (SG.out _ HP4.out).mono ?_
        rintro e w5 ⟨rfl, hp5, hk5⟩
        have HP5 := Hh hp5
        have HK5 := Hh (HK4.out.trans hk5)
        clear hp5 hk5
        obtain ⟨c1, f1, -⟩ := (HP5.out).at
        have hpb := (HP5.out).lt
        simp only at c1
        go_wp2_with fail
        try rw [Exit.noGoto_ret]
        refine ⟨rfl, .bool (decide (a < i)), by simp [results, Tryz.results82, go_sem], ?_⟩
        rw [← QF.out]
        exact ⟨rfl, HP5.out, HK5.out⟩
      · have QF := Hh qf
        clear qf
        go_wp2_with fail
        refine PK2.out.mono ?_
        rintro e w3 ⟨rfl, hb3⟩
        have HB3 := Hh hb3
        clear hb3
        go_wp2_with fail
        refine (SP.out _).mono ?_
        rintro e w4 ⟨rfl, rfl⟩
        have hb4 : Below wr.heap.size wr (w3.alloc (.cells #[.int .i64 1, .string (str U.t)] 54)) := HB3.out.trans ((below_alloc _ _).mono HB3.out.size)
        have HP4 := Hh (HP2.out.ext hE hb4)
        have HK4 := Hh (HK2.out.trans (KP.of_below hb4))
        clear hb4
        obtain ⟨c1, f1, -⟩ := (HP4.out).at
        have hpb := (HP4.out).lt
        simp only at c1
        go_wp2_with fail
        try rw [Exit.noGoto_ret]
        refine ⟨rfl, .bool (decide (a < i)), by simp [results, Tryz.results82, go_sem], ?_⟩
        rw [← QF.out]
        exact ⟨rfl, HP4.out, HK4.out⟩
      · have QF := Hh qf
        clear qf
        go_wp2_with fail
        refine PK2.out.mono ?_
        rintro e w3 ⟨rfl, hb3⟩
        have HB3 := Hh hb3
        clear hb3
        have hb4 : Below wr.heap.size wr (w3.alloc (.cells #[.int .i64 U.c, .string (str U.t)] 54)) := HB3.out.trans ((below_alloc _ _).mono HB3.out.size)
        have HP4 := Hh (HP2.out.ext hE hb4)
        have HK4 := Hh (HK2.out.trans (KP.of_below hb4))
        clear hb4
        obtain ⟨c1, f1, -⟩ := (HP4.out).at
        have hpb := (HP4.out).lt
        simp only at c1
        go_wp2_with fail
        try rw [Exit.noGoto_ret]
        refine ⟨rfl, .bool (decide (a < i)), by simp [results, Tryz.results82, go_sem], ?_⟩
        rw [← QF.out]
        exact ⟨rfl, HP4.out, HK4.out⟩
end Go.Proofs.YtlboejdhmggjpaaGreat.Pp

/- parse: init, param, external. -/
import Derived.Test.YtlboejdhmggjpaaGreatWmC
set_option linter.all false
namespace Go.Proofs.YtlboejdhmggjpaaGreat.Pp
set_option maxRecDepth 100000
set_option maxHeartbeats 16000000
open Go.RowKit Go.BigFrame Go.Proofs.YtlboejdhmggjpaaGreat

theorem FmB.alloc {w : World} {f : Fm} {y : Value} {nb : Bool} (hn : f.named = nb) (hd : DcV w y f.params) (hl : f.name.length ≤ maxLen) : FmB (w.alloc (.cells #[.bool nb, .string (str f.name), .int .i64 f.near, y] 106)) w.heap.size f y := by
 subst hn
 exact ⟨new_cells _ _ _, hd.kp (KP.of_below (below_alloc _ _)), hl⟩
theorem w_init {E : En} (hE : E.ok) {n : Nat} (ih : ∀ m, m ≤ n → Wk E m) (t : Bool) (s : Ps) (w : World) (hp : PW E w s) (hne : run E.L E.base (n + 1) (.init t) s ≠ .out) : Calls Tryz.prog 90 #[.pointer (some ⟨E.pb, 0, none⟩), .bool t] w (EndQ E vaU w (run E.L E.base (n + 1) (.init t) s)) := by
 obtain ⟨r, hr⟩ : ∃ r, run E.L E.base (n + 1) (.init t) s = r := ⟨_, rfl⟩
 rw [hr] at hne ⊢
 rw [run] at hr
 have HN := Hh hne
 have HR0 := Hh hr
 have HP0 := Hh hp
 have HK0 := Hh (KP.refl w)
 have IH := Hh ih
 clear hne hr hp ih
 go_enter Tryz.func90, Tryz.ntmps90
 go_wp2_with fail
 refine mR (wk_here hE _ _ HP0.out) HR0 HN HK0 (fun _ _ h => ⟨rfl, h⟩) ?_
 rintro v1 s1 w1 HR1 HP1 - HK1
 try dsimp only at HR1
 have hq := HR1.out
 try (with_reducible replace hq := q_assoc hq)
 clear HR1
 have HR1 := Hh hq
 clear hq
 have HBn := Hh (HdB.new w1 v1)
 have HPn := Hh (HP1.out.ext hE (below_alloc w1 (.cells #[.int .i64 v1.1, .int .i64 v1.2] 77)))
 have HKn := Hh (HK1.out.trans (KP.of_below (below_alloc w1 (.cells #[.int .i64 v1.1, .int .i64 v1.2] 77))))
 have HPo1 := Hh HP1.out
 have HKo1 := Hh HK1.out
 clear HP1 HK1
 have HP1 := Hh HPn.out
 have HK1 := Hh HKn.out
 clear HPn HKn
 simp only [hdV]
 obtain ⟨bh, hbh⟩ : ∃ b, w1.heap.size = b := ⟨_, rfl⟩
 have HBh1 := Hh (hbh ▸ HBn.out)
 clear HBn
 go_wp2_with fail
 try rw [hbh]
 refine formed (x := run E.L E.base n (.declarator 0)) ((IH.out n (Nat.le_refl _)).f_declarator 0 _ _ HP1.out (qne HR1.out HN.out)) HR1.out HN.out HK1.out ?_ ?_
 case' refine_2 => intro z w2 hr2 hb2 hk2; exact ⟨rfl, q_no hr2 hb2 hk2⟩
 intro v2 s2 ya2 yc2 w2 hr2 hp2 hkk hk2 hdc2 hnl2
 try dsimp only at hr2
 have HR2 := Hh hr2
 have HP2 := Hh hp2
 have HK2 := Hh hk2
 have HDC := Hh hdc2
 have HNL := Hh hnl2
 have HBh2 := Hh (HBh1.out.kp hkk)
 clear hr2 hp2 hkk hk2 hdc2 hnl2
 have hq := HR2.out
 try (with_reducible replace hq := q_assoc hq)
 clear HR2
 have HR2 := Hh hq
 clear hq
 obtain ⟨d0, d1⟩ := HBh2.out.cells
 have hbl1 := HBh2.out.lt
 go_wp2_with fail
 try clear d0 d1 hbl1
 obtain ⟨bf, hbf⟩ : ∃ b, w2.heap.size = b := ⟨_, rfl⟩
 try rw [hbf]
 have hfn := FmB.alloc (f := v2.form) rfl HDC.out HNL.out
 rw [hbf] at hfn
 obtain ⟨W3, hW3⟩ : ∃ W, W = w2.alloc (.cells #[.bool v2.form.named, .string (str v2.form.name), .int .i64 v2.form.near, .slice ya2 v2.form.params.length yc2] 106) := ⟨_, rfl⟩
 have hb2 := below_alloc w2 (.cells #[.bool v2.form.named, .string (str v2.form.name), .int .i64 v2.form.near, .slice ya2 v2.form.params.length yc2] 106)
 rw [← hW3] at hb2 hfn
 have HP3 := Hh (HP2.out.ext hE hb2)
 have HK3 := Hh (HK2.out.trans (KP.of_below hb2))
 have HBf3 := Hh hfn
 have HBh3 := Hh (HBh2.out.kp (KP.of_below hb2))
 try rw [← hW3]
 clear hW3 hb2 hfn
 have HR3 := Hh HR2.out
 have g1 : ∀ u : Ext W3, u.w.cell? ⟨bf, 1, none⟩ = some (.string (str v2.form.name)) := fun u => u.cell HBf3.out.cells.2.1
 refine wp_region_tail (C := fun w' => ∃ u : Ext W3, w' = u.w) 7 (by kernel_rfl) (by kernel_rfl) (Ext.drew W3) ?_
 simp only [List.take_succ_cons, List.take_zero, List.drop_succ_cons, List.drop_zero]
 repeat (go_big_quiet_step (fail))
 refine wpQuiet_nil ?_
 rintro w' ⟨u, rfl⟩
 obtain ⟨w4, hw⟩ : ∃ w', w' = u.w := ⟨_, rfl⟩
 have hbe := u.below
 rw [← hw] at hbe ⊢
 have HP4 := Hh (HP3.out.ext hE hbe)
 have HK4 := Hh (HK3.out.trans (KP.of_below hbe))
 have HBh4 := Hh (HBh3.out.kp (KP.of_below hbe))
 have HBf4 := Hh (HBf3.out.kp (KP.of_below hbe))
 clear hw hbe g1
 clear u
 have HR4 := Hh HR3.out
 go_wp2_with fail
 refine mR (wk_declare hE v2.form.name t _ _ HBf4.out.2.2 HP4.out (qne HR4.out HN.out)) HR4 HN HK4 (fun _ _ h => ⟨rfl, h⟩) ?_
 rintro v5 s5 w5 HR5 HP5 hkk HK5
 try dsimp only at HR5
 have HBh5 := Hh (HBh4.out.kp hkk)
 have HBf5 := Hh (HBf4.out.kp hkk)
 clear hkk
 have hq := HR5.out
 try (with_reducible replace hq := q_assoc hq)
 clear HR5
 have HR5 := Hh hq
 clear hq
 obtain ⟨d0, d1⟩ := HBh5.out.cells
 go_wp2_with fail
 have HT := Hh (show run E.L E.base n (.restOfInit v1) _ = r from HR5.out)
 refine ((IH.out n (Nat.le_refl _)).f_restOfInit v1 _ _ HP5.out (by rw [HT.out]; exact HN.out)).mono ?_
 intro e w6 he
 rw [HT.out] at he
 rcases qtail HN.out HK5.out he with ⟨v6, s6, y6, hr6, rfl, hy6, hp6, hk6⟩ | ⟨hr6, ⟨z, rfl⟩, hb6, hk6⟩
 case' inr => exact ⟨rfl, q_no hr6 hb6 hk6⟩
 obtain rfl := hy6
 have HT6 := Hh hr6
 have HP6 := Hh hp6
 have HK6 := Hh hk6
 clear he hr6 hp6 hk6 HT
 go_wp2_with fail
 exact ⟨rfl, .tuple #[], by simp [results, Tryz.results90, go_sem], q_ok HT6.out rfl HP6.out HK6.out⟩
theorem w_param {E : En} (hE : E.ok) {n : Nat} (ih : ∀ m, m ≤ n → Wk E m)  (s : Ps) (w : World) (hp : PW E w s) (hne : run E.L E.base (n + 1) (.param) s ≠ .out) : Calls Tryz.prog 159 #[.pointer (some ⟨E.pb, 0, none⟩)] w (EndQ E vaU w (run E.L E.base (n + 1) (.param) s)) := by
 obtain ⟨r, hr⟩ : ∃ r, run E.L E.base (n + 1) (.param) s = r := ⟨_, rfl⟩
 rw [hr] at hne ⊢
 rw [run] at hr
 have HN := Hh hne
 have HR0 := Hh hr
 have HP0 := Hh hp
 have HK0 := Hh (KP.refl w)
 have IH := Hh ih
 clear hne hr hp ih
 go_enter Tryz.func159, Tryz.ntmps159
 go_wp2_with fail
 refine mR (wk_here hE _ _ HP0.out) HR0 HN HK0 (fun _ _ h => ⟨rfl, h⟩) ?_
 rintro v1 s1 w1 HR1 HP1 - HK1
 try dsimp only at HR1
 have hq := HR1.out
 try (with_reducible replace hq := q_assoc hq)
 clear HR1
 have HR1 := Hh hq
 clear hq
 have HBn := Hh (HdB.new w1 v1)
 have HPn := Hh (HP1.out.ext hE (below_alloc w1 (.cells #[.int .i64 v1.1, .int .i64 v1.2] 77)))
 have HKn := Hh (HK1.out.trans (KP.of_below (below_alloc w1 (.cells #[.int .i64 v1.1, .int .i64 v1.2] 77))))
 have HPo1 := Hh HP1.out
 have HKo1 := Hh HK1.out
 clear HP1 HK1
 have HP1 := Hh HPn.out
 have HK1 := Hh HKn.out
 clear HPn HKn
 simp only [hdV]
 obtain ⟨bh, hbh⟩ : ∃ b, w1.heap.size = b := ⟨_, rfl⟩
 have HBh1 := Hh (hbh ▸ HBn.out)
 clear HBn
 go_wp2_with fail
 try rw [hbh]
 refine mQ ((IH.out n (Nat.le_refl _)).f_specs true _ _ HP1.out (qne HR1.out HN.out)) HR1 HN HK1 (fun _ _ h => ⟨rfl, h⟩) ?_
 rintro v2 s2 y2 w2 HR2 rfl HP2 hkk HK2
 try dsimp only at HR2
 have HBh2 := Hh (HBh1.out.kp hkk)
 clear hkk
 have hq := HR2.out
 try (with_reducible replace hq := q_assoc hq)
 clear HR2
 have HR2 := Hh hq
 clear hq
 go_wp2_with fail
 refine mR (wk_sign hE 0 [44] _ _ (by omega) HP2.out) HR2 HN HK2 (fun _ _ h => ⟨rfl, h⟩) ?_
 rintro v3 s3 w3 HR3 HP3 hkk HK3
 try dsimp only at HR3
 have HBh3 := Hh (HBh2.out.kp hkk)
 clear hkk
 have hq := HR3.out
 try (with_reducible replace hq := q_assoc hq)
 clear HR3
 have HR3 := Hh hq
 clear hq
 obtain ⟨bb3, hbb3⟩ : ∃ bb, v3 = bb := ⟨_, rfl⟩
 rw [hbb3] at HR3 ⊢
 clear hbb3
 cases bb3
 focus
  have hq := HR3.out
  try simp only [Bool.false_or] at hq
  try (with_reducible replace hq := q_assoc hq)
  clear HR3
  have HR3 := Hh hq
  clear hq
  go_wp2_with fail
  refine mR (wk_sign hE 0 [41] _ _ (by omega) HP3.out) HR3 HN HK3 (fun _ _ h => ⟨rfl, h⟩) ?_
  rintro v4 s4 w4 HR4 HP4 hkk HK4
  try dsimp only at HR4
  have HBh4 := Hh (HBh3.out.kp hkk)
  clear hkk
  have hq := HR4.out
  try (with_reducible replace hq := q_assoc hq)
  clear HR4
  have HR4 := Hh hq
  clear hq
  obtain ⟨bb4, hbb4⟩ : ∃ bb, v4 = bb := ⟨_, rfl⟩
  rw [hbb4] at HR4 ⊢
  clear hbb4
  cases bb4
  ·have hq := HR4.out
   try simp only [Bool.false_or] at hq
   first | replace hq := q_iffK hq | replace hq := q_iff hq | skip
   try (with_reducible replace hq := q_assoc hq)
   clear HR4
   have HR4 := Hh hq
   clear hq
   go_wp2_with fail
   refine formed (x := run E.L E.base n (.declarator 1)) ((IH.out n (Nat.le_refl _)).f_declarator 1 _ _ HP4.out (qne HR4.out HN.out)) HR4.out HN.out HK4.out ?_ ?_
   case' refine_2 => intro z w5 hr5 hb5 hk5; exact ⟨rfl, q_no hr5 hb5 hk5⟩
   intro v5 s5 ya5 yc5 w5 hr5 hp5 hkk hk5 hdc5 hnl5
   try dsimp only at hr5
   have HR5 := Hh hr5
   have HP5 := Hh hp5
   have HK5 := Hh hk5
   have HDC := Hh hdc5
   have HNL := Hh hnl5
   have HBh5 := Hh (HBh4.out.kp hkk)
   clear hr5 hp5 hkk hk5 hdc5 hnl5
   have hq := HR5.out
   try (with_reducible replace hq := q_assoc hq)
   clear HR5
   have HR5 := Hh hq
   clear hq
   obtain ⟨nb, hnb⟩ : ∃ b, v5.form.named = b := ⟨_, rfl⟩
   cases nb
   focus
    have HNB := Hh hnb
    rw [hnb]
    clear hnb
    obtain ⟨d0, d1⟩ := HBh5.out.cells
    have hbl1 := HBh5.out.lt
    go_wp2_with fail
    try clear d0 d1 hbl1
    obtain ⟨bf, hbf⟩ : ∃ b, w5.heap.size = b := ⟨_, rfl⟩
    try rw [hbf]
    have hfn := FmB.alloc (f := v5.form) HNB.out HDC.out HNL.out
    rw [hbf] at hfn
    obtain ⟨W6, hW6⟩ : ∃ W, W = w5.alloc (.cells #[.bool false, .string (str v5.form.name), .int .i64 v5.form.near, .slice ya5 v5.form.params.length yc5] 106) := ⟨_, rfl⟩
    have hb2 := below_alloc w5 (.cells #[.bool false, .string (str v5.form.name), .int .i64 v5.form.near, .slice ya5 v5.form.params.length yc5] 106)
    rw [← hW6] at hb2 hfn
    have HP6 := Hh (HP5.out.ext hE hb2)
    have HK6 := Hh (HK5.out.trans (KP.of_below hb2))
    have HBf6 := Hh hfn
    have HBh6 := Hh (HBh5.out.kp (KP.of_below hb2))
    try rw [← hW6]
    clear hW6 hb2 hfn
    have HR6 := Hh HR5.out
    have hq := HR6.out
    first | replace hq := q_negK hq (by simp [HNB.out]) | replace hq := q_neg hq (by simp [HNB.out])
    try (with_reducible replace hq := q_assoc hq)
    clear HR6
    have HR6 := Hh hq
    clear hq
    have hq := HR6.out
    try (with_reducible replace hq := q_pb hq)
    try dsimp only at hq
    try (with_reducible replace hq := q_assoc hq)
    clear HR6
    have HR6 := Hh hq
    clear hq
    refine ?S3a
   rotate_left 1
   focus
    have HNB := Hh hnb
    rw [hnb]
    clear hnb
    obtain ⟨d0, d1⟩ := HBh5.out.cells
    have hbl1 := HBh5.out.lt
    go_wp2_with fail
    try clear d0 d1 hbl1
    obtain ⟨bf, hbf⟩ : ∃ b, w5.heap.size = b := ⟨_, rfl⟩
    try rw [hbf]
    have hfn := FmB.alloc (f := v5.form) HNB.out HDC.out HNL.out
    rw [hbf] at hfn
    obtain ⟨W8, hW8⟩ : ∃ W, W = w5.alloc (.cells #[.bool true, .string (str v5.form.name), .int .i64 v5.form.near, .slice ya5 v5.form.params.length yc5] 106) := ⟨_, rfl⟩
    have hb2 := below_alloc w5 (.cells #[.bool true, .string (str v5.form.name), .int .i64 v5.form.near, .slice ya5 v5.form.params.length yc5] 106)
    rw [← hW8] at hb2 hfn
    have HP8 := Hh (HP5.out.ext hE hb2)
    have HK8 := Hh (HK5.out.trans (KP.of_below hb2))
    have HBf8 := Hh hfn
    have HBh8 := Hh (HBh5.out.kp (KP.of_below hb2))
    try rw [← hW8]
    clear hW8 hb2 hfn
    have HR8 := Hh HR5.out
    have hq := HR8.out
    first | replace hq := q_posK hq (by simp [HNB.out]) | replace hq := q_pos hq (by simp [HNB.out])
    try (with_reducible replace hq := q_assoc hq)
    clear HR8
    have HR8 := Hh hq
    clear hq
    have g1 : ∀ u : Ext W8, u.w.cell? ⟨bf, 1, none⟩ = some (.string (str v5.form.name)) := fun u => u.cell HBf8.out.cells.2.1
    refine wp_region_tail (C := fun w' => ∃ u : Ext W8, w' = u.w) 7 (by kernel_rfl) (by kernel_rfl) (Ext.drew W8) ?_
    simp only [List.take_succ_cons, List.take_zero, List.drop_succ_cons, List.drop_zero]
    repeat (go_big_quiet_step (fail))
    refine wpQuiet_nil ?_
    rintro w' ⟨u, rfl⟩
    obtain ⟨w9, hw⟩ : ∃ w', w' = u.w := ⟨_, rfl⟩
    have hbe := u.below
    rw [← hw] at hbe ⊢
    have HP9 := Hh (HP8.out.ext hE hbe)
    have HK9 := Hh (HK8.out.trans (KP.of_below hbe))
    have HBh9 := Hh (HBh8.out.kp (KP.of_below hbe))
    have HBf9 := Hh (HBf8.out.kp (KP.of_below hbe))
    clear hw hbe g1
    clear u
    have HR9 := Hh HR8.out
    go_wp2_with fail
    refine mR (wk_declare hE v5.form.name v2.bool _ _ HBf9.out.2.2 HP9.out (qne HR9.out HN.out)) HR9 HN HK9 (fun _ _ h => ⟨rfl, h⟩) ?_
    rintro v10 s10 w10 HR10 HP10 hkk HK10
    try dsimp only at HR10
    have HBh10 := Hh (HBh9.out.kp hkk)
    have HBf10 := Hh (HBf9.out.kp hkk)
    clear hkk
    have hq := HR10.out
    try (with_reducible replace hq := q_assoc hq)
    clear HR10
    have HR10 := Hh hq
    clear hq
    obtain ⟨d0, d1⟩ := HBh10.out.cells
    go_wp2_with fail
    have HR6 := HR10
    have HP6 := HP10
    have HK6 := HK10
    have HBh6 := HBh10
    have HBf6 := HBf10
    refine ?S3b
   case S3a | S3b =>
    have hq := HR6.out
    try (with_reducible replace hq := q_pb hq)
    try dsimp only at hq
    try (with_reducible replace hq := q_assoc hq)
    clear HR6
    have HR6 := Hh hq
    clear hq
    refine mR (wk_node hE 17 v1 _ _ HP6.out (qne HR6.out HN.out)) HR6 HN HK6 (fun _ _ h => ⟨rfl, h⟩) ?_
    rintro v7 s7 w7 HR7 HP7 hkk HK7
    try dsimp only at HR7
    have HBh7 := Hh (HBh6.out.kp hkk)
    have HBf7 := Hh (HBf6.out.kp hkk)
    clear hkk
    have hq := HR7.out
    try (with_reducible replace hq := q_assoc hq)
    clear HR7
    have HR7 := Hh hq
    clear hq
    try clear d0 d1
    skip
    go_wp2_with fail
    exact ⟨rfl, .tuple #[], by simp [results, Tryz.results159, go_sem], q_ok (q_pure HR7.out) rfl HP7.out HK7.out⟩
  focus
   have hq := HR4.out
   refine ?S2a
 rotate_left 1
 focus
  have hq := HR3.out
  try (with_reducible replace hq := q_assoc hq)
  replace hq := qone (x := sign E.L 0 [41]) hq rfl
  try dsimp only at hq
  have HR4 := HR3
  have HBh4 := HBh3
  have HP4 := HP3
  have HK4 := HK3
  refine ?S2b
 case S2a | S2b =>
  try simp only [Bool.true_or, Bool.or_true] at hq
  first | replace hq := q_iftK hq | replace hq := q_ift hq | skip
  try (with_reducible replace hq := q_assoc hq)
  clear HR4
  have HR4 := Hh hq
  clear hq
  obtain ⟨d0, d1⟩ := HBh4.out.cells
  go_wp2_with fail
  have hq := HR4.out
  try (with_reducible replace hq := q_pb hq)
  try dsimp only at hq
  try (with_reducible replace hq := q_assoc hq)
  clear HR4
  have HR4 := Hh hq
  clear hq
  refine mR (wk_node hE 17 v1 _ _ HP4.out (qne HR4.out HN.out)) HR4 HN HK4 (fun _ _ h => ⟨rfl, h⟩) ?_
  rintro v12 s12 w12 HR12 HP12 hkk HK12
  try dsimp only at HR12
  have HBh12 := Hh (HBh4.out.kp hkk)
  clear hkk
  have hq := HR12.out
  try (with_reducible replace hq := q_assoc hq)
  clear HR12
  have HR12 := Hh hq
  clear hq
  try clear d0 d1
  skip
  go_wp2_with fail
  exact ⟨rfl, .tuple #[], by simp [results, Tryz.results159, go_sem], q_ok (q_pure HR12.out) rfl HP12.out HK12.out⟩
theorem w_external {E : En} (hE : E.ok) {n : Nat} (ih : ∀ m, m ≤ n → Wk E m)  (s : Ps) (w : World) (hp : PW E w s) (hne : run E.L E.base (n + 1) (.external) s ≠ .out) : Calls Tryz.prog 33 #[.pointer (some ⟨E.pb, 0, none⟩)] w (EndQ E vaU w (run E.L E.base (n + 1) (.external) s)) := by
 obtain ⟨r, hr⟩ : ∃ r, run E.L E.base (n + 1) (.external) s = r := ⟨_, rfl⟩
 rw [hr] at hne ⊢
 rw [run] at hr
 have HN := Hh hne
 have HR0 := Hh hr
 have HP0 := Hh hp
 have HK0 := Hh (KP.refl w)
 have IH := Hh ih
 clear hne hr hp ih
 go_enter Tryz.func33, Tryz.ntmps33
 go_wp2_with fail
 refine mR (wk_word hE [95, 83, 116, 97, 116, 105, 99, 95, 97, 115, 115, 101, 114, 116] _ _ HP0.out) HR0 HN HK0 (fun _ _ h => ⟨rfl, h⟩) ?_
 rintro v1 s1 w1 HR1 HP1 - HK1
 try dsimp only at HR1
 have hq := HR1.out
 try (with_reducible replace hq := q_assoc hq)
 clear HR1
 have HR1 := Hh hq
 clear hq
 obtain ⟨bb1, hbb1⟩ : ∃ bb, v1 = bb := ⟨_, rfl⟩
 rw [hbb1] at HR1 ⊢
 clear hbb1
 cases bb1
 ·have hq := HR1.out
  first | replace hq := q_iffK hq | replace hq := q_iff hq
  try (with_reducible replace hq := q_assoc hq)
  clear HR1
  have HR1 := Hh hq
  clear hq
  go_wp2_with fail
  refine mR (wk_here hE _ _ HP1.out) HR1 HN HK1 (fun _ _ h => ⟨rfl, h⟩) ?_
  rintro v2 s2 w2 HR2 HP2 - HK2
  try dsimp only at HR2
  have hq := HR2.out
  try (with_reducible replace hq := q_assoc hq)
  clear HR2
  have HR2 := Hh hq
  clear hq
  have HBn := Hh (HdB.new w2 v2)
  have HPn := Hh (HP2.out.ext hE (below_alloc w2 (.cells #[.int .i64 v2.1, .int .i64 v2.2] 77)))
  have HKn := Hh (HK2.out.trans (KP.of_below (below_alloc w2 (.cells #[.int .i64 v2.1, .int .i64 v2.2] 77))))
  have HPo2 := Hh HP2.out
  have HKo2 := Hh HK2.out
  clear HP2 HK2
  have HP2 := Hh HPn.out
  have HK2 := Hh HKn.out
  clear HPn HKn
  simp only [hdV]
  obtain ⟨bh, hbh⟩ : ∃ b, w2.heap.size = b := ⟨_, rfl⟩
  have HBh2 := Hh (hbh ▸ HBn.out)
  clear HBn
  go_wp2_with fail
  try rw [hbh]
  refine mQ ((IH.out n (Nat.le_refl _)).f_specs true _ _ HP2.out (qne HR2.out HN.out)) HR2 HN HK2 (fun _ _ h => ⟨rfl, h⟩) ?_
  rintro v3 s3 y3 w3 HR3 rfl HP3 hkk HK3
  try dsimp only at HR3
  have HBh3 := Hh (HBh2.out.kp hkk)
  clear hkk
  have hq := HR3.out
  try (with_reducible replace hq := q_assoc hq)
  clear HR3
  have HR3 := Hh hq
  clear hq
  go_wp2_with fail
  refine mR (wk_sign hE 0 [59] _ _ (by omega) HP3.out) HR3 HN HK3 (fun _ _ h => ⟨rfl, h⟩) ?_
  rintro v4 s4 w4 HR4 HP4 hkk HK4
  try dsimp only at HR4
  have HBh4 := Hh (HBh3.out.kp hkk)
  clear hkk
  have hq := HR4.out
  try (with_reducible replace hq := q_assoc hq)
  clear HR4
  have HR4 := Hh hq
  clear hq
  obtain ⟨bb4, hbb4⟩ : ∃ bb, v4 = bb := ⟨_, rfl⟩
  rw [hbb4] at HR4 ⊢
  clear hbb4
  cases bb4
  ·have hq := HR4.out
   first | replace hq := q_iffK hq | replace hq := q_iff hq
   try (with_reducible replace hq := q_assoc hq)
   clear HR4
   have HR4 := Hh hq
   clear hq
   go_wp2_with fail
   refine mR (wk_here hE _ _ HP4.out) HR4 HN HK4 (fun _ _ h => ⟨rfl, h⟩) ?_
   rintro v5 s5 w5 HR5 HP5 hkk HK5
   try dsimp only at HR5
   have HBh5 := Hh (HBh4.out.kp hkk)
   clear hkk
   have hq := HR5.out
   try (with_reducible replace hq := q_assoc hq)
   clear HR5
   have HR5 := Hh hq
   clear hq
   have HBn := Hh (HdB.new w5 v5)
   have HPn := Hh (HP5.out.ext hE (below_alloc w5 (.cells #[.int .i64 v5.1, .int .i64 v5.2] 77)))
   have HKn := Hh (HK5.out.trans (KP.of_below (below_alloc w5 (.cells #[.int .i64 v5.1, .int .i64 v5.2] 77))))
   have HBoh5 := Hh HBh5.out
   have HXh := Hh (HBh5.out.kp (KP.of_below (below_alloc w5 (.cells #[.int .i64 v5.1, .int .i64 v5.2] 77))))
   clear HBh5
   have HBh5 := Hh HXh.out
   clear HXh
   have HPo5 := Hh HP5.out
   have HKo5 := Hh HK5.out
   clear HP5 HK5
   have HP5 := Hh HPn.out
   have HK5 := Hh HKn.out
   clear HPn HKn
   simp only [hdV]
   obtain ⟨bg, hbg⟩ : ∃ b, w5.heap.size = b := ⟨_, rfl⟩
   have HBg5 := Hh (hbg ▸ HBn.out)
   clear HBn
   go_wp2_with fail
   try rw [hbg]
   refine formed (x := run E.L E.base n (.declarator 0)) ((IH.out n (Nat.le_refl _)).f_declarator 0 _ _ HP5.out (qne HR5.out HN.out)) HR5.out HN.out HK5.out ?_ ?_
   case' refine_2 => intro z w6 hr6 hb6 hk6; exact ⟨rfl, q_no hr6 hb6 hk6⟩
   intro v6 s6 ya6 yc6 w6 hr6 hp6 hkk hk6 hdc6 hnl6
   try dsimp only at hr6
   have HR6 := Hh hr6
   have HP6 := Hh hp6
   have HK6 := Hh hk6
   have HDC := Hh hdc6
   have HNL := Hh hnl6
   have HBh6 := Hh (HBh5.out.kp hkk)
   have HBg6 := Hh (HBg5.out.kp hkk)
   clear hr6 hp6 hkk hk6 hdc6 hnl6
   have hq := HR6.out
   try (with_reducible replace hq := q_assoc hq)
   clear HR6
   have HR6 := Hh hq
   clear hq
   obtain ⟨d0, d1⟩ := HBh6.out.cells
   have hbl1 := HBh6.out.lt
   go_wp2_with fail
   try clear d0 d1 hbl1
   obtain ⟨bf, hbf⟩ : ∃ b, w6.heap.size = b := ⟨_, rfl⟩
   try rw [hbf]
   have hfn := FmB.alloc (f := v6.form) rfl HDC.out HNL.out
   rw [hbf] at hfn
   obtain ⟨W7, hW7⟩ : ∃ W, W = w6.alloc (.cells #[.bool v6.form.named, .string (str v6.form.name), .int .i64 v6.form.near, .slice ya6 v6.form.params.length yc6] 106) := ⟨_, rfl⟩
   have hb2 := below_alloc w6 (.cells #[.bool v6.form.named, .string (str v6.form.name), .int .i64 v6.form.near, .slice ya6 v6.form.params.length yc6] 106)
   rw [← hW7] at hb2 hfn
   have HP7 := Hh (HP6.out.ext hE hb2)
   have HK7 := Hh (HK6.out.trans (KP.of_below hb2))
   have HBf7 := Hh hfn
   have HBh7 := Hh (HBh6.out.kp (KP.of_below hb2))
   have HBg7 := Hh (HBg6.out.kp (KP.of_below hb2))
   try rw [← hW7]
   clear hW7 hb2 hfn
   have HR7 := Hh HR6.out
   have g1 : ∀ u : Ext W7, u.w.cell? ⟨bf, 1, none⟩ = some (.string (str v6.form.name)) := fun u => u.cell HBf7.out.cells.2.1
   refine wp_region_tail (C := fun w' => ∃ u : Ext W7, w' = u.w) 7 (by kernel_rfl) (by kernel_rfl) (Ext.drew W7) ?_
   simp only [List.take_succ_cons, List.take_zero, List.drop_succ_cons, List.drop_zero]
   repeat (go_big_quiet_step (fail))
   refine wpQuiet_nil ?_
   rintro w' ⟨u, rfl⟩
   obtain ⟨w8, hw⟩ : ∃ w', w' = u.w := ⟨_, rfl⟩
   have hbe := u.below
   rw [← hw] at hbe ⊢
   have HP8 := Hh (HP7.out.ext hE hbe)
   have HK8 := Hh (HK7.out.trans (KP.of_below hbe))
   have HBh8 := Hh (HBh7.out.kp (KP.of_below hbe))
   have HBg8 := Hh (HBg7.out.kp (KP.of_below hbe))
   have HBf8 := Hh (HBf7.out.kp (KP.of_below hbe))
   clear hw hbe g1
   clear u
   have HR8 := Hh HR7.out
   go_wp2_with fail
   refine mR (wk_declare hE v6.form.name v3.bool _ _ HBf8.out.2.2 HP8.out (qne HR8.out HN.out)) HR8 HN HK8 (fun _ _ h => ⟨rfl, h⟩) ?_
   rintro v9 s9 w9 HR9 HP9 hkk HK9
   try dsimp only at HR9
   have HBh9 := Hh (HBh8.out.kp hkk)
   have HBg9 := Hh (HBg8.out.kp hkk)
   have HBf9 := Hh (HBf8.out.kp hkk)
   clear hkk
   have hq := HR9.out
   try (with_reducible replace hq := q_assoc hq)
   clear HR9
   have HR9 := Hh hq
   clear hq
   obtain ⟨zn, hzn⟩ : ∃ z : Int, (v6.form.near : Int) = z := ⟨_, rfl⟩
   have HZN := Hh hzn
   clear hzn
   go_wp2_with fail
   refine mR (wk_sign hE 0 [123] _ _ (by omega) HP9.out) HR9 HN HK9 (fun _ _ h => ⟨rfl, h⟩) ?_
   rintro v10 s10 w10 HR10 HP10 hkk HK10
   try dsimp only at HR10
   have HBh10 := Hh (HBh9.out.kp hkk)
   have HBg10 := Hh (HBg9.out.kp hkk)
   have HBf10 := Hh (HBf9.out.kp hkk)
   clear hkk
   have hq := HR10.out
   try (with_reducible replace hq := q_assoc hq)
   clear HR10
   have HR10 := Hh hq
   clear hq
   obtain ⟨bb10, hbb10⟩ : ∃ bb, v10 = bb := ⟨_, rfl⟩
   rw [hbb10] at HR10 ⊢
   clear hbb10
   cases bb10
   focus
    have hq := HR10.out
    simp only [Bool.false_and] at hq
    try (with_reducible replace hq := q_assoc hq)
    clear HR10
    have HR10 := Hh hq
    clear hq
    have hq := HR10.out
    first | replace hq := q_negK hq (by simp []) | replace hq := q_neg hq (by simp [])
    try (with_reducible replace hq := q_assoc hq)
    clear HR10
    have HR10 := Hh hq
    clear hq
    obtain ⟨d0, d1⟩ := HBg10.out.cells
    go_wp2_with fail
    refine ?S1a
   rotate_left 1
   focus
    have hq := HR10.out
    simp only [Bool.true_and] at hq
    try (with_reducible replace hq := q_assoc hq)
    clear HR10
    have HR10 := Hh hq
    clear hq
    by_cases hn3 : v6.form.near = 3
    ·obtain ⟨f0, f1, f2, f3⟩ := HBf10.out.cells
     rw [HZN.out] at f2
     have e3 : (zn == 3) = true := by rw [← HZN.out, hn3]; rfl
     have hq := HR10.out
     first | replace hq := q_posK hq (by simp [hn3]) | replace hq := q_pos hq (by simp [hn3])
     try (with_reducible replace hq := q_assoc hq)
     clear HR10
     have HR10 := Hh hq
     clear hq
     obtain ⟨f0, f1, f2, f3⟩ := HBf10.out.cells
     go_wp2_with fail
     try clear f0 f1 f2 f3 e3
     refine mQ ((IH.out n (Nat.le_refl _)).f_body v6.form.params _ _ _ HBf10.out.2.1 HP10.out (qne HR10.out HN.out)) HR10 HN HK10 (fun _ _ h => ⟨rfl, h⟩) ?_
     rintro v16 s16 y16 w16 HR16 rfl HP16 hkk HK16
     try dsimp only at HR16
     have HBh16 := Hh (HBh10.out.kp hkk)
     have HBg16 := Hh (HBg10.out.kp hkk)
     have HBf16 := Hh (HBf10.out.kp hkk)
     clear hkk
     have hq := HR16.out
     try (with_reducible replace hq := q_assoc hq)
     clear HR16
     have HR16 := Hh hq
     clear hq
     obtain ⟨d0, d1⟩ := HBh16.out.cells
     go_wp2_with fail
     refine mR (wk_node hE 2 v2 _ _ HP16.out (qne HR16.out HN.out)) HR16 HN HK16 (fun _ _ h => ⟨rfl, h⟩) ?_
     rintro v17 s17 w17 HR17 HP17 hkk HK17
     try dsimp only at HR17
     have HBh17 := Hh (HBh16.out.kp hkk)
     have HBg17 := Hh (HBg16.out.kp hkk)
     have HBf17 := Hh (HBf16.out.kp hkk)
     clear hkk
     have hq := HR17.out
     try (with_reducible replace hq := q_assoc hq)
     clear HR17
     have HR17 := Hh hq
     clear hq
     try clear d0 d1
     skip
     go_wp2_with fail
     exact ⟨rfl, .tuple #[], by simp [results, Tryz.results33, go_sem], q_ok (q_pure HR17.out) rfl HP17.out HK17.out⟩
    focus
     obtain ⟨f0, f1, f2, f3⟩ := HBf10.out.cells
     rw [HZN.out] at f2
     have e3 : (zn == 3) = false := by rw [beq_eq_false_iff_ne, ← HZN.out]; omega
     have hq := HR10.out
     first | replace hq := q_negK hq (by simp [hn3]) | replace hq := q_neg hq (by simp [hn3])
     try (with_reducible replace hq := q_assoc hq)
     clear HR10
     have HR10 := Hh hq
     clear hq
     obtain ⟨d0, d1⟩ := HBg10.out.cells
     go_wp2_with fail
     try clear f0 f1 f2 f3 e3
     refine ?S1b
   case S1a | S1b =>
    refine mQ ((IH.out n (Nat.le_refl _)).f_restOfInit v5 _ _ HP10.out (qne HR10.out HN.out)) HR10 HN HK10 (fun _ _ h => ⟨rfl, h⟩) ?_
    rintro v11 s11 y11 w11 HR11 rfl HP11 hkk HK11
    try dsimp only at HR11
    have HBh11 := Hh (HBh10.out.kp hkk)
    have HBg11 := Hh (HBg10.out.kp hkk)
    have HBf11 := Hh (HBf10.out.kp hkk)
    clear hkk
    have hq := HR11.out
    try (with_reducible replace hq := q_assoc hq)
    clear HR11
    have HR11 := Hh hq
    clear hq
    go_wp2_with fail
    refine mQ ((IH.out n (Nat.le_refl _)).f_moreInits v3.bool _ _ HP11.out (qne HR11.out HN.out)) HR11 HN HK11 (fun _ _ h => ⟨rfl, h⟩) ?_
    rintro v12 s12 y12 w12 HR12 rfl HP12 hkk HK12
    try dsimp only at HR12
    have HBh12 := Hh (HBh11.out.kp hkk)
    have HBg12 := Hh (HBg11.out.kp hkk)
    have HBf12 := Hh (HBf11.out.kp hkk)
    clear hkk
    have hq := HR12.out
    try (with_reducible replace hq := q_assoc hq)
    clear HR12
    have HR12 := Hh hq
    clear hq
    go_wp2_with fail
    refine mR (wk_need hE [59] _ _ HP12.out) HR12 HN HK12 (fun _ _ h => ⟨rfl, h⟩) ?_
    rintro v13 s13 w13 HR13 HP13 hkk HK13
    try dsimp only at HR13
    have HBh13 := Hh (HBh12.out.kp hkk)
    have HBg13 := Hh (HBg12.out.kp hkk)
    have HBf13 := Hh (HBf12.out.kp hkk)
    clear hkk
    have hq := HR13.out
    try (with_reducible replace hq := q_assoc hq)
    clear HR13
    have HR13 := Hh hq
    clear hq
    obtain ⟨d0, d1⟩ := HBh13.out.cells
    go_wp2_with fail
    refine mR (wk_node hE 3 v2 _ _ HP13.out (qne HR13.out HN.out)) HR13 HN HK13 (fun _ _ h => ⟨rfl, h⟩) ?_
    rintro v14 s14 w14 HR14 HP14 hkk HK14
    try dsimp only at HR14
    have HBh14 := Hh (HBh13.out.kp hkk)
    have HBg14 := Hh (HBg13.out.kp hkk)
    have HBf14 := Hh (HBf13.out.kp hkk)
    clear hkk
    have hq := HR14.out
    try (with_reducible replace hq := q_assoc hq)
    clear HR14
    have HR14 := Hh hq
    clear hq
    try clear d0 d1
    skip
    go_wp2_with fail
    exact ⟨rfl, .tuple #[], by simp [results, Tryz.results33, go_sem], q_ok (q_pure HR14.out) rfl HP14.out HK14.out⟩
  ·have hq := HR4.out
   first | replace hq := q_iftK hq | replace hq := q_ift hq
   try (with_reducible replace hq := q_assoc hq)
   clear HR4
   have HR4 := Hh hq
   clear hq
   go_wp2_with fail
   refine mR (wk_need hE [59] _ _ HP4.out) HR4 HN HK4 (fun _ _ h => ⟨rfl, h⟩) ?_
   rintro v22 s22 w22 HR22 HP22 hkk HK22
   try dsimp only at HR22
   have HBh22 := Hh (HBh4.out.kp hkk)
   clear hkk
   have hq := HR22.out
   try (with_reducible replace hq := q_assoc hq)
   clear HR22
   have HR22 := Hh hq
   clear hq
   obtain ⟨d0, d1⟩ := HBh22.out.cells
   go_wp2_with fail
   refine mR (wk_node hE 3 v2 _ _ HP22.out (qne HR22.out HN.out)) HR22 HN HK22 (fun _ _ h => ⟨rfl, h⟩) ?_
   rintro v23 s23 w23 HR23 HP23 hkk HK23
   try dsimp only at HR23
   have HBh23 := Hh (HBh22.out.kp hkk)
   clear hkk
   have hq := HR23.out
   try (with_reducible replace hq := q_assoc hq)
   clear HR23
   have HR23 := Hh hq
   clear hq
   try clear d0 d1
   skip
   go_wp2_with fail
   exact ⟨rfl, .tuple #[], by simp [results, Tryz.results33, go_sem], q_ok (q_pure HR23.out) rfl HP23.out HK23.out⟩
 ·have hq := HR1.out
  first | replace hq := q_iftK hq | replace hq := q_ift hq
  try (with_reducible replace hq := q_assoc hq)
  clear HR1
  have HR1 := Hh hq
  clear hq
  go_wp2_with fail
  have HT := Hh (show run E.L E.base n (.assert) _ = r from HR1.out)
  refine ((IH.out n (Nat.le_refl _)).f_assert  _ _ HP1.out (by rw [HT.out]; exact HN.out)).mono ?_
  intro e w24 he
  rw [HT.out] at he
  rcases qtail HN.out HK1.out he with ⟨v24, s24, y24, hr24, rfl, hy24, hp24, hk24⟩ | ⟨hr24, ⟨z, rfl⟩, hb24, hk24⟩
  case' inr => exact ⟨rfl, q_no hr24 hb24 hk24⟩
  obtain rfl := hy24
  have HT24 := Hh hr24
  have HP24 := Hh hp24
  have HK24 := Hh hk24
  clear he hr24 hp24 hk24 HT
  go_wp2_with fail
  exact ⟨rfl, .tuple #[], by simp [results, Tryz.results33, go_sem], q_ok HT24.out rfl HP24.out HK24.out⟩
end Go.Proofs.YtlboejdhmggjpaaGreat.Pp

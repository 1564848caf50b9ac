/- parse: size, binary. -/
import Derived.Test.YtlboejdhmggjpaaGreatWlA
set_option linter.all false
namespace Go.Proofs.YtlboejdhmggjpaaGreat.Pp
set_option maxRecDepth 100000
set_option maxHeartbeats 16000000
open Go.RowKit Go.BigFrame Go.Proofs.YtlboejdhmggjpaaGreat

theorem w_size {E : En} (hE : E.ok) {n : Nat} (ih : ∀ m, m ≤ n → Wk E m) (v : Bool) (s : Ps) (w : World) (hp : PW E w s) (hne : run E.L E.base (n + 1) (.size v) s ≠ .out) : Calls Tryz.prog 193 #[.pointer (some ⟨E.pb, 0, none⟩), .bool v] w (EndQ E vaU w (run E.L E.base (n + 1) (.size v) s)) := by
 obtain ⟨r, hr⟩ : ∃ r, run E.L E.base (n + 1) (.size v) s = r := ⟨_, rfl⟩
 rw [hr] at hne ⊢
 rw [run] at hr
 have HN := Hh hne
 have HR0 := Hh hr
 have HP0 := Hh hp
 have HK0 := Hh (KP.refl w)
 have IH := Hh ih
 clear hne hr hp ih
 go_enter Tryz.func193, Tryz.ntmps193
 go_wp2_with fail
 cases v
 ·refine mR (wk_typeAhead hE _ _ HP0.out) HR0 HN HK0 (fun _ _ h => ⟨rfl, h⟩) ?_
  rintro v1 s1 w1 HR1 HP1 - HK1
  obtain ⟨bb1, hbb1⟩ : ∃ bb, v1 = bb := ⟨_, rfl⟩
  rw [hbb1] at HR1 ⊢
  clear hbb1
  cases bb1
  ·replace HR1 := Hh (q_iff HR1.out)
   go_wp2_with fail
   have hq := HR1.out
   first | replace hq := q_iff hq | skip
   clear HR1
   have HR1 := Hh hq
   clear hq
   refine (wk_fail (α := Va) hE (fun _ => .tuple #[]) _ _ HP1.out).mono ?_
   rintro e wf ⟨⟨z, rfl⟩, hbf, hkf⟩
   exact ⟨rfl, q_no (q_fail HR1.out) hbf (HK1.out.trans hkf)⟩
  ·replace HR1 := Hh (q_ift HR1.out)
   go_wp2_with fail
   refine mR (wk_here hE _ _ HP1.out) HR1 HN HK1 (fun _ _ h => ⟨rfl, h⟩) ?_
   rintro v2 s2 w2 HR2 HP2 - HK2
   have HBn := Hh (HdB.new w2 v2)
   have HPn := Hh (HP2.out.ext hE (below_alloc w2 (.cells #[.int .i64 v2.1, .int .i64 v2.2] 77)))
   have HKn := Hh (HK2.out.trans (KP.of_below (below_alloc w2 (.cells #[.int .i64 v2.1, .int .i64 v2.2] 77))))
   have HPo2 := Hh HP2.out
   have HKo2 := Hh HK2.out
   clear HP2 HK2
   have HP2 := Hh HPn.out
   have HK2 := Hh HKn.out
   clear HPn HKn
   simp only [hdV]
   obtain ⟨bh, hbh⟩ : ∃ b, w2.heap.size = b := ⟨_, rfl⟩
   have HBh2 := Hh (hbh ▸ HBn.out)
   clear HBn
   go_wp2_with fail
   try rw [hbh]
   refine mQ ((IH.out n (Nat.le_refl _)).f_typeIn  _ _ HP2.out (qne HR2.out HN.out)) HR2 HN HK2 (fun _ _ h => ⟨rfl, h⟩) ?_
   rintro v3 s3 y3 w3 HR3 rfl HP3 hkk HK3
   have HBh3 := Hh (HBh2.out.kp hkk)
   clear hkk
   go_wp2_with fail
   have hq := HR3.out
   replace hq := qone (x := sign E.L 0 [123]) hq rfl
   clear HR3
   have HR3 := Hh hq
   clear hq
   have hq := HR3.out
   simp only [Bool.false_and] at hq
   clear HR3
   have HR3 := Hh hq
   clear hq
   replace HR3 := Hh (q_neg HR3.out (by simp []))
   exact ⟨rfl, .tuple #[], by simp [results, Tryz.results193, go_sem], q_ok (q_pure HR3.out) rfl HP3.out HK3.out⟩
 ·refine mR (wk_typeAhead hE _ _ HP0.out) HR0 HN HK0 (fun _ _ h => ⟨rfl, h⟩) ?_
  rintro v4 s4 w4 HR4 HP4 - HK4
  obtain ⟨bb4, hbb4⟩ : ∃ bb, v4 = bb := ⟨_, rfl⟩
  rw [hbb4] at HR4 ⊢
  clear hbb4
  cases bb4
  ·replace HR4 := Hh (q_iff HR4.out)
   go_wp2_with fail
   have hq := HR4.out
   first | replace hq := q_ift hq | skip
   clear HR4
   have HR4 := Hh hq
   clear hq
   have HT := Hh (show run E.L E.base n (.unary) _ = r from HR4.out)
   refine ((IH.out n (Nat.le_refl _)).f_unary  _ _ HP4.out (by rw [HT.out]; exact HN.out)).mono ?_
   intro e w5 he
   rw [HT.out] at he
   rcases qtail HN.out HK4.out he with ⟨v5, s5, y5, hr5, rfl, hy5, hp5, hk5⟩ | ⟨hr5, ⟨z, rfl⟩, hb5, hk5⟩
   case' inr => exact ⟨rfl, q_no hr5 hb5 hk5⟩
   obtain rfl := hy5
   have HT5 := Hh hr5
   have HP5 := Hh hp5
   have HK5 := Hh hk5
   clear he hr5 hp5 hk5 HT
   go_wp2_with fail
   exact ⟨rfl, .tuple #[], by simp [results, Tryz.results193, go_sem], q_ok HT5.out rfl HP5.out HK5.out⟩
  ·replace HR4 := Hh (q_ift HR4.out)
   go_wp2_with fail
   refine mR (wk_here hE _ _ HP4.out) HR4 HN HK4 (fun _ _ h => ⟨rfl, h⟩) ?_
   rintro v6 s6 w6 HR6 HP6 - HK6
   have HBn := Hh (HdB.new w6 v6)
   have HPn := Hh (HP6.out.ext hE (below_alloc w6 (.cells #[.int .i64 v6.1, .int .i64 v6.2] 77)))
   have HKn := Hh (HK6.out.trans (KP.of_below (below_alloc w6 (.cells #[.int .i64 v6.1, .int .i64 v6.2] 77))))
   have HPo6 := Hh HP6.out
   have HKo6 := Hh HK6.out
   clear HP6 HK6
   have HP6 := Hh HPn.out
   have HK6 := Hh HKn.out
   clear HPn HKn
   simp only [hdV]
   obtain ⟨bh, hbh⟩ : ∃ b, w6.heap.size = b := ⟨_, rfl⟩
   have HBh6 := Hh (hbh ▸ HBn.out)
   clear HBn
   go_wp2_with fail
   try rw [hbh]
   refine mQ ((IH.out n (Nat.le_refl _)).f_typeIn  _ _ HP6.out (qne HR6.out HN.out)) HR6 HN HK6 (fun _ _ h => ⟨rfl, h⟩) ?_
   rintro v7 s7 y7 w7 HR7 rfl HP7 hkk HK7
   have HBh7 := Hh (HBh6.out.kp hkk)
   clear hkk
   go_wp2_with fail
   have hq := HR7.out
   simp only [Bool.true_and] at hq
   clear HR7
   have HR7 := Hh hq
   clear hq
   refine mR (wk_sign hE 0 [123] _ _ (by omega) HP7.out) HR7 HN HK7 (fun _ _ h => ⟨rfl, h⟩) ?_
   rintro v8 s8 w8 HR8 HP8 hkk HK8
   have HBh8 := Hh (HBh7.out.kp hkk)
   clear hkk
   obtain ⟨bb8, hbb8⟩ : ∃ bb, v8 = bb := ⟨_, rfl⟩
   rw [hbb8] at HR8 ⊢
   clear hbb8
   cases bb8
   ·replace HR8 := Hh (q_iff HR8.out)
    go_wp2_with fail
    exact ⟨rfl, .tuple #[], by simp [results, Tryz.results193, go_sem], q_ok (q_pure HR8.out) rfl HP8.out HK8.out⟩
   ·replace HR8 := Hh (q_ift HR8.out)
    obtain ⟨d0, d1⟩ := HBh8.out.cells
    go_wp2_with fail
    have HT := Hh (show run E.L E.base n (.literal v6) _ = r from HR8.out)
    refine ((IH.out n (Nat.le_refl _)).f_literal v6 _ _ HP8.out (by rw [HT.out]; exact HN.out)).mono ?_
    intro e w9 he
    rw [HT.out] at he
    rcases qtail HN.out HK8.out he with ⟨v9, s9, y9, hr9, rfl, hy9, hp9, hk9⟩ | ⟨hr9, ⟨z, rfl⟩, hb9, hk9⟩
    case' inr => exact ⟨rfl, q_no hr9 hb9 hk9⟩
    obtain rfl := hy9
    have HT9 := Hh hr9
    have HP9 := Hh hp9
    have HK9 := Hh hk9
    clear he hr9 hp9 hk9 HT
    go_wp2_with fail
    exact ⟨rfl, .tuple #[], by simp [results, Tryz.results193, go_sem], q_ok HT9.out rfl HP9.out HK9.out⟩
theorem w_binary {E : En} (hE : E.ok) {n : Nat} (ih : ∀ m, m ≤ n → Wk E m) (k : Nat) (s : Ps) (w : World) (hp : PW E w s) (hne : run E.L E.base (n + 1) (.binary k) s ≠ .out) : Calls Tryz.prog 116 #[.pointer (some ⟨E.pb, 0, none⟩), .int .i64 k] w (EndQ E vaB w (run E.L E.base (n + 1) (.binary k) s)) := by
 obtain ⟨r, hr⟩ : ∃ r, run E.L E.base (n + 1) (.binary k) s = r := ⟨_, rfl⟩
 rw [hr] at hne ⊢
 rw [run] at hr
 have HN := Hh hne
 have HR0 := Hh hr
 have HP0 := Hh hp
 have HK0 := Hh (KP.refl w)
 have IH := Hh ih
 clear hne hr hp ih
 go_enter Tryz.func116, Tryz.ntmps116
 go_wp2_with fail
 go_step3
 go_wp2_with fail
 refine mR (wk_here hE _ _ HP0.out) HR0 HN HK0 (fun _ _ h => ⟨rfl, h⟩) ?_
 rintro v1 s1 w1 HR1 HP1 - HK1
 have HBn := Hh (HdB.new w1 v1)
 have HPn := Hh (HP1.out.ext hE (below_alloc w1 (.cells #[.int .i64 v1.1, .int .i64 v1.2] 77)))
 have HKn := Hh (HK1.out.trans (KP.of_below (below_alloc w1 (.cells #[.int .i64 v1.1, .int .i64 v1.2] 77))))
 have HPo1 := Hh HP1.out
 have HKo1 := Hh HK1.out
 clear HP1 HK1
 have HP1 := Hh HPn.out
 have HK1 := Hh HKn.out
 clear HPn HKn
 simp only [hdV]
 obtain ⟨bh, hbh⟩ : ∃ b, w1.heap.size = b := ⟨_, rfl⟩
 have HBh1 := Hh (hbh ▸ HBn.out)
 clear HBn
 go_wp2_with fail
 try rw [hbh]
 refine mQ ((IH.out n (Nat.le_refl _)).f_cast  _ _ HP1.out (qne HR1.out HN.out)) HR1 HN HK1 (fun _ _ h => ⟨rfl, h⟩) ?_
 rintro v2 s2 y2 w2 HR2 rfl HP2 hkk HK2
 have HBh2 := Hh (HBh1.out.kp hkk)
 clear hkk
 go_wp2_with fail
 go_step3
 go_wp2_with fail
 go_loopg [6, 7] n (fun gf q6 q7 wr => ∃ (s' : Ps) (ub : Bool), q6 = .bool ub ∧ gf ≤ n ∧ run E.L E.base gf (.binaryR k v1 ub) s' = r ∧ PW E wr s' ∧ KP w wr ∧ HdB wr bh v1)
 case atStart => exact ⟨_, _, rfl, Nat.le_refl _, HR2.out, HP2.out, HK2.out, HBh2.out⟩
 case round =>
  obtain ⟨s3, ub, rfl, hgn3, hr3, hp3, hk3, hhh3⟩ := hrel
  cases gk with
  | zero => rw [run0] at hr3; exact absurd hr3.symm HN.out
  | succ g3 =>
   rw [run] at hr3
   have HR3 := Hh hr3
   have HP3 := Hh hp3
   have HK3 := Hh hk3
   have HBh3 := Hh hhh3
   clear hr3 hp3 hk3 hhh3
   go_wp2_with fail
   refine (wk_level hE _ _ HP3.out).mono ?_
   intro e w4 he
   rcases qstepR (x := level E.L) HR3.out HN.out HK3.out he with ⟨v4, s4, hr4, hxe4, rfl, hp4, hkk, hk4⟩ | ⟨hr4, ⟨z, rfl⟩, hb4, hk4⟩
   case' inr => exact ⟨rfl, q_no hr4 hb4 hk4⟩
   have HR4 := Hh hr4
   have HP4 := Hh hp4
   have HK4 := Hh hk4
   have HBh4 := Hh (HBh3.out.kp hkk)
   clear he hr4 hp4 hkk hk4
   have hv4 : v4 ≤ 45 := level_le hxe4
   clear hxe4
   simp only [inV]
   by_cases hl4 : v4 < k
   ·have hd4 : decide (v4 < k) = true := decide_eq_true hl4
    replace HR4 := Hh (q_pos HR4.out (by simp [hl4]))
    go_wp2_with fail
    exact ⟨rfl, .bool ub, by simp [results, Tryz.results116, go_sem], q_ok (q_pure HR4.out) rfl HP4.out HK4.out⟩
   ·have hd4 : decide (v4 < k) = false := decide_eq_false hl4
    replace HR4 := Hh (q_neg HR4.out (by simp [hl4]))
    obtain ⟨hle5, hr5⟩ := q_step HR4.out HN.out
    obtain ⟨c1, f1, -⟩ := HP4.out.at
    have hpb := HP4.out.lt
    obtain ⟨q51, q52⟩ := HP4.out.on hE hle5
    have hLn := hE.len
    obtain ⟨a5, hat5⟩ : ∃ a, Ps.at' s4 = a := ⟨_, rfl⟩
    rw [hat5] at c1 hle5 hr5 q51 q52
    have hi : a5 < 100000 := by omega
    obtain ⟨s5, hs5⟩ : ∃ t : Ps, (⟨a5 + 1, s4.done, s4.nm⟩ : Ps) = t := ⟨_, rfl⟩
    rw [hs5] at hr5 q51
    clear hs5
    have HR5 := Hh hr5
    have HP5 := Hh q51
    have HK5 := Hh (HK4.out.trans q52)
    have HBh5 := Hh (HBh4.out.kp q52)
    have HAT5 := Hh hat5
    clear q51 q52 hr5 hle5 hLn hat5
    go_wp2_with fail
    try clear c1 f1 hpb hi
    rw [show ((v4 : Int) + 1) = ((v4 + 1 : Nat) : Int) from by omega]
    refine mQ ((IH.out g3 (by omega)).f_binary (v4 + 1) _ _ HP5.out (qne HR5.out HN.out)) HR5 HN HK5 (fun _ _ h => ⟨rfl, h⟩) ?_
    rintro v6 s6 y6 w6 HR6 rfl HP6 hkk HK6
    have HBh6 := Hh (HBh5.out.kp hkk)
    clear hkk
    obtain ⟨d0, d1⟩ := HBh6.out.cells
    go_wp2_with fail
    refine mR (wk_node hE v4 v1 _ _ HP6.out (qne HR6.out HN.out)) HR6 HN HK6 (fun _ _ h => ⟨rfl, h⟩) ?_
    rintro v7 s7 w7 HR7 HP7 hkk HK7
    have HBh7 := Hh (HBh6.out.kp hkk)
    clear hkk
    try clear d0 d1
    go_wp2_with fail
    go_roundg g3
    case measure => omega
    case rel => exact ⟨_, _, rfl, by omega, HR7.out, HP7.out, HK7.out, HBh7.out⟩
end Go.Proofs.YtlboejdhmggjpaaGreat.Pp

/- WlC -/
namespace Go.Proofs.YtlboejdhmggjpaaGreat.Pp
set_option maxRecDepth 100000
set_option maxHeartbeats 16000000
open Go.RowKit Go.BigFrame Go.Proofs.YtlboejdhmggjpaaGreat

theorem w_applied {E : En} (hE : E.ok) {n : Nat} (ih : ∀ m, m ≤ n → Wk E m) (h : Nat × Nat) (s : Ps) (w : World) (hp : PW E w s) (hne : run E.L E.base (n + 1) (.applied h) s ≠ .out) : Calls Tryz.prog 195 #[.pointer (some ⟨E.pb, 0, none⟩), hdV h] w (EndQ E vaU w (run E.L E.base (n + 1) (.applied h) s)) := by
 obtain ⟨r, hr⟩ : ∃ r, run E.L E.base (n + 1) (.applied h) s = r := ⟨_, rfl⟩
 rw [hr] at hne ⊢
 have HN := Hh hne
 have HR0 := Hh hr
 have HP0 := Hh hp
 have HK0 := Hh (KP.refl w)
 have IH := Hh ih
 clear hne hr hp ih
 simp only [hdV]
 go_enter Tryz.func195, Tryz.ntmps195
 have HBarg0 := Hh (HdB.new w h)
 have HPn := Hh (HP0.out.ext hE (below_alloc w (.cells #[.int .i64 h.1, .int .i64 h.2] 77)))
 have HKn := Hh (KP.of_below (below_alloc w (.cells #[.int .i64 h.1, .int .i64 h.2] 77)))
 clear HP0 HK0
 have HP0 := Hh HPn.out
 have HK0 := Hh HKn.out
 clear HPn HKn
 go_wp2_with fail
 go_step3
 go_wp2_with fail
 go_step3
 go_wp2_with fail
 obtain ⟨barg, hbarg⟩ : ∃ b, w.heap.size = b := ⟨_, rfl⟩
 rw [hbarg]
 have q := HBarg0.out
 rw [hbarg] at q
 clear HBarg0
 have HBarg0 := Hh q
 clear q
 go_loopg [] (n + 1) (fun k  wr => ∃ (s' : Ps) , k ≤ (n + 1) ∧ run E.L E.base k (.applied h) s' = r ∧ PW E wr s' ∧ KP w wr ∧ HdB wr barg h)
 case atStart => exact ⟨_, Nat.le_refl _, HR0.out, HP0.out, HK0.out, HBarg0.out⟩
 case round =>
  obtain ⟨s1, hgn1, hr1, hp1, hk1, hharg1⟩ := hrel
  cases gk with
  | zero => rw [run0] at hr1; exact absurd hr1.symm HN.out
  | succ g1 =>
   rw [run] at hr1
   have HR1 := Hh hr1
   have HP1 := Hh hp1
   have HK1 := Hh hk1
   have HBarg1 := Hh hharg1
   clear hr1 hp1 hk1 hharg1
   go_wp2_with fail
   obtain ⟨T, hT⟩ : ∃ T, peekS E.L s1 0 = T := ⟨_, rfl⟩
   have hxl : T.t.length ≤ maxLen := by rw [← hT]; exact peek_txt hE _ 0
   have pk := wk_peek hE 0 _ _ (by omega) HP1.out
   rw [hT] at pk
   have hq := qone (x := peek E.L 0) HR1.out rfl
   rw [hT] at hq
   clear hT
   obtain ⟨c2, t2⟩ := T
   unfold ctV at pk
   dsimp only at pk hq hxl
   obtain ⟨x2, hxs⟩ : ∃ x : ByteArray, str t2 = x := ⟨_, rfl⟩
   obtain ⟨z2, hzs⟩ : ∃ z : Int, (c2 : Int) = z := ⟨_, rfl⟩
   rw [hxs, hzs] at pk
   have HX2 := Hh hxs
   have HZ2 := Hh hzs
   have HL2 := Hh hxl
   have HR2 := Hh hq
   have PK := Hh pk
   clear hxs hzs hxl hq pk
   refine PK.out.mono ?_
   rintro e w2 ⟨rfl, hbl⟩
   have HBL := Hh hbl
   clear hbl PK
   have HPo2 := Hh (HP1.out.ext hE HBL.out)
   have HKo2 := Hh (HK1.out.trans (KP.of_below HBL.out))
   have HP2 := Hh (HPo2.out.ext hE (below_alloc w2 (.cells #[.int .i64 z2, .string x2] 54)))
   have HK2 := Hh (HKo2.out.trans (KP.of_below (below_alloc w2 (.cells #[.int .i64 z2, .string x2] 54))))
   have HBoarg2 := Hh (HBarg1.out.kp (KP.of_below HBL.out))
   have HBarg2 := Hh (HBoarg2.out.kp (KP.of_below (below_alloc w2 (.cells #[.int .i64 z2, .string x2] 54))))
   obtain ⟨bt, hbt⟩ : ∃ b, w2.heap.size = b := ⟨_, rfl⟩
   have HBt2 := Hh (hbt ▸ CtB.new w2 z2 x2)
   by_cases hc27 : c2 = 7
   ·have fc27 : (z2 == 7) = true := by rw [← HZ2.out, hc27]; rfl
    have fn27 : (z2 != 7) = false := by rw [← HZ2.out, hc27]; rfl
    by_cases htt2_0 : t2 = [91]
    ·have fxt2_0 : (x2.toList == [91]) = true := HX2.out ▸ str_is htt2_0
     have fyt2_0_1 : (x2.toList == [40]) = false := HX2.out ▸ str_no (by rw [htt2_0]; decide)
     have fyt2_0_2 : (x2.toList == [46]) = false := HX2.out ▸ str_no (by rw [htt2_0]; decide)
     have fyt2_0_3 : (x2.toList == [45, 62]) = false := HX2.out ▸ str_no (by rw [htt2_0]; decide)
     have fyt2_0_4 : (x2.toList == [43, 43]) = false := HX2.out ▸ str_no (by rw [htt2_0]; decide)
     have fyt2_0_5 : (x2.toList == [45, 45]) = false := HX2.out ▸ str_no (by rw [htt2_0]; decide)
     replace HR2 := Hh (q_neg HR2.out (by simp [hc27, htt2_0]))
     replace HR2 := Hh (q_pos HR2.out (by simp [hc27, htt2_0]))
     obtain ⟨hle3, hr3⟩ := q_step HR2.out HN.out
     obtain ⟨c1, f1, -⟩ := HPo2.out.at
     have hpb := HPo2.out.lt
     rw [hbt] at hpb
     obtain ⟨q31, q32⟩ := HPo2.out.on hE hle3
     have hLn := hE.len
     obtain ⟨a3, hat3⟩ : ∃ a, Ps.at' s1 = a := ⟨_, rfl⟩
     rw [hat3] at c1 hle3 hr3 q31 q32
     have hi : a3 < 100000 := by omega
     obtain ⟨s3, hs3⟩ : ∃ t : Ps, (⟨a3 + 1, s1.done, s1.nm⟩ : Ps) = t := ⟨_, rfl⟩
     rw [hs3] at hr3 q31
     clear hs3
     have HR3 := Hh hr3
     have HP3 := Hh (q31.ext hE (below_alloc _ (.cells #[.int .i64 z2, .string x2] 54)))
     have hkx := KP.of_below (below_alloc (World.setCell w2 ⟨E.pb, 1, none⟩ (.int .i64 ((a3 + 1 : Nat) : Int))) (.cells #[.int .i64 z2, .string x2] 54))
     have HK3 := Hh (HKo2.out.trans (q32.trans hkx))
     have HBarg3 := Hh ((HBoarg2.out.kp q32).kp hkx)
     have HBt3 := Hh (hbt ▸ CtB.new' w2 ⟨E.pb, 1, none⟩ (.int .i64 ((a3 + 1 : Nat) : Int)) z2 x2)
     have HAT3 := Hh hat3
     clear q31 q32 hr3 hle3 hLn hat3 hkx
     go_wp2_with fail
     try rw [hbt]
     try clear c1 f1 hpb hi
     refine mQ ((IH.out g1 (by omega)).f_expr  _ _ HP3.out (qne HR3.out HN.out)) HR3 HN HK3 (fun _ _ h => ⟨rfl, h⟩) ?_
     rintro v4 s4 y4 w4 HR4 rfl HP4 hkk HK4
     have HBarg4 := Hh (HBarg3.out.kp hkk)
     have HBt4 := Hh (HBt3.out.kp hkk)
     clear hkk
     go_wp2_with fail
     refine mR (wk_need hE [93] _ _ HP4.out) HR4 HN HK4 (fun _ _ h => ⟨rfl, h⟩) ?_
     rintro v5 s5 w5 HR5 HP5 hkk HK5
     have HBarg5 := Hh (HBarg4.out.kp hkk)
     have HBt5 := Hh (HBt4.out.kp hkk)
     clear hkk
     obtain ⟨d0, d1⟩ := HBarg5.out.cells
     go_wp2_with fail
     refine mR (wk_node hE 49 h _ _ HP5.out (qne HR5.out HN.out)) HR5 HN HK5 (fun _ _ h => ⟨rfl, h⟩) ?_
     rintro v6 s6 w6 HR6 HP6 hkk HK6
     have HBarg6 := Hh (HBarg5.out.kp hkk)
     have HBt6 := Hh (HBt5.out.kp hkk)
     clear hkk
     try clear d0 d1
     skip
     go_wp2_with fail
     go_roundg g1
     case measure => omega
     case rel => exact ⟨_, by omega, HR6.out, HP6.out, HK6.out, HBarg6.out⟩
    ·have fxt2_0 : (x2.toList == [91]) = false := HX2.out ▸ str_no htt2_0
     by_cases htt2_1 : t2 = [40]
     ·have fxt2_1 : (x2.toList == [40]) = true := HX2.out ▸ str_is htt2_1
      have fyt2_1_2 : (x2.toList == [46]) = false := HX2.out ▸ str_no (by rw [htt2_1]; decide)
      have fyt2_1_3 : (x2.toList == [45, 62]) = false := HX2.out ▸ str_no (by rw [htt2_1]; decide)
      have fyt2_1_4 : (x2.toList == [43, 43]) = false := HX2.out ▸ str_no (by rw [htt2_1]; decide)
      have fyt2_1_5 : (x2.toList == [45, 45]) = false := HX2.out ▸ str_no (by rw [htt2_1]; decide)
      replace HR2 := Hh (q_neg HR2.out (by simp [hc27, htt2_0, htt2_1]))
      replace HR2 := Hh (q_neg HR2.out (by simp [hc27, htt2_0, htt2_1]))
      replace HR2 := Hh (q_pos HR2.out (by simp [hc27, htt2_0, htt2_1]))
      go_wp2_with fail
      try rw [hbt]
      refine mQ ((IH.out g1 (by omega)).f_call  _ _ HP2.out (qne HR2.out HN.out)) HR2 HN HK2 (fun _ _ h => ⟨rfl, h⟩) ?_
      rintro v7 s7 y7 w7 HR7 rfl HP7 hkk HK7
      have HBarg7 := Hh (HBarg2.out.kp hkk)
      have HBt7 := Hh (HBt2.out.kp hkk)
      clear hkk
      obtain ⟨d0, d1⟩ := HBarg7.out.cells
      go_wp2_with fail
      refine mR (wk_node hE 50 h _ _ HP7.out (qne HR7.out HN.out)) HR7 HN HK7 (fun _ _ h => ⟨rfl, h⟩) ?_
      rintro v8 s8 w8 HR8 HP8 hkk HK8
      have HBarg8 := Hh (HBarg7.out.kp hkk)
      have HBt8 := Hh (HBt7.out.kp hkk)
      clear hkk
      try clear d0 d1
      skip
      go_wp2_with fail
      go_roundg g1
      case measure => omega
      case rel => exact ⟨_, by omega, HR8.out, HP8.out, HK8.out, HBarg8.out⟩
     ·have fxt2_1 : (x2.toList == [40]) = false := HX2.out ▸ str_no htt2_1
      by_cases htt2_2 : t2 = [46]
      focus
       have fxt2_2 : (x2.toList == [46]) = true := HX2.out ▸ str_is htt2_2
       have fyt2_2_3 : (x2.toList == [45, 62]) = false := HX2.out ▸ str_no (by rw [htt2_2]; decide)
       have fyt2_2_4 : (x2.toList == [43, 43]) = false := HX2.out ▸ str_no (by rw [htt2_2]; decide)
       have fyt2_2_5 : (x2.toList == [45, 45]) = false := HX2.out ▸ str_no (by rw [htt2_2]; decide)
       replace HR2 := Hh (q_neg HR2.out (by simp [hc27, htt2_0, htt2_1, htt2_2]))
       replace HR2 := Hh (q_neg HR2.out (by simp [hc27, htt2_0, htt2_1, htt2_2]))
       replace HR2 := Hh (q_neg HR2.out (by simp [hc27, htt2_0, htt2_1, htt2_2]))
       replace HR2 := Hh (q_pos HR2.out (by simp [hc27, htt2_0, htt2_1, htt2_2]))
       refine ?S1a
      rotate_left 1
      focus
       have fxt2_2 : (x2.toList == [46]) = false := HX2.out ▸ str_no htt2_2
       by_cases htt2_3 : t2 = [45, 62]
       focus
        have fxt2_3 : (x2.toList == [45, 62]) = true := HX2.out ▸ str_is htt2_3
        have fyt2_3_4 : (x2.toList == [43, 43]) = false := HX2.out ▸ str_no (by rw [htt2_3]; decide)
        have fyt2_3_5 : (x2.toList == [45, 45]) = false := HX2.out ▸ str_no (by rw [htt2_3]; decide)
        replace HR2 := Hh (q_neg HR2.out (by simp [hc27, htt2_0, htt2_1, htt2_2, htt2_3]))
        replace HR2 := Hh (q_neg HR2.out (by simp [hc27, htt2_0, htt2_1, htt2_2, htt2_3]))
        replace HR2 := Hh (q_neg HR2.out (by simp [hc27, htt2_0, htt2_1, htt2_2, htt2_3]))
        replace HR2 := Hh (q_pos HR2.out (by simp [hc27, htt2_0, htt2_1, htt2_2, htt2_3]))
        refine ?S1b
       rotate_left 1
       ·have fxt2_3 : (x2.toList == [45, 62]) = false := HX2.out ▸ str_no htt2_3
        by_cases htt2_4 : t2 = [43, 43]
        focus
         have fxt2_4 : (x2.toList == [43, 43]) = true := HX2.out ▸ str_is htt2_4
         have fyt2_4_5 : (x2.toList == [45, 45]) = false := HX2.out ▸ str_no (by rw [htt2_4]; decide)
         replace HR2 := Hh (q_neg HR2.out (by simp [hc27, htt2_0, htt2_1, htt2_2, htt2_3, htt2_4]))
         replace HR2 := Hh (q_neg HR2.out (by simp [hc27, htt2_0, htt2_1, htt2_2, htt2_3, htt2_4]))
         replace HR2 := Hh (q_neg HR2.out (by simp [hc27, htt2_0, htt2_1, htt2_2, htt2_3, htt2_4]))
         replace HR2 := Hh (q_neg HR2.out (by simp [hc27, htt2_0, htt2_1, htt2_2, htt2_3, htt2_4]))
         replace HR2 := Hh (q_pos HR2.out (by simp [hc27, htt2_0, htt2_1, htt2_2, htt2_3, htt2_4]))
         refine ?S2a
        rotate_left 1
        focus
         have fxt2_4 : (x2.toList == [43, 43]) = false := HX2.out ▸ str_no htt2_4
         by_cases htt2_5 : t2 = [45, 45]
         focus
          have fxt2_5 : (x2.toList == [45, 45]) = true := HX2.out ▸ str_is htt2_5
          replace HR2 := Hh (q_neg HR2.out (by simp [hc27, htt2_0, htt2_1, htt2_2, htt2_3, htt2_4, htt2_5]))
          replace HR2 := Hh (q_neg HR2.out (by simp [hc27, htt2_0, htt2_1, htt2_2, htt2_3, htt2_4, htt2_5]))
          replace HR2 := Hh (q_neg HR2.out (by simp [hc27, htt2_0, htt2_1, htt2_2, htt2_3, htt2_4, htt2_5]))
          replace HR2 := Hh (q_neg HR2.out (by simp [hc27, htt2_0, htt2_1, htt2_2, htt2_3, htt2_4, htt2_5]))
          replace HR2 := Hh (q_pos HR2.out (by simp [hc27, htt2_0, htt2_1, htt2_2, htt2_3, htt2_4, htt2_5]))
          refine ?S2b
         rotate_left 1
         ·have fxt2_5 : (x2.toList == [45, 45]) = false := HX2.out ▸ str_no htt2_5
          replace HR2 := Hh (q_neg HR2.out (by simp [hc27, htt2_0, htt2_1, htt2_2, htt2_3, htt2_4, htt2_5]))
          replace HR2 := Hh (q_neg HR2.out (by simp [hc27, htt2_0, htt2_1, htt2_2, htt2_3, htt2_4, htt2_5]))
          replace HR2 := Hh (q_neg HR2.out (by simp [hc27, htt2_0, htt2_1, htt2_2, htt2_3, htt2_4, htt2_5]))
          replace HR2 := Hh (q_neg HR2.out (by simp [hc27, htt2_0, htt2_1, htt2_2, htt2_3, htt2_4, htt2_5]))
          replace HR2 := Hh (q_neg HR2.out (by simp [hc27, htt2_0, htt2_1, htt2_2, htt2_3, htt2_4, htt2_5]))
          go_wp2_with fail
          try rw [hbt]
          exact ⟨rfl, .tuple #[], by simp [results, Tryz.results195, go_sem], q_ok (q_pure HR2.out) rfl HP2.out HK2.out⟩
        case S2a | S2b =>
         obtain ⟨hle15, hr15⟩ := q_step HR2.out HN.out
         obtain ⟨c1, f1, -⟩ := HPo2.out.at
         have hpb := HPo2.out.lt
         rw [hbt] at hpb
         obtain ⟨d0, d1⟩ := HBoarg2.out.cells
         have hbl1 := HBoarg2.out.lt
         rw [hbt] at hbl1
         have hne1 : ¬ E.pb = barg := HBoarg2.out.ne HPo2.out
         obtain ⟨q151, q152⟩ := HPo2.out.on hE hle15
         have hLn := hE.len
         obtain ⟨a15, hat15⟩ : ∃ a, Ps.at' s1 = a := ⟨_, rfl⟩
         rw [hat15] at c1 hle15 hr15 q151 q152
         have hi : a15 < 100000 := by omega
         obtain ⟨s15, hs15⟩ : ∃ t : Ps, (⟨a15 + 1, s1.done, s1.nm⟩ : Ps) = t := ⟨_, rfl⟩
         rw [hs15] at hr15 q151
         clear hs15
         have HR15 := Hh hr15
         have HP15 := Hh (q151.ext hE (below_alloc _ (.cells #[.int .i64 z2, .string x2] 54)))
         have hkx := KP.of_below (below_alloc (World.setCell w2 ⟨E.pb, 1, none⟩ (.int .i64 ((a15 + 1 : Nat) : Int))) (.cells #[.int .i64 z2, .string x2] 54))
         have HK15 := Hh (HKo2.out.trans (q152.trans hkx))
         have HBarg15 := Hh ((HBoarg2.out.kp q152).kp hkx)
         have HBt15 := Hh (hbt ▸ CtB.new' w2 ⟨E.pb, 1, none⟩ (.int .i64 ((a15 + 1 : Nat) : Int)) z2 x2)
         have HAT15 := Hh hat15
         clear q151 q152 hr15 hle15 hLn hat15 hkx
         go_wp2_with fail
         try rw [hbt]
         try clear c1 f1 hpb hi
         refine mR (wk_node hE 52 h _ _ HP15.out (qne HR15.out HN.out)) HR15 HN HK15 (fun _ _ h => ⟨rfl, h⟩) ?_
         rintro v16 s16 w16 HR16 HP16 hkk HK16
         have HBarg16 := Hh (HBarg15.out.kp hkk)
         have HBt16 := Hh (HBt15.out.kp hkk)
         clear hkk
         try clear d0 d1
         skip
         go_wp2_with fail
         go_roundg g1
         case measure => omega
         case rel => exact ⟨_, by omega, HR16.out, HP16.out, HK16.out, HBarg16.out⟩
      case S1a | S1b =>
       obtain ⟨hle9, hr9⟩ := q_step HR2.out HN.out
       obtain ⟨c1, f1, -⟩ := HPo2.out.at
       have hpb := HPo2.out.lt
       rw [hbt] at hpb
       obtain ⟨q91, q92⟩ := HPo2.out.on hE hle9
       have hLn := hE.len
       obtain ⟨a9, hat9⟩ : ∃ a, Ps.at' s1 = a := ⟨_, rfl⟩
       rw [hat9] at c1 hle9 hr9 q91 q92
       have hi : a9 < 100000 := by omega
       obtain ⟨s9, hs9⟩ : ∃ t : Ps, (⟨a9 + 1, s1.done, s1.nm⟩ : Ps) = t := ⟨_, rfl⟩
       rw [hs9] at hr9 q91
       clear hs9
       have HR9 := Hh hr9
       have HP9 := Hh (q91.ext hE (below_alloc _ (.cells #[.int .i64 z2, .string x2] 54)))
       have hkx := KP.of_below (below_alloc (World.setCell w2 ⟨E.pb, 1, none⟩ (.int .i64 ((a9 + 1 : Nat) : Int))) (.cells #[.int .i64 z2, .string x2] 54))
       have HK9 := Hh (HKo2.out.trans (q92.trans hkx))
       have HBarg9 := Hh ((HBoarg2.out.kp q92).kp hkx)
       have HBt9 := Hh (hbt ▸ CtB.new' w2 ⟨E.pb, 1, none⟩ (.int .i64 ((a9 + 1 : Nat) : Int)) z2 x2)
       have HAT9 := Hh hat9
       clear q91 q92 hr9 hle9 hLn hat9 hkx
       go_wp2_with fail
       try rw [hbt]
       try clear c1 f1 hpb hi
       refine (wk_name hE _ _ HP9.out).mono ?_
       intro e w10 he
       rcases qstepR (x := name' E.L) HR9.out HN.out HK9.out he with ⟨v10, s10, hr10, hxe10, rfl, hp10, hkk, hk10⟩ | ⟨hr10, ⟨z, rfl⟩, hb10, hk10⟩
       case' inr => exact ⟨rfl, q_no hr10 hb10 hk10⟩
       have HR10 := Hh hr10
       have HP10 := Hh hp10
       have HK10 := Hh hk10
       have HBarg10 := Hh (HBarg9.out.kp hkk)
       have HBt10 := Hh (HBt9.out.kp hkk)
       clear he hr10 hp10 hkk hk10
       have HLn10 := Hh (name_len hE hxe10)
       clear hxe10
       simp only [stV]
       obtain ⟨d0, d1⟩ := HBarg10.out.cells
       go_wp2_with fail
       refine mR (wk_node hE 51 h _ _ HP10.out (qne HR10.out HN.out)) HR10 HN HK10 (fun _ _ h => ⟨rfl, h⟩) ?_
       rintro v11 s11 w11 HR11 HP11 hkk HK11
       have HBarg11 := Hh (HBarg10.out.kp hkk)
       have HBt11 := Hh (HBt10.out.kp hkk)
       clear hkk
       try clear d0 d1
       skip
       go_wp2_with fail
       go_roundg g1
       case measure => omega
       case rel => exact ⟨_, by omega, HR11.out, HP11.out, HK11.out, HBarg11.out⟩
   ·have fc27 : (z2 == 7) = false := by rw [← HZ2.out, beq_eq_false_iff_ne]; omega
    have fn27 : (z2 != 7) = true := by rw [← HZ2.out, bne_iff_ne]; omega
    replace HR2 := Hh (q_pos HR2.out (by simp [hc27]))
    go_wp2_with fail
    try rw [hbt]
    exact ⟨rfl, .tuple #[], by simp [results, Tryz.results195, go_sem], q_ok (q_pure HR2.out) rfl HP2.out HK2.out⟩
end Go.Proofs.YtlboejdhmggjpaaGreat.Pp

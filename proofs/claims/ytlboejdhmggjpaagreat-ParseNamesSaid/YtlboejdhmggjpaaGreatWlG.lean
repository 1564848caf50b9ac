/- parse: keyword. -/
import Derived.Test.YtlboejdhmggjpaaGreatWlA
set_option linter.all false
namespace Go.Proofs.YtlboejdhmggjpaaGreat.Pp
set_option maxRecDepth 100000
set_option maxHeartbeats 16000000
open Go.RowKit Go.BigFrame Go.Proofs.YtlboejdhmggjpaaGreat

theorem w_keyword {E : En} (hE : E.ok) {n : Nat} (ih : ∀ m, m ≤ n → Wk E m) (x : Bs) (h : Nat × Nat) (s : Ps) (w : World) (hp : PW E w s) (hne : run E.L E.base (n + 1) (.keyword x h) s ≠ .out) : Calls Tryz.prog 160 #[.pointer (some ⟨E.pb, 0, none⟩), .string (str x), hdV h] w (EndQ E vaB w (run E.L E.base (n + 1) (.keyword x h) s)) := by
 obtain ⟨r, hr⟩ : ∃ r, run E.L E.base (n + 1) (.keyword x h) s = r := ⟨_, rfl⟩
 rw [hr] at hne ⊢
 rw [run] at hr
 have HN := Hh hne
 have HR0 := Hh hr
 have HP0 := Hh hp
 have HK0 := Hh (KP.refl w)
 have IH := Hh ih
 clear hne hr hp ih
 obtain ⟨xB, hxB⟩ : ∃ b, str x = b := ⟨_, rfl⟩
 rw [hxB]
 have HXarg := Hh hxB
 clear hxB
 have HPo0 := Hh HP0.out
 have HKo0 := Hh HK0.out
 simp only [hdV]
 go_enter Tryz.func160, Tryz.ntmps160
 have HBarg0 := Hh (HdB.new w h)
 have HPn := Hh (HP0.out.ext hE (below_alloc w (.cells #[.int .i64 h.1, .int .i64 h.2] 77)))
 have HKn := Hh (KP.of_below (below_alloc w (.cells #[.int .i64 h.1, .int .i64 h.2] 77)))
 clear HP0 HK0
 have HP0 := Hh HPn.out
 have HK0 := Hh HKn.out
 clear HPn HKn
 obtain ⟨barg, hbarg⟩ : ∃ b, w.heap.size = b := ⟨_, rfl⟩
 have q := HBarg0.out
 rw [hbarg] at q
 clear HBarg0
 have HBarg0 := Hh q
 clear q
 by_cases htx_0 : x = [99, 97, 115, 101]
 ·have fxx_0 : (xB.toList == [99, 97, 115, 101]) = true := HXarg.out ▸ str_is htx_0
  have fyx_0_1 : (xB.toList == [100, 101, 102, 97, 117, 108, 116]) = false := HXarg.out ▸ str_no (by rw [htx_0]; decide)
  have fyx_0_2 : (xB.toList == [103, 111, 116, 111]) = false := HXarg.out ▸ str_no (by rw [htx_0]; decide)
  have fyx_0_3 : (xB.toList == [99, 111, 110, 116, 105, 110, 117, 101]) = false := HXarg.out ▸ str_no (by rw [htx_0]; decide)
  have fyx_0_4 : (xB.toList == [98, 114, 101, 97, 107]) = false := HXarg.out ▸ str_no (by rw [htx_0]; decide)
  have fyx_0_5 : (xB.toList == [114, 101, 116, 117, 114, 110]) = false := HXarg.out ▸ str_no (by rw [htx_0]; decide)
  have fyx_0_6 : (xB.toList == [105, 102]) = false := HXarg.out ▸ str_no (by rw [htx_0]; decide)
  have fyx_0_7 : (xB.toList == [115, 119, 105, 116, 99, 104]) = false := HXarg.out ▸ str_no (by rw [htx_0]; decide)
  have fyx_0_8 : (xB.toList == [119, 104, 105, 108, 101]) = false := HXarg.out ▸ str_no (by rw [htx_0]; decide)
  have fyx_0_9 : (xB.toList == [100, 111]) = false := HXarg.out ▸ str_no (by rw [htx_0]; decide)
  have fyx_0_10 : (xB.toList == [102, 111, 114]) = false := HXarg.out ▸ str_no (by rw [htx_0]; decide)
  replace HR0 := Hh (q_pos HR0.out (by simp [htx_0]))
  obtain ⟨hle1, hr1⟩ := q_step HR0.out HN.out
  obtain ⟨c1, f1, -⟩ := HPo0.out.at
  have hpb := HPo0.out.lt
  rw [hbarg] at hpb
  obtain ⟨q11, q12⟩ := HPo0.out.on hE hle1
  have hLn := hE.len
  obtain ⟨a1, hat1⟩ : ∃ a, Ps.at' s = a := ⟨_, rfl⟩
  rw [hat1] at c1 hle1 hr1 q11 q12
  have hi : a1 < 100000 := by omega
  obtain ⟨s1, hs1⟩ : ∃ t : Ps, (⟨a1 + 1, s.done, s.nm⟩ : Ps) = t := ⟨_, rfl⟩
  rw [hs1] at hr1 q11
  clear hs1
  have HR1 := Hh hr1
  have HP1 := Hh (q11.ext hE (below_alloc _ (.cells #[.int .i64 h.1, .int .i64 h.2] 77)))
  have hkx := KP.of_below (below_alloc (World.setCell w ⟨E.pb, 1, none⟩ (.int .i64 ((a1 + 1 : Nat) : Int))) (.cells #[.int .i64 h.1, .int .i64 h.2] 77))
  have HK1 := Hh (HKo0.out.trans (q12.trans hkx))
  have HBarg1 := Hh (hbarg ▸ HdB.new' w ⟨E.pb, 1, none⟩ (.int .i64 ((a1 + 1 : Nat) : Int)) h)
  have HAT1 := Hh hat1
  clear q11 q12 hr1 hle1 hLn hat1 hkx
  go_wp2_with fail
  try rw [hbarg]
  try clear c1 f1 hpb hi
  refine mQ ((IH.out n (Nat.le_refl _)).f_choice  _ _ HP1.out (qne HR1.out HN.out)) HR1 HN HK1 (fun _ _ h => ⟨rfl, h⟩) ?_
  rintro v2 s2 y2 w2 HR2 rfl HP2 hkk HK2
  have HBarg2 := Hh (HBarg1.out.kp hkk)
  clear hkk
  go_wp2_with fail
  refine mR (wk_need hE [58] _ _ HP2.out) HR2 HN HK2 (fun _ _ h => ⟨rfl, h⟩) ?_
  rintro v3 s3 w3 HR3 HP3 hkk HK3
  have HBarg3 := Hh (HBarg2.out.kp hkk)
  clear hkk
  go_wp2_with fail
  refine mQ ((IH.out n (Nat.le_refl _)).f_statement  _ _ HP3.out (qne HR3.out HN.out)) HR3 HN HK3 (fun _ _ h => ⟨rfl, h⟩) ?_
  rintro v4 s4 y4 w4 HR4 rfl HP4 hkk HK4
  have HBarg4 := Hh (HBarg3.out.kp hkk)
  clear hkk
  obtain ⟨d0, d1⟩ := HBarg4.out.cells
  go_wp2_with fail
  refine mR (wk_node hE 24 h _ _ HP4.out (qne HR4.out HN.out)) HR4 HN HK4 (fun _ _ h => ⟨rfl, h⟩) ?_
  rintro v5 s5 w5 HR5 HP5 hkk HK5
  have HBarg5 := Hh (HBarg4.out.kp hkk)
  clear hkk
  try clear d0 d1
  skip
  go_wp2_with fail
  exact ⟨rfl, .bool true, by simp [results, Tryz.results160, go_sem], q_ok (q_pure HR5.out) rfl HP5.out HK5.out⟩
 ·have fxx_0 : (xB.toList == [99, 97, 115, 101]) = false := HXarg.out ▸ str_no htx_0
  by_cases htx_1 : x = [100, 101, 102, 97, 117, 108, 116]
  ·have fxx_1 : (xB.toList == [100, 101, 102, 97, 117, 108, 116]) = true := HXarg.out ▸ str_is htx_1
   have fyx_1_2 : (xB.toList == [103, 111, 116, 111]) = false := HXarg.out ▸ str_no (by rw [htx_1]; decide)
   have fyx_1_3 : (xB.toList == [99, 111, 110, 116, 105, 110, 117, 101]) = false := HXarg.out ▸ str_no (by rw [htx_1]; decide)
   have fyx_1_4 : (xB.toList == [98, 114, 101, 97, 107]) = false := HXarg.out ▸ str_no (by rw [htx_1]; decide)
   have fyx_1_5 : (xB.toList == [114, 101, 116, 117, 114, 110]) = false := HXarg.out ▸ str_no (by rw [htx_1]; decide)
   have fyx_1_6 : (xB.toList == [105, 102]) = false := HXarg.out ▸ str_no (by rw [htx_1]; decide)
   have fyx_1_7 : (xB.toList == [115, 119, 105, 116, 99, 104]) = false := HXarg.out ▸ str_no (by rw [htx_1]; decide)
   have fyx_1_8 : (xB.toList == [119, 104, 105, 108, 101]) = false := HXarg.out ▸ str_no (by rw [htx_1]; decide)
   have fyx_1_9 : (xB.toList == [100, 111]) = false := HXarg.out ▸ str_no (by rw [htx_1]; decide)
   have fyx_1_10 : (xB.toList == [102, 111, 114]) = false := HXarg.out ▸ str_no (by rw [htx_1]; decide)
   replace HR0 := Hh (q_neg HR0.out (by simp [htx_0, htx_1]))
   replace HR0 := Hh (q_pos HR0.out (by simp [htx_0, htx_1]))
   obtain ⟨hle6, hr6⟩ := q_step HR0.out HN.out
   obtain ⟨c1, f1, -⟩ := HPo0.out.at
   have hpb := HPo0.out.lt
   rw [hbarg] at hpb
   obtain ⟨q61, q62⟩ := HPo0.out.on hE hle6
   have hLn := hE.len
   obtain ⟨a6, hat6⟩ : ∃ a, Ps.at' s = a := ⟨_, rfl⟩
   rw [hat6] at c1 hle6 hr6 q61 q62
   have hi : a6 < 100000 := by omega
   obtain ⟨s6, hs6⟩ : ∃ t : Ps, (⟨a6 + 1, s.done, s.nm⟩ : Ps) = t := ⟨_, rfl⟩
   rw [hs6] at hr6 q61
   clear hs6
   have HR6 := Hh hr6
   have HP6 := Hh (q61.ext hE (below_alloc _ (.cells #[.int .i64 h.1, .int .i64 h.2] 77)))
   have hkx := KP.of_below (below_alloc (World.setCell w ⟨E.pb, 1, none⟩ (.int .i64 ((a6 + 1 : Nat) : Int))) (.cells #[.int .i64 h.1, .int .i64 h.2] 77))
   have HK6 := Hh (HKo0.out.trans (q62.trans hkx))
   have HBarg6 := Hh (hbarg ▸ HdB.new' w ⟨E.pb, 1, none⟩ (.int .i64 ((a6 + 1 : Nat) : Int)) h)
   have HAT6 := Hh hat6
   clear q61 q62 hr6 hle6 hLn hat6 hkx
   go_wp2_with fail
   try rw [hbarg]
   try clear c1 f1 hpb hi
   refine mR (wk_need hE [58] _ _ HP6.out) HR6 HN HK6 (fun _ _ h => ⟨rfl, h⟩) ?_
   rintro v7 s7 w7 HR7 HP7 hkk HK7
   have HBarg7 := Hh (HBarg6.out.kp hkk)
   clear hkk
   go_wp2_with fail
   refine mQ ((IH.out n (Nat.le_refl _)).f_statement  _ _ HP7.out (qne HR7.out HN.out)) HR7 HN HK7 (fun _ _ h => ⟨rfl, h⟩) ?_
   rintro v8 s8 y8 w8 HR8 rfl HP8 hkk HK8
   have HBarg8 := Hh (HBarg7.out.kp hkk)
   clear hkk
   obtain ⟨d0, d1⟩ := HBarg8.out.cells
   go_wp2_with fail
   refine mR (wk_node hE 25 h _ _ HP8.out (qne HR8.out HN.out)) HR8 HN HK8 (fun _ _ h => ⟨rfl, h⟩) ?_
   rintro v9 s9 w9 HR9 HP9 hkk HK9
   have HBarg9 := Hh (HBarg8.out.kp hkk)
   clear hkk
   try clear d0 d1
   skip
   go_wp2_with fail
   exact ⟨rfl, .bool true, by simp [results, Tryz.results160, go_sem], q_ok (q_pure HR9.out) rfl HP9.out HK9.out⟩
  ·have fxx_1 : (xB.toList == [100, 101, 102, 97, 117, 108, 116]) = false := HXarg.out ▸ str_no htx_1
   by_cases htx_2 : x = [103, 111, 116, 111]
   ·have fxx_2 : (xB.toList == [103, 111, 116, 111]) = true := HXarg.out ▸ str_is htx_2
    have fyx_2_3 : (xB.toList == [99, 111, 110, 116, 105, 110, 117, 101]) = false := HXarg.out ▸ str_no (by rw [htx_2]; decide)
    have fyx_2_4 : (xB.toList == [98, 114, 101, 97, 107]) = false := HXarg.out ▸ str_no (by rw [htx_2]; decide)
    have fyx_2_5 : (xB.toList == [114, 101, 116, 117, 114, 110]) = false := HXarg.out ▸ str_no (by rw [htx_2]; decide)
    have fyx_2_6 : (xB.toList == [105, 102]) = false := HXarg.out ▸ str_no (by rw [htx_2]; decide)
    have fyx_2_7 : (xB.toList == [115, 119, 105, 116, 99, 104]) = false := HXarg.out ▸ str_no (by rw [htx_2]; decide)
    have fyx_2_8 : (xB.toList == [119, 104, 105, 108, 101]) = false := HXarg.out ▸ str_no (by rw [htx_2]; decide)
    have fyx_2_9 : (xB.toList == [100, 111]) = false := HXarg.out ▸ str_no (by rw [htx_2]; decide)
    have fyx_2_10 : (xB.toList == [102, 111, 114]) = false := HXarg.out ▸ str_no (by rw [htx_2]; decide)
    replace HR0 := Hh (q_neg HR0.out (by simp [htx_0, htx_1, htx_2]))
    replace HR0 := Hh (q_neg HR0.out (by simp [htx_0, htx_1, htx_2]))
    replace HR0 := Hh (q_pos HR0.out (by simp [htx_0, htx_1, htx_2]))
    obtain ⟨hle10, hr10⟩ := q_step HR0.out HN.out
    obtain ⟨c1, f1, -⟩ := HPo0.out.at
    have hpb := HPo0.out.lt
    rw [hbarg] at hpb
    obtain ⟨q101, q102⟩ := HPo0.out.on hE hle10
    have hLn := hE.len
    obtain ⟨a10, hat10⟩ : ∃ a, Ps.at' s = a := ⟨_, rfl⟩
    rw [hat10] at c1 hle10 hr10 q101 q102
    have hi : a10 < 100000 := by omega
    obtain ⟨s10, hs10⟩ : ∃ t : Ps, (⟨a10 + 1, s.done, s.nm⟩ : Ps) = t := ⟨_, rfl⟩
    rw [hs10] at hr10 q101
    clear hs10
    have HR10 := Hh hr10
    have HP10 := Hh (q101.ext hE (below_alloc _ (.cells #[.int .i64 h.1, .int .i64 h.2] 77)))
    have hkx := KP.of_below (below_alloc (World.setCell w ⟨E.pb, 1, none⟩ (.int .i64 ((a10 + 1 : Nat) : Int))) (.cells #[.int .i64 h.1, .int .i64 h.2] 77))
    have HK10 := Hh (HKo0.out.trans (q102.trans hkx))
    have HBarg10 := Hh (hbarg ▸ HdB.new' w ⟨E.pb, 1, none⟩ (.int .i64 ((a10 + 1 : Nat) : Int)) h)
    have HAT10 := Hh hat10
    clear q101 q102 hr10 hle10 hLn hat10 hkx
    go_wp2_with fail
    try rw [hbarg]
    try clear c1 f1 hpb hi
    refine (wk_name hE _ _ HP10.out).mono ?_
    intro e w11 he
    rcases qstepR (x := name' E.L) HR10.out HN.out HK10.out he with ⟨v11, s11, hr11, hxe11, rfl, hp11, hkk, hk11⟩ | ⟨hr11, ⟨z, rfl⟩, hb11, hk11⟩
    case' inr => exact ⟨rfl, q_no hr11 hb11 hk11⟩
    have HR11 := Hh hr11
    have HP11 := Hh hp11
    have HK11 := Hh hk11
    have HBarg11 := Hh (HBarg10.out.kp hkk)
    clear he hr11 hp11 hkk hk11
    have HLn11 := Hh (name_len hE hxe11)
    clear hxe11
    simp only [stV]
    go_wp2_with fail
    refine mR (wk_need hE [59] _ _ HP11.out) HR11 HN HK11 (fun _ _ h => ⟨rfl, h⟩) ?_
    rintro v12 s12 w12 HR12 HP12 hkk HK12
    have HBarg12 := Hh (HBarg11.out.kp hkk)
    clear hkk
    obtain ⟨d0, d1⟩ := HBarg12.out.cells
    go_wp2_with fail
    refine mR (wk_node hE 32 h _ _ HP12.out (qne HR12.out HN.out)) HR12 HN HK12 (fun _ _ h => ⟨rfl, h⟩) ?_
    rintro v13 s13 w13 HR13 HP13 hkk HK13
    have HBarg13 := Hh (HBarg12.out.kp hkk)
    clear hkk
    try clear d0 d1
    skip
    go_wp2_with fail
    exact ⟨rfl, .bool true, by simp [results, Tryz.results160, go_sem], q_ok (q_pure HR13.out) rfl HP13.out HK13.out⟩
   ·have fxx_2 : (xB.toList == [103, 111, 116, 111]) = false := HXarg.out ▸ str_no htx_2
    by_cases htx_3 : x = [99, 111, 110, 116, 105, 110, 117, 101]
    focus
     have fxx_3 : (xB.toList == [99, 111, 110, 116, 105, 110, 117, 101]) = true := HXarg.out ▸ str_is htx_3
     have fyx_3_4 : (xB.toList == [98, 114, 101, 97, 107]) = false := HXarg.out ▸ str_no (by rw [htx_3]; decide)
     have fyx_3_5 : (xB.toList == [114, 101, 116, 117, 114, 110]) = false := HXarg.out ▸ str_no (by rw [htx_3]; decide)
     have fyx_3_6 : (xB.toList == [105, 102]) = false := HXarg.out ▸ str_no (by rw [htx_3]; decide)
     have fyx_3_7 : (xB.toList == [115, 119, 105, 116, 99, 104]) = false := HXarg.out ▸ str_no (by rw [htx_3]; decide)
     have fyx_3_8 : (xB.toList == [119, 104, 105, 108, 101]) = false := HXarg.out ▸ str_no (by rw [htx_3]; decide)
     have fyx_3_9 : (xB.toList == [100, 111]) = false := HXarg.out ▸ str_no (by rw [htx_3]; decide)
     have fyx_3_10 : (xB.toList == [102, 111, 114]) = false := HXarg.out ▸ str_no (by rw [htx_3]; decide)
     replace HR0 := Hh (q_neg HR0.out (by simp [htx_0, htx_1, htx_2, htx_3]))
     replace HR0 := Hh (q_neg HR0.out (by simp [htx_0, htx_1, htx_2, htx_3]))
     replace HR0 := Hh (q_neg HR0.out (by simp [htx_0, htx_1, htx_2, htx_3]))
     replace HR0 := Hh (q_pos HR0.out (by simp [htx_0, htx_1, htx_2, htx_3]))
     refine ?S2a
    rotate_left 1
    focus
     have fxx_3 : (xB.toList == [99, 111, 110, 116, 105, 110, 117, 101]) = false := HXarg.out ▸ str_no htx_3
     by_cases htx_4 : x = [98, 114, 101, 97, 107]
     focus
      have fxx_4 : (xB.toList == [98, 114, 101, 97, 107]) = true := HXarg.out ▸ str_is htx_4
      have fyx_4_5 : (xB.toList == [114, 101, 116, 117, 114, 110]) = false := HXarg.out ▸ str_no (by rw [htx_4]; decide)
      have fyx_4_6 : (xB.toList == [105, 102]) = false := HXarg.out ▸ str_no (by rw [htx_4]; decide)
      have fyx_4_7 : (xB.toList == [115, 119, 105, 116, 99, 104]) = false := HXarg.out ▸ str_no (by rw [htx_4]; decide)
      have fyx_4_8 : (xB.toList == [119, 104, 105, 108, 101]) = false := HXarg.out ▸ str_no (by rw [htx_4]; decide)
      have fyx_4_9 : (xB.toList == [100, 111]) = false := HXarg.out ▸ str_no (by rw [htx_4]; decide)
      have fyx_4_10 : (xB.toList == [102, 111, 114]) = false := HXarg.out ▸ str_no (by rw [htx_4]; decide)
      replace HR0 := Hh (q_neg HR0.out (by simp [htx_0, htx_1, htx_2, htx_3, htx_4]))
      replace HR0 := Hh (q_neg HR0.out (by simp [htx_0, htx_1, htx_2, htx_3, htx_4]))
      replace HR0 := Hh (q_neg HR0.out (by simp [htx_0, htx_1, htx_2, htx_3, htx_4]))
      replace HR0 := Hh (q_pos HR0.out (by simp [htx_0, htx_1, htx_2, htx_3, htx_4]))
      refine ?S2b
     rotate_left 1
     ·have fxx_4 : (xB.toList == [98, 114, 101, 97, 107]) = false := HXarg.out ▸ str_no htx_4
      by_cases htx_5 : x = [114, 101, 116, 117, 114, 110]
      ·have fxx_5 : (xB.toList == [114, 101, 116, 117, 114, 110]) = true := HXarg.out ▸ str_is htx_5
       have fyx_5_6 : (xB.toList == [105, 102]) = false := HXarg.out ▸ str_no (by rw [htx_5]; decide)
       have fyx_5_7 : (xB.toList == [115, 119, 105, 116, 99, 104]) = false := HXarg.out ▸ str_no (by rw [htx_5]; decide)
       have fyx_5_8 : (xB.toList == [119, 104, 105, 108, 101]) = false := HXarg.out ▸ str_no (by rw [htx_5]; decide)
       have fyx_5_9 : (xB.toList == [100, 111]) = false := HXarg.out ▸ str_no (by rw [htx_5]; decide)
       have fyx_5_10 : (xB.toList == [102, 111, 114]) = false := HXarg.out ▸ str_no (by rw [htx_5]; decide)
       replace HR0 := Hh (q_neg HR0.out (by simp [htx_0, htx_1, htx_2, htx_3, htx_4, htx_5]))
       replace HR0 := Hh (q_neg HR0.out (by simp [htx_0, htx_1, htx_2, htx_3, htx_4, htx_5]))
       replace HR0 := Hh (q_neg HR0.out (by simp [htx_0, htx_1, htx_2, htx_3, htx_4, htx_5]))
       replace HR0 := Hh (q_neg HR0.out (by simp [htx_0, htx_1, htx_2, htx_3, htx_4, htx_5]))
       replace HR0 := Hh (q_pos HR0.out (by simp [htx_0, htx_1, htx_2, htx_3, htx_4, htx_5]))
       obtain ⟨hle20, hr20⟩ := q_step HR0.out HN.out
       obtain ⟨c1, f1, -⟩ := HPo0.out.at
       have hpb := HPo0.out.lt
       rw [hbarg] at hpb
       obtain ⟨q201, q202⟩ := HPo0.out.on hE hle20
       have hLn := hE.len
       obtain ⟨a20, hat20⟩ : ∃ a, Ps.at' s = a := ⟨_, rfl⟩
       rw [hat20] at c1 hle20 hr20 q201 q202
       have hi : a20 < 100000 := by omega
       obtain ⟨s20, hs20⟩ : ∃ t : Ps, (⟨a20 + 1, s.done, s.nm⟩ : Ps) = t := ⟨_, rfl⟩
       rw [hs20] at hr20 q201
       clear hs20
       have HR20 := Hh hr20
       have HP20 := Hh (q201.ext hE (below_alloc _ (.cells #[.int .i64 h.1, .int .i64 h.2] 77)))
       have hkx := KP.of_below (below_alloc (World.setCell w ⟨E.pb, 1, none⟩ (.int .i64 ((a20 + 1 : Nat) : Int))) (.cells #[.int .i64 h.1, .int .i64 h.2] 77))
       have HK20 := Hh (HKo0.out.trans (q202.trans hkx))
       have HBarg20 := Hh (hbarg ▸ HdB.new' w ⟨E.pb, 1, none⟩ (.int .i64 ((a20 + 1 : Nat) : Int)) h)
       have HAT20 := Hh hat20
       clear q201 q202 hr20 hle20 hLn hat20 hkx
       go_wp2_with fail
       try rw [hbarg]
       try clear c1 f1 hpb hi
       refine mQ ((IH.out n (Nat.le_refl _)).f_until [59] _ _ HP20.out (qne HR20.out HN.out)) HR20 HN HK20 (fun _ _ h => ⟨rfl, h⟩) ?_
       rintro v21 s21 y21 w21 HR21 rfl HP21 hkk HK21
       have HBarg21 := Hh (HBarg20.out.kp hkk)
       clear hkk
       obtain ⟨d0, d1⟩ := HBarg21.out.cells
       go_wp2_with fail
       refine mR (wk_node hE 32 h _ _ HP21.out (qne HR21.out HN.out)) HR21 HN HK21 (fun _ _ h => ⟨rfl, h⟩) ?_
       rintro v22 s22 w22 HR22 HP22 hkk HK22
       have HBarg22 := Hh (HBarg21.out.kp hkk)
       clear hkk
       try clear d0 d1
       skip
       go_wp2_with fail
       exact ⟨rfl, .bool true, by simp [results, Tryz.results160, go_sem], q_ok (q_pure HR22.out) rfl HP22.out HK22.out⟩
      ·have fxx_5 : (xB.toList == [114, 101, 116, 117, 114, 110]) = false := HXarg.out ▸ str_no htx_5
       by_cases htx_6 : x = [105, 102]
       focus
        have fxx_6 : (xB.toList == [105, 102]) = true := HXarg.out ▸ str_is htx_6
        have fyx_6_7 : (xB.toList == [115, 119, 105, 116, 99, 104]) = false := HXarg.out ▸ str_no (by rw [htx_6]; decide)
        have fyx_6_8 : (xB.toList == [119, 104, 105, 108, 101]) = false := HXarg.out ▸ str_no (by rw [htx_6]; decide)
        have fyx_6_9 : (xB.toList == [100, 111]) = false := HXarg.out ▸ str_no (by rw [htx_6]; decide)
        have fyx_6_10 : (xB.toList == [102, 111, 114]) = false := HXarg.out ▸ str_no (by rw [htx_6]; decide)
        replace HR0 := Hh (q_neg HR0.out (by simp [htx_0, htx_1, htx_2, htx_3, htx_4, htx_5, htx_6]))
        replace HR0 := Hh (q_neg HR0.out (by simp [htx_0, htx_1, htx_2, htx_3, htx_4, htx_5, htx_6]))
        replace HR0 := Hh (q_neg HR0.out (by simp [htx_0, htx_1, htx_2, htx_3, htx_4, htx_5, htx_6]))
        replace HR0 := Hh (q_neg HR0.out (by simp [htx_0, htx_1, htx_2, htx_3, htx_4, htx_5, htx_6]))
        replace HR0 := Hh (q_neg HR0.out (by simp [htx_0, htx_1, htx_2, htx_3, htx_4, htx_5, htx_6]))
        replace HR0 := Hh (q_pos HR0.out (by simp [htx_0, htx_1, htx_2, htx_3, htx_4, htx_5, htx_6]))
        refine ?S1a
       rotate_left 1
       focus
        have fxx_6 : (xB.toList == [105, 102]) = false := HXarg.out ▸ str_no htx_6
        by_cases htx_7 : x = [115, 119, 105, 116, 99, 104]
        focus
         have fxx_7 : (xB.toList == [115, 119, 105, 116, 99, 104]) = true := HXarg.out ▸ str_is htx_7
         have fyx_7_8 : (xB.toList == [119, 104, 105, 108, 101]) = false := HXarg.out ▸ str_no (by rw [htx_7]; decide)
         have fyx_7_9 : (xB.toList == [100, 111]) = false := HXarg.out ▸ str_no (by rw [htx_7]; decide)
         have fyx_7_10 : (xB.toList == [102, 111, 114]) = false := HXarg.out ▸ str_no (by rw [htx_7]; decide)
         replace HR0 := Hh (q_neg HR0.out (by simp [htx_0, htx_1, htx_2, htx_3, htx_4, htx_5, htx_6, htx_7]))
         replace HR0 := Hh (q_neg HR0.out (by simp [htx_0, htx_1, htx_2, htx_3, htx_4, htx_5, htx_6, htx_7]))
         replace HR0 := Hh (q_neg HR0.out (by simp [htx_0, htx_1, htx_2, htx_3, htx_4, htx_5, htx_6, htx_7]))
         replace HR0 := Hh (q_neg HR0.out (by simp [htx_0, htx_1, htx_2, htx_3, htx_4, htx_5, htx_6, htx_7]))
         replace HR0 := Hh (q_neg HR0.out (by simp [htx_0, htx_1, htx_2, htx_3, htx_4, htx_5, htx_6, htx_7]))
         replace HR0 := Hh (q_pos HR0.out (by simp [htx_0, htx_1, htx_2, htx_3, htx_4, htx_5, htx_6, htx_7]))
         refine ?S1b
        rotate_left 1
        focus
         have fxx_7 : (xB.toList == [115, 119, 105, 116, 99, 104]) = false := HXarg.out ▸ str_no htx_7
         by_cases htx_8 : x = [119, 104, 105, 108, 101]
         focus
          have fxx_8 : (xB.toList == [119, 104, 105, 108, 101]) = true := HXarg.out ▸ str_is htx_8
          have fyx_8_9 : (xB.toList == [100, 111]) = false := HXarg.out ▸ str_no (by rw [htx_8]; decide)
          have fyx_8_10 : (xB.toList == [102, 111, 114]) = false := HXarg.out ▸ str_no (by rw [htx_8]; decide)
          replace HR0 := Hh (q_neg HR0.out (by simp [htx_0, htx_1, htx_2, htx_3, htx_4, htx_5, htx_6, htx_7, htx_8]))
          replace HR0 := Hh (q_neg HR0.out (by simp [htx_0, htx_1, htx_2, htx_3, htx_4, htx_5, htx_6, htx_7, htx_8]))
          replace HR0 := Hh (q_neg HR0.out (by simp [htx_0, htx_1, htx_2, htx_3, htx_4, htx_5, htx_6, htx_7, htx_8]))
          replace HR0 := Hh (q_neg HR0.out (by simp [htx_0, htx_1, htx_2, htx_3, htx_4, htx_5, htx_6, htx_7, htx_8]))
          replace HR0 := Hh (q_neg HR0.out (by simp [htx_0, htx_1, htx_2, htx_3, htx_4, htx_5, htx_6, htx_7, htx_8]))
          replace HR0 := Hh (q_pos HR0.out (by simp [htx_0, htx_1, htx_2, htx_3, htx_4, htx_5, htx_6, htx_7, htx_8]))
          refine ?S1c
         rotate_left 1
         focus
          have fxx_8 : (xB.toList == [119, 104, 105, 108, 101]) = false := HXarg.out ▸ str_no htx_8
          by_cases htx_9 : x = [100, 111]
          focus
           have fxx_9 : (xB.toList == [100, 111]) = true := HXarg.out ▸ str_is htx_9
           have fyx_9_10 : (xB.toList == [102, 111, 114]) = false := HXarg.out ▸ str_no (by rw [htx_9]; decide)
           replace HR0 := Hh (q_neg HR0.out (by simp [htx_0, htx_1, htx_2, htx_3, htx_4, htx_5, htx_6, htx_7, htx_8, htx_9]))
           replace HR0 := Hh (q_neg HR0.out (by simp [htx_0, htx_1, htx_2, htx_3, htx_4, htx_5, htx_6, htx_7, htx_8, htx_9]))
           replace HR0 := Hh (q_neg HR0.out (by simp [htx_0, htx_1, htx_2, htx_3, htx_4, htx_5, htx_6, htx_7, htx_8, htx_9]))
           replace HR0 := Hh (q_neg HR0.out (by simp [htx_0, htx_1, htx_2, htx_3, htx_4, htx_5, htx_6, htx_7, htx_8, htx_9]))
           replace HR0 := Hh (q_neg HR0.out (by simp [htx_0, htx_1, htx_2, htx_3, htx_4, htx_5, htx_6, htx_7, htx_8, htx_9]))
           replace HR0 := Hh (q_pos HR0.out (by simp [htx_0, htx_1, htx_2, htx_3, htx_4, htx_5, htx_6, htx_7, htx_8, htx_9]))
           refine ?S1d
          rotate_left 1
          focus
           have fxx_9 : (xB.toList == [100, 111]) = false := HXarg.out ▸ str_no htx_9
           by_cases htx_10 : x = [102, 111, 114]
           focus
            have fxx_10 : (xB.toList == [102, 111, 114]) = true := HXarg.out ▸ str_is htx_10
            replace HR0 := Hh (q_neg HR0.out (by simp [htx_0, htx_1, htx_2, htx_3, htx_4, htx_5, htx_6, htx_7, htx_8, htx_9, htx_10]))
            replace HR0 := Hh (q_neg HR0.out (by simp [htx_0, htx_1, htx_2, htx_3, htx_4, htx_5, htx_6, htx_7, htx_8, htx_9, htx_10]))
            replace HR0 := Hh (q_neg HR0.out (by simp [htx_0, htx_1, htx_2, htx_3, htx_4, htx_5, htx_6, htx_7, htx_8, htx_9, htx_10]))
            replace HR0 := Hh (q_neg HR0.out (by simp [htx_0, htx_1, htx_2, htx_3, htx_4, htx_5, htx_6, htx_7, htx_8, htx_9, htx_10]))
            replace HR0 := Hh (q_neg HR0.out (by simp [htx_0, htx_1, htx_2, htx_3, htx_4, htx_5, htx_6, htx_7, htx_8, htx_9, htx_10]))
            replace HR0 := Hh (q_pos HR0.out (by simp [htx_0, htx_1, htx_2, htx_3, htx_4, htx_5, htx_6, htx_7, htx_8, htx_9, htx_10]))
            refine ?S1e
           rotate_left 1
           ·have fxx_10 : (xB.toList == [102, 111, 114]) = false := HXarg.out ▸ str_no htx_10
            replace HR0 := Hh (q_neg HR0.out (by simp [htx_0, htx_1, htx_2, htx_3, htx_4, htx_5, htx_6, htx_7, htx_8, htx_9, htx_10]))
            replace HR0 := Hh (q_neg HR0.out (by simp [htx_0, htx_1, htx_2, htx_3, htx_4, htx_5, htx_6, htx_7, htx_8, htx_9, htx_10]))
            replace HR0 := Hh (q_neg HR0.out (by simp [htx_0, htx_1, htx_2, htx_3, htx_4, htx_5, htx_6, htx_7, htx_8, htx_9, htx_10]))
            replace HR0 := Hh (q_neg HR0.out (by simp [htx_0, htx_1, htx_2, htx_3, htx_4, htx_5, htx_6, htx_7, htx_8, htx_9, htx_10]))
            replace HR0 := Hh (q_neg HR0.out (by simp [htx_0, htx_1, htx_2, htx_3, htx_4, htx_5, htx_6, htx_7, htx_8, htx_9, htx_10]))
            replace HR0 := Hh (q_neg HR0.out (by simp [htx_0, htx_1, htx_2, htx_3, htx_4, htx_5, htx_6, htx_7, htx_8, htx_9, htx_10]))
            go_wp2_with fail
            try rw [hbarg]
            exact ⟨rfl, .bool false, by simp [results, Tryz.results160, go_sem], q_ok (q_pure HR0.out) rfl HP0.out HK0.out⟩
       case S1a | S1b | S1c | S1d | S1e =>
        obtain ⟨hle23, hr23⟩ := q_step HR0.out HN.out
        obtain ⟨c1, f1, -⟩ := HPo0.out.at
        have hpb := HPo0.out.lt
        rw [hbarg] at hpb
        obtain ⟨q231, q232⟩ := HPo0.out.on hE hle23
        have hLn := hE.len
        obtain ⟨a23, hat23⟩ : ∃ a, Ps.at' s = a := ⟨_, rfl⟩
        rw [hat23] at c1 hle23 hr23 q231 q232
        have hi : a23 < 100000 := by omega
        obtain ⟨s23, hs23⟩ : ∃ t : Ps, (⟨a23 + 1, s.done, s.nm⟩ : Ps) = t := ⟨_, rfl⟩
        rw [hs23] at hr23 q231
        clear hs23
        have HR23 := Hh hr23
        have HP23 := Hh (q231.ext hE (below_alloc _ (.cells #[.int .i64 h.1, .int .i64 h.2] 77)))
        have hkx := KP.of_below (below_alloc (World.setCell w ⟨E.pb, 1, none⟩ (.int .i64 ((a23 + 1 : Nat) : Int))) (.cells #[.int .i64 h.1, .int .i64 h.2] 77))
        have HK23 := Hh (HKo0.out.trans (q232.trans hkx))
        have HBarg23 := Hh (hbarg ▸ HdB.new' w ⟨E.pb, 1, none⟩ (.int .i64 ((a23 + 1 : Nat) : Int)) h)
        have HAT23 := Hh hat23
        clear q231 q232 hr23 hle23 hLn hat23 hkx
        go_wp2_with fail
        try rw [hbarg]
        try clear c1 f1 hpb hi
        refine mR (wk_open hE _ _ HP23.out (qne HR23.out HN.out)) HR23 HN HK23 (fun _ _ h => ⟨rfl, h⟩) ?_
        rintro v24 s24 w24 HR24 HP24 hkk HK24
        have HBarg24 := Hh (HBarg23.out.kp hkk)
        clear hkk
        obtain ⟨d0, d1⟩ := HBarg24.out.cells
        go_wp2_with fail
        have hc := (IH.out n (Nat.le_refl _)).f_compound x h _ _ HP24.out (qne HR24.out HN.out)
        rw [HXarg.out] at hc
        have HC := Hh hc
        clear hc
        refine mQ (HC.out) HR24 HN HK24 (fun _ _ h => ⟨rfl, h⟩) ?_
        rintro v25 s25 y25 w25 HR25 rfl HP25 hkk HK25
        have HBarg25 := Hh (HBarg24.out.kp hkk)
        clear hkk
        clear HC
        go_wp2_with fail
        refine mR (wk_close hE _ _ HP25.out (qne HR25.out HN.out)) HR25 HN HK25 (fun _ _ h => ⟨rfl, h⟩) ?_
        rintro v26 s26 w26 HR26 HP26 hkk HK26
        have HBarg26 := Hh (HBarg25.out.kp hkk)
        clear hkk
        go_wp2_with fail
        exact ⟨rfl, .bool true, by simp [results, Tryz.results160, go_sem], q_ok (q_pure HR26.out) rfl HP26.out HK26.out⟩
    case S2a | S2b =>
     obtain ⟨hle14, hr14⟩ := q_step HR0.out HN.out
     obtain ⟨c1, f1, -⟩ := HPo0.out.at
     have hpb := HPo0.out.lt
     rw [hbarg] at hpb
     obtain ⟨q141, q142⟩ := HPo0.out.on hE hle14
     have hLn := hE.len
     obtain ⟨a14, hat14⟩ : ∃ a, Ps.at' s = a := ⟨_, rfl⟩
     rw [hat14] at c1 hle14 hr14 q141 q142
     have hi : a14 < 100000 := by omega
     obtain ⟨s14, hs14⟩ : ∃ t : Ps, (⟨a14 + 1, s.done, s.nm⟩ : Ps) = t := ⟨_, rfl⟩
     rw [hs14] at hr14 q141
     clear hs14
     have HR14 := Hh hr14
     have HP14 := Hh (q141.ext hE (below_alloc _ (.cells #[.int .i64 h.1, .int .i64 h.2] 77)))
     have hkx := KP.of_below (below_alloc (World.setCell w ⟨E.pb, 1, none⟩ (.int .i64 ((a14 + 1 : Nat) : Int))) (.cells #[.int .i64 h.1, .int .i64 h.2] 77))
     have HK14 := Hh (HKo0.out.trans (q142.trans hkx))
     have HBarg14 := Hh (hbarg ▸ HdB.new' w ⟨E.pb, 1, none⟩ (.int .i64 ((a14 + 1 : Nat) : Int)) h)
     have HAT14 := Hh hat14
     clear q141 q142 hr14 hle14 hLn hat14 hkx
     go_wp2_with fail
     try rw [hbarg]
     try clear c1 f1 hpb hi
     refine mR (wk_need hE [59] _ _ HP14.out) HR14 HN HK14 (fun _ _ h => ⟨rfl, h⟩) ?_
     rintro v15 s15 w15 HR15 HP15 hkk HK15
     have HBarg15 := Hh (HBarg14.out.kp hkk)
     clear hkk
     obtain ⟨d0, d1⟩ := HBarg15.out.cells
     go_wp2_with fail
     refine mR (wk_node hE 32 h _ _ HP15.out (qne HR15.out HN.out)) HR15 HN HK15 (fun _ _ h => ⟨rfl, h⟩) ?_
     rintro v16 s16 w16 HR16 HP16 hkk HK16
     have HBarg16 := Hh (HBarg15.out.kp hkk)
     clear hkk
     try clear d0 d1
     skip
     go_wp2_with fail
     exact ⟨rfl, .bool true, by simp [results, Tryz.results160, go_sem], q_ok (q_pure HR16.out) rfl HP16.out HK16.out⟩
end Go.Proofs.YtlboejdhmggjpaaGreat.Pp

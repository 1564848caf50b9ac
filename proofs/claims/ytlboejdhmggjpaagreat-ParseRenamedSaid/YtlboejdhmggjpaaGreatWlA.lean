/- parse: unary. -/
import Derived.Test.YtlboejdhmggjpaaGreatWkP
import Derived.Test.YtlboejdhmggjpaaGreatWkR
import Derived.Test.YtlboejdhmggjpaaGreatWkY
set_option linter.all false
namespace Go.Proofs.YtlboejdhmggjpaaGreat.Pp
set_option maxRecDepth 100000
set_option maxHeartbeats 16000000
open Go.RowKit Go.BigFrame Go.Proofs.YtlboejdhmggjpaaGreat

theorem spec_cases (t : Bs) : spec t = 0 ∨ spec t = 1 ∨ spec t = 2 ∨ spec t = 3 ∨ spec t = 4 ∨ spec t = 5 ∨ spec t = 6 ∨ spec t = 7 := by unfold spec; (repeat' split) <;> simp
theorem HdB.lt {w : World} {b : Nat} {h : Nat × Nat} (hb : HdB w b h) : b < w.heap.size := (Array.getElem?_eq_some_iff.1 hb).1
theorem HdB.ne {E : En} {w : World} {b : Nat} {h : Nat × Nat} {s : Ps} (hb : HdB w b h) (hp : PW E w s) : ¬ E.pb = b := by
 obtain ⟨vd, vc, vb, mb, hp⟩ := hp
 intro e
 have := hp.box
 rw [e, show w.heap[b]? = _ from hb] at this
 cases this
theorem lvl_le (t : Bs) : lvl t ≤ 45 := by unfold lvl; (repeat' split) <;> omega
theorem level_le {l : List Ct} {s s2 : Ps} {v : Nat} (h : level l s = .ok v s2) : v ≤ 45 := by
 unfold level at h
 cases h
 split
 ·exact lvl_le _
 ·omega
def CtB (w : World) (b : Nat) (z : Int) (x : ByteArray) : Prop := w.heap[b]? = some (.cells #[.int .i64 z, .string x] 54 (0, 0))
theorem CtB.kp {w w' : World} {b : Nat} {z : Int} {x : ByteArray} (hb : CtB w b z x) (hk : KP w w') : CtB w' b z x := hk.2 _ _ _ _ rfl hb
theorem CtB.new (w : World) (z : Int) (x : ByteArray) : CtB (w.alloc (.cells #[.int .i64 z, .string x] 54)) w.heap.size z x := new_cells _ _ _
theorem CtB.new' (w : World) (p : Addr) (v : Value) (z : Int) (x : ByteArray) : CtB ((w.setCell p v).alloc (.cells #[.int .i64 z, .string x] 54)) w.heap.size z x := by
 have := CtB.new (w.setCell p v) z x
 rwa [show (w.setCell p v).heap.size = w.heap.size by simp] at this
theorem CtB.cells {w : World} {b : Nat} {z : Int} {x : ByteArray} (hb : CtB w b z x) : w.cell? ⟨b, 0, none⟩ = some (.int .i64 z) ∧ w.cell? ⟨b, 1, none⟩ = some (.string x) := by unfold CtB at hb; simp [World.cell?, hb]
theorem w_unary {E : En} (hE : E.ok) {n : Nat} (ih : ∀ m, m ≤ n → Wk E m)  (s : Ps) (w : World) (hp : PW E w s) (hne : run E.L E.base (n + 1) (.unary) s ≠ .out) : Calls Tryz.prog 180 #[.pointer (some ⟨E.pb, 0, none⟩)] w (EndQ E vaU w (run E.L E.base (n + 1) (.unary) s)) := by
 obtain ⟨r, hr⟩ : ∃ r, run E.L E.base (n + 1) (.unary) s = r := ⟨_, rfl⟩
 rw [hr] at hne ⊢
 rw [run] at hr
 have HN := Hh hne
 have HR0 := Hh hr
 have HP0 := Hh hp
 have HK0 := Hh (KP.refl w)
 have IH := Hh ih
 clear hne hr hp ih
 go_enter Tryz.func180, Tryz.ntmps180
 go_wp2_with fail
 refine mR (wk_here hE _ _ HP0.out) HR0 HN HK0 (fun _ _ h => ⟨rfl, h⟩) ?_
 rintro v1 s1 w1 HR1 HP1 - HK1
 have HBn := Hh (HdB.new w1 v1)
 have HPn := Hh (HP1.out.ext hE (below_alloc w1 (.cells #[.int .i64 v1.1, .int .i64 v1.2] 77)))
 have HKn := Hh (HK1.out.trans (KP.of_below (below_alloc w1 (.cells #[.int .i64 v1.1, .int .i64 v1.2] 77))))
 have HPo1 := Hh HP1.out
 have HKo1 := Hh HK1.out
 clear HP1 HK1
 have HP1 := Hh HPn.out
 have HK1 := Hh HKn.out
 clear HPn HKn
 simp only [hdV]
 obtain ⟨bh, hbh⟩ : ∃ b, w1.heap.size = b := ⟨_, rfl⟩
 have HBh1 := Hh (hbh ▸ HBn.out)
 clear HBn
 go_wp2_with fail
 try rw [hbh]
 obtain ⟨T, hT⟩ : ∃ T, peekS E.L s1 0 = T := ⟨_, rfl⟩
 have hxl : T.t.length ≤ maxLen := by rw [← hT]; exact peek_txt hE _ 0
 have pk := wk_peek hE 0 _ _ (by omega) HP1.out
 rw [hT] at pk
 have hq := qone (x := peek E.L 0) HR1.out rfl
 rw [hT] at hq
 clear hT
 obtain ⟨c2, t2⟩ := T
 unfold ctV at pk
 dsimp only at pk hq hxl
 obtain ⟨x2, hxs⟩ : ∃ x : ByteArray, str t2 = x := ⟨_, rfl⟩
 obtain ⟨z2, hzs⟩ : ∃ z : Int, (c2 : Int) = z := ⟨_, rfl⟩
 rw [hxs, hzs] at pk
 have HX2 := Hh hxs
 have HZ2 := Hh hzs
 have HL2 := Hh hxl
 have HR2 := Hh hq
 have PK := Hh pk
 clear hxs hzs hxl hq pk
 refine PK.out.mono ?_
 rintro e w2 ⟨rfl, hbl⟩
 have HBL := Hh hbl
 clear hbl PK
 have HPo2 := Hh (HP1.out.ext hE HBL.out)
 have HKo2 := Hh (HK1.out.trans (KP.of_below HBL.out))
 have HP2 := Hh (HPo2.out.ext hE (below_alloc w2 (.cells #[.int .i64 z2, .string x2] 54)))
 have HK2 := Hh (HKo2.out.trans (KP.of_below (below_alloc w2 (.cells #[.int .i64 z2, .string x2] 54))))
 have HBoh2 := Hh (HBh1.out.kp (KP.of_below HBL.out))
 have HBh2 := Hh (HBoh2.out.kp (KP.of_below (below_alloc w2 (.cells #[.int .i64 z2, .string x2] 54))))
 obtain ⟨bt, hbt⟩ : ∃ b, w2.heap.size = b := ⟨_, rfl⟩
 have HBt2 := Hh (hbt ▸ CtB.new w2 z2 x2)
 by_cases hc27 : c2 = 7
 ·have fc27 : (z2 == 7) = true := by rw [← HZ2.out, hc27]; rfl
  have fn27 : (z2 != 7) = false := by rw [← HZ2.out, hc27]; rfl
  have fc21 : (z2 == 1) = false := by rw [← HZ2.out, beq_eq_false_iff_ne]; omega
  have fn21 : (z2 != 1) = true := by rw [← HZ2.out, bne_iff_ne]; omega
  by_cases htt2_0 : t2 = [43, 43]
  ·have fxt2_0 : (x2.toList == [43, 43]) = true := HX2.out ▸ str_is htt2_0
   have fyt2_0_1 : (x2.toList == [45, 45]) = false := HX2.out ▸ str_no (by rw [htt2_0]; decide)
   have fyt2_0_2 : (x2.toList == [38]) = false := HX2.out ▸ str_no (by rw [htt2_0]; decide)
   have fyt2_0_3 : (x2.toList == [42]) = false := HX2.out ▸ str_no (by rw [htt2_0]; decide)
   have fyt2_0_4 : (x2.toList == [43]) = false := HX2.out ▸ str_no (by rw [htt2_0]; decide)
   have fyt2_0_5 : (x2.toList == [45]) = false := HX2.out ▸ str_no (by rw [htt2_0]; decide)
   have fyt2_0_6 : (x2.toList == [126]) = false := HX2.out ▸ str_no (by rw [htt2_0]; decide)
   have fyt2_0_7 : (x2.toList == [33]) = false := HX2.out ▸ str_no (by rw [htt2_0]; decide)
   replace HR2 := Hh (q_pos HR2.out (by simp [hc27, htt2_0]))
   obtain ⟨hle3, hr3⟩ := q_step HR2.out HN.out
   obtain ⟨c1, f1, -⟩ := HPo2.out.at
   have hpb := HPo2.out.lt
   rw [hbt] at hpb
   obtain ⟨q31, q32⟩ := HPo2.out.on hE hle3
   have hLn := hE.len
   obtain ⟨a3, hat3⟩ : ∃ a, Ps.at' s1 = a := ⟨_, rfl⟩
   rw [hat3] at c1 hle3 hr3 q31 q32
   have hi : a3 < 100000 := by omega
   obtain ⟨s3, hs3⟩ : ∃ t : Ps, (⟨a3 + 1, s1.done, s1.nm⟩ : Ps) = t := ⟨_, rfl⟩
   rw [hs3] at hr3 q31
   clear hs3
   have HR3 := Hh hr3
   have HP3 := Hh (q31.ext hE (below_alloc _ (.cells #[.int .i64 z2, .string x2] 54)))
   have hkx := KP.of_below (below_alloc (World.setCell w2 ⟨E.pb, 1, none⟩ (.int .i64 ((a3 + 1 : Nat) : Int))) (.cells #[.int .i64 z2, .string x2] 54))
   have HK3 := Hh (HKo2.out.trans (q32.trans hkx))
   have HBh3 := Hh ((HBoh2.out.kp q32).kp hkx)
   have HBt3 := Hh (hbt ▸ CtB.new' w2 ⟨E.pb, 1, none⟩ (.int .i64 ((a3 + 1 : Nat) : Int)) z2 x2)
   have HAT3 := Hh hat3
   clear q31 q32 hr3 hle3 hLn hat3 hkx
   go_wp2_with fail
   try rw [hbt]
   try clear c1 f1 hpb hi
   refine mQ ((IH.out n (Nat.le_refl _)).f_unary  _ _ HP3.out (qne HR3.out HN.out)) HR3 HN HK3 (fun _ _ h => ⟨rfl, h⟩) ?_
   rintro v4 s4 y4 w4 HR4 rfl HP4 hkk HK4
   have HBh4 := Hh (HBh3.out.kp hkk)
   have HBt4 := Hh (HBt3.out.kp hkk)
   clear hkk
   obtain ⟨d0, d1⟩ := HBh4.out.cells
   go_wp2_with fail
   refine mR (wk_node hE 47 v1 _ _ HP4.out (qne HR4.out HN.out)) HR4 HN HK4 (fun _ _ h => ⟨rfl, h⟩) ?_
   rintro v5 s5 w5 HR5 HP5 hkk HK5
   have HBh5 := Hh (HBh4.out.kp hkk)
   have HBt5 := Hh (HBt4.out.kp hkk)
   clear hkk
   try clear d0 d1
   skip
   go_wp2_with fail
   exact ⟨rfl, .tuple #[], by simp [results, Tryz.results180, go_sem], q_ok (q_pure HR5.out) rfl HP5.out HK5.out⟩
  ·have fxt2_0 : (x2.toList == [43, 43]) = false := HX2.out ▸ str_no htt2_0
   by_cases htt2_1 : t2 = [45, 45]
   ·have fxt2_1 : (x2.toList == [45, 45]) = true := HX2.out ▸ str_is htt2_1
    have fyt2_1_2 : (x2.toList == [38]) = false := HX2.out ▸ str_no (by rw [htt2_1]; decide)
    have fyt2_1_3 : (x2.toList == [42]) = false := HX2.out ▸ str_no (by rw [htt2_1]; decide)
    have fyt2_1_4 : (x2.toList == [43]) = false := HX2.out ▸ str_no (by rw [htt2_1]; decide)
    have fyt2_1_5 : (x2.toList == [45]) = false := HX2.out ▸ str_no (by rw [htt2_1]; decide)
    have fyt2_1_6 : (x2.toList == [126]) = false := HX2.out ▸ str_no (by rw [htt2_1]; decide)
    have fyt2_1_7 : (x2.toList == [33]) = false := HX2.out ▸ str_no (by rw [htt2_1]; decide)
    replace HR2 := Hh (q_pos HR2.out (by simp [hc27, htt2_0, htt2_1]))
    obtain ⟨hle6, hr6⟩ := q_step HR2.out HN.out
    obtain ⟨c1, f1, -⟩ := HPo2.out.at
    have hpb := HPo2.out.lt
    rw [hbt] at hpb
    obtain ⟨q61, q62⟩ := HPo2.out.on hE hle6
    have hLn := hE.len
    obtain ⟨a6, hat6⟩ : ∃ a, Ps.at' s1 = a := ⟨_, rfl⟩
    rw [hat6] at c1 hle6 hr6 q61 q62
    have hi : a6 < 100000 := by omega
    obtain ⟨s6, hs6⟩ : ∃ t : Ps, (⟨a6 + 1, s1.done, s1.nm⟩ : Ps) = t := ⟨_, rfl⟩
    rw [hs6] at hr6 q61
    clear hs6
    have HR6 := Hh hr6
    have HP6 := Hh (q61.ext hE (below_alloc _ (.cells #[.int .i64 z2, .string x2] 54)))
    have hkx := KP.of_below (below_alloc (World.setCell w2 ⟨E.pb, 1, none⟩ (.int .i64 ((a6 + 1 : Nat) : Int))) (.cells #[.int .i64 z2, .string x2] 54))
    have HK6 := Hh (HKo2.out.trans (q62.trans hkx))
    have HBh6 := Hh ((HBoh2.out.kp q62).kp hkx)
    have HBt6 := Hh (hbt ▸ CtB.new' w2 ⟨E.pb, 1, none⟩ (.int .i64 ((a6 + 1 : Nat) : Int)) z2 x2)
    have HAT6 := Hh hat6
    clear q61 q62 hr6 hle6 hLn hat6 hkx
    go_wp2_with fail
    try rw [hbt]
    try clear c1 f1 hpb hi
    refine mQ ((IH.out n (Nat.le_refl _)).f_unary  _ _ HP6.out (qne HR6.out HN.out)) HR6 HN HK6 (fun _ _ h => ⟨rfl, h⟩) ?_
    rintro v7 s7 y7 w7 HR7 rfl HP7 hkk HK7
    have HBh7 := Hh (HBh6.out.kp hkk)
    have HBt7 := Hh (HBt6.out.kp hkk)
    clear hkk
    obtain ⟨d0, d1⟩ := HBh7.out.cells
    go_wp2_with fail
    refine mR (wk_node hE 47 v1 _ _ HP7.out (qne HR7.out HN.out)) HR7 HN HK7 (fun _ _ h => ⟨rfl, h⟩) ?_
    rintro v8 s8 w8 HR8 HP8 hkk HK8
    have HBh8 := Hh (HBh7.out.kp hkk)
    have HBt8 := Hh (HBt7.out.kp hkk)
    clear hkk
    try clear d0 d1
    skip
    go_wp2_with fail
    exact ⟨rfl, .tuple #[], by simp [results, Tryz.results180, go_sem], q_ok (q_pure HR8.out) rfl HP8.out HK8.out⟩
   ·have fxt2_1 : (x2.toList == [45, 45]) = false := HX2.out ▸ str_no htt2_1
    by_cases htt2_2 : t2 = [38]
    ·have fxt2_2 : (x2.toList == [38]) = true := HX2.out ▸ str_is htt2_2
     have fyt2_2_3 : (x2.toList == [42]) = false := HX2.out ▸ str_no (by rw [htt2_2]; decide)
     have fyt2_2_4 : (x2.toList == [43]) = false := HX2.out ▸ str_no (by rw [htt2_2]; decide)
     have fyt2_2_5 : (x2.toList == [45]) = false := HX2.out ▸ str_no (by rw [htt2_2]; decide)
     have fyt2_2_6 : (x2.toList == [126]) = false := HX2.out ▸ str_no (by rw [htt2_2]; decide)
     have fyt2_2_7 : (x2.toList == [33]) = false := HX2.out ▸ str_no (by rw [htt2_2]; decide)
     replace HR2 := Hh (q_neg HR2.out (by simp [hc27, htt2_0, htt2_1, htt2_2]))
     replace HR2 := Hh (q_pos HR2.out (by simp [hc27, htt2_0, htt2_1, htt2_2]))
     obtain ⟨hle9, hr9⟩ := q_step HR2.out HN.out
     obtain ⟨c1, f1, -⟩ := HPo2.out.at
     have hpb := HPo2.out.lt
     rw [hbt] at hpb
     obtain ⟨q91, q92⟩ := HPo2.out.on hE hle9
     have hLn := hE.len
     obtain ⟨a9, hat9⟩ : ∃ a, Ps.at' s1 = a := ⟨_, rfl⟩
     rw [hat9] at c1 hle9 hr9 q91 q92
     have hi : a9 < 100000 := by omega
     obtain ⟨s9, hs9⟩ : ∃ t : Ps, (⟨a9 + 1, s1.done, s1.nm⟩ : Ps) = t := ⟨_, rfl⟩
     rw [hs9] at hr9 q91
     clear hs9
     have HR9 := Hh hr9
     have HP9 := Hh (q91.ext hE (below_alloc _ (.cells #[.int .i64 z2, .string x2] 54)))
     have hkx := KP.of_below (below_alloc (World.setCell w2 ⟨E.pb, 1, none⟩ (.int .i64 ((a9 + 1 : Nat) : Int))) (.cells #[.int .i64 z2, .string x2] 54))
     have HK9 := Hh (HKo2.out.trans (q92.trans hkx))
     have HBh9 := Hh ((HBoh2.out.kp q92).kp hkx)
     have HBt9 := Hh (hbt ▸ CtB.new' w2 ⟨E.pb, 1, none⟩ (.int .i64 ((a9 + 1 : Nat) : Int)) z2 x2)
     have HAT9 := Hh hat9
     clear q91 q92 hr9 hle9 hLn hat9 hkx
     go_wp2_with fail
     try rw [hbt]
     try clear c1 f1 hpb hi
     refine mQ ((IH.out n (Nat.le_refl _)).f_cast  _ _ HP9.out (qne HR9.out HN.out)) HR9 HN HK9 (fun _ _ h => ⟨rfl, h⟩) ?_
     rintro v10 s10 y10 w10 HR10 rfl HP10 hkk HK10
     have HBh10 := Hh (HBh9.out.kp hkk)
     have HBt10 := Hh (HBt9.out.kp hkk)
     clear hkk
     obtain ⟨d0, d1⟩ := HBh10.out.cells
     go_wp2_with fail
     refine mR (wk_node hE 47 v1 _ _ HP10.out (qne HR10.out HN.out)) HR10 HN HK10 (fun _ _ h => ⟨rfl, h⟩) ?_
     rintro v11 s11 w11 HR11 HP11 hkk HK11
     have HBh11 := Hh (HBh10.out.kp hkk)
     have HBt11 := Hh (HBt10.out.kp hkk)
     clear hkk
     try clear d0 d1
     skip
     go_wp2_with fail
     exact ⟨rfl, .tuple #[], by simp [results, Tryz.results180, go_sem], q_ok (q_pure HR11.out) rfl HP11.out HK11.out⟩
    ·have fxt2_2 : (x2.toList == [38]) = false := HX2.out ▸ str_no htt2_2
     by_cases htt2_3 : t2 = [42]
     ·have fxt2_3 : (x2.toList == [42]) = true := HX2.out ▸ str_is htt2_3
      have fyt2_3_4 : (x2.toList == [43]) = false := HX2.out ▸ str_no (by rw [htt2_3]; decide)
      have fyt2_3_5 : (x2.toList == [45]) = false := HX2.out ▸ str_no (by rw [htt2_3]; decide)
      have fyt2_3_6 : (x2.toList == [126]) = false := HX2.out ▸ str_no (by rw [htt2_3]; decide)
      have fyt2_3_7 : (x2.toList == [33]) = false := HX2.out ▸ str_no (by rw [htt2_3]; decide)
      replace HR2 := Hh (q_neg HR2.out (by simp [hc27, htt2_0, htt2_1, htt2_2, htt2_3]))
      replace HR2 := Hh (q_pos HR2.out (by simp [hc27, htt2_0, htt2_1, htt2_2, htt2_3]))
      obtain ⟨hle12, hr12⟩ := q_step HR2.out HN.out
      obtain ⟨c1, f1, -⟩ := HPo2.out.at
      have hpb := HPo2.out.lt
      rw [hbt] at hpb
      obtain ⟨q121, q122⟩ := HPo2.out.on hE hle12
      have hLn := hE.len
      obtain ⟨a12, hat12⟩ : ∃ a, Ps.at' s1 = a := ⟨_, rfl⟩
      rw [hat12] at c1 hle12 hr12 q121 q122
      have hi : a12 < 100000 := by omega
      obtain ⟨s12, hs12⟩ : ∃ t : Ps, (⟨a12 + 1, s1.done, s1.nm⟩ : Ps) = t := ⟨_, rfl⟩
      rw [hs12] at hr12 q121
      clear hs12
      have HR12 := Hh hr12
      have HP12 := Hh (q121.ext hE (below_alloc _ (.cells #[.int .i64 z2, .string x2] 54)))
      have hkx := KP.of_below (below_alloc (World.setCell w2 ⟨E.pb, 1, none⟩ (.int .i64 ((a12 + 1 : Nat) : Int))) (.cells #[.int .i64 z2, .string x2] 54))
      have HK12 := Hh (HKo2.out.trans (q122.trans hkx))
      have HBh12 := Hh ((HBoh2.out.kp q122).kp hkx)
      have HBt12 := Hh (hbt ▸ CtB.new' w2 ⟨E.pb, 1, none⟩ (.int .i64 ((a12 + 1 : Nat) : Int)) z2 x2)
      have HAT12 := Hh hat12
      clear q121 q122 hr12 hle12 hLn hat12 hkx
      go_wp2_with fail
      try rw [hbt]
      try clear c1 f1 hpb hi
      refine mQ ((IH.out n (Nat.le_refl _)).f_cast  _ _ HP12.out (qne HR12.out HN.out)) HR12 HN HK12 (fun _ _ h => ⟨rfl, h⟩) ?_
      rintro v13 s13 y13 w13 HR13 rfl HP13 hkk HK13
      have HBh13 := Hh (HBh12.out.kp hkk)
      have HBt13 := Hh (HBt12.out.kp hkk)
      clear hkk
      obtain ⟨d0, d1⟩ := HBh13.out.cells
      go_wp2_with fail
      refine mR (wk_node hE 47 v1 _ _ HP13.out (qne HR13.out HN.out)) HR13 HN HK13 (fun _ _ h => ⟨rfl, h⟩) ?_
      rintro v14 s14 w14 HR14 HP14 hkk HK14
      have HBh14 := Hh (HBh13.out.kp hkk)
      have HBt14 := Hh (HBt13.out.kp hkk)
      clear hkk
      try clear d0 d1
      skip
      go_wp2_with fail
      exact ⟨rfl, .tuple #[], by simp [results, Tryz.results180, go_sem], q_ok (q_pure HR14.out) rfl HP14.out HK14.out⟩
     ·have fxt2_3 : (x2.toList == [42]) = false := HX2.out ▸ str_no htt2_3
      by_cases htt2_4 : t2 = [43]
      ·have fxt2_4 : (x2.toList == [43]) = true := HX2.out ▸ str_is htt2_4
       have fyt2_4_5 : (x2.toList == [45]) = false := HX2.out ▸ str_no (by rw [htt2_4]; decide)
       have fyt2_4_6 : (x2.toList == [126]) = false := HX2.out ▸ str_no (by rw [htt2_4]; decide)
       have fyt2_4_7 : (x2.toList == [33]) = false := HX2.out ▸ str_no (by rw [htt2_4]; decide)
       replace HR2 := Hh (q_neg HR2.out (by simp [hc27, htt2_0, htt2_1, htt2_2, htt2_3, htt2_4]))
       replace HR2 := Hh (q_pos HR2.out (by simp [hc27, htt2_0, htt2_1, htt2_2, htt2_3, htt2_4]))
       obtain ⟨hle15, hr15⟩ := q_step HR2.out HN.out
       obtain ⟨c1, f1, -⟩ := HPo2.out.at
       have hpb := HPo2.out.lt
       rw [hbt] at hpb
       obtain ⟨q151, q152⟩ := HPo2.out.on hE hle15
       have hLn := hE.len
       obtain ⟨a15, hat15⟩ : ∃ a, Ps.at' s1 = a := ⟨_, rfl⟩
       rw [hat15] at c1 hle15 hr15 q151 q152
       have hi : a15 < 100000 := by omega
       obtain ⟨s15, hs15⟩ : ∃ t : Ps, (⟨a15 + 1, s1.done, s1.nm⟩ : Ps) = t := ⟨_, rfl⟩
       rw [hs15] at hr15 q151
       clear hs15
       have HR15 := Hh hr15
       have HP15 := Hh (q151.ext hE (below_alloc _ (.cells #[.int .i64 z2, .string x2] 54)))
       have hkx := KP.of_below (below_alloc (World.setCell w2 ⟨E.pb, 1, none⟩ (.int .i64 ((a15 + 1 : Nat) : Int))) (.cells #[.int .i64 z2, .string x2] 54))
       have HK15 := Hh (HKo2.out.trans (q152.trans hkx))
       have HBh15 := Hh ((HBoh2.out.kp q152).kp hkx)
       have HBt15 := Hh (hbt ▸ CtB.new' w2 ⟨E.pb, 1, none⟩ (.int .i64 ((a15 + 1 : Nat) : Int)) z2 x2)
       have HAT15 := Hh hat15
       clear q151 q152 hr15 hle15 hLn hat15 hkx
       go_wp2_with fail
       try rw [hbt]
       try clear c1 f1 hpb hi
       refine mQ ((IH.out n (Nat.le_refl _)).f_cast  _ _ HP15.out (qne HR15.out HN.out)) HR15 HN HK15 (fun _ _ h => ⟨rfl, h⟩) ?_
       rintro v16 s16 y16 w16 HR16 rfl HP16 hkk HK16
       have HBh16 := Hh (HBh15.out.kp hkk)
       have HBt16 := Hh (HBt15.out.kp hkk)
       clear hkk
       obtain ⟨d0, d1⟩ := HBh16.out.cells
       go_wp2_with fail
       refine mR (wk_node hE 47 v1 _ _ HP16.out (qne HR16.out HN.out)) HR16 HN HK16 (fun _ _ h => ⟨rfl, h⟩) ?_
       rintro v17 s17 w17 HR17 HP17 hkk HK17
       have HBh17 := Hh (HBh16.out.kp hkk)
       have HBt17 := Hh (HBt16.out.kp hkk)
       clear hkk
       try clear d0 d1
       skip
       go_wp2_with fail
       exact ⟨rfl, .tuple #[], by simp [results, Tryz.results180, go_sem], q_ok (q_pure HR17.out) rfl HP17.out HK17.out⟩
      ·have fxt2_4 : (x2.toList == [43]) = false := HX2.out ▸ str_no htt2_4
       by_cases htt2_5 : t2 = [45]
       ·have fxt2_5 : (x2.toList == [45]) = true := HX2.out ▸ str_is htt2_5
        have fyt2_5_6 : (x2.toList == [126]) = false := HX2.out ▸ str_no (by rw [htt2_5]; decide)
        have fyt2_5_7 : (x2.toList == [33]) = false := HX2.out ▸ str_no (by rw [htt2_5]; decide)
        replace HR2 := Hh (q_neg HR2.out (by simp [hc27, htt2_0, htt2_1, htt2_2, htt2_3, htt2_4, htt2_5]))
        replace HR2 := Hh (q_pos HR2.out (by simp [hc27, htt2_0, htt2_1, htt2_2, htt2_3, htt2_4, htt2_5]))
        obtain ⟨hle18, hr18⟩ := q_step HR2.out HN.out
        obtain ⟨c1, f1, -⟩ := HPo2.out.at
        have hpb := HPo2.out.lt
        rw [hbt] at hpb
        obtain ⟨q181, q182⟩ := HPo2.out.on hE hle18
        have hLn := hE.len
        obtain ⟨a18, hat18⟩ : ∃ a, Ps.at' s1 = a := ⟨_, rfl⟩
        rw [hat18] at c1 hle18 hr18 q181 q182
        have hi : a18 < 100000 := by omega
        obtain ⟨s18, hs18⟩ : ∃ t : Ps, (⟨a18 + 1, s1.done, s1.nm⟩ : Ps) = t := ⟨_, rfl⟩
        rw [hs18] at hr18 q181
        clear hs18
        have HR18 := Hh hr18
        have HP18 := Hh (q181.ext hE (below_alloc _ (.cells #[.int .i64 z2, .string x2] 54)))
        have hkx := KP.of_below (below_alloc (World.setCell w2 ⟨E.pb, 1, none⟩ (.int .i64 ((a18 + 1 : Nat) : Int))) (.cells #[.int .i64 z2, .string x2] 54))
        have HK18 := Hh (HKo2.out.trans (q182.trans hkx))
        have HBh18 := Hh ((HBoh2.out.kp q182).kp hkx)
        have HBt18 := Hh (hbt ▸ CtB.new' w2 ⟨E.pb, 1, none⟩ (.int .i64 ((a18 + 1 : Nat) : Int)) z2 x2)
        have HAT18 := Hh hat18
        clear q181 q182 hr18 hle18 hLn hat18 hkx
        go_wp2_with fail
        try rw [hbt]
        try clear c1 f1 hpb hi
        refine mQ ((IH.out n (Nat.le_refl _)).f_cast  _ _ HP18.out (qne HR18.out HN.out)) HR18 HN HK18 (fun _ _ h => ⟨rfl, h⟩) ?_
        rintro v19 s19 y19 w19 HR19 rfl HP19 hkk HK19
        have HBh19 := Hh (HBh18.out.kp hkk)
        have HBt19 := Hh (HBt18.out.kp hkk)
        clear hkk
        obtain ⟨d0, d1⟩ := HBh19.out.cells
        go_wp2_with fail
        refine mR (wk_node hE 47 v1 _ _ HP19.out (qne HR19.out HN.out)) HR19 HN HK19 (fun _ _ h => ⟨rfl, h⟩) ?_
        rintro v20 s20 w20 HR20 HP20 hkk HK20
        have HBh20 := Hh (HBh19.out.kp hkk)
        have HBt20 := Hh (HBt19.out.kp hkk)
        clear hkk
        try clear d0 d1
        skip
        go_wp2_with fail
        exact ⟨rfl, .tuple #[], by simp [results, Tryz.results180, go_sem], q_ok (q_pure HR20.out) rfl HP20.out HK20.out⟩
       ·have fxt2_5 : (x2.toList == [45]) = false := HX2.out ▸ str_no htt2_5
        by_cases htt2_6 : t2 = [126]
        ·have fxt2_6 : (x2.toList == [126]) = true := HX2.out ▸ str_is htt2_6
         have fyt2_6_7 : (x2.toList == [33]) = false := HX2.out ▸ str_no (by rw [htt2_6]; decide)
         replace HR2 := Hh (q_neg HR2.out (by simp [hc27, htt2_0, htt2_1, htt2_2, htt2_3, htt2_4, htt2_5, htt2_6]))
         replace HR2 := Hh (q_pos HR2.out (by simp [hc27, htt2_0, htt2_1, htt2_2, htt2_3, htt2_4, htt2_5, htt2_6]))
         obtain ⟨hle21, hr21⟩ := q_step HR2.out HN.out
         obtain ⟨c1, f1, -⟩ := HPo2.out.at
         have hpb := HPo2.out.lt
         rw [hbt] at hpb
         obtain ⟨q211, q212⟩ := HPo2.out.on hE hle21
         have hLn := hE.len
         obtain ⟨a21, hat21⟩ : ∃ a, Ps.at' s1 = a := ⟨_, rfl⟩
         rw [hat21] at c1 hle21 hr21 q211 q212
         have hi : a21 < 100000 := by omega
         obtain ⟨s21, hs21⟩ : ∃ t : Ps, (⟨a21 + 1, s1.done, s1.nm⟩ : Ps) = t := ⟨_, rfl⟩
         rw [hs21] at hr21 q211
         clear hs21
         have HR21 := Hh hr21
         have HP21 := Hh (q211.ext hE (below_alloc _ (.cells #[.int .i64 z2, .string x2] 54)))
         have hkx := KP.of_below (below_alloc (World.setCell w2 ⟨E.pb, 1, none⟩ (.int .i64 ((a21 + 1 : Nat) : Int))) (.cells #[.int .i64 z2, .string x2] 54))
         have HK21 := Hh (HKo2.out.trans (q212.trans hkx))
         have HBh21 := Hh ((HBoh2.out.kp q212).kp hkx)
         have HBt21 := Hh (hbt ▸ CtB.new' w2 ⟨E.pb, 1, none⟩ (.int .i64 ((a21 + 1 : Nat) : Int)) z2 x2)
         have HAT21 := Hh hat21
         clear q211 q212 hr21 hle21 hLn hat21 hkx
         go_wp2_with fail
         try rw [hbt]
         try clear c1 f1 hpb hi
         refine mQ ((IH.out n (Nat.le_refl _)).f_cast  _ _ HP21.out (qne HR21.out HN.out)) HR21 HN HK21 (fun _ _ h => ⟨rfl, h⟩) ?_
         rintro v22 s22 y22 w22 HR22 rfl HP22 hkk HK22
         have HBh22 := Hh (HBh21.out.kp hkk)
         have HBt22 := Hh (HBt21.out.kp hkk)
         clear hkk
         obtain ⟨d0, d1⟩ := HBh22.out.cells
         go_wp2_with fail
         refine mR (wk_node hE 47 v1 _ _ HP22.out (qne HR22.out HN.out)) HR22 HN HK22 (fun _ _ h => ⟨rfl, h⟩) ?_
         rintro v23 s23 w23 HR23 HP23 hkk HK23
         have HBh23 := Hh (HBh22.out.kp hkk)
         have HBt23 := Hh (HBt22.out.kp hkk)
         clear hkk
         try clear d0 d1
         skip
         go_wp2_with fail
         exact ⟨rfl, .tuple #[], by simp [results, Tryz.results180, go_sem], q_ok (q_pure HR23.out) rfl HP23.out HK23.out⟩
        ·have fxt2_6 : (x2.toList == [126]) = false := HX2.out ▸ str_no htt2_6
         by_cases htt2_7 : t2 = [33]
         ·have fxt2_7 : (x2.toList == [33]) = true := HX2.out ▸ str_is htt2_7
          replace HR2 := Hh (q_neg HR2.out (by simp [hc27, htt2_0, htt2_1, htt2_2, htt2_3, htt2_4, htt2_5, htt2_6, htt2_7]))
          replace HR2 := Hh (q_pos HR2.out (by simp [hc27, htt2_0, htt2_1, htt2_2, htt2_3, htt2_4, htt2_5, htt2_6, htt2_7]))
          obtain ⟨hle24, hr24⟩ := q_step HR2.out HN.out
          obtain ⟨c1, f1, -⟩ := HPo2.out.at
          have hpb := HPo2.out.lt
          rw [hbt] at hpb
          obtain ⟨q241, q242⟩ := HPo2.out.on hE hle24
          have hLn := hE.len
          obtain ⟨a24, hat24⟩ : ∃ a, Ps.at' s1 = a := ⟨_, rfl⟩
          rw [hat24] at c1 hle24 hr24 q241 q242
          have hi : a24 < 100000 := by omega
          obtain ⟨s24, hs24⟩ : ∃ t : Ps, (⟨a24 + 1, s1.done, s1.nm⟩ : Ps) = t := ⟨_, rfl⟩
          rw [hs24] at hr24 q241
          clear hs24
          have HR24 := Hh hr24
          have HP24 := Hh (q241.ext hE (below_alloc _ (.cells #[.int .i64 z2, .string x2] 54)))
          have hkx := KP.of_below (below_alloc (World.setCell w2 ⟨E.pb, 1, none⟩ (.int .i64 ((a24 + 1 : Nat) : Int))) (.cells #[.int .i64 z2, .string x2] 54))
          have HK24 := Hh (HKo2.out.trans (q242.trans hkx))
          have HBh24 := Hh ((HBoh2.out.kp q242).kp hkx)
          have HBt24 := Hh (hbt ▸ CtB.new' w2 ⟨E.pb, 1, none⟩ (.int .i64 ((a24 + 1 : Nat) : Int)) z2 x2)
          have HAT24 := Hh hat24
          clear q241 q242 hr24 hle24 hLn hat24 hkx
          go_wp2_with fail
          try rw [hbt]
          try clear c1 f1 hpb hi
          refine mQ ((IH.out n (Nat.le_refl _)).f_cast  _ _ HP24.out (qne HR24.out HN.out)) HR24 HN HK24 (fun _ _ h => ⟨rfl, h⟩) ?_
          rintro v25 s25 y25 w25 HR25 rfl HP25 hkk HK25
          have HBh25 := Hh (HBh24.out.kp hkk)
          have HBt25 := Hh (HBt24.out.kp hkk)
          clear hkk
          obtain ⟨d0, d1⟩ := HBh25.out.cells
          go_wp2_with fail
          refine mR (wk_node hE 47 v1 _ _ HP25.out (qne HR25.out HN.out)) HR25 HN HK25 (fun _ _ h => ⟨rfl, h⟩) ?_
          rintro v26 s26 w26 HR26 HP26 hkk HK26
          have HBh26 := Hh (HBh25.out.kp hkk)
          have HBt26 := Hh (HBt25.out.kp hkk)
          clear hkk
          try clear d0 d1
          skip
          go_wp2_with fail
          exact ⟨rfl, .tuple #[], by simp [results, Tryz.results180, go_sem], q_ok (q_pure HR26.out) rfl HP26.out HK26.out⟩
         ·have fxt2_7 : (x2.toList == [33]) = false := HX2.out ▸ str_no htt2_7
          replace HR2 := Hh (q_neg HR2.out (by simp [hc27, htt2_0, htt2_1, htt2_2, htt2_3, htt2_4, htt2_5, htt2_6, htt2_7]))
          replace HR2 := Hh (q_neg HR2.out (by simp [hc27, htt2_0, htt2_1, htt2_2, htt2_3, htt2_4, htt2_5, htt2_6, htt2_7]))
          replace HR2 := Hh (q_neg HR2.out (by simp [hc27, htt2_0, htt2_1, htt2_2, htt2_3, htt2_4, htt2_5, htt2_6, htt2_7]))
          go_wp2_with fail
          try rw [hbt]
          have HT := Hh (show run E.L E.base n (.pfix) _ = r from HR2.out)
          refine ((IH.out n (Nat.le_refl _)).f_pfix  _ _ HP2.out (by rw [HT.out]; exact HN.out)).mono ?_
          intro e w27 he
          rw [HT.out] at he
          rcases qtail HN.out HK2.out he with ⟨v27, s27, y27, hr27, rfl, hy27, hp27, hk27⟩ | ⟨hr27, ⟨z, rfl⟩, hb27, hk27⟩
          case' inr => exact ⟨rfl, q_no hr27 hb27 hk27⟩
          obtain rfl := hy27
          have HT27 := Hh hr27
          have HP27 := Hh hp27
          have HK27 := Hh hk27
          clear he hr27 hp27 hk27 HT
          go_wp2_with fail
          exact ⟨rfl, .tuple #[], by simp [results, Tryz.results180, go_sem], q_ok HT27.out rfl HP27.out HK27.out⟩
 ·by_cases hc21 : c2 = 1
  ·have fc27 : (z2 == 7) = false := by rw [← HZ2.out, beq_eq_false_iff_ne]; omega
   have fn27 : (z2 != 7) = true := by rw [← HZ2.out, bne_iff_ne]; omega
   have fc21 : (z2 == 1) = true := by rw [← HZ2.out, hc21]; rfl
   have fn21 : (z2 != 1) = false := by rw [← HZ2.out, hc21]; rfl
   by_cases htt2_0 : t2 = [115, 105, 122, 101, 111, 102]
   ·have fxt2_0 : (x2.toList == [115, 105, 122, 101, 111, 102]) = true := HX2.out ▸ str_is htt2_0
    have fyt2_0_1 : (x2.toList == [95, 65, 108, 105, 103, 110, 111, 102]) = false := HX2.out ▸ str_no (by rw [htt2_0]; decide)
    replace HR2 := Hh (q_neg HR2.out (by simp [hc27, hc21, htt2_0]))
    replace HR2 := Hh (q_neg HR2.out (by simp [hc27, hc21, htt2_0]))
    replace HR2 := Hh (q_pos HR2.out (by simp [hc27, hc21, htt2_0]))
    have hq := HR2.out
    rw [show ((t2 == [115, 105, 122, 101, 111, 102] : Bool)) = true from by rw [htt2_0]; rfl] at hq
    clear HR2
    have HR2 := Hh hq
    clear hq
    obtain ⟨hle28, hr28⟩ := q_step HR2.out HN.out
    obtain ⟨c1, f1, -⟩ := HPo2.out.at
    have hpb := HPo2.out.lt
    rw [hbt] at hpb
    obtain ⟨q281, q282⟩ := HPo2.out.on hE hle28
    have hLn := hE.len
    obtain ⟨a28, hat28⟩ : ∃ a, Ps.at' s1 = a := ⟨_, rfl⟩
    rw [hat28] at c1 hle28 hr28 q281 q282
    have hi : a28 < 100000 := by omega
    obtain ⟨s28, hs28⟩ : ∃ t : Ps, (⟨a28 + 1, s1.done, s1.nm⟩ : Ps) = t := ⟨_, rfl⟩
    rw [hs28] at hr28 q281
    clear hs28
    have HR28 := Hh hr28
    have HP28 := Hh (q281.ext hE (below_alloc _ (.cells #[.int .i64 z2, .string x2] 54)))
    have hkx := KP.of_below (below_alloc (World.setCell w2 ⟨E.pb, 1, none⟩ (.int .i64 ((a28 + 1 : Nat) : Int))) (.cells #[.int .i64 z2, .string x2] 54))
    have HK28 := Hh (HKo2.out.trans (q282.trans hkx))
    have HBh28 := Hh ((HBoh2.out.kp q282).kp hkx)
    have HBt28 := Hh (hbt ▸ CtB.new' w2 ⟨E.pb, 1, none⟩ (.int .i64 ((a28 + 1 : Nat) : Int)) z2 x2)
    have HAT28 := Hh hat28
    clear q281 q282 hr28 hle28 hLn hat28 hkx
    go_wp2_with fail
    try rw [hbt]
    try clear c1 f1 hpb hi
    refine mQ ((IH.out n (Nat.le_refl _)).f_size true _ _ HP28.out (qne HR28.out HN.out)) HR28 HN HK28 (fun _ _ h => ⟨rfl, h⟩) ?_
    rintro v29 s29 y29 w29 HR29 rfl HP29 hkk HK29
    have HBh29 := Hh (HBh28.out.kp hkk)
    have HBt29 := Hh (HBt28.out.kp hkk)
    clear hkk
    obtain ⟨d0, d1⟩ := HBh29.out.cells
    go_wp2_with fail
    refine mR (wk_node hE 48 v1 _ _ HP29.out (qne HR29.out HN.out)) HR29 HN HK29 (fun _ _ h => ⟨rfl, h⟩) ?_
    rintro v30 s30 w30 HR30 HP30 hkk HK30
    have HBh30 := Hh (HBh29.out.kp hkk)
    have HBt30 := Hh (HBt29.out.kp hkk)
    clear hkk
    try clear d0 d1
    skip
    go_wp2_with fail
    exact ⟨rfl, .tuple #[], by simp [results, Tryz.results180, go_sem], q_ok (q_pure HR30.out) rfl HP30.out HK30.out⟩
   ·have fxt2_0 : (x2.toList == [115, 105, 122, 101, 111, 102]) = false := HX2.out ▸ str_no htt2_0
    by_cases htt2_1 : t2 = [95, 65, 108, 105, 103, 110, 111, 102]
    ·have fxt2_1 : (x2.toList == [95, 65, 108, 105, 103, 110, 111, 102]) = true := HX2.out ▸ str_is htt2_1
     replace HR2 := Hh (q_neg HR2.out (by simp [hc27, hc21, htt2_0, htt2_1]))
     replace HR2 := Hh (q_neg HR2.out (by simp [hc27, hc21, htt2_0, htt2_1]))
     replace HR2 := Hh (q_pos HR2.out (by simp [hc27, hc21, htt2_0, htt2_1]))
     have hq := HR2.out
     rw [show ((t2 == [115, 105, 122, 101, 111, 102] : Bool)) = false from by rw [htt2_1]; rfl] at hq
     clear HR2
     have HR2 := Hh hq
     clear hq
     obtain ⟨hle31, hr31⟩ := q_step HR2.out HN.out
     obtain ⟨c1, f1, -⟩ := HPo2.out.at
     have hpb := HPo2.out.lt
     rw [hbt] at hpb
     obtain ⟨q311, q312⟩ := HPo2.out.on hE hle31
     have hLn := hE.len
     obtain ⟨a31, hat31⟩ : ∃ a, Ps.at' s1 = a := ⟨_, rfl⟩
     rw [hat31] at c1 hle31 hr31 q311 q312
     have hi : a31 < 100000 := by omega
     obtain ⟨s31, hs31⟩ : ∃ t : Ps, (⟨a31 + 1, s1.done, s1.nm⟩ : Ps) = t := ⟨_, rfl⟩
     rw [hs31] at hr31 q311
     clear hs31
     have HR31 := Hh hr31
     have HP31 := Hh (q311.ext hE (below_alloc _ (.cells #[.int .i64 z2, .string x2] 54)))
     have hkx := KP.of_below (below_alloc (World.setCell w2 ⟨E.pb, 1, none⟩ (.int .i64 ((a31 + 1 : Nat) : Int))) (.cells #[.int .i64 z2, .string x2] 54))
     have HK31 := Hh (HKo2.out.trans (q312.trans hkx))
     have HBh31 := Hh ((HBoh2.out.kp q312).kp hkx)
     have HBt31 := Hh (hbt ▸ CtB.new' w2 ⟨E.pb, 1, none⟩ (.int .i64 ((a31 + 1 : Nat) : Int)) z2 x2)
     have HAT31 := Hh hat31
     clear q311 q312 hr31 hle31 hLn hat31 hkx
     go_wp2_with fail
     try rw [hbt]
     try clear c1 f1 hpb hi
     refine mQ ((IH.out n (Nat.le_refl _)).f_size false _ _ HP31.out (qne HR31.out HN.out)) HR31 HN HK31 (fun _ _ h => ⟨rfl, h⟩) ?_
     rintro v32 s32 y32 w32 HR32 rfl HP32 hkk HK32
     have HBh32 := Hh (HBh31.out.kp hkk)
     have HBt32 := Hh (HBt31.out.kp hkk)
     clear hkk
     obtain ⟨d0, d1⟩ := HBh32.out.cells
     go_wp2_with fail
     refine mR (wk_node hE 48 v1 _ _ HP32.out (qne HR32.out HN.out)) HR32 HN HK32 (fun _ _ h => ⟨rfl, h⟩) ?_
     rintro v33 s33 w33 HR33 HP33 hkk HK33
     have HBh33 := Hh (HBh32.out.kp hkk)
     have HBt33 := Hh (HBt32.out.kp hkk)
     clear hkk
     try clear d0 d1
     skip
     go_wp2_with fail
     exact ⟨rfl, .tuple #[], by simp [results, Tryz.results180, go_sem], q_ok (q_pure HR33.out) rfl HP33.out HK33.out⟩
    ·have fxt2_1 : (x2.toList == [95, 65, 108, 105, 103, 110, 111, 102]) = false := HX2.out ▸ str_no htt2_1
     replace HR2 := Hh (q_neg HR2.out (by simp [hc27, hc21, htt2_0, htt2_1]))
     replace HR2 := Hh (q_neg HR2.out (by simp [hc27, hc21, htt2_0, htt2_1]))
     replace HR2 := Hh (q_neg HR2.out (by simp [hc27, hc21, htt2_0, htt2_1]))
     go_wp2_with fail
     try rw [hbt]
     have HT := Hh (show run E.L E.base n (.pfix) _ = r from HR2.out)
     refine ((IH.out n (Nat.le_refl _)).f_pfix  _ _ HP2.out (by rw [HT.out]; exact HN.out)).mono ?_
     intro e w34 he
     rw [HT.out] at he
     rcases qtail HN.out HK2.out he with ⟨v34, s34, y34, hr34, rfl, hy34, hp34, hk34⟩ | ⟨hr34, ⟨z, rfl⟩, hb34, hk34⟩
     case' inr => exact ⟨rfl, q_no hr34 hb34 hk34⟩
     obtain rfl := hy34
     have HT34 := Hh hr34
     have HP34 := Hh hp34
     have HK34 := Hh hk34
     clear he hr34 hp34 hk34 HT
     go_wp2_with fail
     exact ⟨rfl, .tuple #[], by simp [results, Tryz.results180, go_sem], q_ok HT34.out rfl HP34.out HK34.out⟩
  ·have fc27 : (z2 == 7) = false := by rw [← HZ2.out, beq_eq_false_iff_ne]; omega
   have fn27 : (z2 != 7) = true := by rw [← HZ2.out, bne_iff_ne]; omega
   have fc21 : (z2 == 1) = false := by rw [← HZ2.out, beq_eq_false_iff_ne]; omega
   have fn21 : (z2 != 1) = true := by rw [← HZ2.out, bne_iff_ne]; omega
   replace HR2 := Hh (q_neg HR2.out (by simp [hc27, hc21]))
   replace HR2 := Hh (q_neg HR2.out (by simp [hc27, hc21]))
   replace HR2 := Hh (q_neg HR2.out (by simp [hc27, hc21]))
   go_wp2_with fail
   try rw [hbt]
   have HT := Hh (show run E.L E.base n (.pfix) _ = r from HR2.out)
   refine ((IH.out n (Nat.le_refl _)).f_pfix  _ _ HP2.out (by rw [HT.out]; exact HN.out)).mono ?_
   intro e w35 he
   rw [HT.out] at he
   rcases qtail HN.out HK2.out he with ⟨v35, s35, y35, hr35, rfl, hy35, hp35, hk35⟩ | ⟨hr35, ⟨z, rfl⟩, hb35, hk35⟩
   case' inr => exact ⟨rfl, q_no hr35 hb35 hk35⟩
   obtain rfl := hy35
   have HT35 := Hh hr35
   have HP35 := Hh hp35
   have HK35 := Hh hk35
   clear he hr35 hp35 hk35 HT
   go_wp2_with fail
   exact ⟨rfl, .tuple #[], by simp [results, Tryz.results180, go_sem], q_ok HT35.out rfl HP35.out HK35.out⟩
end Go.Proofs.YtlboejdhmggjpaaGreat.Pp

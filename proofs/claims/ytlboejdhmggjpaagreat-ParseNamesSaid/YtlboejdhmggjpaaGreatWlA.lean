/- parse: unary. -/
import Derived.Test.YtlboejdhmggjpaaGreatWkP
import Derived.Test.YtlboejdhmggjpaaGreatWkR
import Derived.Test.YtlboejdhmggjpaaGreatWkY
set_option linter.all false
namespace Go.Proofs.YtlboejdhmggjpaaGreat.Pp
set_option maxRecDepth 100000
set_option maxHeartbeats 16000000
open Go.RowKit Go.BigFrame Go.Proofs.YtlboejdhmggjpaaGreat

theorem spec_cases (t : Bs) : spec t = 0 ∨ spec t = 1 ∨ spec t = 2 ∨ spec t = 3 ∨ spec t = 4 ∨ spec t = 5 ∨ spec t = 6 ∨ spec t = 7 := by unfold spec; (repeat' split) <;> simp
theorem HdB.lt {w : World} {b : Nat} {h : Nat × Nat} (hb : HdB w b h) : b < w.heap.size := (Array.getElem?_eq_some_iff.1 hb).1
theorem HdB.ne {E : En} {w : World} {b : Nat} {h : Nat × Nat} {s : Ps} (hb : HdB w b h) (hp : PW E w s) : ¬ E.pb = b := by
 obtain ⟨vd, vc, vb, mb, hp⟩ := hp
 intro e
 have := hp.box
 rw [e, show w.heap[b]? = _ from hb] at this
 cases this
theorem lvl_le (t : Bs) : lvl t ≤ 45 := by unfold lvl; (repeat' split) <;> omega
theorem level_le {l : List Ct} {s s2 : Ps} {v : Nat} (h : level l s = .ok v s2) : v ≤ 45 := by
 unfold level at h
 cases h
 split
 ·exact lvl_le _
 ·omega
def CtB (w : World) (b : Nat) (z : Int) (x : ByteArray) : Prop := w.heap[b]? = some (.cells #[.int .i64 z, .string x] 54 (0, 0))
theorem CtB.kp {w w' : World} {b : Nat} {z : Int} {x : ByteArray} (hb : CtB w b z x) (hk : KP w w') : CtB w' b z x := hk.2 _ _ _ _ rfl hb
theorem CtB.new (w : World) (z : Int) (x : ByteArray) : CtB (w.alloc (.cells #[.int .i64 z, .string x] 54)) w.heap.size z x := new_cells _ _ _
theorem CtB.new' (w : World) (p : Addr) (v : Value) (z : Int) (x : ByteArray) : CtB ((w.setCell p v).alloc (.cells #[.int .i64 z, .string x] 54)) w.heap.size z x := by
 have := CtB.new (w.setCell p v) z x
 rwa [show (w.setCell p v).heap.size = w.heap.size by simp] at this
theorem CtB.cells {w : World} {b : Nat} {z : Int} {x : ByteArray} (hb : CtB w b z x) : w.cell? ⟨b, 0, none⟩ = some (.int .i64 z) ∧ w.cell? ⟨b, 1, none⟩ = some (.string x) := by unfold CtB at hb; simp [World.cell?, hb]
theorem w_unary {E : En} (hE : E.ok) {n : Nat} (ih : ∀ m, m ≤ n → Wk E m)  (s : Ps) (w : World) (hp : PW E w s) (hne : run E.L E.base (n + 1) (.unary) s ≠ .out) : Calls Tryz.prog 180 #[.pointer (some ⟨E.pb, 0, none⟩)] w (EndQ E vaU w (run E.L E.base (n + 1) (.unary) s)) := by
 obtain ⟨r, hr⟩ : ∃ r, run E.L E.base (n + 1) (.unary) s = r := ⟨_, rfl⟩
 rw [hr] at hne ⊢
 rw [run] at hr
 have HN := Hh hne
 have HR0 := Hh hr
 have HP0 := Hh hp
 have HK0 := Hh (KP.refl w)
 have IH := Hh ih
 clear hne hr hp ih
 go_enter Tryz.func180, Tryz.ntmps180
 go_wp2_with fail
 refine mR (wk_here hE _ _ HP0.out) HR0 HN HK0 (fun _ _ h => ⟨rfl, h⟩) ?_
 rintro v1 s1 w1 HR1 HP1 - HK1
 have HBn := Hh (HdB.new w1 v1)
 have HPn := Hh (HP1.out.ext hE (below_alloc w1 (.cells #[.int .i64 v1.1, .int .i64 v1.2] 77)))
 have HKn := Hh (HK1.out.trans (KP.of_below (below_alloc w1 (.cells #[.int .i64 v1.1, .int .i64 v1.2] 77))))
 have HPo1 := Hh HP1.out
 have HKo1 := Hh HK1.out
 clear HP1 HK1
 have HP1 := Hh HPn.out
 have HK1 := Hh HKn.out
 clear HPn HKn
 simp only [hdV]
 obtain ⟨bh, hbh⟩ : ∃ b, w1.heap.size = b := ⟨_, rfl⟩
 have HBh1 := Hh (hbh ▸ HBn.out)
 clear HBn
 go_wp2_with fail
 try rw [hbh]
 obtain ⟨T, hT⟩ : ∃ T, peekS E.L s1 0 = T := ⟨_, rfl⟩
 have hxl : T.t.length ≤ maxLen := by rw [← hT]; exact peek_txt hE _ 0
 have pk := wk_peek hE 0 _ _ (by omega) HP1.out
 rw [hT] at pk
 have hq := qone (x := peek E.L 0) HR1.out rfl
 rw [hT] at hq
 clear hT
 obtain ⟨c2, t2⟩ := T
 unfold ctV at pk
 dsimp only at pk hq hxl
 obtain ⟨x2, hxs⟩ : ∃ x : ByteArray, str t2 = x := ⟨_, rfl⟩
 obtain ⟨z2, hzs⟩ : ∃ z : Int, (c2 : Int) = z := ⟨_, rfl⟩
 rw [hxs, hzs] at pk
 have HX2 := Hh hxs
 have HZ2 := Hh hzs
 have HL2 := Hh hxl
 have HR2 := Hh hq
 have PK := Hh pk
 clear hxs hzs hxl hq pk
 refine PK.out.mono ?_
 rintro e w2 ⟨rfl, hbl⟩
 have HBL := Hh hbl
 clear hbl PK
 have HPo2 := Hh (HP1.out.ext hE HBL.out)
 have HKo2 := Hh (HK1.out.trans (KP.of_below HBL.out))
 have HP2 := Hh (HPo2.out.ext hE (below_alloc w2 (.cells #[.int .i64 z2, .string x2] 54)))
 have HK2 := Hh (HKo2.out.trans (KP.of_below (below_alloc w2 (.cells #[.int .i64 z2, .string x2] 54))))
 have HBoh2 := Hh (HBh1.out.kp (KP.of_below HBL.out))
 have HBh2 := Hh (HBoh2.out.kp (KP.of_below (below_alloc w2 (.cells #[.int .i64 z2, .string x2] 54))))
 obtain ⟨bt, hbt⟩ : ∃ b, w2.heap.size = b := ⟨_, rfl⟩
 have HBt2 := Hh (hbt ▸ CtB.new w2 z2 x2)
 by_cases hc27 : c2 = 7
 focus
  have fc27 : (z2 == 7) = true := by rw [← HZ2.out, hc27]; rfl
  have fn27 : (z2 != 7) = false := by rw [← HZ2.out, hc27]; rfl
  have fc21 : (z2 == 1) = false := by rw [← HZ2.out, beq_eq_false_iff_ne]; omega
  have fn21 : (z2 != 1) = true := by rw [← HZ2.out, bne_iff_ne]; omega
  by_cases htt2_0 : t2 = [43, 43]
  focus
   have fxt2_0 : (x2.toList == [43, 43]) = true := HX2.out ▸ str_is htt2_0
   have fyt2_0_1 : (x2.toList == [45, 45]) = false := HX2.out ▸ str_no (by rw [htt2_0]; decide)
   have fyt2_0_2 : (x2.toList == [38]) = false := HX2.out ▸ str_no (by rw [htt2_0]; decide)
   have fyt2_0_3 : (x2.toList == [42]) = false := HX2.out ▸ str_no (by rw [htt2_0]; decide)
   have fyt2_0_4 : (x2.toList == [43]) = false := HX2.out ▸ str_no (by rw [htt2_0]; decide)
   have fyt2_0_5 : (x2.toList == [45]) = false := HX2.out ▸ str_no (by rw [htt2_0]; decide)
   have fyt2_0_6 : (x2.toList == [126]) = false := HX2.out ▸ str_no (by rw [htt2_0]; decide)
   have fyt2_0_7 : (x2.toList == [33]) = false := HX2.out ▸ str_no (by rw [htt2_0]; decide)
   replace HR2 := Hh (q_pos HR2.out (by simp [hc27, htt2_0]))
   refine ?S2a
  rotate_left 1
  focus
   have fxt2_0 : (x2.toList == [43, 43]) = false := HX2.out ▸ str_no htt2_0
   by_cases htt2_1 : t2 = [45, 45]
   focus
    have fxt2_1 : (x2.toList == [45, 45]) = true := HX2.out ▸ str_is htt2_1
    have fyt2_1_2 : (x2.toList == [38]) = false := HX2.out ▸ str_no (by rw [htt2_1]; decide)
    have fyt2_1_3 : (x2.toList == [42]) = false := HX2.out ▸ str_no (by rw [htt2_1]; decide)
    have fyt2_1_4 : (x2.toList == [43]) = false := HX2.out ▸ str_no (by rw [htt2_1]; decide)
    have fyt2_1_5 : (x2.toList == [45]) = false := HX2.out ▸ str_no (by rw [htt2_1]; decide)
    have fyt2_1_6 : (x2.toList == [126]) = false := HX2.out ▸ str_no (by rw [htt2_1]; decide)
    have fyt2_1_7 : (x2.toList == [33]) = false := HX2.out ▸ str_no (by rw [htt2_1]; decide)
    replace HR2 := Hh (q_pos HR2.out (by simp [hc27, htt2_0, htt2_1]))
    refine ?S2b
   rotate_left 1
   focus
    have fxt2_1 : (x2.toList == [45, 45]) = false := HX2.out ▸ str_no htt2_1
    by_cases htt2_2 : t2 = [38]
    focus
     have fxt2_2 : (x2.toList == [38]) = true := HX2.out ▸ str_is htt2_2
     have fyt2_2_3 : (x2.toList == [42]) = false := HX2.out ▸ str_no (by rw [htt2_2]; decide)
     have fyt2_2_4 : (x2.toList == [43]) = false := HX2.out ▸ str_no (by rw [htt2_2]; decide)
     have fyt2_2_5 : (x2.toList == [45]) = false := HX2.out ▸ str_no (by rw [htt2_2]; decide)
     have fyt2_2_6 : (x2.toList == [126]) = false := HX2.out ▸ str_no (by rw [htt2_2]; decide)
     have fyt2_2_7 : (x2.toList == [33]) = false := HX2.out ▸ str_no (by rw [htt2_2]; decide)
     replace HR2 := Hh (q_neg HR2.out (by simp [hc27, htt2_0, htt2_1, htt2_2]))
     replace HR2 := Hh (q_pos HR2.out (by simp [hc27, htt2_0, htt2_1, htt2_2]))
     refine ?S1a
    rotate_left 1
    focus
     have fxt2_2 : (x2.toList == [38]) = false := HX2.out ▸ str_no htt2_2
     by_cases htt2_3 : t2 = [42]
     focus
      have fxt2_3 : (x2.toList == [42]) = true := HX2.out ▸ str_is htt2_3
      have fyt2_3_4 : (x2.toList == [43]) = false := HX2.out ▸ str_no (by rw [htt2_3]; decide)
      have fyt2_3_5 : (x2.toList == [45]) = false := HX2.out ▸ str_no (by rw [htt2_3]; decide)
      have fyt2_3_6 : (x2.toList == [126]) = false := HX2.out ▸ str_no (by rw [htt2_3]; decide)
      have fyt2_3_7 : (x2.toList == [33]) = false := HX2.out ▸ str_no (by rw [htt2_3]; decide)
      replace HR2 := Hh (q_neg HR2.out (by simp [hc27, htt2_0, htt2_1, htt2_2, htt2_3]))
      replace HR2 := Hh (q_pos HR2.out (by simp [hc27, htt2_0, htt2_1, htt2_2, htt2_3]))
      refine ?S1b
     rotate_left 1
     focus
      have fxt2_3 : (x2.toList == [42]) = false := HX2.out ▸ str_no htt2_3
      by_cases htt2_4 : t2 = [43]
      focus
       have fxt2_4 : (x2.toList == [43]) = true := HX2.out ▸ str_is htt2_4
       have fyt2_4_5 : (x2.toList == [45]) = false := HX2.out ▸ str_no (by rw [htt2_4]; decide)
       have fyt2_4_6 : (x2.toList == [126]) = false := HX2.out ▸ str_no (by rw [htt2_4]; decide)
       have fyt2_4_7 : (x2.toList == [33]) = false := HX2.out ▸ str_no (by rw [htt2_4]; decide)
       replace HR2 := Hh (q_neg HR2.out (by simp [hc27, htt2_0, htt2_1, htt2_2, htt2_3, htt2_4]))
       replace HR2 := Hh (q_pos HR2.out (by simp [hc27, htt2_0, htt2_1, htt2_2, htt2_3, htt2_4]))
       refine ?S1c
      rotate_left 1
      focus
       have fxt2_4 : (x2.toList == [43]) = false := HX2.out ▸ str_no htt2_4
       by_cases htt2_5 : t2 = [45]
       focus
        have fxt2_5 : (x2.toList == [45]) = true := HX2.out ▸ str_is htt2_5
        have fyt2_5_6 : (x2.toList == [126]) = false := HX2.out ▸ str_no (by rw [htt2_5]; decide)
        have fyt2_5_7 : (x2.toList == [33]) = false := HX2.out ▸ str_no (by rw [htt2_5]; decide)
        replace HR2 := Hh (q_neg HR2.out (by simp [hc27, htt2_0, htt2_1, htt2_2, htt2_3, htt2_4, htt2_5]))
        replace HR2 := Hh (q_pos HR2.out (by simp [hc27, htt2_0, htt2_1, htt2_2, htt2_3, htt2_4, htt2_5]))
        refine ?S1d
       rotate_left 1
       focus
        have fxt2_5 : (x2.toList == [45]) = false := HX2.out ▸ str_no htt2_5
        by_cases htt2_6 : t2 = [126]
        focus
         have fxt2_6 : (x2.toList == [126]) = true := HX2.out ▸ str_is htt2_6
         have fyt2_6_7 : (x2.toList == [33]) = false := HX2.out ▸ str_no (by rw [htt2_6]; decide)
         replace HR2 := Hh (q_neg HR2.out (by simp [hc27, htt2_0, htt2_1, htt2_2, htt2_3, htt2_4, htt2_5, htt2_6]))
         replace HR2 := Hh (q_pos HR2.out (by simp [hc27, htt2_0, htt2_1, htt2_2, htt2_3, htt2_4, htt2_5, htt2_6]))
         refine ?S1e
        rotate_left 1
        focus
         have fxt2_6 : (x2.toList == [126]) = false := HX2.out ▸ str_no htt2_6
         by_cases htt2_7 : t2 = [33]
         focus
          have fxt2_7 : (x2.toList == [33]) = true := HX2.out ▸ str_is htt2_7
          replace HR2 := Hh (q_neg HR2.out (by simp [hc27, htt2_0, htt2_1, htt2_2, htt2_3, htt2_4, htt2_5, htt2_6, htt2_7]))
          replace HR2 := Hh (q_pos HR2.out (by simp [hc27, htt2_0, htt2_1, htt2_2, htt2_3, htt2_4, htt2_5, htt2_6, htt2_7]))
          refine ?S1f
         rotate_left 1
         focus
          have fxt2_7 : (x2.toList == [33]) = false := HX2.out ▸ str_no htt2_7
          replace HR2 := Hh (q_neg HR2.out (by simp [hc27, htt2_0, htt2_1, htt2_2, htt2_3, htt2_4, htt2_5, htt2_6, htt2_7]))
          replace HR2 := Hh (q_neg HR2.out (by simp [hc27, htt2_0, htt2_1, htt2_2, htt2_3, htt2_4, htt2_5, htt2_6, htt2_7]))
          replace HR2 := Hh (q_neg HR2.out (by simp [hc27, htt2_0, htt2_1, htt2_2, htt2_3, htt2_4, htt2_5, htt2_6, htt2_7]))
          refine ?S3a
    rotate_left 1
    case S1a | S1b | S1c | S1d | S1e | S1f =>
     obtain ⟨hle9, hr9⟩ := q_step HR2.out HN.out
     obtain ⟨c1, f1, -⟩ := HPo2.out.at
     have hpb := HPo2.out.lt
     rw [hbt] at hpb
     obtain ⟨q91, q92⟩ := HPo2.out.on hE hle9
     have hLn := hE.len
     obtain ⟨a9, hat9⟩ : ∃ a, Ps.at' s1 = a := ⟨_, rfl⟩
     rw [hat9] at c1 hle9 hr9 q91 q92
     have hi : a9 < 100000 := by omega
     obtain ⟨s9, hs9⟩ : ∃ t : Ps, (⟨a9 + 1, s1.done, s1.nm⟩ : Ps) = t := ⟨_, rfl⟩
     rw [hs9] at hr9 q91
     clear hs9
     have HR9 := Hh hr9
     have HP9 := Hh (q91.ext hE (below_alloc _ (.cells #[.int .i64 z2, .string x2] 54)))
     have hkx := KP.of_below (below_alloc (World.setCell w2 ⟨E.pb, 1, none⟩ (.int .i64 ((a9 + 1 : Nat) : Int))) (.cells #[.int .i64 z2, .string x2] 54))
     have HK9 := Hh (HKo2.out.trans (q92.trans hkx))
     have HBh9 := Hh ((HBoh2.out.kp q92).kp hkx)
     have HBt9 := Hh (hbt ▸ CtB.new' w2 ⟨E.pb, 1, none⟩ (.int .i64 ((a9 + 1 : Nat) : Int)) z2 x2)
     have HAT9 := Hh hat9
     clear q91 q92 hr9 hle9 hLn hat9 hkx
     go_wp2_with fail
     try rw [hbt]
     try clear c1 f1 hpb hi
     refine mQ ((IH.out n (Nat.le_refl _)).f_cast  _ _ HP9.out (qne HR9.out HN.out)) HR9 HN HK9 (fun _ _ h => ⟨rfl, h⟩) ?_
     rintro v10 s10 y10 w10 HR10 rfl HP10 hkk HK10
     have HBh10 := Hh (HBh9.out.kp hkk)
     have HBt10 := Hh (HBt9.out.kp hkk)
     clear hkk
     obtain ⟨d0, d1⟩ := HBh10.out.cells
     go_wp2_with fail
     refine mR (wk_node hE 47 v1 _ _ HP10.out (qne HR10.out HN.out)) HR10 HN HK10 (fun _ _ h => ⟨rfl, h⟩) ?_
     rintro v11 s11 w11 HR11 HP11 hkk HK11
     have HBh11 := Hh (HBh10.out.kp hkk)
     have HBt11 := Hh (HBt10.out.kp hkk)
     clear hkk
     try clear d0 d1
     skip
     go_wp2_with fail
     exact ⟨rfl, .tuple #[], by simp [results, Tryz.results180, go_sem], q_ok (q_pure HR11.out) rfl HP11.out HK11.out⟩
  rotate_left 1
  case S2a | S2b =>
   obtain ⟨hle3, hr3⟩ := q_step HR2.out HN.out
   obtain ⟨c1, f1, -⟩ := HPo2.out.at
   have hpb := HPo2.out.lt
   rw [hbt] at hpb
   obtain ⟨q31, q32⟩ := HPo2.out.on hE hle3
   have hLn := hE.len
   obtain ⟨a3, hat3⟩ : ∃ a, Ps.at' s1 = a := ⟨_, rfl⟩
   rw [hat3] at c1 hle3 hr3 q31 q32
   have hi : a3 < 100000 := by omega
   obtain ⟨s3, hs3⟩ : ∃ t : Ps, (⟨a3 + 1, s1.done, s1.nm⟩ : Ps) = t := ⟨_, rfl⟩
   rw [hs3] at hr3 q31
   clear hs3
   have HR3 := Hh hr3
   have HP3 := Hh (q31.ext hE (below_alloc _ (.cells #[.int .i64 z2, .string x2] 54)))
   have hkx := KP.of_below (below_alloc (World.setCell w2 ⟨E.pb, 1, none⟩ (.int .i64 ((a3 + 1 : Nat) : Int))) (.cells #[.int .i64 z2, .string x2] 54))
   have HK3 := Hh (HKo2.out.trans (q32.trans hkx))
   have HBh3 := Hh ((HBoh2.out.kp q32).kp hkx)
   have HBt3 := Hh (hbt ▸ CtB.new' w2 ⟨E.pb, 1, none⟩ (.int .i64 ((a3 + 1 : Nat) : Int)) z2 x2)
   have HAT3 := Hh hat3
   clear q31 q32 hr3 hle3 hLn hat3 hkx
   go_wp2_with fail
   try rw [hbt]
   try clear c1 f1 hpb hi
   refine mQ ((IH.out n (Nat.le_refl _)).f_unary  _ _ HP3.out (qne HR3.out HN.out)) HR3 HN HK3 (fun _ _ h => ⟨rfl, h⟩) ?_
   rintro v4 s4 y4 w4 HR4 rfl HP4 hkk HK4
   have HBh4 := Hh (HBh3.out.kp hkk)
   have HBt4 := Hh (HBt3.out.kp hkk)
   clear hkk
   obtain ⟨d0, d1⟩ := HBh4.out.cells
   go_wp2_with fail
   refine mR (wk_node hE 47 v1 _ _ HP4.out (qne HR4.out HN.out)) HR4 HN HK4 (fun _ _ h => ⟨rfl, h⟩) ?_
   rintro v5 s5 w5 HR5 HP5 hkk HK5
   have HBh5 := Hh (HBh4.out.kp hkk)
   have HBt5 := Hh (HBt4.out.kp hkk)
   clear hkk
   try clear d0 d1
   skip
   go_wp2_with fail
   exact ⟨rfl, .tuple #[], by simp [results, Tryz.results180, go_sem], q_ok (q_pure HR5.out) rfl HP5.out HK5.out⟩
 rotate_left 1
 focus
  by_cases hc21 : c2 = 1
  focus
   have fc27 : (z2 == 7) = false := by rw [← HZ2.out, beq_eq_false_iff_ne]; omega
   have fn27 : (z2 != 7) = true := by rw [← HZ2.out, bne_iff_ne]; omega
   have fc21 : (z2 == 1) = true := by rw [← HZ2.out, hc21]; rfl
   have fn21 : (z2 != 1) = false := by rw [← HZ2.out, hc21]; rfl
   by_cases htt2_0 : t2 = [115, 105, 122, 101, 111, 102]
   focus
    have fxt2_0 : (x2.toList == [115, 105, 122, 101, 111, 102]) = true := HX2.out ▸ str_is htt2_0
    have fyt2_0_1 : (x2.toList == [95, 65, 108, 105, 103, 110, 111, 102]) = false := HX2.out ▸ str_no (by rw [htt2_0]; decide)
    replace HR2 := Hh (q_neg HR2.out (by simp [hc27, hc21, htt2_0]))
    replace HR2 := Hh (q_neg HR2.out (by simp [hc27, hc21, htt2_0]))
    replace HR2 := Hh (q_pos HR2.out (by simp [hc27, hc21, htt2_0]))
    have hq := HR2.out
    rw [show ((t2 == [115, 105, 122, 101, 111, 102] : Bool)) = true from by rw [htt2_0]; rfl] at hq
    clear HR2
    have HR2 := Hh hq
    clear hq
    obtain ⟨hle28, hr28⟩ := q_step HR2.out HN.out
    obtain ⟨c1, f1, -⟩ := HPo2.out.at
    have hpb := HPo2.out.lt
    rw [hbt] at hpb
    obtain ⟨q281, q282⟩ := HPo2.out.on hE hle28
    have hLn := hE.len
    obtain ⟨a28, hat28⟩ : ∃ a, Ps.at' s1 = a := ⟨_, rfl⟩
    rw [hat28] at c1 hle28 hr28 q281 q282
    have hi : a28 < 100000 := by omega
    obtain ⟨s28, hs28⟩ : ∃ t : Ps, (⟨a28 + 1, s1.done, s1.nm⟩ : Ps) = t := ⟨_, rfl⟩
    rw [hs28] at hr28 q281
    clear hs28
    have HR28 := Hh hr28
    have HP28 := Hh (q281.ext hE (below_alloc _ (.cells #[.int .i64 z2, .string x2] 54)))
    have hkx := KP.of_below (below_alloc (World.setCell w2 ⟨E.pb, 1, none⟩ (.int .i64 ((a28 + 1 : Nat) : Int))) (.cells #[.int .i64 z2, .string x2] 54))
    have HK28 := Hh (HKo2.out.trans (q282.trans hkx))
    have HBh28 := Hh ((HBoh2.out.kp q282).kp hkx)
    have HBt28 := Hh (hbt ▸ CtB.new' w2 ⟨E.pb, 1, none⟩ (.int .i64 ((a28 + 1 : Nat) : Int)) z2 x2)
    have HAT28 := Hh hat28
    clear q281 q282 hr28 hle28 hLn hat28 hkx
    go_wp2_with fail
    try rw [hbt]
    try clear c1 f1 hpb hi
    refine mQ ((IH.out n (Nat.le_refl _)).f_size true _ _ HP28.out (qne HR28.out HN.out)) HR28 HN HK28 (fun _ _ h => ⟨rfl, h⟩) ?_
    refine ?S4a
   rotate_left 1
   focus
    have fxt2_0 : (x2.toList == [115, 105, 122, 101, 111, 102]) = false := HX2.out ▸ str_no htt2_0
    by_cases htt2_1 : t2 = [95, 65, 108, 105, 103, 110, 111, 102]
    focus
     have fxt2_1 : (x2.toList == [95, 65, 108, 105, 103, 110, 111, 102]) = true := HX2.out ▸ str_is htt2_1
     replace HR2 := Hh (q_neg HR2.out (by simp [hc27, hc21, htt2_0, htt2_1]))
     replace HR2 := Hh (q_neg HR2.out (by simp [hc27, hc21, htt2_0, htt2_1]))
     replace HR2 := Hh (q_pos HR2.out (by simp [hc27, hc21, htt2_0, htt2_1]))
     have hq := HR2.out
     rw [show ((t2 == [115, 105, 122, 101, 111, 102] : Bool)) = false from by rw [htt2_1]; rfl] at hq
     clear HR2
     have HR2 := Hh hq
     clear hq
     obtain ⟨hle31, hr31⟩ := q_step HR2.out HN.out
     obtain ⟨c1, f1, -⟩ := HPo2.out.at
     have hpb := HPo2.out.lt
     rw [hbt] at hpb
     obtain ⟨q311, q312⟩ := HPo2.out.on hE hle31
     have hLn := hE.len
     obtain ⟨a31, hat31⟩ : ∃ a, Ps.at' s1 = a := ⟨_, rfl⟩
     rw [hat31] at c1 hle31 hr31 q311 q312
     have hi : a31 < 100000 := by omega
     obtain ⟨s31, hs31⟩ : ∃ t : Ps, (⟨a31 + 1, s1.done, s1.nm⟩ : Ps) = t := ⟨_, rfl⟩
     rw [hs31] at hr31 q311
     clear hs31
     have HR31 := Hh hr31
     have HP31 := Hh (q311.ext hE (below_alloc _ (.cells #[.int .i64 z2, .string x2] 54)))
     have hkx := KP.of_below (below_alloc (World.setCell w2 ⟨E.pb, 1, none⟩ (.int .i64 ((a31 + 1 : Nat) : Int))) (.cells #[.int .i64 z2, .string x2] 54))
     have HK31 := Hh (HKo2.out.trans (q312.trans hkx))
     have HBh31 := Hh ((HBoh2.out.kp q312).kp hkx)
     have HBt31 := Hh (hbt ▸ CtB.new' w2 ⟨E.pb, 1, none⟩ (.int .i64 ((a31 + 1 : Nat) : Int)) z2 x2)
     have HAT31 := Hh hat31
     clear q311 q312 hr31 hle31 hLn hat31 hkx
     go_wp2_with fail
     try rw [hbt]
     try clear c1 f1 hpb hi
     refine mQ ((IH.out n (Nat.le_refl _)).f_size false _ _ HP31.out (qne HR31.out HN.out)) HR31 HN HK31 (fun _ _ h => ⟨rfl, h⟩) ?_
     have HBh28 := HBh31
     have HBt28 := HBt31
     refine ?S4b
    rotate_left 1
    focus
     have fxt2_1 : (x2.toList == [95, 65, 108, 105, 103, 110, 111, 102]) = false := HX2.out ▸ str_no htt2_1
     replace HR2 := Hh (q_neg HR2.out (by simp [hc27, hc21, htt2_0, htt2_1]))
     replace HR2 := Hh (q_neg HR2.out (by simp [hc27, hc21, htt2_0, htt2_1]))
     replace HR2 := Hh (q_neg HR2.out (by simp [hc27, hc21, htt2_0, htt2_1]))
     refine ?S3b
   case S4a | S4b =>
    rintro v29 s29 y29 w29 HR29 rfl HP29 hkk HK29
    have HBh29 := Hh (HBh28.out.kp hkk)
    have HBt29 := Hh (HBt28.out.kp hkk)
    clear hkk
    obtain ⟨d0, d1⟩ := HBh29.out.cells
    go_wp2_with fail
    refine mR (wk_node hE 48 v1 _ _ HP29.out (qne HR29.out HN.out)) HR29 HN HK29 (fun _ _ h => ⟨rfl, h⟩) ?_
    rintro v30 s30 w30 HR30 HP30 hkk HK30
    have HBh30 := Hh (HBh29.out.kp hkk)
    have HBt30 := Hh (HBt29.out.kp hkk)
    clear hkk
    try clear d0 d1
    skip
    go_wp2_with fail
    exact ⟨rfl, .tuple #[], by simp [results, Tryz.results180, go_sem], q_ok (q_pure HR30.out) rfl HP30.out HK30.out⟩
  rotate_left 1
  focus
   have fc27 : (z2 == 7) = false := by rw [← HZ2.out, beq_eq_false_iff_ne]; omega
   have fn27 : (z2 != 7) = true := by rw [← HZ2.out, bne_iff_ne]; omega
   have fc21 : (z2 == 1) = false := by rw [← HZ2.out, beq_eq_false_iff_ne]; omega
   have fn21 : (z2 != 1) = true := by rw [← HZ2.out, bne_iff_ne]; omega
   replace HR2 := Hh (q_neg HR2.out (by simp [hc27, hc21]))
   replace HR2 := Hh (q_neg HR2.out (by simp [hc27, hc21]))
   replace HR2 := Hh (q_neg HR2.out (by simp [hc27, hc21]))
   refine ?S3c
 case S3a | S3b | S3c =>
  go_wp2_with fail
  try rw [hbt]
  have HT := Hh (show run E.L E.base n (.pfix) _ = r from HR2.out)
  refine ((IH.out n (Nat.le_refl _)).f_pfix  _ _ HP2.out (by rw [HT.out]; exact HN.out)).mono ?_
  intro e w27 he
  rw [HT.out] at he
  rcases qtail HN.out HK2.out he with ⟨v27, s27, y27, hr27, rfl, hy27, hp27, hk27⟩ | ⟨hr27, ⟨z, rfl⟩, hb27, hk27⟩
  case' inr => exact ⟨rfl, q_no hr27 hb27 hk27⟩
  obtain rfl := hy27
  have HT27 := Hh hr27
  have HP27 := Hh hp27
  have HK27 := Hh hk27
  clear he hr27 hp27 hk27 HT
  go_wp2_with fail
  exact ⟨rfl, .tuple #[], by simp [results, Tryz.results180, go_sem], q_ok HT27.out rfl HP27.out HK27.out⟩
end Go.Proofs.YtlboejdhmggjpaaGreat.Pp

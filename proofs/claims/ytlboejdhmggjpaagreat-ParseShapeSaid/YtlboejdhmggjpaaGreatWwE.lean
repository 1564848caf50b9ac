/- scan: where numbers end. -/
import Derived.Test.YtlboejdhmggjpaaGreatWwD
set_option linter.all false
namespace Go.Proofs.YtlboejdhmggjpaaGreat.Ww
set_option maxRecDepth 100000
set_option maxHeartbeats 16000000
open Go.Proofs.YtlboejdhmggjpaaGreat
open Go.RowKit Go.BigFrame

theorem letter_callI (n : Int) (w : World) (b : Bool) (h : ((decide (97 ≤ n) && decide (n ≤ 122)) || (decide (65 ≤ n) && decide (n ≤ 90)) || decide (n = 95)) = b) : Calls Tryz.prog 188 #[.int .u8 n] w fun e w' => e = .returned (.bool b) ∧ w' = w := by
 subst h
 go_enter Tryz.func188, Tryz.ntmps188
 go_wp2
 all_goals (go_ret; refine ⟨ret_bool ?_, rfl⟩ <;> first | rfl | (simp; done) | (rw [Bool.eq_iff_iff]; done) | (rw [Bool.eq_iff_iff]; simp; done) | (rw [Bool.eq_iff_iff]; simp; omega) | (simp; omega))
theorem digit_callI (n : Int) (w : World) (b : Bool) (h : (decide (48 ≤ n) && decide (n ≤ 57)) = b) : Calls Tryz.prog 189 #[.int .u8 n] w fun e w' => e = .returned (.bool b) ∧ w' = w := by
 subst h
 go_enter Tryz.func189, Tryz.ntmps189
 go_wp2
 all_goals (go_ret; refine ⟨ret_bool ?_, rfl⟩ <;> first | rfl | (simp; done) | (rw [Bool.eq_iff_iff]; done) | (rw [Bool.eq_iff_iff]; simp; done) | (rw [Bool.eq_iff_iff]; simp; omega) | (simp; omega))
theorem expo_cls (c : UInt8) : (expo c = false ∧ ((c.toNat : Int) == 101) = false ∧ ((c.toNat : Int) == 69) = false ∧ ((c.toNat : Int) == 112) = false ∧ ((c.toNat : Int) == 80) = false) ∨
  (expo c = true ∧ numc c = true ∧ ((c.toNat : Int) = 101 ∨ (c.toNat : Int) = 69 ∨ (c.toNat : Int) = 112 ∨ (c.toNat : Int) = 80)) := by
 simp only [expo, numc, letter, digit, beq_eq_false_iff_ne, Bool.or_eq_true, Bool.and_eq_true, decide_eq_true_eq, Bool.or_eq_false_iff, decide_eq_false_iff_not]
 omega
theorem sign_cls (c : UInt8) : (sign c = true ∧ ((c.toNat : Int) = 43 ∨ (c.toNat : Int) = 45)) ∨ (sign c = false ∧ ((c.toNat : Int) == 43) = false ∧ ((c.toNat : Int) == 45) = false) := by
 simp only [sign, beq_eq_false_iff_ne, Bool.or_eq_true, decide_eq_true_eq, Bool.or_eq_false_iff, decide_eq_false_iff_not]
 omega
theorem numc_cls (c : UInt8) : (digit c = true ∧ numc c = true) ∨ (digit c = false ∧ letter c = true ∧ numc c = true) ∨ (digit c = false ∧ letter c = false ∧ (c.toNat : Int) = 46 ∧ numc c = true) ∨ (digit c = false ∧ letter c = false ∧ ((c.toNat : Int) == 46) = false ∧ numc c = false) := by
 simp only [numc, beq_eq_false_iff_ne]
 cases digit c <;> cases letter c <;> simp <;> omega
theorem nRun_two {s : ByteArray} {j : Nat} (h : j + 1 < s.size) : nRun ((dl s).drop j) = if expo s[j] && sign s[j + 1] then nRun ((dl s).drop (j + 2)) + 2 else if numc s[j] then nRun ((dl s).drop (j + 1)) + 1 else 0 := by
 rw [drop_at (show j < s.size by omega), drop_at h, nRun]
theorem nRun_one {s : ByteArray} {j : Nat} (h : j + 1 = s.size) : nRun ((dl s).drop j) = if numc s[j] then nRun ((dl s).drop (j + 1)) + 1 else 0 := by
 rw [drop_at (show j < s.size by omega), drop_end (show s.size ≤ j + 1 by omega), nRun]
 rfl
theorem nRun_end {s : ByteArray} {j : Nat} (h : s.size ≤ j) : nRun ((dl s).drop j) = 0 := by rw [drop_end h]; rfl
inductive NAt (s : ByteArray) (j : Nat) (h : j < s.size) : Prop
 | two (k : j + 1 < s.size) (k1 : (j : Int) + 1 < s.size) (a : (s[j].toNat : Int) = 101 ∨ (s[j].toNat : Int) = 69 ∨ (s[j].toNat : Int) = 112 ∨ (s[j].toNat : Int) = 80) (b : (s[j + 1].toNat : Int) = 43 ∨ (s[j + 1].toNat : Int) = 45) (e : nRun ((dl s).drop j) = nRun ((dl s).drop (j + 2)) + 2)
 | onee (a : (s[j].toNat : Int) = 101 ∨ (s[j].toNat : Int) = 69 ∨ (s[j].toNat : Int) = 112 ∨ (s[j].toNat : Int) = 80) (b : ¬ (j : Int) + 1 < s.size ∨ ∃ k : j + 1 < s.size, (j : Int) + 1 < s.size ∧ ((s[j + 1].toNat : Int) == 43) = false ∧ ((s[j + 1].toNat : Int) == 45) = false) (e : nRun ((dl s).drop j) = nRun ((dl s).drop (j + 1)) + 1)
 | one (a1 : ((s[j].toNat : Int) == 101) = false) (a2 : ((s[j].toNat : Int) == 69) = false) (a3 : ((s[j].toNat : Int) == 112) = false) (a4 : ((s[j].toNat : Int) == 80) = false) (d : digit s[j] = true ∨ (digit s[j] = false ∧ letter s[j] = true) ∨ (digit s[j] = false ∧ letter s[j] = false ∧ (s[j].toNat : Int) = 46)) (e : nRun ((dl s).drop j) = nRun ((dl s).drop (j + 1)) + 1)
 | none (a1 : ((s[j].toNat : Int) == 101) = false) (a2 : ((s[j].toNat : Int) == 69) = false) (a3 : ((s[j].toNat : Int) == 112) = false) (a4 : ((s[j].toNat : Int) == 80) = false) (d : digit s[j] = false) (l : letter s[j] = false) (p : ((s[j].toNat : Int) == 46) = false) (e : nRun ((dl s).drop j) = 0)
theorem nAt {s : ByteArray} {j : Nat} (h : j < s.size) : NAt s j h := by
 have one : numc s[j] = true → expo s[j] = false → nRun ((dl s).drop j) = nRun ((dl s).drop (j + 1)) + 1 := fun hn he => by
  by_cases hk : j + 1 < s.size
  ·rw [nRun_two hk, he, hn]; simp
  ·rw [nRun_one (by omega), hn]; simp
 rcases expo_cls s[j] with ⟨he, a1, a2, a3, a4⟩ | ⟨he, hn, ha⟩
 ·rcases numc_cls s[j] with ⟨d, hn⟩ | ⟨d, l, hn⟩ | ⟨d, l, p, hn⟩ | ⟨d, l, p, hn⟩
  ·exact .one a1 a2 a3 a4 (.inl d) (one hn he)
  ·exact .one a1 a2 a3 a4 (.inr (.inl ⟨d, l⟩)) (one hn he)
  ·exact .one a1 a2 a3 a4 (.inr (.inr ⟨d, l, p⟩)) (one hn he)
  ·refine .none a1 a2 a3 a4 d l p ?_
   by_cases hk : j + 1 < s.size
   ·rw [nRun_two hk, he, hn]; simp
   ·rw [nRun_one (by omega), hn]; simp
 ·by_cases hk : j + 1 < s.size
  ·rcases sign_cls s[j + 1] with ⟨hs, hb⟩ | ⟨hs, b1, b2⟩
   ·exact .two hk (by omega) ha hb (by rw [nRun_two hk, he, hs]; simp)
   ·exact .onee ha (.inr ⟨hk, by omega, b1, b2⟩) (by rw [nRun_two hk, hs, hn]; simp)
  ·exact .onee ha (.inl (by omega)) (by rw [nRun_one (by omega), hn]; simp)
theorem Sc.numberEnd (s : ByteArray) (i : Nat) (w : World) (hi : i < s.size) (hs : s.size ≤ 1000000000) : Calls Tryz.prog 173 #[.string s, .int .i64 i] w fun e w' => e = .returned (.int .i64 (endAt i (nLen ((dl s).drop i)))) ∧ w' = w := by
 have hi' : (i : Int) < s.size := by omega
 -- where the first digit stands
 have hst : (nLen ((dl s).drop i) = 0 ∧ ((∃ h : i + 1 < s.size, ((i : Int) + 1 == s.size) = false ∧ (s[i].toNat : Int) = 46 ∧ digit s[i + 1] = false) ∨ ((s[i].toNat : Int) = 46 ∧ (i : Int) + 1 = s.size) ∨ (((s[i].toNat : Int) == 46) = false ∧ ((i : Int) == s.size) = false ∧ digit s[i] = false))) ∨
   ∃ m, i < m ∧ m ≤ s.size ∧ nLen ((dl s).drop i) = m - i + nRun ((dl s).drop m) ∧ ((∃ h : i + 1 < s.size, ((i : Int) + 1 == s.size) = false ∧ (s[i].toNat : Int) = 46 ∧ digit s[i + 1] = true ∧ m = i + 2) ∨ (((s[i].toNat : Int) == 46) = false ∧ ((i : Int) == s.size) = false ∧ digit s[i] = true ∧ m = i + 1)) := by
  have hne : ((i : Int) == s.size) = false := by rw [beq_eq_false_iff_ne]; omega
  by_cases hk : i + 1 < s.size
  ·have hl : nLen ((dl s).drop i) = if s[i].toNat = 46 then (if digit s[i + 1] then nRun ((dl s).drop (i + 2)) + 2 else 0) else if digit s[i] then nRun ((dl s).drop (i + 1)) + 1 else 0 := by
    rw [drop_at hi, drop_at hk, nLen]
   have hne1 : ((i : Int) + 1 == s.size) = false := by rw [beq_eq_false_iff_ne]; omega
   by_cases h46 : s[i].toNat = 46
   ·rw [if_pos h46] at hl
    cases hd : digit s[i + 1]
    ·exact .inl ⟨by rw [hl, hd]; rfl, .inl ⟨hk, hne1, by omega, hd⟩⟩
    ·exact .inr ⟨i + 2, by omega, by omega, by rw [hl, hd]; simp; omega, .inl ⟨hk, hne1, by omega, hd, rfl⟩⟩
   ·rw [if_neg h46] at hl
    have h46' : ((s[i].toNat : Int) == 46) = false := by rw [beq_eq_false_iff_ne]; omega
    rcases Bool.eq_false_or_eq_true (digit s[i]) with hd | hd
    rotate_left
    ·exact .inl ⟨by rw [hl, hd]; rfl, .inr (.inr ⟨h46', hne, hd⟩)⟩
    ·exact .inr ⟨i + 1, by omega, by omega, by rw [hl, hd]; simp; omega, .inr ⟨h46', hne, hd, rfl⟩⟩
  ·have hl : nLen ((dl s).drop i) = if digit s[i] then 1 else 0 := by
    rw [drop_at hi, drop_end (show s.size ≤ i + 1 by omega), nLen]
   by_cases h46 : s[i].toNat = 46
   ·have hd : digit s[i] = false := by simp [digit, h46]
    exact .inl ⟨by rw [hl, hd]; rfl, .inr (.inl ⟨by omega, by omega⟩)⟩
   ·have h46' : ((s[i].toNat : Int) == 46) = false := by rw [beq_eq_false_iff_ne]; omega
    rcases Bool.eq_false_or_eq_true (digit s[i]) with hd | hd
    rotate_left
    ·exact .inl ⟨by rw [hl, hd]; rfl, .inr (.inr ⟨h46', hne, hd⟩)⟩
    ·exact .inr ⟨i + 1, by omega, by omega, by rw [hl, hd, nRun_end (by omega)]; simp, .inr ⟨h46', hne, hd, rfl⟩⟩
 obtain ⟨V, hV⟩ : ∃ V, nLen ((dl s).drop i) = V := ⟨_, rfl⟩
 rw [hV] at hst ⊢
 clear hV
 rcases hst with ⟨rfl, ⟨h, h1, h2, h3⟩ | ⟨h1, h2⟩ | ⟨h1, h2, h3⟩⟩ | ⟨m, hm, hms, hmv, hst⟩
 ·have H3 := Lib.hid h3
  clear h3
  go_enter Tryz.func173, Tryz.ntmps173
  go_wp2
  go_step3
  go_wp2_with (first | (go_at_call 189; refine (digit_call _ _ _ H3.out).mono ?_; rintro e w1 ⟨rfl, rfl⟩) | fail)
  rw [Exit.noGoto_ret]
  go_ret
  exact ⟨by rfl, rfl⟩
 ·go_enter Tryz.func173, Tryz.ntmps173
  go_wp2
  go_step3
  go_wp2_with fail
  rw [Exit.noGoto_ret]
  go_ret
  exact ⟨by rfl, rfl⟩
 ·have H3 := Lib.hid h3
  clear h3
  go_enter Tryz.func173, Tryz.ntmps173
  go_wp2
  go_step3
  go_wp2_with (first | (go_at_call 189; refine (digit_call _ _ _ H3.out).mono ?_; rintro e w1 ⟨rfl, rfl⟩) | fail)
  rw [Exit.noGoto_ret]
  go_ret
  exact ⟨by rfl, rfl⟩
 ·have HM := Lib.hid hmv
  clear hmv
  rcases hst with ⟨h, h1, h2, h3, rfl⟩ | ⟨h1, h2, h3, rfl⟩
  all_goals
   have H3 := Lib.hid h3
   clear h3
   go_enter Tryz.func173, Tryz.ntmps173
   go_wp2
   go_step3
   go_wp2_with (first | (go_at_call 189; refine (digit_call _ _ _ H3.out).mono ?_; rintro e w1 ⟨rfl, rfl⟩) | fail)
   go_step3
   go_wp2_with fail
   clear h1 h2 H3
   go_loopw [5] (fun s5 wr => ∃ j : Nat, i < j ∧ j ≤ s.size ∧ s5 = .int .i64 j ∧ wr = w1 ∧ V = j - i + nRun ((dl s).drop j)) (fun s5 _ => s.size - (intOf s5).toNat)
   case atStart => exact ⟨_, hm, hms, by go_num, by trivial, HM.out⟩
   case round =>
    clear hm hms HM
    obtain ⟨j, g1, g2, rfl, rfl, g3⟩ := hrel
    by_cases hlt : j < s.size
    ·have hlt' : (j : Int) < s.size := by omega
     rcases nAt hlt with ⟨k, k1, a, b, e⟩ | ⟨a, b, e⟩ | ⟨a1, a2, a3, a4, d, e⟩ | ⟨a1, a2, a3, a4, d, l, p, e⟩
     ·rw [e] at g3
      have G3 := Lib.hid g3
      clear g3 e
      rcases a with a | a | a | a
      all_goals rcases b with b | b
      all_goals
       go_wp2_with fail
       go_roundw
       case rel => exact ⟨j + 2, by omega, by omega, by go_num, by trivial, by have := G3.out; omega⟩
       case measure => simp [intOf]; omega
     ·rw [e] at g3
      have G3 := Lib.hid g3
      clear g3 e
      rcases a with a | a | a | a
      all_goals rcases b with b | ⟨k, k1, b1, b2⟩
      all_goals
       go_wp2_with (first | (go_at_call 189; refine (digit_callI _ _ false (by decide)).mono ?_; rintro e w1 ⟨rfl, rfl⟩) | (go_at_call 188; refine (letter_callI _ _ true (by decide)).mono ?_; rintro e w1 ⟨rfl, rfl⟩) | fail)
       go_roundw
       case rel => exact ⟨j + 1, by omega, by omega, by go_num, by trivial, by have := G3.out; omega⟩
       case measure => simp [intOf]; omega
     ·rw [e] at g3
      have G3 := Lib.hid g3
      clear g3 e
      rcases d with d | ⟨d, l⟩ | ⟨d, l, p⟩
      ·have D := Lib.hid d
       clear d
       go_wp2_with (first | (go_at_call 189; refine (digit_call _ _ _ D.out).mono ?_; rintro e w1 ⟨rfl, rfl⟩) | fail)
       go_roundw
       case rel => exact ⟨j + 1, by omega, by omega, by go_num, by trivial, by have := G3.out; omega⟩
       case measure => simp [intOf]; omega
      ·have D := Lib.hid d
       have L := Lib.hid l
       clear d l
       go_wp2_with (first | (go_at_call 189; refine (digit_call _ _ _ D.out).mono ?_; rintro e w1 ⟨rfl, rfl⟩) | (go_at_call 188; refine (letter_call _ _ _ L.out).mono ?_; rintro e w1 ⟨rfl, rfl⟩) | fail)
       go_roundw
       case rel => exact ⟨j + 1, by omega, by omega, by go_num, by trivial, by have := G3.out; omega⟩
       case measure => simp [intOf]; omega
      ·clear d l
       go_wp2_with (first | (go_at_call 189; refine (digit_callI _ _ false (by decide)).mono ?_; rintro e w1 ⟨rfl, rfl⟩) | (go_at_call 188; refine (letter_callI _ _ false (by decide)).mono ?_; rintro e w1 ⟨rfl, rfl⟩) | fail)
       go_roundw
       case rel => exact ⟨j + 1, by omega, by omega, by go_num, by trivial, by have := G3.out; omega⟩
       case measure => simp [intOf]; omega
     ·rw [e] at g3
      have G3 := Lib.hid g3
      have D := Lib.hid d
      have L := Lib.hid l
      clear g3 e d l
      go_wp2_with (first | (go_at_call 189; refine (digit_call _ _ _ D.out).mono ?_; rintro e w1 ⟨rfl, rfl⟩) | (go_at_call 188; refine (letter_call _ _ _ L.out).mono ?_; rintro e w1 ⟨rfl, rfl⟩) | fail)
      rw [Exit.noGoto_ret]
      go_ret
      refine ⟨?_, rfl⟩
      rw [G3.out]
      unfold endAt
      rw [if_neg (by omega)]
      simp
      omega
    ·obtain rfl : j = s.size := by omega
     rw [nRun_end (Nat.le_refl _)] at g3
     have G3 := Lib.hid g3
     clear g3
     have hlt' : ¬ ((s.size : Int) < s.size) := by omega
     go_wp2_with fail
     go_ret
     refine ⟨?_, rfl⟩
     rw [G3.out]
     unfold endAt
     rw [if_neg (by omega)]
     simp
     omega
end Go.Proofs.YtlboejdhmggjpaaGreat.Ww

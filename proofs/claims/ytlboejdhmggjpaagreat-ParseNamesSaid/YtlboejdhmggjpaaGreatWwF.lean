/- phys: the part at a place. -/
import Derived.Test.YtlboejdhmggjpaaGreatWwB
import Derived.Test.YtlboejdhmggjpaaGreatWkA
import Derived.Test.YtlboejdhmggjpaaGreatTal
import Derived.Laws.DeepStrings4
set_option linter.all false
namespace Go.Proofs.YtlboejdhmggjpaaGreat.Ww
set_option maxRecDepth 100000
set_option maxHeartbeats 16000000
open Go.Proofs.YtlboejdhmggjpaaGreat
open Go.RowKit Go.BigFrame

theorem third_callQ (c : UInt8) (w : World) (o : Option UInt8) (h : third c = o) : Calls Tryz.prog 167 #[.int .u8 c.toNat] w fun e w' => e = .returned (.tuple #[.int .u8 (o.getD 0).toNat, .bool o.isSome]) ∧ w' = w := h ▸ Ph.thirdF c w
theorem part_cases {s : ByteArray} {i : Nat} (hi : i < s.size) : ∃ b n, bas (dl s) i = (b, n) ∧
  ((n = 1 ∧ b = s[i] ∧ (¬ (i : Int) + 2 < s.size ∨ ∃ h : i + 2 < s.size, (i : Int) + 2 < s.size ∧ (((s[i].toNat : Int) == 63) = false ∨ (s[i].toNat : Int) = 63 ∧ ((s[i + 1].toNat : Int) == 63) = false ∨
   (s[i].toNat : Int) = 63 ∧ (s[i + 1].toNat : Int) = 63 ∧ third s[i + 2] = none))) ∨
  (n = 3 ∧ ∃ h : i + 2 < s.size, (i : Int) + 2 < s.size ∧ (s[i].toNat : Int) = 63 ∧ (s[i + 1].toNat : Int) = 63 ∧ third s[i + 2] = some b)) := by
 by_cases h2 : i + 2 < s.size
 ·by_cases h0 : (s[i].toNat : Int) = 63
  ·by_cases h1 : (s[i + 1].toNat : Int) = 63
   ·have ht := tri_at (s := s) (i := i) (by omega) h0 h1
    cases h3 : third s[i + 2] with
    | none => exact ⟨_, _, bas_none hi (ht.trans h3), .inl ⟨rfl, rfl, .inr ⟨h2, by omega, .inr (.inr ⟨h0, h1, h3⟩)⟩⟩⟩
    | some c => exact ⟨_, _, bas_some (ht.trans h3), .inr ⟨rfl, h2, by omega, h0, h1, h3⟩⟩
   ·exact ⟨_, _, bas_none hi (tri_no1 (by omega) h1), .inl ⟨rfl, rfl, .inr ⟨h2, by omega, .inr (.inl ⟨h0, by simpa using h1⟩)⟩⟩⟩
  ·exact ⟨_, _, bas_none hi (tri_no0 hi h0), .inl ⟨rfl, rfl, .inr ⟨h2, by omega, .inl (by simpa using h0)⟩⟩⟩
 ·exact ⟨_, _, bas_none hi (tri_end (by omega)), .inl ⟨rfl, rfl, .inl (by omega)⟩⟩
theorem spl_cases {s : ByteArray} {i n : Nat} {b : UInt8} (hb : bas (dl s) i = (b, n)) :
  (ptAt (dl s) i = ⟨b, i, n, false⟩ ∧ (((b.toNat : Int) == 92) = false ∨ (b.toNat : Int) = 92 ∧ ¬ (i : Int) + n < s.size ∨ (b.toNat : Int) = 92 ∧ ∃ h : i + n < s.size, (i : Int) + n < s.size ∧ ((s[i + n].toNat : Int) == 10) = false)) ∨
  (ptAt (dl s) i = ⟨0, i, n + 1, true⟩ ∧ (b.toNat : Int) = 92 ∧ ∃ h : i + n < s.size, (i : Int) + n < s.size ∧ (s[i + n].toNat : Int) = 10) := by
 have hs := spl_iff hb
 by_cases hq : isSpl (dl s) i = true
 ·obtain ⟨h1, h2, h3⟩ := hs.1 hq
  refine .inr ⟨?_, h1, h2, by omega, h3⟩
  unfold ptAt; rw [if_pos hq, hb]
 ·refine .inl ⟨?_, ?_⟩
  ·unfold ptAt; rw [if_neg hq, hb]
  ·by_cases h1 : (b.toNat : Int) = 92
   ·by_cases h2 : i + n < s.size
    ·refine .inr (.inr ⟨h1, h2, by omega, ?_⟩)
     rw [beq_eq_false_iff_ne]
     intro h3
     exact hq (hs.2 ⟨h1, h2, h3⟩)
    ·exact .inr (.inl ⟨h1, by omega⟩)
   ·exact .inl (by simpa using h1)
theorem Ph.partAtF (s : ByteArray) (i : Nat) (w : World) (hi : i < s.size) (hs : s.size ≤ 1000000000) : Calls Tryz.prog 139 #[.string s, .int .i64 i] w fun e w' => e = .returned (ptV (ptAt (dl s) i)) ∧ Below w.heap.size w w' := by
 obtain ⟨b, n, hb, hc⟩ := part_cases hi
 obtain ⟨p, hp⟩ : ∃ p, ptAt (dl s) i = p := ⟨_, rfl⟩
 have hd := spl_cases hb
 rw [hp] at hd ⊢
 clear hp hb
 have hi' : (i : Int) < s.size := by omega
 rcases hc with ⟨rfl, rfl, h | ⟨h, h2, h3 | ⟨h3, h4⟩ | ⟨h3, h4, h5⟩⟩⟩ | ⟨rfl, h, h2, h3, h4, h5⟩
 all_goals
  rcases hd with ⟨rfl, k | ⟨k, k2⟩ | ⟨k, k0, k1, k2⟩⟩ | ⟨rfl, k, k0, k1, k2⟩
 all_goals try (exfalso; omega)
 all_goals
  go_enter Tryz.func139, Tryz.ntmps139
  go_wp2_with (first | (go_at_call 167; refine (third_callQ _ _ _ h5).mono ?_; rintro e w1 ⟨rfl, rfl⟩) | fail)
  all_goals (refine bodyPost_ret (v := ptV _) ?_ rfl ⟨rfl, below_alloc _ _⟩; first | (simp [results, Tryz.results139, go_sem]; done) | (simp [results, Tryz.results139, go_sem, k]; done) | (simp [results, Tryz.results139, go_sem, *]; done))
end Go.Proofs.YtlboejdhmggjpaaGreat.Ww

/- WwD -/
namespace Go.Proofs.YtlboejdhmggjpaaGreat.Ww
set_option maxRecDepth 100000
set_option maxHeartbeats 16000000
open Go.Proofs.YtlboejdhmggjpaaGreat
open Go.RowKit Go.BigFrame

theorem letter_call (c : UInt8) (w : World) (b : Bool) (h : letter c = b) : Calls Tryz.prog 188 #[.int .u8 c.toNat] w fun e w' => e = .returned (.bool b) ∧ w' = w := h ▸ Sc.letterF c w
theorem digit_call (c : UInt8) (w : World) (b : Bool) (h : digit c = b) : Calls Tryz.prog 189 #[.int .u8 c.toNat] w fun e w' => e = .returned (.bool b) ∧ w' = w := h ▸ Sc.digitF c w
def endAt (i n : Nat) : Nat := if n = 0 then 0 else i + n
theorem wRun_at {s : ByteArray} {j : Nat} (h : j < s.size) : wRun ((dl s).drop j) = if letter s[j] || digit s[j] then wRun ((dl s).drop (j + 1)) + 1 else 0 := by rw [drop_at h]; rfl
theorem wRun_end {s : ByteArray} {j : Nat} (h : s.size ≤ j) : wRun ((dl s).drop j) = 0 := by rw [drop_end h]; rfl
theorem Sc.wordEnd (s : ByteArray) (i : Nat) (w : World) (hi : i < s.size) (hs : s.size ≤ 1000000000) : Calls Tryz.prog 172 #[.string s, .int .i64 i] w fun e w' => e = .returned (.int .i64 (endAt i (wLen ((dl s).drop i)))) ∧ w' = w := by
 have hi' : (i : Int) < s.size := by omega
 cases hl : letter s[i]
 ·have hw : wLen ((dl s).drop i) = 0 := by rw [drop_at hi]; simp [wLen, hl]
  rw [hw]
  have HL := Lib.hid hl
  clear hl hw
  go_enter Tryz.func172, Tryz.ntmps172
  go_wp2_with (first | (go_at_call 188; refine (letter_call _ _ _ HL.out).mono ?_; rintro e w1 ⟨rfl, rfl⟩) | fail)
  go_ret
  exact ⟨rfl, rfl⟩
 ·have hw : wLen ((dl s).drop i) = wRun ((dl s).drop (i + 1)) + 1 := by rw [drop_at hi]; simp [wLen, hl]
  rw [hw]
  have HL := Lib.hid hl
  clear hl hw
  go_enter Tryz.func172, Tryz.ntmps172
  go_wp2_with (first | (go_at_call 188; refine (letter_call _ _ _ HL.out).mono ?_; rintro e w1 ⟨rfl, rfl⟩) | fail)
  go_loopw [5] (fun s5 wr => ∃ j : Nat, i + 1 ≤ j ∧ j ≤ s.size ∧ s5 = .int .i64 j ∧ wr = w1 ∧ wRun ((dl s).drop (i + 1)) = j - (i + 1) + wRun ((dl s).drop j)) (fun s5 _ => s.size - (intOf s5).toNat)
  case atStart => exact ⟨i + 1, by omega, by omega, by go_num, rfl, by omega⟩
  case round =>
   obtain ⟨j, h1, h2, rfl, rfl, h3⟩ := hrel
   by_cases hlt : j < s.size
   ·have hlt' : (j : Int) < s.size := by omega
    rw [wRun_at hlt] at h3
    have H3 := Lib.hid h3
    clear h3
    have hc : letter s[j] = true ∨ (letter s[j] = false ∧ digit s[j] = true) ∨ (letter s[j] = false ∧ digit s[j] = false) := by
     cases letter s[j] <;> cases digit s[j] <;> simp
    rcases hc with hc | ⟨hc, hd⟩ | ⟨hc, hd⟩
    ·have HC := Lib.hid hc
     clear hc
     go_wp2_with (first | (go_at_call 188; refine (letter_call _ _ _ HC.out).mono ?_; rintro e w1 ⟨rfl, rfl⟩) | fail)
     go_roundw
     case rel => exact ⟨j + 1, by omega, by omega, by go_num, by trivial, by have := H3.out; rw [HC.out] at this; simp at this; omega⟩
     case measure => simp [intOf]; omega
    ·have HC := Lib.hid hc
     have HD := Lib.hid hd
     clear hc hd
     go_wp2_with (first | (go_at_call 188; refine (letter_call _ _ _ HC.out).mono ?_; rintro e w1 ⟨rfl, rfl⟩) | (go_at_call 189; refine (digit_call _ _ _ HD.out).mono ?_; rintro e w1 ⟨rfl, rfl⟩) | fail)
     go_roundw
     case rel => exact ⟨j + 1, by omega, by omega, by go_num, by trivial, by have := H3.out; rw [HC.out, HD.out] at this; simp at this; omega⟩
     case measure => simp [intOf]; omega
    ·have HC := Lib.hid hc
     have HD := Lib.hid hd
     clear hc hd
     go_wp2_with (first | (go_at_call 188; refine (letter_call _ _ _ HC.out).mono ?_; rintro e w1 ⟨rfl, rfl⟩) | (go_at_call 189; refine (digit_call _ _ _ HD.out).mono ?_; rintro e w1 ⟨rfl, rfl⟩) | fail)
     go_ret
     refine ⟨?_, rfl⟩
     have := H3.out; rw [HC.out, HD.out] at this; simp at this
     rw [this]
     unfold endAt
     simp
     omega
   ·obtain rfl : j = s.size := by omega
    rw [wRun_end (Nat.le_refl _)] at h3
    have hlt' : ¬ ((s.size : Int) < s.size) := by omega
    have H3 := Lib.hid h3
    clear h3
    go_wp2_with fail
    go_ret
    refine ⟨?_, rfl⟩
    rw [H3.out]
    unfold endAt
    simp
    omega
end Go.Proofs.YtlboejdhmggjpaaGreat.Ww

/- WwE -/
namespace Go.Proofs.YtlboejdhmggjpaaGreat.Ww
set_option maxRecDepth 100000
set_option maxHeartbeats 16000000
open Go.Proofs.YtlboejdhmggjpaaGreat
open Go.RowKit Go.BigFrame

theorem letter_callI (n : Int) (w : World) (b : Bool) (h : ((decide (97 ≤ n) && decide (n ≤ 122)) || (decide (65 ≤ n) && decide (n ≤ 90)) || decide (n = 95)) = b) : Calls Tryz.prog 188 #[.int .u8 n] w fun e w' => e = .returned (.bool b) ∧ w' = w := by
 subst h
 go_enter Tryz.func188, Tryz.ntmps188
 go_wp2
 all_goals (go_ret; refine ⟨ret_bool ?_, rfl⟩ <;> first | rfl | (simp; done) | (rw [Bool.eq_iff_iff]; done) | (rw [Bool.eq_iff_iff]; simp; done) | (rw [Bool.eq_iff_iff]; simp; omega) | (simp; omega))
theorem digit_callI (n : Int) (w : World) (b : Bool) (h : (decide (48 ≤ n) && decide (n ≤ 57)) = b) : Calls Tryz.prog 189 #[.int .u8 n] w fun e w' => e = .returned (.bool b) ∧ w' = w := by
 subst h
 go_enter Tryz.func189, Tryz.ntmps189
 go_wp2
 all_goals (go_ret; refine ⟨ret_bool ?_, rfl⟩ <;> first | rfl | (simp; done) | (rw [Bool.eq_iff_iff]; done) | (rw [Bool.eq_iff_iff]; simp; done) | (rw [Bool.eq_iff_iff]; simp; omega) | (simp; omega))
theorem expo_cls (c : UInt8) : (expo c = false ∧ ((c.toNat : Int) == 101) = false ∧ ((c.toNat : Int) == 69) = false ∧ ((c.toNat : Int) == 112) = false ∧ ((c.toNat : Int) == 80) = false) ∨
  (expo c = true ∧ numc c = true ∧ ((c.toNat : Int) = 101 ∨ (c.toNat : Int) = 69 ∨ (c.toNat : Int) = 112 ∨ (c.toNat : Int) = 80)) := by
 simp only [expo, numc, letter, digit, beq_eq_false_iff_ne, Bool.or_eq_true, Bool.and_eq_true, decide_eq_true_eq, Bool.or_eq_false_iff, decide_eq_false_iff_not]
 omega
theorem sign_cls (c : UInt8) : (sign c = true ∧ ((c.toNat : Int) = 43 ∨ (c.toNat : Int) = 45)) ∨ (sign c = false ∧ ((c.toNat : Int) == 43) = false ∧ ((c.toNat : Int) == 45) = false) := by
 simp only [sign, beq_eq_false_iff_ne, Bool.or_eq_true, decide_eq_true_eq, Bool.or_eq_false_iff, decide_eq_false_iff_not]
 omega
theorem numc_cls (c : UInt8) : (digit c = true ∧ numc c = true) ∨ (digit c = false ∧ letter c = true ∧ numc c = true) ∨ (digit c = false ∧ letter c = false ∧ (c.toNat : Int) = 46 ∧ numc c = true) ∨ (digit c = false ∧ letter c = false ∧ ((c.toNat : Int) == 46) = false ∧ numc c = false) := by
 simp only [numc, beq_eq_false_iff_ne]
 cases digit c <;> cases letter c <;> simp <;> omega
theorem nRun_two {s : ByteArray} {j : Nat} (h : j + 1 < s.size) : nRun ((dl s).drop j) = if expo s[j] && sign s[j + 1] then nRun ((dl s).drop (j + 2)) + 2 else if numc s[j] then nRun ((dl s).drop (j + 1)) + 1 else 0 := by
 rw [drop_at (show j < s.size by omega), drop_at h, nRun]
theorem nRun_one {s : ByteArray} {j : Nat} (h : j + 1 = s.size) : nRun ((dl s).drop j) = if numc s[j] then nRun ((dl s).drop (j + 1)) + 1 else 0 := by
 rw [drop_at (show j < s.size by omega), drop_end (show s.size ≤ j + 1 by omega), nRun]
 rfl
theorem nRun_end {s : ByteArray} {j : Nat} (h : s.size ≤ j) : nRun ((dl s).drop j) = 0 := by rw [drop_end h]; rfl
inductive NAt (s : ByteArray) (j : Nat) (h : j < s.size) : Prop
 | two (k : j + 1 < s.size) (k1 : (j : Int) + 1 < s.size) (a : (s[j].toNat : Int) = 101 ∨ (s[j].toNat : Int) = 69 ∨ (s[j].toNat : Int) = 112 ∨ (s[j].toNat : Int) = 80) (b : (s[j + 1].toNat : Int) = 43 ∨ (s[j + 1].toNat : Int) = 45) (e : nRun ((dl s).drop j) = nRun ((dl s).drop (j + 2)) + 2)
 | onee (a : (s[j].toNat : Int) = 101 ∨ (s[j].toNat : Int) = 69 ∨ (s[j].toNat : Int) = 112 ∨ (s[j].toNat : Int) = 80) (b : ¬ (j : Int) + 1 < s.size ∨ ∃ k : j + 1 < s.size, (j : Int) + 1 < s.size ∧ ((s[j + 1].toNat : Int) == 43) = false ∧ ((s[j + 1].toNat : Int) == 45) = false) (e : nRun ((dl s).drop j) = nRun ((dl s).drop (j + 1)) + 1)
 | one (a1 : ((s[j].toNat : Int) == 101) = false) (a2 : ((s[j].toNat : Int) == 69) = false) (a3 : ((s[j].toNat : Int) == 112) = false) (a4 : ((s[j].toNat : Int) == 80) = false) (d : digit s[j] = true ∨ (digit s[j] = false ∧ letter s[j] = true) ∨ (digit s[j] = false ∧ letter s[j] = false ∧ (s[j].toNat : Int) = 46)) (e : nRun ((dl s).drop j) = nRun ((dl s).drop (j + 1)) + 1)
 | none (a1 : ((s[j].toNat : Int) == 101) = false) (a2 : ((s[j].toNat : Int) == 69) = false) (a3 : ((s[j].toNat : Int) == 112) = false) (a4 : ((s[j].toNat : Int) == 80) = false) (d : digit s[j] = false) (l : letter s[j] = false) (p : ((s[j].toNat : Int) == 46) = false) (e : nRun ((dl s).drop j) = 0)
theorem nAt {s : ByteArray} {j : Nat} (h : j < s.size) : NAt s j h := by
 have one : numc s[j] = true → expo s[j] = false → nRun ((dl s).drop j) = nRun ((dl s).drop (j + 1)) + 1 := fun hn he => by
  by_cases hk : j + 1 < s.size
  ·rw [nRun_two hk, he, hn]; simp
  ·rw [nRun_one (by omega), hn]; simp
 rcases expo_cls s[j] with ⟨he, a1, a2, a3, a4⟩ | ⟨he, hn, ha⟩
 ·rcases numc_cls s[j] with ⟨d, hn⟩ | ⟨d, l, hn⟩ | ⟨d, l, p, hn⟩ | ⟨d, l, p, hn⟩
  ·exact .one a1 a2 a3 a4 (.inl d) (one hn he)
  ·exact .one a1 a2 a3 a4 (.inr (.inl ⟨d, l⟩)) (one hn he)
  ·exact .one a1 a2 a3 a4 (.inr (.inr ⟨d, l, p⟩)) (one hn he)
  ·refine .none a1 a2 a3 a4 d l p ?_
   by_cases hk : j + 1 < s.size
   ·rw [nRun_two hk, he, hn]; simp
   ·rw [nRun_one (by omega), hn]; simp
 ·by_cases hk : j + 1 < s.size
  ·rcases sign_cls s[j + 1] with ⟨hs, hb⟩ | ⟨hs, b1, b2⟩
   ·exact .two hk (by omega) ha hb (by rw [nRun_two hk, he, hs]; simp)
   ·exact .onee ha (.inr ⟨hk, by omega, b1, b2⟩) (by rw [nRun_two hk, hs, hn]; simp)
  ·exact .onee ha (.inl (by omega)) (by rw [nRun_one (by omega), hn]; simp)
theorem Sc.numberEnd (s : ByteArray) (i : Nat) (w : World) (hi : i < s.size) (hs : s.size ≤ 1000000000) : Calls Tryz.prog 173 #[.string s, .int .i64 i] w fun e w' => e = .returned (.int .i64 (endAt i (nLen ((dl s).drop i)))) ∧ w' = w := by
 have hi' : (i : Int) < s.size := by omega
 -- where the first digit stands
 have hst : (nLen ((dl s).drop i) = 0 ∧ ((∃ h : i + 1 < s.size, ((i : Int) + 1 == s.size) = false ∧ (s[i].toNat : Int) = 46 ∧ digit s[i + 1] = false) ∨ ((s[i].toNat : Int) = 46 ∧ (i : Int) + 1 = s.size) ∨ (((s[i].toNat : Int) == 46) = false ∧ ((i : Int) == s.size) = false ∧ digit s[i] = false))) ∨
   ∃ m, i < m ∧ m ≤ s.size ∧ nLen ((dl s).drop i) = m - i + nRun ((dl s).drop m) ∧ ((∃ h : i + 1 < s.size, ((i : Int) + 1 == s.size) = false ∧ (s[i].toNat : Int) = 46 ∧ digit s[i + 1] = true ∧ m = i + 2) ∨ (((s[i].toNat : Int) == 46) = false ∧ ((i : Int) == s.size) = false ∧ digit s[i] = true ∧ m = i + 1)) := by
  have hne : ((i : Int) == s.size) = false := by rw [beq_eq_false_iff_ne]; omega
  by_cases hk : i + 1 < s.size
  ·have hl : nLen ((dl s).drop i) = if s[i].toNat = 46 then (if digit s[i + 1] then nRun ((dl s).drop (i + 2)) + 2 else 0) else if digit s[i] then nRun ((dl s).drop (i + 1)) + 1 else 0 := by
    rw [drop_at hi, drop_at hk, nLen]
   have hne1 : ((i : Int) + 1 == s.size) = false := by rw [beq_eq_false_iff_ne]; omega
   by_cases h46 : s[i].toNat = 46
   ·rw [if_pos h46] at hl
    cases hd : digit s[i + 1]
    ·exact .inl ⟨by rw [hl, hd]; rfl, .inl ⟨hk, hne1, by omega, hd⟩⟩
    ·exact .inr ⟨i + 2, by omega, by omega, by rw [hl, hd]; simp; omega, .inl ⟨hk, hne1, by omega, hd, rfl⟩⟩
   ·rw [if_neg h46] at hl
    have h46' : ((s[i].toNat : Int) == 46) = false := by rw [beq_eq_false_iff_ne]; omega
    rcases Bool.eq_false_or_eq_true (digit s[i]) with hd | hd
    rotate_left
    ·exact .inl ⟨by rw [hl, hd]; rfl, .inr (.inr ⟨h46', hne, hd⟩)⟩
    ·exact .inr ⟨i + 1, by omega, by omega, by rw [hl, hd]; simp; omega, .inr ⟨h46', hne, hd, rfl⟩⟩
  ·have hl : nLen ((dl s).drop i) = if digit s[i] then 1 else 0 := by
    rw [drop_at hi, drop_end (show s.size ≤ i + 1 by omega), nLen]
   by_cases h46 : s[i].toNat = 46
   ·have hd : digit s[i] = false := by simp [digit, h46]
    exact .inl ⟨by rw [hl, hd]; rfl, .inr (.inl ⟨by omega, by omega⟩)⟩
   ·have h46' : ((s[i].toNat : Int) == 46) = false := by rw [beq_eq_false_iff_ne]; omega
    rcases Bool.eq_false_or_eq_true (digit s[i]) with hd | hd
    rotate_left
    ·exact .inl ⟨by rw [hl, hd]; rfl, .inr (.inr ⟨h46', hne, hd⟩)⟩
    ·exact .inr ⟨i + 1, by omega, by omega, by rw [hl, hd, nRun_end (by omega)]; simp, .inr ⟨h46', hne, hd, rfl⟩⟩
 obtain ⟨V, hV⟩ : ∃ V, nLen ((dl s).drop i) = V := ⟨_, rfl⟩
 rw [hV] at hst ⊢
 clear hV
 rcases hst with ⟨rfl, ⟨h, h1, h2, h3⟩ | ⟨h1, h2⟩ | ⟨h1, h2, h3⟩⟩ | ⟨m, hm, hms, hmv, hst⟩
 ·have H3 := Lib.hid h3
  clear h3
  go_enter Tryz.func173, Tryz.ntmps173
  go_wp2
  go_step3
  go_wp2_with (first | (go_at_call 189; refine (digit_call _ _ _ H3.out).mono ?_; rintro e w1 ⟨rfl, rfl⟩) | fail)
  rw [Exit.noGoto_ret]
  go_ret
  exact ⟨by rfl, rfl⟩
 ·go_enter Tryz.func173, Tryz.ntmps173
  go_wp2
  go_step3
  go_wp2_with fail
  rw [Exit.noGoto_ret]
  go_ret
  exact ⟨by rfl, rfl⟩
 ·have H3 := Lib.hid h3
  clear h3
  go_enter Tryz.func173, Tryz.ntmps173
  go_wp2
  go_step3
  go_wp2_with (first | (go_at_call 189; refine (digit_call _ _ _ H3.out).mono ?_; rintro e w1 ⟨rfl, rfl⟩) | fail)
  rw [Exit.noGoto_ret]
  go_ret
  exact ⟨by rfl, rfl⟩
 ·have HM := Lib.hid hmv
  clear hmv
  rcases hst with ⟨h, h1, h2, h3, rfl⟩ | ⟨h1, h2, h3, rfl⟩
  all_goals
   have H3 := Lib.hid h3
   clear h3
   go_enter Tryz.func173, Tryz.ntmps173
   go_wp2
   go_step3
   go_wp2_with (first | (go_at_call 189; refine (digit_call _ _ _ H3.out).mono ?_; rintro e w1 ⟨rfl, rfl⟩) | fail)
   go_step3
   go_wp2_with fail
   clear h1 h2 H3
   go_loopw [5] (fun s5 wr => ∃ j : Nat, i < j ∧ j ≤ s.size ∧ s5 = .int .i64 j ∧ wr = w1 ∧ V = j - i + nRun ((dl s).drop j)) (fun s5 _ => s.size - (intOf s5).toNat)
   case atStart => exact ⟨_, hm, hms, by go_num, by trivial, HM.out⟩
   case round =>
    clear hm hms HM
    obtain ⟨j, g1, g2, rfl, rfl, g3⟩ := hrel
    by_cases hlt : j < s.size
    ·have hlt' : (j : Int) < s.size := by omega
     rcases nAt hlt with ⟨k, k1, a, b, e⟩ | ⟨a, b, e⟩ | ⟨a1, a2, a3, a4, d, e⟩ | ⟨a1, a2, a3, a4, d, l, p, e⟩
     ·rw [e] at g3
      have G3 := Lib.hid g3
      clear g3 e
      rcases a with a | a | a | a
      all_goals rcases b with b | b
      all_goals
       go_wp2_with fail
       go_roundw
       case rel => exact ⟨j + 2, by omega, by omega, by go_num, by trivial, by have := G3.out; omega⟩
       case measure => simp [intOf]; omega
     ·rw [e] at g3
      have G3 := Lib.hid g3
      clear g3 e
      rcases a with a | a | a | a
      all_goals rcases b with b | ⟨k, k1, b1, b2⟩
      all_goals
       go_wp2_with (first | (go_at_call 189; refine (digit_callI _ _ false (by decide)).mono ?_; rintro e w1 ⟨rfl, rfl⟩) | (go_at_call 188; refine (letter_callI _ _ true (by decide)).mono ?_; rintro e w1 ⟨rfl, rfl⟩) | fail)
       go_roundw
       case rel => exact ⟨j + 1, by omega, by omega, by go_num, by trivial, by have := G3.out; omega⟩
       case measure => simp [intOf]; omega
     ·rw [e] at g3
      have G3 := Lib.hid g3
      clear g3 e
      rcases d with d | ⟨d, l⟩ | ⟨d, l, p⟩
      ·have D := Lib.hid d
       clear d
       go_wp2_with (first | (go_at_call 189; refine (digit_call _ _ _ D.out).mono ?_; rintro e w1 ⟨rfl, rfl⟩) | fail)
       go_roundw
       case rel => exact ⟨j + 1, by omega, by omega, by go_num, by trivial, by have := G3.out; omega⟩
       case measure => simp [intOf]; omega
      ·have D := Lib.hid d
       have L := Lib.hid l
       clear d l
       go_wp2_with (first | (go_at_call 189; refine (digit_call _ _ _ D.out).mono ?_; rintro e w1 ⟨rfl, rfl⟩) | (go_at_call 188; refine (letter_call _ _ _ L.out).mono ?_; rintro e w1 ⟨rfl, rfl⟩) | fail)
       go_roundw
       case rel => exact ⟨j + 1, by omega, by omega, by go_num, by trivial, by have := G3.out; omega⟩
       case measure => simp [intOf]; omega
      ·clear d l
       go_wp2_with (first | (go_at_call 189; refine (digit_callI _ _ false (by decide)).mono ?_; rintro e w1 ⟨rfl, rfl⟩) | (go_at_call 188; refine (letter_callI _ _ false (by decide)).mono ?_; rintro e w1 ⟨rfl, rfl⟩) | fail)
       go_roundw
       case rel => exact ⟨j + 1, by omega, by omega, by go_num, by trivial, by have := G3.out; omega⟩
       case measure => simp [intOf]; omega
     ·rw [e] at g3
      have G3 := Lib.hid g3
      have D := Lib.hid d
      have L := Lib.hid l
      clear g3 e d l
      go_wp2_with (first | (go_at_call 189; refine (digit_call _ _ _ D.out).mono ?_; rintro e w1 ⟨rfl, rfl⟩) | (go_at_call 188; refine (letter_call _ _ _ L.out).mono ?_; rintro e w1 ⟨rfl, rfl⟩) | fail)
      rw [Exit.noGoto_ret]
      go_ret
      refine ⟨?_, rfl⟩
      rw [G3.out]
      unfold endAt
      rw [if_neg (by omega)]
      simp
      omega
    ·obtain rfl : j = s.size := by omega
     rw [nRun_end (Nat.le_refl _)] at g3
     have G3 := Lib.hid g3
     clear g3
     have hlt' : ¬ ((s.size : Int) < s.size) := by omega
     go_wp2_with fail
     go_ret
     refine ⟨?_, rfl⟩
     rw [G3.out]
     unfold endAt
     rw [if_neg (by omega)]
     simp
     omega
end Go.Proofs.YtlboejdhmggjpaaGreat.Ww

/- WwF -/
namespace Go.Proofs.YtlboejdhmggjpaaGreat.Ww
set_option maxRecDepth 100000
set_option maxHeartbeats 16000000
open Go.Proofs.YtlboejdhmggjpaaGreat
open Go.RowKit Go.BigFrame

theorem hRun_at {q : UInt8} {s : ByteArray} {j : Nat} (h : j < s.size) : hRun q ((dl s).drop j) = if s[j] = 10 then 0 else if s[j] = q then 1 else if hRun q ((dl s).drop (j + 1)) = 0 then 0 else hRun q ((dl s).drop (j + 1)) + 1 := by rw [drop_at h]; rfl
theorem hRun_end {q : UInt8} {s : ByteArray} {j : Nat} (h : s.size ≤ j) : hRun q ((dl s).drop j) = 0 := by rw [drop_end h]; rfl
theorem hLen_cases {s : ByteArray} {i : Nat} (hi : i < s.size) :
  ((s[i].toNat : Int) = 60 ∧ hLen ((dl s).drop i) = if hRun 62 ((dl s).drop (i + 1)) = 0 then 0 else hRun 62 ((dl s).drop (i + 1)) + 1) ∨
  (((s[i].toNat : Int) == 60) = false ∧ (s[i].toNat : Int) = 34 ∧ hLen ((dl s).drop i) = if hRun 34 ((dl s).drop (i + 1)) = 0 then 0 else hRun 34 ((dl s).drop (i + 1)) + 1) ∨
  (((s[i].toNat : Int) == 60) = false ∧ ((s[i].toNat : Int) == 34) = false ∧ hLen ((dl s).drop i) = 0) := by
 rw [drop_at hi]
 by_cases h1 : (s[i].toNat : Int) = 60
 ·refine .inl ⟨h1, ?_⟩
  have e := byte_eq (n := 60) h1 (by decide)
  rw [hLen, if_pos (by rw [e]; rfl)]
 ·have e := byte_ne (n := 60) h1 (by decide)
  by_cases h2 : (s[i].toNat : Int) = 34
  ·refine .inr (.inl ⟨by simpa using h1, h2, ?_⟩)
   have e2 := byte_eq (n := 34) h2 (by decide)
   rw [hLen, if_neg (by simpa using e), if_pos (by rw [e2]; rfl)]
  ·have e2 := byte_ne (n := 34) h2 (by decide)
   exact .inr (.inr ⟨by simpa using h1, by simpa using h2, by rw [hLen, if_neg (by simpa using e), if_neg (by simpa using e2)]⟩)
theorem Sc.headerEnd (s : ByteArray) (i : Nat) (w : World) (hi : i < s.size) (hs : s.size ≤ 1000000000) : Calls Tryz.prog 140 #[.string s, .int .i64 i] w fun e w' => e = .returned (.int .i64 (endAt i (hLen ((dl s).drop i)))) ∧ w' = w := by
 have hi' : (i : Int) < s.size := by omega
 obtain ⟨V, hV⟩ : ∃ V, hLen ((dl s).drop i) = V := ⟨_, rfl⟩
 have hc := hLen_cases hi
 rw [hV] at hc ⊢
 clear hV
 rcases hc with ⟨h1, hv⟩ | ⟨h1, h2, hv⟩ | ⟨h1, h2, rfl⟩
 ·have HV := Lib.hid hv
  clear hv
  go_enter Tryz.func140, Tryz.ntmps140
  go_wp2_with fail
  go_loopw [6] (fun s6 wr => ∃ j : Nat, i + 1 ≤ j ∧ j ≤ s.size ∧ s6 = .int .i64 j ∧ wr = w ∧ hRun 62 ((dl s).drop (i + 1)) = if hRun 62 ((dl s).drop j) = 0 then 0 else j - (i + 1) + hRun 62 ((dl s).drop j)) (fun s6 _ => s.size - (intOf s6).toNat)
  case atStart => exact ⟨i + 1, by omega, by omega, by go_num, by trivial, by split <;> omega⟩
  case round =>
   obtain ⟨j, g1, g2, rfl, rfl, g3⟩ := hrel
   by_cases hlt : j < s.size
   ·have hlt' : (j : Int) < s.size := by omega
    rw [hRun_at hlt] at g3
    have hc : ((s[j].toNat : Int) = 10 ∧ s[j] = 10) ∨ (((s[j].toNat : Int) == 10) = false ∧ (s[j].toNat : Int) = 62 ∧ s[j] ≠ 10 ∧ s[j] = 62) ∨ (((s[j].toNat : Int) == 10) = false ∧ ((s[j].toNat : Int) == 62) = false ∧ s[j] ≠ 10 ∧ s[j] ≠ 62) := by
     by_cases a : (s[j].toNat : Int) = 10
     ·exact .inl ⟨a, byte_eq (n := 10) a (by decide)⟩
     ·by_cases b : (s[j].toNat : Int) = 62
      ·exact .inr (.inl ⟨by simpa using a, b, byte_ne (n := 10) a (by decide), byte_eq (n := 62) b (by decide)⟩)
      ·exact .inr (.inr ⟨by simpa using a, by simpa using b, byte_ne (n := 10) a (by decide), byte_ne (n := 62) b (by decide)⟩)
    rcases hc with ⟨a, e⟩ | ⟨a, b, e, e2⟩ | ⟨a, b, e, e2⟩
    ·rw [if_pos e] at g3
     have G3 := Lib.hid g3
     clear g3 e
     go_wp2_with fail
     go_ret
     refine ⟨?_, rfl⟩
     have h3 := G3.out
     simp only [if_true] at h3
     rw [HV.out, h3]
     rfl
    ·rw [if_neg e, if_pos e2] at g3
     have G3 := Lib.hid g3
     clear g3 e e2
     go_wp2_with fail
     go_ret
     refine ⟨?_, rfl⟩
     have h3 := G3.out
     rw [if_neg (by omega)] at h3
     rw [HV.out, h3, if_neg (by omega)]
     unfold endAt
     rw [if_neg (by omega)]
     simp
     omega
    ·rw [if_neg e, if_neg e2] at g3
     have G3 := Lib.hid g3
     clear g3 e e2
     go_wp2_with fail
     go_roundw
     case rel =>
      refine ⟨j + 1, by omega, by omega, by go_num, by trivial, ?_⟩
      have h3 := G3.out
      rw [h3]
      by_cases hz : hRun 62 ((dl s).drop (j + 1)) = 0
      ·simp [hz]
      ·rw [if_neg hz, if_neg (by omega), if_neg hz]; omega
     case measure => simp [intOf]; omega
   ·obtain rfl : j = s.size := by omega
    rw [hRun_end (Nat.le_refl _)] at g3
    have G3 := Lib.hid g3
    clear g3
    have hlt' : ¬ ((s.size : Int) < s.size) := by omega
    go_wp2_with fail
    go_ret
    refine ⟨?_, rfl⟩
    have h3 := G3.out
    simp only [if_true] at h3
    rw [HV.out, h3]
    rfl
 ·have HV := Lib.hid hv
  clear hv
  go_enter Tryz.func140, Tryz.ntmps140
  go_wp2_with fail
  go_loopw [6] (fun s6 wr => ∃ j : Nat, i + 1 ≤ j ∧ j ≤ s.size ∧ s6 = .int .i64 j ∧ wr = w ∧ hRun 34 ((dl s).drop (i + 1)) = if hRun 34 ((dl s).drop j) = 0 then 0 else j - (i + 1) + hRun 34 ((dl s).drop j)) (fun s6 _ => s.size - (intOf s6).toNat)
  case atStart => exact ⟨i + 1, by omega, by omega, by go_num, by trivial, by split <;> omega⟩
  case round =>
   obtain ⟨j, g1, g2, rfl, rfl, g3⟩ := hrel
   by_cases hlt : j < s.size
   ·have hlt' : (j : Int) < s.size := by omega
    rw [hRun_at hlt] at g3
    have hc : ((s[j].toNat : Int) = 10 ∧ s[j] = 10) ∨ (((s[j].toNat : Int) == 10) = false ∧ (s[j].toNat : Int) = 34 ∧ s[j] ≠ 10 ∧ s[j] = 34) ∨ (((s[j].toNat : Int) == 10) = false ∧ ((s[j].toNat : Int) == 34) = false ∧ s[j] ≠ 10 ∧ s[j] ≠ 34) := by
     by_cases a : (s[j].toNat : Int) = 10
     ·exact .inl ⟨a, byte_eq (n := 10) a (by decide)⟩
     ·by_cases b : (s[j].toNat : Int) = 34
      ·exact .inr (.inl ⟨by simpa using a, b, byte_ne (n := 10) a (by decide), byte_eq (n := 34) b (by decide)⟩)
      ·exact .inr (.inr ⟨by simpa using a, by simpa using b, byte_ne (n := 10) a (by decide), byte_ne (n := 34) b (by decide)⟩)
    rcases hc with ⟨a, e⟩ | ⟨a, b, e, e2⟩ | ⟨a, b, e, e2⟩
    ·rw [if_pos e] at g3
     have G3 := Lib.hid g3
     clear g3 e
     go_wp2_with fail
     go_ret
     refine ⟨?_, rfl⟩
     have h3 := G3.out
     simp only [if_true] at h3
     rw [HV.out, h3]
     rfl
    ·rw [if_neg e, if_pos e2] at g3
     have G3 := Lib.hid g3
     clear g3 e e2
     go_wp2_with fail
     go_ret
     refine ⟨?_, rfl⟩
     have h3 := G3.out
     rw [if_neg (by omega)] at h3
     rw [HV.out, h3, if_neg (by omega)]
     unfold endAt
     rw [if_neg (by omega)]
     simp
     omega
    ·rw [if_neg e, if_neg e2] at g3
     have G3 := Lib.hid g3
     clear g3 e e2
     go_wp2_with fail
     go_roundw
     case rel =>
      refine ⟨j + 1, by omega, by omega, by go_num, by trivial, ?_⟩
      have h3 := G3.out
      rw [h3]
      by_cases hz : hRun 34 ((dl s).drop (j + 1)) = 0
      ·simp [hz]
      ·rw [if_neg hz, if_neg (by omega), if_neg hz]; omega
     case measure => simp [intOf]; omega
   ·obtain rfl : j = s.size := by omega
    rw [hRun_end (Nat.le_refl _)] at g3
    have G3 := Lib.hid g3
    clear g3
    have hlt' : ¬ ((s.size : Int) < s.size) := by omega
    go_wp2_with fail
    go_ret
    refine ⟨?_, rfl⟩
    have h3 := G3.out
    simp only [if_true] at h3
    rw [HV.out, h3]
    rfl
 ·go_enter Tryz.func140, Tryz.ntmps140
  go_wp2_with fail
  go_ret
  exact ⟨by rfl, rfl⟩
theorem toList_dl (s : ByteArray) : s.toList = dl s := ByteArray.toList_eq s
theorem contains_iff (t : Bs) : puncts.contains t = true ↔ t ∈ puncts := by simp
theorem punct_yes {s : ByteArray} {L : Bs} (h : (s.toList == L) = true) (hL : puncts.contains L = true) : true = puncts.contains (dl s) := by
 rw [toList_dl, beq_iff_eq] at h
 rw [h, hL]
theorem punct_no {s : ByteArray} (h : ∀ L ∈ puncts, (s.toList == L) = false) : false = puncts.contains (dl s) := by
 rw [eq_comm, Bool.eq_false_iff]
 intro hc
 have := h _ (contains_iff _ |>.1 hc)
 rw [toList_dl] at this
 simp at this
theorem Sc.punct (s : ByteArray) (w : World) : Calls Tryz.prog 190 #[.string s] w fun e w' => e = .returned (.bool (puncts.contains (dl s))) ∧ w' = w := by
 go_enter Tryz.func190, Tryz.ntmps190
 go_wp2_with fail
 all_goals (go_ret; refine ⟨ret_bool ?_, rfl⟩; first | (rename_i h; exact punct_yes h (by rfl)) | (rename_i h1 h2; rw [h1] at h2; cases h2; done) | skip)
 refine punct_no fun L hL => ?_
 simp only [puncts, List.mem_cons, List.mem_nil_iff, or_false] at hL
 repeat (rcases hL with rfl | hL; · assumption)
theorem punct_call (s : ByteArray) (w : World) (b : Bool) (h : puncts.contains (dl s) = b) : Calls Tryz.prog 190 #[.string s] w fun e w' => e = .returned (.bool b) ∧ w' = w := h ▸ Sc.punct s w
theorem ext_dl (s : ByteArray) (i n : Nat) : dl (s.extract i (i + n)) = ((dl s).drop i).take n := by
 rw [ext_str, dl_str, show i + n - i = n by omega]
theorem Sc.punctEnd (s : ByteArray) (i : Nat) (w : World) (hi : i < s.size) (hs : s.size ≤ 1000000000) : Calls Tryz.prog 174 #[.string s, .int .i64 i] w fun e w' => e = .returned (.int .i64 (endAt i (pLen ((dl s).drop i)))) ∧ w' = w := by
 obtain ⟨V, hV⟩ : ∃ V, pLen ((dl s).drop i) = V := ⟨_, rfl⟩
 rw [hV]
 have hm : pDown ((dl s).drop i) (min 4 (s.size - i)) = V := by rw [← hV, pLen, drop_len]
 obtain ⟨M, hM⟩ : ∃ M, min 4 (s.size - i) = M := ⟨_, rfl⟩
 rw [hM] at hm
 have hM1 : M ≤ 4 ∧ i + M ≤ s.size ∧ 0 < M := by omega
 have hmin : min (4 : Int) ((s.size : Int) - (i : Int)) = (M : Int) := by omega
 have HM := Lib.hid hm
 have h0 : 0 ≤ (s.size : Int) - (i : Int) := by omega
 clear hV hm hM
 go_enter Tryz.func174, Tryz.ntmps174
 go_wp2_with fail
 go_loopw [5] (fun s5 wr => ∃ n : Nat, n ≤ M ∧ s5 = .int .i64 n ∧ wr = w ∧ pDown ((dl s).drop i) n = V) (fun s5 _ => (intOf s5).toNat)
 case atStart => exact ⟨M, Nat.le_refl _, by congr 1, by trivial, HM.out⟩
 case round =>
  obtain ⟨n, g1, rfl, rfl, g3⟩ := hrel
  clear hmin HM
  cases n with
  | zero =>
   have G3 := Lib.hid g3
   clear g3
   go_wp2_with fail
   go_ret
   refine ⟨?_, rfl⟩
   rw [← G3.out]
   rfl
  | succ n =>
   have hex : dl (s.extract i (i + (n + 1))) = ((dl s).drop i).take (n + 1) := ext_dl s i (n + 1)
   have hn1 : (0 : Int) < ((n + 1 : Nat) : Int) := by omega
   have hn2 : (i : Int) + ((n + 1 : Nat) : Int) ≤ s.size := by omega
   rw [pDown] at g3
   rcases Bool.eq_false_or_eq_true (puncts.contains (((dl s).drop i).take (n + 1))) with hp | hp
   ·rw [if_pos hp] at g3
    rw [← hex] at hp
    have HP := Lib.hid hp
    have G3 := Lib.hid g3
    clear g3 hp hex
    go_wp2_with (first | (go_at_call 190; refine (punct_call _ _ true HP.out).mono ?_; rintro e w1 ⟨rfl, rfl⟩) | fail)
    go_ret
    refine ⟨?_, rfl⟩
    rw [← G3.out]
    unfold endAt
    rw [if_neg (by omega)]
    simp
   ·rw [if_neg (by rw [hp]; decide)] at g3
    rw [← hex] at hp
    have HP := Lib.hid hp
    have G3 := Lib.hid g3
    clear g3 hp hex
    go_wp2_with (first | (go_at_call 190; refine (punct_call _ _ false HP.out).mono ?_; rintro e w1 ⟨rfl, rfl⟩) | fail)
    go_roundw
    case rel => exact ⟨n, by omega, by go_num, by trivial, G3.out⟩
    case measure => simp [intOf]
end Go.Proofs.YtlboejdhmggjpaaGreat.Ww

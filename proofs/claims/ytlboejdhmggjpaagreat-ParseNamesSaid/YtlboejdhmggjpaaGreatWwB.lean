/- ctok: Keyword, Canon. -/
import Derived.Test.YtlboejdhmggjpaaGreatWkG
import Derived.Test.YtlboejdhmggjpaaGreatTal
import Derived.Test.YtlboejdhmggjpaaGreatWkA
import Derived.Test.YtlboejdhmggjpaaGreatProg
set_option linter.all false
namespace Go.Proofs.YtlboejdhmggjpaaGreat.Ct
set_option maxRecDepth 100000
set_option maxHeartbeats 16000000
open Go.RowKit Go.BigFrame Go.Proofs.YtlboejdhmggjpaaGreat Go.Proofs.YtlboejdhmggjpaaGreat.Pp

def kws : List Bs := [[97, 117, 116, 111], [98, 114, 101, 97, 107], [99, 97, 115, 101], [99, 104, 97, 114], [99, 111, 110, 115, 116], [99, 111, 110, 116, 105, 110, 117, 101], [100, 101, 102, 97, 117, 108, 116], [100, 111], [100, 111, 117, 98, 108, 101], [101, 108, 115, 101], [101, 110, 117, 109], [101, 120, 116, 101, 114, 110], [102, 108, 111, 97, 116], [102, 111, 114], [103, 111, 116, 111], [105, 102], [105, 110, 108, 105, 110, 101], [105, 110, 116], [108, 111, 110, 103], [114, 101, 103, 105, 115, 116, 101, 114], [114, 101, 115, 116, 114, 105, 99, 116], [114, 101, 116, 117, 114, 110], [115, 104, 111, 114, 116], [115, 105, 103, 110, 101, 100], [115, 105, 122, 101, 111, 102], [115, 116, 97, 116, 105, 99], [115, 116, 114, 117, 99, 116], [115, 119, 105, 116, 99, 104], [116, 121, 112, 101, 100, 101, 102], [117, 110, 105, 111, 110], [117, 110, 115, 105, 103, 110, 101, 100], [118, 111, 105, 100], [118, 111, 108, 97, 116, 105, 108, 101], [119, 104, 105, 108, 101], [95, 65, 108, 105, 103, 110, 97, 115], [95, 65, 108, 105, 103, 110, 111, 102], [95, 65, 116, 111, 109, 105, 99], [95, 66, 111, 111, 108], [95, 67, 111, 109, 112, 108, 101, 120], [95, 71, 101, 110, 101, 114, 105, 99], [95, 73, 109, 97, 103, 105, 110, 97, 114, 121], [95, 78, 111, 114, 101, 116, 117, 114, 110], [95, 83, 116, 97, 116, 105, 99, 95, 97, 115, 115, 101, 114, 116], [95, 84, 104, 114, 101, 97, 100, 95, 108, 111, 99, 97, 108]]
def isKw (t : Bs) : Bool := kws.contains t
theorem str_eqb (t l : Bs) : ((str t).toList == l) = (t == l) := by
 by_cases h : t = l
 ·rw [str_is h, beq_iff_eq.2 h]
 ·rw [str_no h, beq_eq_false_iff_ne.2 h]
def canon (t : Bs) : Bs :=
 if t = [60, 58] then [91] else if t = [58, 62] then [93] else if t = [60, 37] then [123] else if t = [37, 62] then [125] else if t = [37, 58] then [35] else if t = [37, 58, 37, 58] then [35, 35] else t
theorem keywordF (t : Bs) (w : World) : Calls Tryz.prog 110 #[.string (str t)] w fun e w' => e = .returned (.bool (isKw t)) ∧ w' = w := by
 obtain ⟨b0, h0⟩ : ∃ b, ((str t).toList == [97, 117, 116, 111]) = b := ⟨_, rfl⟩
 obtain ⟨b1, h1⟩ : ∃ b, ((str t).toList == [98, 114, 101, 97, 107]) = b := ⟨_, rfl⟩
 obtain ⟨b2, h2⟩ : ∃ b, ((str t).toList == [99, 97, 115, 101]) = b := ⟨_, rfl⟩
 obtain ⟨b3, h3⟩ : ∃ b, ((str t).toList == [99, 104, 97, 114]) = b := ⟨_, rfl⟩
 obtain ⟨b4, h4⟩ : ∃ b, ((str t).toList == [99, 111, 110, 115, 116]) = b := ⟨_, rfl⟩
 obtain ⟨b5, h5⟩ : ∃ b, ((str t).toList == [99, 111, 110, 116, 105, 110, 117, 101]) = b := ⟨_, rfl⟩
 obtain ⟨b6, h6⟩ : ∃ b, ((str t).toList == [100, 101, 102, 97, 117, 108, 116]) = b := ⟨_, rfl⟩
 obtain ⟨b7, h7⟩ : ∃ b, ((str t).toList == [100, 111]) = b := ⟨_, rfl⟩
 obtain ⟨b8, h8⟩ : ∃ b, ((str t).toList == [100, 111, 117, 98, 108, 101]) = b := ⟨_, rfl⟩
 obtain ⟨b9, h9⟩ : ∃ b, ((str t).toList == [101, 108, 115, 101]) = b := ⟨_, rfl⟩
 obtain ⟨b10, h10⟩ : ∃ b, ((str t).toList == [101, 110, 117, 109]) = b := ⟨_, rfl⟩
 obtain ⟨b11, h11⟩ : ∃ b, ((str t).toList == [101, 120, 116, 101, 114, 110]) = b := ⟨_, rfl⟩
 obtain ⟨b12, h12⟩ : ∃ b, ((str t).toList == [102, 108, 111, 97, 116]) = b := ⟨_, rfl⟩
 obtain ⟨b13, h13⟩ : ∃ b, ((str t).toList == [102, 111, 114]) = b := ⟨_, rfl⟩
 obtain ⟨b14, h14⟩ : ∃ b, ((str t).toList == [103, 111, 116, 111]) = b := ⟨_, rfl⟩
 obtain ⟨b15, h15⟩ : ∃ b, ((str t).toList == [105, 102]) = b := ⟨_, rfl⟩
 obtain ⟨b16, h16⟩ : ∃ b, ((str t).toList == [105, 110, 108, 105, 110, 101]) = b := ⟨_, rfl⟩
 obtain ⟨b17, h17⟩ : ∃ b, ((str t).toList == [105, 110, 116]) = b := ⟨_, rfl⟩
 obtain ⟨b18, h18⟩ : ∃ b, ((str t).toList == [108, 111, 110, 103]) = b := ⟨_, rfl⟩
 obtain ⟨b19, h19⟩ : ∃ b, ((str t).toList == [114, 101, 103, 105, 115, 116, 101, 114]) = b := ⟨_, rfl⟩
 obtain ⟨b20, h20⟩ : ∃ b, ((str t).toList == [114, 101, 115, 116, 114, 105, 99, 116]) = b := ⟨_, rfl⟩
 obtain ⟨b21, h21⟩ : ∃ b, ((str t).toList == [114, 101, 116, 117, 114, 110]) = b := ⟨_, rfl⟩
 obtain ⟨b22, h22⟩ : ∃ b, ((str t).toList == [115, 104, 111, 114, 116]) = b := ⟨_, rfl⟩
 obtain ⟨b23, h23⟩ : ∃ b, ((str t).toList == [115, 105, 103, 110, 101, 100]) = b := ⟨_, rfl⟩
 obtain ⟨b24, h24⟩ : ∃ b, ((str t).toList == [115, 105, 122, 101, 111, 102]) = b := ⟨_, rfl⟩
 obtain ⟨b25, h25⟩ : ∃ b, ((str t).toList == [115, 116, 97, 116, 105, 99]) = b := ⟨_, rfl⟩
 obtain ⟨b26, h26⟩ : ∃ b, ((str t).toList == [115, 116, 114, 117, 99, 116]) = b := ⟨_, rfl⟩
 obtain ⟨b27, h27⟩ : ∃ b, ((str t).toList == [115, 119, 105, 116, 99, 104]) = b := ⟨_, rfl⟩
 obtain ⟨b28, h28⟩ : ∃ b, ((str t).toList == [116, 121, 112, 101, 100, 101, 102]) = b := ⟨_, rfl⟩
 obtain ⟨b29, h29⟩ : ∃ b, ((str t).toList == [117, 110, 105, 111, 110]) = b := ⟨_, rfl⟩
 obtain ⟨b30, h30⟩ : ∃ b, ((str t).toList == [117, 110, 115, 105, 103, 110, 101, 100]) = b := ⟨_, rfl⟩
 obtain ⟨b31, h31⟩ : ∃ b, ((str t).toList == [118, 111, 105, 100]) = b := ⟨_, rfl⟩
 obtain ⟨b32, h32⟩ : ∃ b, ((str t).toList == [118, 111, 108, 97, 116, 105, 108, 101]) = b := ⟨_, rfl⟩
 obtain ⟨b33, h33⟩ : ∃ b, ((str t).toList == [119, 104, 105, 108, 101]) = b := ⟨_, rfl⟩
 obtain ⟨b34, h34⟩ : ∃ b, ((str t).toList == [95, 65, 108, 105, 103, 110, 97, 115]) = b := ⟨_, rfl⟩
 obtain ⟨b35, h35⟩ : ∃ b, ((str t).toList == [95, 65, 108, 105, 103, 110, 111, 102]) = b := ⟨_, rfl⟩
 obtain ⟨b36, h36⟩ : ∃ b, ((str t).toList == [95, 65, 116, 111, 109, 105, 99]) = b := ⟨_, rfl⟩
 obtain ⟨b37, h37⟩ : ∃ b, ((str t).toList == [95, 66, 111, 111, 108]) = b := ⟨_, rfl⟩
 obtain ⟨b38, h38⟩ : ∃ b, ((str t).toList == [95, 67, 111, 109, 112, 108, 101, 120]) = b := ⟨_, rfl⟩
 obtain ⟨b39, h39⟩ : ∃ b, ((str t).toList == [95, 71, 101, 110, 101, 114, 105, 99]) = b := ⟨_, rfl⟩
 obtain ⟨b40, h40⟩ : ∃ b, ((str t).toList == [95, 73, 109, 97, 103, 105, 110, 97, 114, 121]) = b := ⟨_, rfl⟩
 obtain ⟨b41, h41⟩ : ∃ b, ((str t).toList == [95, 78, 111, 114, 101, 116, 117, 114, 110]) = b := ⟨_, rfl⟩
 obtain ⟨b42, h42⟩ : ∃ b, ((str t).toList == [95, 83, 116, 97, 116, 105, 99, 95, 97, 115, 115, 101, 114, 116]) = b := ⟨_, rfl⟩
 obtain ⟨b43, h43⟩ : ∃ b, ((str t).toList == [95, 84, 104, 114, 101, 97, 100, 95, 108, 111, 99, 97, 108]) = b := ⟨_, rfl⟩
 have hk : isKw t = (b0 || b1 || b2 || b3 || b4 || b5 || b6 || b7 || b8 || b9 || b10 || b11 || b12 || b13 || b14 || b15 || b16 || b17 || b18 || b19 || b20 || b21 || b22 || b23 || b24 || b25 || b26 || b27 || b28 || b29 || b30 || b31 || b32 || b33 || b34 || b35 || b36 || b37 || b38 || b39 || b40 || b41 || b42 || b43) := by
  rw [← h0, ← h1, ← h2, ← h3, ← h4, ← h5, ← h6, ← h7, ← h8, ← h9, ← h10, ← h11, ← h12, ← h13, ← h14, ← h15, ← h16, ← h17, ← h18, ← h19, ← h20, ← h21, ← h22, ← h23, ← h24, ← h25, ← h26, ← h27, ← h28, ← h29, ← h30, ← h31, ← h32, ← h33, ← h34, ← h35, ← h36, ← h37, ← h38, ← h39, ← h40, ← h41, ← h42, ← h43]
  simp only [str_eqb, isKw, kws, List.contains_cons, List.contains_nil, Bool.or_false, Bool.or_assoc]
 obtain ⟨st, hst⟩ : ∃ st : ByteArray, str t = st := ⟨_, rfl⟩
 rw [hk, hst]
 simp only [hst] at h0 h1 h2 h3 h4 h5 h6 h7 h8 h9 h10 h11 h12 h13 h14 h15 h16 h17 h18 h19 h20 h21 h22 h23 h24 h25 h26 h27 h28 h29 h30 h31 h32 h33 h34 h35 h36 h37 h38 h39 h40 h41 h42 h43
 clear hk hst
 go_enter Tryz.func110, Tryz.ntmps110
 go_wp2_with fail
 all_goals (go_ret; exact ⟨by simp_all, rfl⟩)
theorem canonF (t : Bs) (w : World) : Calls Tryz.prog 115 #[.string (str t)] w fun e w' => e = .returned (.string (str (canon t))) ∧ w' = w := by
 unfold canon
 by_cases h0 : t = [60, 58]
 ·rw [if_pos h0]
  have q0 := str_is h0
  obtain ⟨st, hst⟩ : ∃ st : ByteArray, str t = st := ⟨_, rfl⟩
  rw [hst] at q0
  rw [hst]
  clear hst h0
  go_enter Tryz.func115, Tryz.ntmps115
  go_wp2_with fail
  go_ret
  exact ⟨rfl, rfl⟩
 by_cases h1 : t = [58, 62]
 ·rw [if_neg h0, if_pos h1]
  have q0 := str_no h0
  have q1 := str_is h1
  obtain ⟨st, hst⟩ : ∃ st : ByteArray, str t = st := ⟨_, rfl⟩
  rw [hst] at q0 q1
  rw [hst]
  clear hst h0 h1
  go_enter Tryz.func115, Tryz.ntmps115
  go_wp2_with fail
  go_ret
  exact ⟨rfl, rfl⟩
 by_cases h2 : t = [60, 37]
 ·rw [if_neg h0, if_neg h1, if_pos h2]
  have q0 := str_no h0
  have q1 := str_no h1
  have q2 := str_is h2
  obtain ⟨st, hst⟩ : ∃ st : ByteArray, str t = st := ⟨_, rfl⟩
  rw [hst] at q0 q1 q2
  rw [hst]
  clear hst h0 h1 h2
  go_enter Tryz.func115, Tryz.ntmps115
  go_wp2_with fail
  go_ret
  exact ⟨rfl, rfl⟩
 by_cases h3 : t = [37, 62]
 ·rw [if_neg h0, if_neg h1, if_neg h2, if_pos h3]
  have q0 := str_no h0
  have q1 := str_no h1
  have q2 := str_no h2
  have q3 := str_is h3
  obtain ⟨st, hst⟩ : ∃ st : ByteArray, str t = st := ⟨_, rfl⟩
  rw [hst] at q0 q1 q2 q3
  rw [hst]
  clear hst h0 h1 h2 h3
  go_enter Tryz.func115, Tryz.ntmps115
  go_wp2_with fail
  go_ret
  exact ⟨rfl, rfl⟩
 by_cases h4 : t = [37, 58]
 ·rw [if_neg h0, if_neg h1, if_neg h2, if_neg h3, if_pos h4]
  have q0 := str_no h0
  have q1 := str_no h1
  have q2 := str_no h2
  have q3 := str_no h3
  have q4 := str_is h4
  obtain ⟨st, hst⟩ : ∃ st : ByteArray, str t = st := ⟨_, rfl⟩
  rw [hst] at q0 q1 q2 q3 q4
  rw [hst]
  clear hst h0 h1 h2 h3 h4
  go_enter Tryz.func115, Tryz.ntmps115
  go_wp2_with fail
  go_ret
  exact ⟨rfl, rfl⟩
 by_cases h5 : t = [37, 58, 37, 58]
 ·rw [if_neg h0, if_neg h1, if_neg h2, if_neg h3, if_neg h4, if_pos h5]
  have q0 := str_no h0
  have q1 := str_no h1
  have q2 := str_no h2
  have q3 := str_no h3
  have q4 := str_no h4
  have q5 := str_is h5
  obtain ⟨st, hst⟩ : ∃ st : ByteArray, str t = st := ⟨_, rfl⟩
  rw [hst] at q0 q1 q2 q3 q4 q5
  rw [hst]
  clear hst h0 h1 h2 h3 h4 h5
  go_enter Tryz.func115, Tryz.ntmps115
  go_wp2_with fail
  go_ret
  exact ⟨rfl, rfl⟩
 rw [if_neg h0, if_neg h1, if_neg h2, if_neg h3, if_neg h4, if_neg h5]
 have q0 := str_no h0
 have q1 := str_no h1
 have q2 := str_no h2
 have q3 := str_no h3
 have q4 := str_no h4
 have q5 := str_no h5
 obtain ⟨st, hst⟩ : ∃ st : ByteArray, str t = st := ⟨_, rfl⟩
 rw [hst] at q0 q1 q2 q3 q4 q5
 rw [hst]
 clear hst h0 h1 h2 h3 h4 h5
 go_enter Tryz.func115, Tryz.ntmps115
 go_wp2_with fail
 go_ret
 exact ⟨rfl, rfl⟩
end Go.Proofs.YtlboejdhmggjpaaGreat.Ct

/- WwA -/
namespace Go.Proofs.YtlboejdhmggjpaaGreat.Ww
set_option maxRecDepth 100000
set_option maxHeartbeats 16000000
open Go.Proofs.YtlboejdhmggjpaaGreat
open Go.RowKit Go.BigFrame

theorem Sc.whiteF (c : UInt8) (w : World) : Calls Tryz.prog 107 #[.int .u8 c.toNat] w fun e w' => e = .returned (.bool (isWhite c)) ∧ w' = w := by
 have hb := c.toNat_lt
 go_enter Tryz.func107, Tryz.ntmps107
 go_wp2
 all_goals (go_ret; refine ⟨ret_bool ?_, rfl⟩; rw [Bool.eq_iff_iff]; simp [isWhite] <;> omega)
theorem Sc.letterF (c : UInt8) (w : World) : Calls Tryz.prog 188 #[.int .u8 c.toNat] w fun e w' => e = .returned (.bool (letter c)) ∧ w' = w := by
 have hb := c.toNat_lt
 go_enter Tryz.func188, Tryz.ntmps188
 go_wp2
 all_goals (go_ret; refine ⟨ret_bool ?_, rfl⟩; rw [Bool.eq_iff_iff]; simp [letter] <;> omega)
theorem Sc.digitF (c : UInt8) (w : World) : Calls Tryz.prog 189 #[.int .u8 c.toNat] w fun e w' => e = .returned (.bool (digit c)) ∧ w' = w := by
 have hb := c.toNat_lt
 go_enter Tryz.func189, Tryz.ntmps189
 go_wp2
 all_goals (go_ret; refine ⟨ret_bool ?_, rfl⟩; rw [Bool.eq_iff_iff]; simp [digit] <;> omega)
end Go.Proofs.YtlboejdhmggjpaaGreat.Ww

/- WwB -/
namespace Go.Proofs.YtlboejdhmggjpaaGreat.Ww
set_option maxRecDepth 100000
set_option maxHeartbeats 16000000
open Go.Proofs.YtlboejdhmggjpaaGreat
open Go.RowKit Go.BigFrame

abbrev thE (o : Option UInt8) : Ending := .returned (.tuple #[.int .u8 (o.getD 0).toNat, .bool o.isSome])
theorem third_int (c : UInt8) : third c = if (c.toNat : Int) = 61 then some 35 else if (c.toNat : Int) = 47 then some 92 else if (c.toNat : Int) = 39 then some 94 else if (c.toNat : Int) = 40 then some 91 else if (c.toNat : Int) = 41 then some 93 else if (c.toNat : Int) = 33 then some 124 else if (c.toNat : Int) = 60 then some 123 else if (c.toNat : Int) = 62 then some 125 else if (c.toNat : Int) = 45 then some 126 else none := by
 unfold third
 have h : ∀ n : Nat, n < 256 → (c = UInt8.ofNat n ↔ (c.toNat : Int) = n) := fun n hn => byte_int c n hn
 have h61 : c = 61 ↔ (c.toNat : Int) = 61 := h 61 (by decide)
 have h47 : c = 47 ↔ (c.toNat : Int) = 47 := h 47 (by decide)
 have h39 : c = 39 ↔ (c.toNat : Int) = 39 := h 39 (by decide)
 have h40 : c = 40 ↔ (c.toNat : Int) = 40 := h 40 (by decide)
 have h41 : c = 41 ↔ (c.toNat : Int) = 41 := h 41 (by decide)
 have h33 : c = 33 ↔ (c.toNat : Int) = 33 := h 33 (by decide)
 have h60 : c = 60 ↔ (c.toNat : Int) = 60 := h 60 (by decide)
 have h62 : c = 62 ↔ (c.toNat : Int) = 62 := h 62 (by decide)
 have h45 : c = 45 ↔ (c.toNat : Int) = 45 := h 45 (by decide)
 simp only [h61, h47, h39, h40, h41, h33, h60, h62, h45]
theorem Ph.thirdF (c : UInt8) (w : World) : Calls Tryz.prog 167 #[.int .u8 c.toNat] w fun e w' => e = thE (third c) ∧ w' = w := by
 go_enter Tryz.func167, Tryz.ntmps167
 go_wp2
 all_goals (go_ret2; refine ⟨?_, rfl⟩; rw [third_int]; simp_all [thE])
theorem tri_at {s : ByteArray} {i : Nat} (h : i + 3 ≤ s.size) (h0 : (s[i].toNat : Int) = 63) (h1 : (s[i + 1].toNat : Int) = 63) : tri (dl s) i = third s[i + 2] := by
 unfold tri
 rw [dl_get (by omega), dl_get (by omega), dl_get (by omega), if_pos ⟨by rw [byte_eq h0 (by decide)]; rfl, by rw [byte_eq h1 (by decide)]; rfl⟩]
 rfl
theorem tri_end {s : ByteArray} {i : Nat} (h : s.size < i + 3) : tri (dl s) i = none := by
 unfold tri
 rw [dl_none (i := i + 2) (by omega)]
 split <;> rfl
theorem tri_no0 {s : ByteArray} {i : Nat} (h : i < s.size) (h0 : ¬ (s[i].toNat : Int) = 63) : tri (dl s) i = none := by
 unfold tri
 rw [dl_get h, if_neg]
 rintro ⟨e, _⟩
 exact byte_ne h0 (by decide) (Option.some.inj e)
theorem tri_no1 {s : ByteArray} {i : Nat} (h : i + 1 < s.size) (h0 : ¬ (s[i + 1].toNat : Int) = 63) : tri (dl s) i = none := by
 unfold tri
 rw [dl_get (i := i + 1) h, if_neg]
 rintro ⟨_, e⟩
 exact byte_ne h0 (by decide) (Option.some.inj e)
theorem bas_none {s : ByteArray} {i : Nat} (hi : i < s.size) (ht : tri (dl s) i = none) : bas (dl s) i = (s[i], 1) := by
 unfold bas
 rw [ht]
 simp only [List.getD_eq_getElem?_getD, dl_get hi]
 rfl
theorem bas_some {s : Bs} {i : Nat} {c : UInt8} (ht : tri s i = some c) : bas s i = (c, 3) := by unfold bas; rw [ht]
theorem spl_iff {s : ByteArray} {i : Nat} {b : UInt8} {n : Nat} (hb : bas (dl s) i = (b, n)) : isSpl (dl s) i = true ↔ (b.toNat : Int) = 92 ∧ ∃ h : i + n < s.size, (s[i + n].toNat : Int) = 10 := by
 unfold isSpl
 rw [hb]
 simp only [Bool.and_eq_true, beq_iff_eq]
 constructor
 ·rintro ⟨h1, h2⟩
  refine ⟨(byte_int b 92 (by decide)).1 h1, ?_⟩
  have hl := (List.getElem?_eq_some_iff.1 h2).1
  rw [← size_dl] at hl
  rw [dl_get hl] at h2
  exact ⟨hl, (byte_int _ 10 (by decide)).1 (Option.some.inj h2)⟩
 ·rintro ⟨h1, hl, h2⟩
  exact ⟨byte_eq h1 (by decide), by rw [dl_get hl, byte_eq h2 (by decide)]; rfl⟩
abbrev ptV (p : Pt) : Value := .agg #[.int .u8 p.b.toNat, .int .i64 p.pos, .int .i64 p.len, .bool p.spl]
theorem Ph.endF (p : Pt) (w : World) (hp : p.pos + p.len ≤ 1000000000) : Calls Tryz.prog 137 #[ptV p] w fun e w' => e = .returned (.int .i64 ((p.pos + p.len : Nat) : Int)) ∧ w' = w.alloc (.cells #[.int .u8 p.b.toNat, .int .i64 p.pos, .int .i64 p.len, .bool p.spl] 175) := by
 obtain ⟨b, pos, len, spl⟩ := p
 simp only at hp ⊢
 go_enter Tryz.func137, Tryz.ntmps137
 go_wp2_with fail
 go_ret
 exact ⟨by simp, rfl⟩
end Go.Proofs.YtlboejdhmggjpaaGreat.Ww

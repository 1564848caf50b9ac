/- scan: where words, numbers, headers end. -/
import Derived.Test.YtlboejdhmggjpaaGreatWwB
import Derived.Test.YtlboejdhmggjpaaGreatWkB
set_option linter.all false
namespace Go.Proofs.YtlboejdhmggjpaaGreat.Ww
set_option maxRecDepth 100000
set_option maxHeartbeats 16000000
open Go.Proofs.YtlboejdhmggjpaaGreat
open Go.RowKit Go.BigFrame

theorem letter_call (c : UInt8) (w : World) (b : Bool) (h : letter c = b) : Calls Tryz.prog 188 #[.int .u8 c.toNat] w fun e w' => e = .returned (.bool b) ∧ w' = w := h ▸ Sc.letterF c w
theorem digit_call (c : UInt8) (w : World) (b : Bool) (h : digit c = b) : Calls Tryz.prog 189 #[.int .u8 c.toNat] w fun e w' => e = .returned (.bool b) ∧ w' = w := h ▸ Sc.digitF c w
def endAt (i n : Nat) : Nat := if n = 0 then 0 else i + n
theorem wRun_at {s : ByteArray} {j : Nat} (h : j < s.size) : wRun ((dl s).drop j) = if letter s[j] || digit s[j] then wRun ((dl s).drop (j + 1)) + 1 else 0 := by rw [drop_at h]; rfl
theorem wRun_end {s : ByteArray} {j : Nat} (h : s.size ≤ j) : wRun ((dl s).drop j) = 0 := by rw [drop_end h]; rfl
theorem Sc.wordEnd (s : ByteArray) (i : Nat) (w : World) (hi : i < s.size) (hs : s.size ≤ 1000000000) : Calls Tryz.prog 172 #[.string s, .int .i64 i] w fun e w' => e = .returned (.int .i64 (endAt i (wLen ((dl s).drop i)))) ∧ w' = w := by
 have hi' : (i : Int) < s.size := by omega
 cases hl : letter s[i]
 ·have hw : wLen ((dl s).drop i) = 0 := by rw [drop_at hi]; simp [wLen, hl]
  rw [hw]
  have HL := Lib.hid hl
  clear hl hw
  go_enter Tryz.func172, Tryz.ntmps172
  go_wp2_with (first | (go_at_call 188; refine (letter_call _ _ _ HL.out).mono ?_; rintro e w1 ⟨rfl, rfl⟩) | fail)
  go_ret
  exact ⟨rfl, rfl⟩
 ·have hw : wLen ((dl s).drop i) = wRun ((dl s).drop (i + 1)) + 1 := by rw [drop_at hi]; simp [wLen, hl]
  rw [hw]
  have HL := Lib.hid hl
  clear hl hw
  go_enter Tryz.func172, Tryz.ntmps172
  go_wp2_with (first | (go_at_call 188; refine (letter_call _ _ _ HL.out).mono ?_; rintro e w1 ⟨rfl, rfl⟩) | fail)
  go_loopw [5] (fun s5 wr => ∃ j : Nat, i + 1 ≤ j ∧ j ≤ s.size ∧ s5 = .int .i64 j ∧ wr = w1 ∧ wRun ((dl s).drop (i + 1)) = j - (i + 1) + wRun ((dl s).drop j)) (fun s5 _ => s.size - (intOf s5).toNat)
  case atStart => exact ⟨i + 1, by omega, by omega, by go_num, rfl, by omega⟩
  case round =>
   obtain ⟨j, h1, h2, rfl, rfl, h3⟩ := hrel
   by_cases hlt : j < s.size
   ·have hlt' : (j : Int) < s.size := by omega
    rw [wRun_at hlt] at h3
    have H3 := Lib.hid h3
    clear h3
    have hc : letter s[j] = true ∨ (letter s[j] = false ∧ digit s[j] = true) ∨ (letter s[j] = false ∧ digit s[j] = false) := by
     cases letter s[j] <;> cases digit s[j] <;> simp
    rcases hc with hc | ⟨hc, hd⟩ | ⟨hc, hd⟩
    ·have HC := Lib.hid hc
     clear hc
     go_wp2_with (first | (go_at_call 188; refine (letter_call _ _ _ HC.out).mono ?_; rintro e w1 ⟨rfl, rfl⟩) | fail)
     go_roundw
     case rel => exact ⟨j + 1, by omega, by omega, by go_num, by trivial, by have := H3.out; rw [HC.out] at this; simp at this; omega⟩
     case measure => simp [intOf]; omega
    ·have HC := Lib.hid hc
     have HD := Lib.hid hd
     clear hc hd
     go_wp2_with (first | (go_at_call 188; refine (letter_call _ _ _ HC.out).mono ?_; rintro e w1 ⟨rfl, rfl⟩) | (go_at_call 189; refine (digit_call _ _ _ HD.out).mono ?_; rintro e w1 ⟨rfl, rfl⟩) | fail)
     go_roundw
     case rel => exact ⟨j + 1, by omega, by omega, by go_num, by trivial, by have := H3.out; rw [HC.out, HD.out] at this; simp at this; omega⟩
     case measure => simp [intOf]; omega
    ·have HC := Lib.hid hc
     have HD := Lib.hid hd
     clear hc hd
     go_wp2_with (first | (go_at_call 188; refine (letter_call _ _ _ HC.out).mono ?_; rintro e w1 ⟨rfl, rfl⟩) | (go_at_call 189; refine (digit_call _ _ _ HD.out).mono ?_; rintro e w1 ⟨rfl, rfl⟩) | fail)
     go_ret
     refine ⟨?_, rfl⟩
     have := H3.out; rw [HC.out, HD.out] at this; simp at this
     rw [this]
     unfold endAt
     simp
     omega
   ·obtain rfl : j = s.size := by omega
    rw [wRun_end (Nat.le_refl _)] at h3
    have hlt' : ¬ ((s.size : Int) < s.size) := by omega
    have H3 := Lib.hid h3
    clear h3
    go_wp2_with fail
    go_ret
    refine ⟨?_, rfl⟩
    rw [H3.out]
    unfold endAt
    simp
    omega
end Go.Proofs.YtlboejdhmggjpaaGreat.Ww

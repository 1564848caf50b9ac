/- phys: the part at a place. -/
import Derived.Test.YtlboejdhmggjpaaGreatWwB
set_option linter.all false
namespace Go.Proofs.YtlboejdhmggjpaaGreat.Ww
set_option maxRecDepth 100000
set_option maxHeartbeats 16000000
open Go.Proofs.YtlboejdhmggjpaaGreat
open Go.RowKit Go.BigFrame

theorem third_callQ (c : UInt8) (w : World) (o : Option UInt8) (h : third c = o) : Calls Tryz.prog 167 #[.int .u8 c.toNat] w fun e w' => e = .returned (.tuple #[.int .u8 (o.getD 0).toNat, .bool o.isSome]) ∧ w' = w := h ▸ Ph.thirdF c w
theorem part_cases {s : ByteArray} {i : Nat} (hi : i < s.size) : ∃ b n, bas (dl s) i = (b, n) ∧
  ((n = 1 ∧ b = s[i] ∧ (¬ (i : Int) + 2 < s.size ∨ ∃ h : i + 2 < s.size, (i : Int) + 2 < s.size ∧ (((s[i].toNat : Int) == 63) = false ∨ (s[i].toNat : Int) = 63 ∧ ((s[i + 1].toNat : Int) == 63) = false ∨
   (s[i].toNat : Int) = 63 ∧ (s[i + 1].toNat : Int) = 63 ∧ third s[i + 2] = none))) ∨
  (n = 3 ∧ ∃ h : i + 2 < s.size, (i : Int) + 2 < s.size ∧ (s[i].toNat : Int) = 63 ∧ (s[i + 1].toNat : Int) = 63 ∧ third s[i + 2] = some b)) := by
 by_cases h2 : i + 2 < s.size
 ·by_cases h0 : (s[i].toNat : Int) = 63
  ·by_cases h1 : (s[i + 1].toNat : Int) = 63
   ·have ht := tri_at (s := s) (i := i) (by omega) h0 h1
    cases h3 : third s[i + 2] with
    | none => exact ⟨_, _, bas_none hi (ht.trans h3), .inl ⟨rfl, rfl, .inr ⟨h2, by omega, .inr (.inr ⟨h0, h1, h3⟩)⟩⟩⟩
    | some c => exact ⟨_, _, bas_some (ht.trans h3), .inr ⟨rfl, h2, by omega, h0, h1, h3⟩⟩
   ·exact ⟨_, _, bas_none hi (tri_no1 (by omega) h1), .inl ⟨rfl, rfl, .inr ⟨h2, by omega, .inr (.inl ⟨h0, by simpa using h1⟩)⟩⟩⟩
  ·exact ⟨_, _, bas_none hi (tri_no0 hi h0), .inl ⟨rfl, rfl, .inr ⟨h2, by omega, .inl (by simpa using h0)⟩⟩⟩
 ·exact ⟨_, _, bas_none hi (tri_end (by omega)), .inl ⟨rfl, rfl, .inl (by omega)⟩⟩
theorem spl_cases {s : ByteArray} {i n : Nat} {b : UInt8} (hb : bas (dl s) i = (b, n)) :
  (ptAt (dl s) i = ⟨b, i, n, false⟩ ∧ (((b.toNat : Int) == 92) = false ∨ (b.toNat : Int) = 92 ∧ ¬ (i : Int) + n < s.size ∨ (b.toNat : Int) = 92 ∧ ∃ h : i + n < s.size, (i : Int) + n < s.size ∧ ((s[i + n].toNat : Int) == 10) = false)) ∨
  (ptAt (dl s) i = ⟨0, i, n + 1, true⟩ ∧ (b.toNat : Int) = 92 ∧ ∃ h : i + n < s.size, (i : Int) + n < s.size ∧ (s[i + n].toNat : Int) = 10) := by
 have hs := spl_iff hb
 by_cases hq : isSpl (dl s) i = true
 ·obtain ⟨h1, h2, h3⟩ := hs.1 hq
  refine .inr ⟨?_, h1, h2, by omega, h3⟩
  unfold ptAt; rw [if_pos hq, hb]
 ·refine .inl ⟨?_, ?_⟩
  ·unfold ptAt; rw [if_neg hq, hb]
  ·by_cases h1 : (b.toNat : Int) = 92
   ·by_cases h2 : i + n < s.size
    ·refine .inr (.inr ⟨h1, h2, by omega, ?_⟩)
     rw [beq_eq_false_iff_ne]
     intro h3
     exact hq (hs.2 ⟨h1, h2, h3⟩)
    ·exact .inr (.inl ⟨h1, by omega⟩)
   ·exact .inl (by simpa using h1)
theorem Ph.partAtF (s : ByteArray) (i : Nat) (w : World) (hi : i < s.size) (hs : s.size ≤ 1000000000) : Calls Tryz.prog 139 #[.string s, .int .i64 i] w fun e w' => e = .returned (ptV (ptAt (dl s) i)) ∧ Below w.heap.size w w' := by
 obtain ⟨b, n, hb, hc⟩ := part_cases hi
 obtain ⟨p, hp⟩ : ∃ p, ptAt (dl s) i = p := ⟨_, rfl⟩
 have hd := spl_cases hb
 rw [hp] at hd ⊢
 clear hp hb
 have hi' : (i : Int) < s.size := by omega
 rcases hc with ⟨rfl, rfl, h | ⟨h, h2, h3 | ⟨h3, h4⟩ | ⟨h3, h4, h5⟩⟩⟩ | ⟨rfl, h, h2, h3, h4, h5⟩
 all_goals
  rcases hd with ⟨rfl, k | ⟨k, k2⟩ | ⟨k, k0, k1, k2⟩⟩ | ⟨rfl, k, k0, k1, k2⟩
 all_goals try (exfalso; omega)
 all_goals
  go_enter Tryz.func139, Tryz.ntmps139
  go_wp2_with (first | (go_at_call 167; refine (third_callQ _ _ _ h5).mono ?_; rintro e w1 ⟨rfl, rfl⟩) | fail)
  all_goals (refine bodyPost_ret (v := ptV _) ?_ rfl ⟨rfl, below_alloc _ _⟩; first | (simp [results, Tryz.results139, go_sem]; done) | (simp [results, Tryz.results139, go_sem, k]; done) | (simp [results, Tryz.results139, go_sem, *]; done))
end Go.Proofs.YtlboejdhmggjpaaGreat.Ww

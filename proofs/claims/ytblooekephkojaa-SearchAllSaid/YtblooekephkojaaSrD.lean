/- Search: Check of the reference, over a slice of gaps in memory. -/
import Derived.Test.YtblooekephkojaaSrC
namespace Go.Proofs.Ytblooekephkojaa
open Go.RowKit
set_option linter.unusedVariables false

theorem Gap.valid_eq (g : Gap) : g.valid = (inTo g.w 65536 && inTo g.b 65536 && inTo g.cost 1000000 && inTo g.ind 256 && (g.may || !g.must)) := by
  rw [Bool.eq_iff_iff]; simp [Gap.valid, inTo]; omega

set_option maxHeartbeats 2000000 in
set_option maxRecDepth 100000 in
/-- The reference's check. -/
theorem Sr.refCheck (first : Int) (a : Option Addr) (l : List Gap) (cap : Nat) (s : Sty) (w : World) (hl : l.length ≤ 9223372036854775807) (hr : RowAt 6 Gap.f w a l) :
    Calls Try.prog 17 #[.int .i64 first, .slice a l.length cap, .agg s.cells] w fun e w' => e = .returned (.int .i64 (chk first l s)) ∧ Below w.heap.size w w' := by
  obtain ⟨c, i1, i2, i3, b1, b2, b3, ex, o1, o2, o3, o4, o5, o6, o7, o8, o9, o10⟩ := s
  have hch : chk first l ⟨c, i1, i2, i3, b1, b2, b3, ex, o1, o2, o3, o4, o5, o6, o7, o8, o9, o10⟩ = if c < 1 ∨ 4096 < c ∨ ex < 0 ∨ 1000000 < ex then 90 else if 65536 < l.length then 4 else if first < 0 ∨ 65536 < first then 2 else if l.all Gap.valid then 0 else 2 := rfl
  generalize chk first l ⟨c, i1, i2, i3, b1, b2, b3, ex, o1, o2, o3, o4, o5, o6, o7, o8, o9, o10⟩ = z at *
  by_cases hs : c < 1 ∨ 4096 < c ∨ ex < 0 ∨ 1000000 < ex
  · rw [if_pos hs] at hch
    subst hch
    have hw : inTo ex 1000000 = decide (0 ≤ ex ∧ ex ≤ 1000000) := rfl
    have HS := Lib.hid hs
    clear hs
    go_enter Try.func17, Try.ntmps17
    go_wp2_with (go_at_call 48; refine (Sr.within _ _ _).mono ?_; rintro e w' ⟨rfl, rfl⟩)
    all_goals (first | (exfalso; have := HS.out; simp at *; omega) | (go_ret; exact ⟨rfl, (Below.refl _ _).alloc (Nat.le_refl _) _⟩))
  rw [if_neg hs] at hch
  have h1 : 1 ≤ c := by omega
  have h2 : c ≤ 4096 := by omega
  have h3 : 0 ≤ ex := by omega
  have h4 : ex ≤ 1000000 := by omega
  clear hs
  have hw : inTo ex 1000000 = true := by simp [inTo]; omega
  by_cases hn : 65536 < l.length
  · rw [if_pos hn] at hch
    subst hch
    go_enter Try.func17, Try.ntmps17
    go_wp2_with (go_at_call 48; refine (Sr.within _ _ _).mono ?_; rintro e w' ⟨rfl, rfl⟩)
    go_ret
    exact ⟨rfl, (Below.refl _ _).alloc (Nat.le_refl _) _⟩
  rw [if_neg hn] at hch
  have hn' : ¬ (65536 : Int) < (l.length : Int) := by omega
  by_cases hf : first < 0 ∨ 65536 < first
  · rw [if_pos hf] at hch
    subst hch
    have HS := Lib.hid hf
    clear hf
    have hw2 : inTo first 65536 = false := by simp [inTo]; have := HS.out; omega
    go_enter Try.func17, Try.ntmps17
    go_wp2_with (go_at_call 48; refine (Sr.within _ _ _).mono ?_; rintro e w' ⟨rfl, rfl⟩)
    all_goals (first | (exfalso; have := HS.out; simp at *; omega) | (go_ret; exact ⟨rfl, (Below.refl _ _).alloc (Nat.le_refl _) _⟩))
  rw [if_neg hf] at hch
  have h5 : 0 ≤ first := by omega
  have h6 : first ≤ 65536 := by omega
  clear hf
  have HC := Lib.hid hch
  clear hch
  have hw2 : inTo first 65536 = true := by simp [inTo]; omega
  go_enter Try.func17, Try.ntmps17
  go_wp2_with (go_at_call 48; refine (Sr.within _ _ _).mono ?_; rintro e w' ⟨rfl, rfl⟩)
  go_loopw [7] (fun i wr => ∃ k : Nat, k ≤ l.length ∧ i = .int .i64 k ∧ (l.take k).all Gap.valid = true ∧ Below w.heap.size w wr) (fun i _ => l.length - (intOf i).toNat)
  case atStart => exact ⟨0, Nat.zero_le _, rfl, rfl, (Below.refl _ _).alloc (Nat.le_refl _) _⟩
  case round =>
    obtain ⟨k, hk, rfl, hall, hb⟩ := hrel
    have HA := Lib.hid hall
    clear hall
    by_cases hlt : k < l.length
    · obtain ⟨b, off, rfl, hbw, hc⟩ := hr.at (by intro e; simp [e] at hlt)
      obtain ⟨g0, g1, g2, g3, g4, g5⟩ := Gap.at (w := wr) (b := b) (o := off + k * 6) (g := l[k]) ((hc k hlt).below hb hbw)
      have hta : (l.take (k + 1)).all Gap.valid = ((l.take k).all Gap.valid && l[k].valid) := by rw [List.take_succ_eq_append_getElem hlt, List.all_append]; simp
      have hva : l[k].valid = false → l.all Gap.valid = false := fun h => by
        rw [List.all_eq_false]; exact ⟨l[k], List.getElem_mem hlt, by simp [h]⟩
      have HT := Lib.hid hta
      have HF := Lib.hid hva
      clear hc hr hta hva
      have hsz := hb.size
      generalize l[k] = g at *
      cases hv : g.valid
      · have HV := Lib.hid hv
        clear hv
        go_wp2_with (go_at_call 48; refine (Sr.within _ _ _).mono ?_; rintro e w' ⟨rfl, rfl⟩)
        all_goals first
          | (go_ret; exact ⟨ret_int (by rw [HC.out, HF.out HV.out]; rfl), hb.trans ((Below.refl _ _).alloc hsz _)⟩)
          | (exfalso; have v1 : inTo g.w 65536 = true := by assumption
             have v2 : inTo g.b 65536 = true := by assumption
             have v3 : inTo g.cost 1000000 = true := by assumption
             have v4 : inTo g.ind 256 = true := by assumption
             have hgv := Gap.valid_eq g
             rw [HV.out, v1, v2, v3, v4] at hgv
             first
               | (have m : ¬ g.must = true := by assumption
                  simp [m] at hgv)
               | (have m : (!g.may) = false := by assumption
                  simp only [Bool.not_eq_false'] at m
                  simp [m] at hgv))
      · have hv' := hv
        have hgv : g.valid = (inTo g.w 65536 && inTo g.b 65536 && inTo g.cost 1000000 && inTo g.ind 256 && (g.may || !g.must)) := Gap.valid_eq g
        rw [hgv] at hv'
        simp only [Bool.and_eq_true] at hv'
        obtain ⟨⟨⟨⟨v1, v2⟩, v3⟩, v4⟩, v5⟩ := hv'
        have HV := Lib.hid hv
        clear hv hgv
        go_wp2_with (go_at_call 48; refine (Sr.within _ _ _).mono ?_; rintro e w' ⟨rfl, rfl⟩)
        all_goals first
          | (exfalso; simp_all; done)
          | (go_roundw; (case rel => exact ⟨k + 1, by omega, by go_num, by rw [HT.out, HA.out, HV.out]; rfl, hb.trans ((Below.refl _ _).alloc hsz _)⟩); (case measure => simp [intOf]; omega))
    · go_wp2
      go_ret
      rw [List.take_of_length_le (by omega)] at HA
      exact ⟨ret_int (by rw [HC.out, HA.out]; rfl), hb⟩
end Go.Proofs.Ytblooekephkojaa

/- The law SearchLong. -/
import Derived.Test.YtblooekephkojaaLsS
import Derived.Test.YtblooekephkojaaSrH
namespace Go.Proofs.Ytblooekephkojaa
open Go.RowKit Go.BigFrame Go.Shelf
set_option linter.unusedVariables false

set_option maxRecDepth 100000 in
set_option maxHeartbeats 4000000 in
theorem Ls.law_long (first : Int) (ga : Option Addr) (l : List Gap) (gc : Nat) (s : Sty) (w : World) (hl : l.length ≤ 9223372036854775807) (hr : RowAt 6 Gap.f w ga l) :
    Calls Try.prog 10 #[.int .i64 first, .slice ga l.length gc, .agg s.cells] w fun e w' => e = .returned (.bool true) ∧ Below w.heap.size w w' := by
  obtain ⟨W, hW⟩ : ∃ W, W = w.alloc (.cells s.cells 27) := ⟨_, rfl⟩
  have hst : W.heap[w.heap.size]? = some (.cells s.cells 27 (0, 0)) := by rw [hW]; exact heap_alloc_new _ _
  have hB : Below w.heap.size w W := by rw [hW]; exact below_alloc _ _
  have hs1 : W.heap.size = w.heap.size + 1 := by rw [hW]; simp
  have hrW := hr.below hB (Nat.le_refl _) hB.size
  have HW := Lib.hid hW
  have HB := Lib.hid hB
  clear hW hB hr
  by_cases hskip : (400 < l.length ∧ l.length ≤ 65536) ∨ 70000 < l.length
  · have h1 : (l.length ≤ 65536 ∧ 400 < l.length ∧ ¬ 70000 < l.length) ∨ (400 < l.length ∧ ¬ l.length ≤ 65536 ∧ 70000 < l.length) := by omega
    clear hskip
    rcases h1 with ⟨h1, h2, h3⟩ | ⟨h1, h2, h3⟩
    · have d1 : decide ((400 : Int) < (l.length : Int)) = true := by simp; omega
      have d2 : decide ((l.length : Int) ≤ 65536) = true := by simp; omega
      clear h1 h2 h3
      go_enter Try.func10, Try.ntmps10
      go_wp2_with fail
      go_ret
      exact ⟨rfl, below_alloc _ _⟩
    · have d1 : decide ((400 : Int) < (l.length : Int)) = true := by simp; omega
      have d2 : decide ((l.length : Int) ≤ 65536) = false := by simp; omega
      have d3 : decide ((70000 : Int) < (l.length : Int)) = true := by simp; omega
      clear h1 h2 h3
      go_enter Try.func10, Try.ntmps10
      go_wp2_with fail
      go_ret
      exact ⟨rfl, below_alloc _ _⟩
  have hcases : (decide ((400 : Int) < (l.length : Int)) = false ∧ l.length ≤ 400) ∨ (decide ((400 : Int) < (l.length : Int)) = true ∧ decide ((l.length : Int) ≤ 65536) = false ∧ 65536 < l.length) := by
    by_cases h : 400 < l.length
    · exact .inr ⟨by simp; omega, by simp; omega, by omega⟩
    · exact .inl ⟨by simp; omega, by omega⟩
  have d3 : decide ((70000 : Int) < (l.length : Int)) = false := by simp; omega
  obtain ⟨z, hz⟩ : ∃ z, z = chk first l s := ⟨_, rfl⟩
  clear hskip
  by_cases h0 : z = 0
  · subst h0
    obtain ⟨hS, hL, hF0, hF1, hV⟩ := chk_ok hz.symm
    have HV := Lib.hid hV
    have HZ := Lib.hid hz
    clear hV hz hS
    rcases hcases with ⟨d1, h4⟩ | ⟨d1, d2, h4⟩
    · go_enter Try.func10, Try.ntmps10
      go_wp2_with (with_reducible refine wpList_load_row rfl 27 _ rfl _ rfl 27 _ _ _ (HW.out ▸ hst) Try.underlying27 rfl (by kernel_rfl) ?_)
      rw [← HW.out]
      refine (Ls.best_ok first ga l gc s W hrW HZ.out.symm).mono ?_
      rintro e w2 ⟨y, c, b, ho, rfl, hY, hb, b2, hc0, hc1⟩
      have hst2 := heap_below b2 hst (by omega)
      have hB2 := HB.out.trans (b2.mono HB.out.size)
      have hr2 := hrW.below b2 (Nat.le_refl _) b2.size
      have HO := Lib.hid ho
      have HB2 := Lib.hid hB2
      clear hst hrW b2 hB2 ho
      go_wp2_with (with_reducible refine wpList_load_row rfl 27 _ rfl _ rfl 27 _ _ _ hst2 Try.underlying27 rfl (by kernel_rfl) ?_)
      refine (Sr.refCheck first ga l gc s w2 hl hr2).mono ?_
      rintro e w3 ⟨rfl, b3⟩
      rw [← HZ.out]
      have hlt2 : w.heap.size < w2.heap.size := (Array.getElem?_eq_some_iff.1 hst2).1
      have hst3 := heap_below b3 hst2 hlt2
      have hB3 := HB2.out.trans (b3.mono HB2.out.size)
      have hr3 := hr2.below b3 (Nat.le_refl _) b3.size
      have hY3 : BoolBlk w3 b y := heap_below b3 hY hY.lt
      have HB3 := Lib.hid hB3
      clear hst2 hr2 b3 hB3 hY
      go_wp2_with (with_reducible refine wpList_load_row rfl 27 _ rfl _ rfl 27 _ _ _ hst3 Try.underlying27 rfl (by kernel_rfl) ?_)
      refine (Ls.long first ga l gc s w3 h4 hr3 HZ.out.symm).mono ?_
      rintro e w4 ⟨y', c', b', ho', rfl, hY', b4⟩
      obtain ⟨rfl, rfl⟩ := ho'.unique HO.out
      have hY4 : BoolBlk w4 b y' := heap_below b4 hY3 hY3.lt
      have hB4 := HB3.out.trans (b4.mono HB3.out.size)
      have HB4 := Lib.hid hB4
      have hyl := HO.out.len
      have hq := Sr.same (some ⟨b, 0, none⟩) (some ⟨b', 0, none⟩) y' y' l.length l.length w4 (by omega) hY4.rowAt hY'.rowAt
      rw [decide_eq_true rfl, hyl] at hq
      have HQ := Lib.hid hq
      clear hq hyl hY4 hY' hY3 b4 hB4 ho' hst3 hr3
      go_wp2_with fail
      refine HQ.out.mono ?_
      rintro e w5 ⟨rfl, b5⟩
      go_wp2_with fail
      go_ret
      exact ⟨rfl, HB4.out.trans (b5.mono HB4.out.size)⟩
    · exfalso; omega
  · have hzb : (z != 0) = true := by simpa using h0
    have HZ := Lib.hid hz
    have H0 := Lib.hid h0
    clear hz h0
    rcases hcases with ⟨d1, h4⟩ | ⟨d1, d2, h4⟩
    all_goals
      clear h4
      go_enter Try.func10, Try.ntmps10
      go_wp2_with (with_reducible refine wpList_load_row rfl 27 _ rfl _ rfl 27 _ _ _ (HW.out ▸ hst) Try.underlying27 rfl (by kernel_rfl) ?_)
      rw [← HW.out]
      refine (Ls.best_bad first ga l gc s W hl hrW z HZ.out.symm H0.out).mono ?_
      rintro e w2 ⟨rfl, b2⟩
      have hst2 := heap_below b2 hst (by omega)
      have hB2 := HB.out.trans (b2.mono HB.out.size)
      have hr2 := hrW.below b2 (Nat.le_refl _) b2.size
      have HB2 := Lib.hid hB2
      clear hst hrW b2 hB2
      go_wp2_with (with_reducible refine wpList_load_row rfl 27 _ rfl _ rfl 27 _ _ _ hst2 Try.underlying27 rfl (by kernel_rfl) ?_)
      refine (Sr.refCheck first ga l gc s w2 hl hr2).mono ?_
      rintro e w3 ⟨rfl, b3⟩
      rw [← HZ.out]
      go_wp2_with fail
      go_ret
      exact ⟨ret_bool (by simp), HB2.out.trans (b3.mono HB2.out.size)⟩
end Go.Proofs.Ytblooekephkojaa

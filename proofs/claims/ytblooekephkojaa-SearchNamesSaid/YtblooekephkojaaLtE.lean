/- The plain law of SearchWider: more columns make no way dearer, a greater excess none cheaper. -/
import Derived.Test.YtblooekephkojaaLtC
namespace Go.Proofs.Ytblooekephkojaa
set_option linter.unusedVariables false

theorem exc_mono {s s' : Sty} (hc : s.c ≤ s'.c) (he : s'.e ≤ s.e) (h0 : 0 ≤ s'.e) (x : Int) : exc s' x ≤ exc s x := by
  unfold exc
  split
  · split
    · exact Int.le_refl _
    · exact Int.mul_nonneg (by omega) (by omega)
  · rw [if_neg (by omega)]
    have h1 : (x - s'.c) * s'.e ≤ (x - s.c) * s'.e := Int.mul_le_mul_of_nonneg_right (by omega) h0
    have h2 : (x - s.c) * s'.e ≤ (x - s.c) * s.e := Int.mul_le_mul_of_nonneg_left he (by omega)
    omega

theorem cwalk_mono {s s' : Sty} (hc : s.c ≤ s'.c) (he : s'.e ≤ s.e) (h0 : 0 ≤ s'.e) (ps : List (Gap × Bool)) : ∀ (q q' : Int × Int), q'.1 ≤ q.1 → q'.2 = q.2 → (ps.foldl (cstep s') q').1 ≤ (ps.foldl (cstep s) q).1 ∧ (ps.foldl (cstep s') q').2 = (ps.foldl (cstep s) q).2 := by
  induction ps with
  | nil => exact fun q q' h1 h2 => ⟨h1, h2⟩
  | cons p ps ih =>
    intro q q' h1 h2
    simp only [List.foldl_cons]
    refine ih _ _ ?_ ?_
    · unfold cstep
      have := exc_mono hc he h0 q.2
      split
      · dsimp only; rw [h2]; omega
      · exact h1
    · unfold cstep
      split
      · rfl
      · dsimp only; rw [h2]

theorem cost_mono {s s' : Sty} (hc : s.c ≤ s'.c) (he : s'.e ≤ s.e) (h0 : 0 ≤ s'.e) (first : Int) (ps : List (Gap × Bool)) : cost s' first ps ≤ cost s first ps := by
  obtain ⟨h1, h2⟩ := cwalk_mono hc he h0 ps (0, first) (0, first) (Int.le_refl _) rfl
  unfold cost cwalk
  have := exc_mono hc he h0 (ps.foldl (cstep s) (0, first)).2
  rw [h2]
  omega

theorem opt_mono {s s' : Sty} (hc : s.c ≤ s'.c) (he : s'.e ≤ s.e) (h0 : 0 ≤ s'.e) {first : Int} {l : List Gap} {y y' : List Bool} {c c' : Int} (h : IsOpt s first l y c) (h' : IsOpt s' first l y' c') : c' ≤ c := by
  have h1 := h'.least y h.len h.fit
  have h2 := cost_mono hc he h0 first (l.zip y)
  rw [h.cost] at h2
  omega
end Go.Proofs.Ytblooekephkojaa

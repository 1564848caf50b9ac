/- The plain law of Best's second loop: the ends, one behind the other. -/
import Derived.Test.YtblooekephkojaaLsM
namespace Go.Proofs.Ytblooekephkojaa
set_option linter.unusedVariables false

/-- The way as far as row r. -/
structure CInv (l : List Gap) (E : Nat → Nat) (y : List Bool) (r : Nat) : Prop where
  len : y.length = l.length
  le : r ≤ l.length
  row : rowB y r
  rest : ∀ j, r ≤ j → y.getD j false = false
  done : ∀ i, i < r → rowB y i → (∀ j, i ≤ j → j < E i → y.getD j false = false) ∧ E i < r ∧ y.getD (E i) false = true

theorem getDb_rep (n i : Nat) : (List.replicate n false).getD i false = false := by
  rw [List.getD_eq_getElem?_getD, List.getElem?_replicate]; split <;> rfl
theorem getDb_set (l : List Bool) (i j : Nat) (x : Bool) (hi : i < l.length) : (l.set i x).getD j false = if i = j then x else l.getD j false := by
  rw [List.getD_eq_getElem?_getD, List.getElem?_set]
  split
  · rename_i h; subst h; simp
  · rw [List.getD_eq_getElem?_getD]

theorem CInv.start (l : List Gap) (E : Nat → Nat) : CInv l E (List.replicate l.length false) 0 :=
  ⟨by simp, Nat.zero_le _, .inl rfl, fun j _ => getDb_rep _ _, fun i hi => by omega⟩

theorem CInv.step {l : List Gap} {E : Nat → Nat} {y : List Bool} {r : Nat} (h : CInv l E y r) (h1 : r ≤ E r) (h2 : E r < l.length) : CInv l E (y.set (E r) true) (E r + 1) := by
  have hs : ∀ j, (y.set (E r) true).getD j false = if E r = j then true else y.getD j false := fun j => getDb_set _ _ _ _ (by rw [h.len]; exact h2)
  refine ⟨by simp [h.len], h2, .inr (by rw [hs, if_pos (by omega)]), fun j hj => by rw [hs, if_neg (by omega)]; exact h.rest j (by omega), fun i hi hrow => ?_⟩
  rcases Nat.lt_trichotomy i r with hlt | rfl | hgt
  · have hrow' : rowB y i := by
      rcases hrow with hrow | hrow
      · exact .inl hrow
      · rw [hs] at hrow
        split at hrow
        · omega
        · exact .inr hrow
    obtain ⟨d1, d2, d3⟩ := h.done i hlt hrow'
    exact ⟨fun j a1 a2 => by rw [hs, if_neg (by omega)]; exact d1 j a1 a2, by omega, by rw [hs]; split; rfl; exact d3⟩
  · exact ⟨fun j a1 a2 => by rw [hs, if_neg (by omega)]; exact h.rest j a1, by omega, by rw [hs, if_pos rfl]⟩
  · exfalso
    rcases hrow with hrow | hrow
    · omega
    · rw [hs, if_neg (by omega), h.rest (i - 1) (by omega)] at hrow; cases hrow

theorem CInv.chain {l : List Gap} {E : Nat → Nat} {y : List Bool} {r : Nat} (h : CInv l E y r) (h2 : l.length ≤ E r) : Chain l E y := fun i hi hrow => by
  rcases Nat.lt_trichotomy i r with hlt | rfl | hgt
  · obtain ⟨d1, d2, d3⟩ := h.done i hlt hrow
    exact ⟨d1, fun _ => d3⟩
  · exact ⟨fun j a1 a2 => h.rest j a1, fun hh => by omega⟩
  · exfalso
    rcases hrow with hrow | hrow
    · omega
    · rw [h.rest (i - 1) (by omega)] at hrow; cases hrow
end Go.Proofs.Ytblooekephkojaa

/- The plain law of the reference's Long: the ends of a row, one by one. -/
import Derived.Test.YtblooekephkojaaLsL
import Derived.Test.YtblooekephkojaaLtD
namespace Go.Proofs.Ytblooekephkojaa
set_option linter.unusedVariables false

/-- What has been seen of the ends from i up to k. -/
def Seen (s : Sty) (first : Int) (l : List Gap) (D : Nat → Int) (i k : Nat) (c : Int) (p : Int) : Prop :=
  (c = -1 ∧ ∀ q, i ≤ q → q < k → endB l q = false) ∨
  ∃ e : Nat, p = e ∧ i ≤ e ∧ e < k ∧ endB l e = true ∧ c = cand s first l D i e ∧ 0 ≤ c ∧ ∀ q, i ≤ q → q < k → endB l q = true → cand s first l D i e < cand s first l D i q ∨ (cand s first l D i e = cand s first l D i q ∧ q ≤ e)

section
variable {s : Sty} {first : Int} {l : List Gap} {D : Nat → Int} {i k : Nat} {c p : Int}
theorem Seen.start : Seen s first l D i i (-1) p := .inl ⟨rfl, fun q h1 h2 => by omega⟩
theorem Seen.low (h : Seen s first l D i k c p) : -1 ≤ c := by
  rcases h with ⟨h, _⟩ | ⟨_, _, _, _, _, _, h, _⟩ <;> omega
theorem Seen.skip (h : Seen s first l D i k c p) (he : endB l k = false) : Seen s first l D i (k + 1) c p := by
  rcases h with ⟨h1, h2⟩ | ⟨e, h1, h2, h3, h4, h5, h6, h7⟩
  · refine .inl ⟨h1, fun q a b => ?_⟩
    by_cases hq : q = k
    · rw [hq]; exact he
    · exact h2 q a (by omega)
  · refine .inr ⟨e, h1, h2, by omega, h4, h5, h6, fun q a b hb => ?_⟩
    by_cases hq : q = k
    · rw [hq, he] at hb; cases hb
    · exact h7 q a (by omega) hb
theorem Seen.keep (h : Seen s first l D i k c p) (h0 : 0 ≤ c) (hc : c < cand s first l D i k) : Seen s first l D i (k + 1) c p := by
  rcases h with ⟨h1, h2⟩ | ⟨e, h1, h2, h3, h4, h5, h6, h7⟩
  · omega
  · refine .inr ⟨e, h1, h2, by omega, h4, h5, h6, fun q a b hb => ?_⟩
    by_cases hq : q = k
    · rw [hq]; left; omega
    · exact h7 q a (by omega) hb
theorem Seen.take (h : Seen s first l D i k c p) (hik : i ≤ k) (he : endB l k = true) (h0 : 0 ≤ cand s first l D i k) (hc : c < 0 ∨ cand s first l D i k ≤ c) : Seen s first l D i (k + 1) (cand s first l D i k) k := by
  refine .inr ⟨k, rfl, hik, by omega, he, rfl, h0, fun q a b hb => ?_⟩
  by_cases hq : q = k
  · rw [hq]; right; exact ⟨rfl, Nat.le_refl _⟩
  · rcases h with ⟨h1, h2⟩ | ⟨e, h1, h2, h3, h4, h5, h6, h7⟩
    · rw [h2 q a (by omega)] at hb; cases hb
    · have := h7 q a (by omega) hb
      have : cand s first l D i k ≤ cand s first l D i q := by omega
      by_cases heq : cand s first l D i k = cand s first l D i q
      · right; exact ⟨heq, by omega⟩
      · left; omega
theorem Seen.pick {m : Nat} (h : Seen s first l D i (m + 1) c p) (hm : IsMost l i m) (he : endB l m = true) : ∃ e : Nat, p = e ∧ IsPick s first l D i e c := by
  rcases h with ⟨h1, h2⟩ | ⟨e, h1, h2, h3, h4, h5, h6, h7⟩
  · rw [h2 m hm.le (by omega)] at he; cases he
  · exact ⟨e, h1, m, hm, h2, by omega, h4, h5, fun q a b hb => h7 q a (by omega) hb⟩
end

theorem wid_succ (first : Int) (l : List Gap) (i k : Nat) (hk : k < l.length) : wid first l i (k + 1) = wid first l i k + l[k].b + l[k].w := by
  unfold wid; rw [psum_succ l k hk]; omega
theorem wid_self (first : Int) (l : List Gap) (i : Nat) : wid first l i i = startOf first l i := by unfold wid; omega
theorem startOf_bd (first : Int) (l : List Gap) (hf0 : 0 ≤ first) (hf1 : first ≤ 65536) (hv : ∀ g ∈ l, g.valid = true) (i : Nat) : 0 ≤ startOf first l i ∧ startOf first l i ≤ 65792 := by
  unfold startOf
  split
  · omega
  · cases h : l[i - 1]? with
    | none => simp
    | some g =>
      have := valid_bd (hv g (List.mem_of_getElem? h))
      simp only [Option.getD_some]
      omega
theorem wid_bd (first : Int) (l : List Gap) (hf0 : 0 ≤ first) (hf1 : first ≤ 65536) (hv : ∀ g ∈ l, g.valid = true) (hl : l.length ≤ 400) (i k : Nat) (hik : i ≤ k) (hk : k ≤ l.length) : 0 ≤ wid first l i k ∧ wid first l i k ≤ 53000000 := by
  have h1 := startOf_bd first l hf0 hf1 hv i
  have h2 := psum_mono l hv i k hik hk
  have h3 := (psum_bd l hv k hk).2
  have h4 := (psum_bd l hv i (by omega)).1
  unfold wid
  omega

/-- What the rests may be. -/
def RestOk (n : Nat) (rest : List Int) : Prop := ∀ i, i ≤ n → 0 ≤ atI rest i ∧ atI rest i ≤ ((n + 1 - i : Nat) : Int) * 60000000000000
theorem endc_bd (l : List Gap) (hv : ∀ g ∈ l, g.valid = true) (D : Nat → Int) (k : Nat) (hk : k ≤ l.length) (hD : k < l.length → 0 ≤ D (k + 1) ∧ D (k + 1) ≤ ((l.length - k : Nat) : Int) * 60000000000000) : 0 ≤ endc l D k ∧ endc l D k ≤ ((l.length - k : Nat) : Int) * 60000000000000 + 1000000 := by
  unfold endc
  cases h : l[k]? with
  | none => dsimp only; omega
  | some g =>
    have := valid_bd (hv g (List.mem_of_getElem? h))
    have := hD (List.getElem?_eq_some_iff.1 h).1
    dsimp only; omega
theorem cand_bd (s : Sty) (hs : StyOk s) (first : Int) (l : List Gap) (hf0 : 0 ≤ first) (hf1 : first ≤ 65536) (hv : ∀ g ∈ l, g.valid = true) (hl : l.length ≤ 400) (D : Nat → Int) (i k : Nat) (hik : i ≤ k) (hk : k ≤ l.length)
    (hD : k < l.length → 0 ≤ D (k + 1) ∧ D (k + 1) ≤ ((l.length - k : Nat) : Int) * 60000000000000) :
    0 ≤ exc s (wid first l i k) ∧ exc s (wid first l i k) ≤ 53000000000000 ∧ 0 ≤ cand s first l D i k ∧ cand s first l D i k ≤ ((l.length + 1 - i : Nat) : Int) * 60000000000000 := by
  have h1 := wid_bd first l hf0 hf1 hv hl i k hik hk
  have h2 := exc_le s _ hs.1 hs.2.2.1 hs.2.2.2 h1.1
  have h3 := endc_bd l hv D k hk hD
  unfold cand
  omega

theorem may_end {l : List Gap} {k : Nat} (hk : k < l.length) : endB l k = l[k].may := by unfold endB; rw [List.getElem?_eq_getElem hk]
theorem last_end (l : List Gap) : endB l l.length = true := by unfold endB; rw [List.getElem?_eq_none (Nat.le_refl _)]
theorem must_at {l : List Gap} {k : Nat} (hk : k < l.length) : mustB l k = l[k].must := by unfold mustB; rw [List.getElem?_eq_getElem hk]
theorem endc_at {l : List Gap} {k : Nat} (D : Nat → Int) (hk : k < l.length) : endc l D k = l[k].cost + D (k + 1) := by unfold endc; rw [List.getElem?_eq_getElem hk]
theorem endc_last (l : List Gap) (D : Nat → Int) : endc l D l.length = 0 := by unfold endc; rw [List.getElem?_eq_none (Nat.le_refl _)]
end Go.Proofs.Ytblooekephkojaa

/- The plain law of search.begins: it finds the best end of a row. -/
import Derived.Test.YtblooekephkojaaLtA
import Derived.Test.YtblooekephkojaaLsK
namespace Go.Proofs.Ytblooekephkojaa
set_option linter.unusedVariables false

def noGap : Gap := ⟨0, 0, false, false, 0, 0⟩
/-- How wide a row is before its first gap. -/
def startOf (first : Int) (l : List Gap) (i : Nat) : Int := if i = 0 then first else (l[i - 1]?.getD ⟨0, 0, false, false, 0, 0⟩).ind + (l[i - 1]?.getD ⟨0, 0, false, false, 0, 0⟩).w
/-- May a row end there? -/
def endB (l : List Gap) (k : Nat) : Bool := match l[k]? with | some g => g.may | none => true
def mustB (l : List Gap) (k : Nat) : Bool := match l[k]? with | some g => g.must | none => true
structure IsMost (l : List Gap) (i m : Nat) : Prop where
  le : i ≤ m
  len : m ≤ l.length
  must : mustB l m = true
  free : ∀ j, i ≤ j → j < m → mustB l j = false
def wid (first : Int) (l : List Gap) (i k : Nat) : Int := startOf first l i + psum l k - psum l i
def endc (l : List Gap) (D : Nat → Int) (k : Nat) : Int := match l[k]? with | some g => g.cost + D (k + 1) | none => 0
def cand (s : Sty) (first : Int) (l : List Gap) (D : Nat → Int) (i k : Nat) : Int := exc s (wid first l i k) + endc l D k
/-- The best end of the row that begins with i, the latest of the best ones. -/
def IsPick (s : Sty) (first : Int) (l : List Gap) (D : Nat → Int) (i k : Nat) (c : Int) : Prop :=
  ∃ m, IsMost l i m ∧ i ≤ k ∧ k ≤ m ∧ endB l k = true ∧ c = cand s first l D i k ∧ ∀ q, i ≤ q → q ≤ m → endB l q = true → cand s first l D i k < cand s first l D i q ∨ (cand s first l D i k = cand s first l D i q ∧ q ≤ k)

theorem must_end {l : List Gap} (hv : ∀ g ∈ l, g.valid = true) {k : Nat} (h : mustB l k = true) : endB l k = true := by
  unfold mustB at h
  unfold endB
  cases hk : l[k]? with
  | none => rfl
  | some g =>
    rw [hk] at h
    exact (valid_bd (hv g (List.mem_of_getElem? hk))).2.2.2.2.2.2.2.2 h

theorem IsMost.step {l : List Gap} {i m : Nat} (h : IsMost l (i + 1) m) (hi : i ≤ l.length) : IsMost l i (if mustB l i = true then i else m) := by
  split
  · rename_i hm
    exact ⟨Nat.le_refl _, hi, hm, fun j h1 h2 => by omega⟩
  · rename_i hm
    refine ⟨by have := h.le; omega, h.len, h.must, fun j h1 h2 => ?_⟩
    by_cases hij : j = i
    · subst hij; simpa using hm
    · exact h.free j (by omega) h2
theorem IsMost.last (l : List Gap) : IsMost l l.length l.length := ⟨Nat.le_refl _, Nat.le_refl _, by simp [mustB], fun j h1 h2 => by omega⟩

/-- The first place from which on rows are too wide. -/
theorem wide_at (first : Int) (l : List Gap) (hv : ∀ g ∈ l, g.valid = true) (c : Int) (i m : Nat) (him : i ≤ m) (hm : m ≤ l.length) :
    ∃ wide, i ≤ wide ∧ wide ≤ m + 1 ∧ ∀ k, k < m + 1 - i → (c < startOf first l i + psum l (i + k) - psum l i ↔ wide - i ≤ k) := by
  suffices H : ∀ t, t ≤ m + 1 - i → ∃ wide, i ≤ wide ∧ wide ≤ i + t ∧ (∀ k, k < t → (c < startOf first l i + psum l (i + k) - psum l i ↔ wide - i ≤ k)) by
    obtain ⟨wd, h1, h2, h3⟩ := H (m + 1 - i) (Nat.le_refl _)
    exact ⟨wd, h1, by omega, h3⟩
  intro t
  induction t with
  | zero => exact fun _ => ⟨i, Nat.le_refl _, by omega, fun k hk => by omega⟩
  | succ t ih =>
    intro ht
    obtain ⟨wd, h1, h2, h3⟩ := ih (by omega)
    by_cases hc : c < startOf first l i + psum l (i + t) - psum l i
    · refine ⟨wd, h1, by omega, fun k hk => ?_⟩
      by_cases hkt : k = t
      · subst hkt; exact ⟨fun _ => by omega, fun _ => hc⟩
      · exact h3 k (by omega)
    · refine ⟨i + t + 1, by omega, by omega, fun k hk => ⟨fun hh => ?_, fun hh => by omega⟩⟩
      exfalso
      have := psum_mono l hv (i + k) (i + t) (by omega) (by omega)
      omega

theorem exc_wide {s : Sty} {x : Int} (h : s.c < x) : exc s x = s.e * (x - s.c) := by unfold exc; rw [if_neg (by omega), Int.mul_comm]
theorem exc_flat {s : Sty} {x : Int} (h : ¬ s.c < x) : exc s x = 0 := by unfold exc; rw [if_pos (by omega)]

theorem begR_pick (s : Sty) (first : Int) (l : List Gap) (hv : ∀ g ∈ l, g.valid = true) (k : Nat) (fv fb sv sb : List Int) (D : Nat → Int) (i m wide : Nat) (hm : IsMost l i m) (hk : l.length + 1 ≤ 2 ^ k)
    (h : Nat → Prop) (hh : ∀ p, h p ↔ i ≤ p ∧ p ≤ l.length ∧ endB l p = true) (t1 : Tree k fv fb h) (t2 : Tree k sv sb h) (v1 : ∀ p, h p → fv.getD p 0 = endc l D p) (v2 : ∀ p, h p → sv.getD p 0 = endc l D p + s.e * psum l p)
    (hw1 : i ≤ wide) (hw2 : wide ≤ m + 1) (hw3 : ∀ j, j < m + 1 - i → (s.c < startOf first l i + psum l (i + j) - psum l i ↔ wide - i ≤ j)) :
    ∃ q : Nat, (begR (2 ^ k) fv fb sv sb s.e s.c (startOf first l i) (psum l i) i wide m).1 = q ∧ IsPick s first l D i q (begR (2 ^ k) fv fb sv sb s.e s.c (startOf first l i) (psum l i) i wide m).2 := by
  have hml := hm.len
  obtain ⟨a, a3⟩ := ofR_isB k fv fb h t1 i wide (by omega) (by omega)
  obtain ⟨b, b3⟩ := ofR_isB k sv sb h t2 wide (m + 1) (by omega) (by omega)
  have hflat : ∀ q, i ≤ q → q < wide → cand s first l D i q = endc l D q := fun q h1 h2 => by
    have := hw3 (q - i) (by omega)
    rw [show i + (q - i) = q from by omega] at this
    unfold cand wid
    rw [exc_flat (fun hc => by have := this.1 hc; omega), Int.zero_add]
  have hsteep : ∀ q, wide ≤ q → q ≤ m → cand s first l D i q = endc l D q + s.e * psum l q + s.e * (startOf first l i - psum l i - s.c) := fun q h1 h2 => by
    have := hw3 (q - i) (by omega)
    rw [show i + (q - i) = q from by omega] at this
    unfold cand wid
    rw [exc_wide (this.2 (by omega)), show startOf first l i + psum l q - psum l i - s.c = psum l q + (startOf first l i - psum l i - s.c) from by omega, Int.mul_add]
    omega
  unfold begR
  dsimp only
  generalize s.e * (startOf first l i - psum l i - s.c) = K at *
  generalize ofR (2 ^ k) fv fb i wide = A at *
  generalize ofR (2 ^ k) sv sb wide (m + 1) = B at *
  have hp : ∀ q, i ≤ q → q ≤ m → endB l q = true → h q := fun q h1 h2 h3 => (hh q).2 ⟨h1, by omega, h3⟩
  have hend : ∀ q, h q → endB l q = true := fun q hq => ((hh q).1 hq).2.2
  have hpm := hp m hm.le (Nat.le_refl _) (must_end hv hm.must)
  have hcase : ∀ q, i ≤ q → q ≤ m → q < wide ∨ wide ≤ q := fun q _ _ => by omega
  rcases b with ⟨b1, b2⟩ | ⟨pb, hb, ⟨b1, b1'⟩, b2, b4⟩
  · rw [if_neg (by omega)]
    rcases a with ⟨a1, a2⟩ | ⟨pa, ha, ⟨a1, a1'⟩, a2, a4⟩
    · exfalso
      rcases hcase m hm.le (Nat.le_refl _) with hc | hc
      · exact a2 m ⟨hm.le, hc⟩ hpm
      · exact b2 m ⟨hc, by omega⟩ hpm
    · refine ⟨pa, ha, m, hm, a1, by omega, hend pa a2, ?_, fun q h1 h2 h3 => ?_⟩
      · rw [a3 pa ha, v1 pa a2, hflat pa a1 a1']
      · have hq := hp q h1 h2 h3
        rcases hcase q h1 h2 with hc | hc
        · rw [hflat pa a1 a1', hflat q h1 hc, ← v1 pa a2, ← v1 q hq]; exact a4 q ⟨h1, hc⟩ hq
        · exact absurd hq (b2 q ⟨hc, by omega⟩)
  · rw [if_pos (by omega)]
    have hBq := b3 pb hb
    have hcb : ∀ q, wide ≤ q → q ≤ m → h q → cand s first l D i pb < cand s first l D i q ∨ (cand s first l D i pb = cand s first l D i q ∧ q ≤ pb) := fun q h1 h2 hq => by
      have := b4 q ⟨h1, by omega⟩ hq
      rw [v2 pb b2, v2 q hq] at this
      rw [hsteep pb b1 (by omega), hsteep q h1 h2]
      omega
    have hval : B.2 + K = cand s first l D i pb := by rw [hBq, v2 pb b2, hsteep pb b1 (by omega)]
    rcases a with ⟨a1, a2⟩ | ⟨pa, ha, ⟨a1, a1'⟩, a2, a4⟩
    · rw [if_pos (.inl a1)]
      refine ⟨pb, hb, m, hm, by omega, by omega, hend pb b2, hval, fun q h1 h2 h3 => ?_⟩
      have hq := hp q h1 h2 h3
      rcases hcase q h1 h2 with hc | hc
      · exact absurd hq (a2 q ⟨h1, hc⟩)
      · exact hcb q hc h2 hq
    · have hAq := a3 pa ha
      have hca : ∀ q, i ≤ q → q < wide → h q → cand s first l D i pa < cand s first l D i q ∨ (cand s first l D i pa = cand s first l D i q ∧ q ≤ pa) := fun q h1 h2 hq => by
        rw [hflat pa a1 a1', hflat q h1 h2, ← v1 pa a2, ← v1 q hq]; exact a4 q ⟨h1, h2⟩ hq
      have hvala : A.2 = cand s first l D i pa := by rw [hAq, v1 pa a2, hflat pa a1 a1']
      rw [hval, hvala]
      by_cases hle : cand s first l D i pb ≤ cand s first l D i pa
      · rw [if_pos (.inr hle)]
        refine ⟨pb, hb, m, hm, by omega, by omega, hend pb b2, rfl, fun q h1 h2 h3 => ?_⟩
        have hq := hp q h1 h2 h3
        rcases hcase q h1 h2 with hc | hc
        · rcases hca q h1 hc hq with hx | hx
          · left; omega
          · rcases Int.lt_or_eq_of_le hle with hy | hy
            · left; omega
            · right; exact ⟨by omega, by omega⟩
        · exact hcb q hc h2 hq
      · rw [if_neg (by omega)]
        refine ⟨pa, ha, m, hm, a1, by omega, hend pa a2, hvala, fun q h1 h2 h3 => ?_⟩
        have hq := hp q h1 h2 h3
        rcases hcase q h1 h2 with hc | hc
        · exact hca q h1 hc hq
        · rcases hcb q hc h2 hq with hx | hx <;> left <;> omega
end Go.Proofs.Ytblooekephkojaa

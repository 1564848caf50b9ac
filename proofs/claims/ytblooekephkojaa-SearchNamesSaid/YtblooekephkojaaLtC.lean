/- The plain law of search.Best: the picked ends make the best way, the first of the best ones. -/
import Derived.Test.YtblooekephkojaaLtB
namespace Go.Proofs.Ytblooekephkojaa
set_option linter.unusedVariables false

/-- The best way: it may be, costs c; none that may be costs less; none that costs the same stands ahead of it. -/
structure IsOpt (s : Sty) (first : Int) (l : List Gap) (y : List Bool) (c : Int) : Prop where
  len : y.length = l.length
  fit : (l.zip y).all fitB = true
  cost : Ytblooekephkojaa.cost s first (l.zip y) = c
  least : ∀ x : List Bool, x.length = l.length → (l.zip x).all fitB = true → c ≤ Ytblooekephkojaa.cost s first (l.zip x)
  lex : ∀ x : List Bool, x.length = l.length → (l.zip x).all fitB = true → ∀ j, j < l.length → (∀ q, q < j → x.getD q false = y.getD q false) → y.getD j false = true → x.getD j false = false → c < Ytblooekephkojaa.cost s first (l.zip x)

theorem IsOpt.unique {s : Sty} {first : Int} {l : List Gap} {y y' : List Bool} {c c' : Int} (h : IsOpt s first l y c) (h' : IsOpt s first l y' c') : y = y' ∧ c = c' := by
  have h1 := h.least y' h'.len h'.fit
  have h2 := h'.least y h.len h.fit
  rw [h'.cost] at h1
  rw [h.cost] at h2
  have hc : c = c' := by omega
  refine ⟨?_, hc⟩
  have key : ∀ j, j ≤ l.length → ∀ q, q < j → y.getD q false = y'.getD q false := by
    intro j
    induction j with
    | zero => intro _ q hq; omega
    | succ j ih =>
      intro hj q hq
      have ih := ih (by omega)
      by_cases hqj : q = j
      · subst hqj
        cases e1 : y.getD q false <;> cases e2 : y'.getD q false
        · rfl
        · have := h'.lex y h.len h.fit q (by omega) (fun t ht => ih t ht) e2 e1
          rw [h.cost] at this; omega
        · have := h.lex y' h'.len h'.fit q (by omega) (fun t ht => (ih t ht).symm) e1 e2
          rw [h'.cost] at this; omega
        · rfl
      · exact ih q (by omega)
  apply List.ext_getElem (by rw [h.len, h'.len])
  intro j h1 h2
  have := key l.length (Nat.le_refl _) j (by rw [← h.len]; exact h1)
  rw [List.getD_eq_getElem?_getD, List.getD_eq_getElem?_getD, List.getElem?_eq_getElem h1, List.getElem?_eq_getElem h2] at this
  exact this

/-- A row begins with token i. -/
def rowB (y : List Bool) (i : Nat) : Prop := i = 0 ∨ y.getD (i - 1) false = true
def paid (s : Sty) (first : Int) (l : List Gap) (y : List Bool) (i : Nat) : Int := (cwalk s first ((l.zip y).take i)).1

section
variable {s : Sty} {first : Int} {l : List Gap} {y : List Bool}
theorem cwalk_at (hy : y.length = l.length) (k : Nat) (hk : k < l.length) : cwalk s first ((l.zip y).take (k + 1)) = cstep s (cwalk s first ((l.zip y).take k)) (l[k], y.getD k false) := by
  rw [zip_take_succ l y k hk (by omega), cwalk_snoc]
  congr 2
  rw [List.getD_eq_getElem?_getD, List.getElem?_eq_getElem (by omega)]; rfl

theorem row_start (hy : y.length = l.length) (i : Nat) (hi : i ≤ l.length) (h : rowB y i) : (cwalk s first ((l.zip y).take i)).2 = startOf first l i := by
  unfold startOf
  by_cases h0 : i = 0
  · subst h0; rfl
  · rw [if_neg h0]
    rcases h with h | h
    · exact absurd h h0
    · obtain ⟨j, rfl⟩ : ∃ j, i = j + 1 := ⟨i - 1, by omega⟩
      rw [cwalk_at hy j (by omega)]
      simp only [Nat.add_sub_cancel] at *
      rw [h, List.getElem?_eq_getElem (by omega)]
      simp [cstep]

theorem row_walk (hy : y.length = l.length) (i : Nat) (h : rowB y i) : ∀ k, i ≤ k → k ≤ l.length → (∀ j, i ≤ j → j < k → y.getD j false = false) → cwalk s first ((l.zip y).take k) = (paid s first l y i, wid first l i k)
  | 0, h1, h2, h3 => by
    obtain rfl : i = 0 := by omega
    have := row_start (s := s) (first := first) hy 0 h2 h
    unfold wid paid
    rw [show startOf first l 0 + psum l 0 - psum l 0 = startOf first l 0 from by omega, ← this]
  | k + 1, h1, h2, h3 => by
    rcases Nat.lt_or_ge k i with hk | hk
    · obtain rfl : i = k + 1 := by omega
      have := row_start (s := s) (first := first) hy (k + 1) h2 h
      unfold wid paid
      rw [show startOf first l (k + 1) + psum l (k + 1) - psum l (k + 1) = startOf first l (k + 1) from by omega, ← this]
    · have ih := row_walk hy i h k hk (by omega) (fun j h4 h5 => h3 j h4 (by omega))
      rw [cwalk_at hy k (by omega), ih, h3 k hk (by omega)]
      unfold cstep wid
      rw [psum_succ l k (by omega)]
      simp
      omega

theorem first_break (y : List Bool) (n : Nat) : ∀ d i, i + d = n → ∃ k, i ≤ k ∧ k ≤ n ∧ (∀ j, i ≤ j → j < k → y.getD j false = false) ∧ (k < n → y.getD k false = true)
  | 0, i, h => ⟨i, Nat.le_refl _, by omega, fun j h1 h2 => by omega, fun h => by omega⟩
  | d + 1, i, h => by
    cases hy : y.getD i false with
    | true => exact ⟨i, Nat.le_refl _, by omega, fun j h1 h2 => by omega, fun _ => hy⟩
    | false =>
      obtain ⟨k, h1, h2, h3, h4⟩ := first_break y n d (i + 1) (by omega)
      refine ⟨k, by omega, h2, fun j h5 h6 => ?_, h4⟩
      by_cases hj : j = i
      · rw [hj]; exact hy
      · exact h3 j (by omega) h6

theorem last_row (y : List Bool) : ∀ j, ∃ i, i ≤ j ∧ rowB y i ∧ ∀ t, i ≤ t → t < j → y.getD t false = false
  | 0 => ⟨0, Nat.le_refl _, .inl rfl, fun t h1 h2 => by omega⟩
  | j + 1 => by
    cases hy : y.getD j false with
    | true => exact ⟨j + 1, Nat.le_refl _, .inr (by simpa using hy), fun t h1 h2 => by omega⟩
    | false =>
      obtain ⟨i, h1, h2, h3⟩ := last_row y j
      refine ⟨i, by omega, h2, fun t h4 h5 => ?_⟩
      by_cases ht : t = j
      · rw [ht]; exact hy
      · exact h3 t h4 (by omega)

theorem fit_at (hy : y.length = l.length) : (l.zip y).all fitB = true ↔ ∀ j (h : j < l.length), fitB (l[j], y.getD j false) = true := by
  rw [List.all_eq_true]
  constructor
  · intro h j hj
    refine h _ ?_
    rw [List.getD_eq_getElem?_getD, List.getElem?_eq_getElem (by omega : j < y.length)]
    have : (l.zip y)[j]'(by simp; omega) = (l[j], y[j]) := by simp
    rw [Option.getD_some, ← this]
    exact List.getElem_mem _
  · intro h p hp
    obtain ⟨j, hj, rfl⟩ := List.getElem_of_mem hp
    simp only [List.length_zip] at hj
    have := h j (by omega)
    rw [List.getD_eq_getElem?_getD, List.getElem?_eq_getElem (by omega : j < y.length)] at this
    simpa using this

/-- What a row costs, by its end. -/
theorem row_cost (hy : y.length = l.length) (D : Nat → Int) (i : Nat) (hi : rowB y i) (k : Nat) (h1 : i ≤ k) (h2 : k ≤ l.length) (h3 : ∀ j, i ≤ j → j < k → y.getD j false = false) (h4 : k < l.length → y.getD k false = true) :
    (k < l.length → rowB y (k + 1) ∧ paid s first l y i + cand s first l D i k = paid s first l y (k + 1) + D (k + 1)) ∧ (k = l.length → paid s first l y i + cand s first l D i k = cost s first (l.zip y)) := by
  have hw := row_walk (s := s) (first := first) hy i hi k h1 h2 h3
  constructor
  · intro hk
    refine ⟨.inr (by simpa using h4 hk), ?_⟩
    have : paid s first l y (k + 1) = paid s first l y i + exc s (wid first l i k) + l[k].cost := by
      unfold paid
      rw [cwalk_at hy k hk, hw, h4 hk]
      simp [cstep, paid]
      omega
    rw [this]
    unfold cand endc
    rw [List.getElem?_eq_getElem hk]
    dsimp only
    omega
  · intro hk
    subst hk
    unfold cost
    have ht : (l.zip y).take l.length = l.zip y := List.take_of_length_le (by simp; omega)
    rw [ht] at hw
    rw [hw]
    unfold cand endc
    rw [List.getElem?_eq_none (Nat.le_refl _)]
    dsimp only
    omega

theorem break_ok (hv : ∀ g ∈ l, g.valid = true) (hy : y.length = l.length) (hf : (l.zip y).all fitB = true) {i m k : Nat} (hm : IsMost l i m) (h1 : i ≤ k) (h2 : k ≤ l.length) (h3 : ∀ j, i ≤ j → j < k → y.getD j false = false) (h4 : k < l.length → y.getD k false = true) :
    k ≤ m ∧ endB l k = true := by
  have hfa := (fit_at hy).1 hf
  constructor
  · rcases Nat.lt_or_ge m k with hlt | hge
    · have hml : m < l.length := by omega
      have := hfa m hml
      rw [h3 m hm.le hlt] at this
      have hmu := hm.must
      unfold mustB at hmu
      rw [List.getElem?_eq_getElem hml] at hmu
      dsimp only at hmu
      simp [fitB] at this
      rw [this] at hmu; cases hmu
    · exact hge
  · unfold endB
    rcases Nat.lt_or_ge k l.length with hlt | hge
    · have := hfa k hlt
      rw [h4 hlt] at this
      rw [List.getElem?_eq_getElem hlt]
      simpa [fitB] using this
    · rw [List.getElem?_eq_none hge]

theorem low (hv : ∀ g ∈ l, g.valid = true) (D : Nat → Int) (hD : ∀ i, i ≤ l.length → ∃ k, IsPick s first l D i k (D i)) (hy : y.length = l.length) (hf : (l.zip y).all fitB = true) :
    ∀ d i, i + d = l.length → rowB y i → paid s first l y i + D i ≤ cost s first (l.zip y) := by
  intro d
  induction d using Nat.strongRecOn with
  | _ d ih =>
    intro i hid hi
    obtain ⟨k, h1, h2, h3, h4⟩ := first_break y l.length d i hid
    obtain ⟨k0, m, hm, _, _, _, hc, hbest⟩ := hD i (by omega)
    obtain ⟨hkm, hke⟩ := break_ok hv hy hf hm h1 h2 h3 h4
    obtain ⟨ra, rb⟩ := row_cost (s := s) (first := first) hy D i hi k h1 h2 h3 h4
    have hle : D i ≤ cand s first l D i k := by
      rcases hbest k h1 hkm hke with hx | hx <;> omega
    rcases Nat.lt_or_ge k l.length with hlt | hge
    · obtain ⟨hr, he⟩ := ra hlt
      have := ih (l.length - (k + 1)) (by omega) (k + 1) (by omega) hr
      omega
    · have := rb (by omega)
      omega

/-- The picked ends, one behind the other. -/
def Chain (l : List Gap) (E : Nat → Nat) (y : List Bool) : Prop := ∀ i, i ≤ l.length → rowB y i → (∀ j, i ≤ j → j < E i → y.getD j false = false) ∧ (E i < l.length → y.getD (E i) false = true)

theorem chain_cost (D : Nat → Int) (E : Nat → Nat) (hD : ∀ i, i ≤ l.length → IsPick s first l D i (E i) (D i)) (hy : y.length = l.length) (hc : Chain l E y) : ∀ d i, i + d = l.length → rowB y i → paid s first l y i + D i = cost s first (l.zip y) := by
  intro d
  induction d using Nat.strongRecOn with
  | _ d ih =>
    intro i hid hi
    obtain ⟨m, hm, h1, h2, _, hcost, _⟩ := hD i (by omega)
    obtain ⟨c1, c2⟩ := hc i (by omega) hi
    have hml := hm.len
    obtain ⟨ra, rb⟩ := row_cost (s := s) (first := first) hy D i hi (E i) h1 (by omega) c1 c2
    rcases Nat.lt_or_ge (E i) l.length with hlt | hge
    · obtain ⟨hr, he⟩ := ra hlt
      have := ih (l.length - (E i + 1)) (by omega) (E i + 1) (by omega) hr
      omega
    · have := rb (by omega)
      omega

theorem chain_fit (D : Nat → Int) (E : Nat → Nat) (hD : ∀ i, i ≤ l.length → IsPick s first l D i (E i) (D i)) (hy : y.length = l.length) (hc : Chain l E y) : (l.zip y).all fitB = true := by
  rw [fit_at hy]
  intro j hj
  obtain ⟨i, h1, h2, h3⟩ := last_row y j
  obtain ⟨m, hm, k1, k2, k3, _, _⟩ := hD i (by omega)
  obtain ⟨c1, c2⟩ := hc i (by omega) h2
  have hge : j ≤ E i := by
    rcases Nat.lt_or_ge (E i) j with hlt | hge
    · have := c2 (by omega)
      rw [h3 (E i) k1 hlt] at this; cases this
    · exact hge
  cases hyj : y.getD j false with
  | true =>
    have : E i = j := by
      rcases Nat.lt_or_ge j (E i) with hlt | hge2
      · rw [c1 j h1 hlt] at hyj; cases hyj
      · omega
    rw [this] at k3
    unfold endB at k3
    rw [List.getElem?_eq_getElem hj] at k3
    simpa [fitB] using k3
  | false =>
    have hlt : j < E i := by
      rcases Nat.lt_or_ge j (E i) with hlt | hge2
      · exact hlt
      · have he : E i = j := by omega
        have := c2 (by omega)
        rw [he, hyj] at this; cases this
    have := hm.free j h1 (by omega)
    unfold mustB at this
    rw [List.getElem?_eq_getElem hj] at this
    simpa [fitB] using this

theorem chain_opt (hv : ∀ g ∈ l, g.valid = true) (D : Nat → Int) (E : Nat → Nat) (hD : ∀ i, i ≤ l.length → IsPick s first l D i (E i) (D i)) (hy : y.length = l.length) (hc : Chain l E y) : IsOpt s first l y (D 0) := by
  have hD' : ∀ i, i ≤ l.length → ∃ k, IsPick s first l D i k (D i) := fun i hi => ⟨E i, hD i hi⟩
  have h0 : ∀ x : List Bool, paid s first l x 0 = 0 := fun x => rfl
  have hcost : cost s first (l.zip y) = D 0 := by
    have := chain_cost D E hD hy hc l.length 0 (by omega) (.inl rfl)
    rw [h0] at this; omega
  refine ⟨hy, chain_fit D E hD hy hc, hcost, fun x hx hf => ?_, fun x hx hf j hj hsame hyj hxj => ?_⟩
  · have := low hv D hD' hx hf l.length 0 (by omega) (.inl rfl)
    rw [h0] at this; omega
  · obtain ⟨i, h1, h2, h3⟩ := last_row y j
    have h2x : rowB x i := by
      rcases h2 with h2 | h2
      · exact .inl h2
      · by_cases hi0 : i = 0
        · exact .inl hi0
        · exact .inr (by rw [hsame (i - 1) (by omega)]; exact h2)
    obtain ⟨m, hm, k1, k2, k3, k4, k5⟩ := hD i (by omega)
    obtain ⟨c1, c2⟩ := hc i (by omega) h2
    have hEi : E i = j := by
      rcases Nat.lt_or_ge j (E i) with hlt | hge
      · rw [c1 j h1 hlt] at hyj; cases hyj
      · rcases Nat.lt_or_ge (E i) j with hlt | hge2
        · have := c2 (by omega)
          rw [h3 (E i) k1 hlt] at this; cases this
        · omega
    obtain ⟨k, b1, b2, b3, b4⟩ := first_break x l.length (l.length - i) i (by omega)
    have hkj : j < k := by
      rcases Nat.lt_or_ge j k with hlt | hge
      · exact hlt
      · exfalso
        by_cases he : k = j
        · have := b4 (by omega); rw [he, hxj] at this; cases this
        · have := b4 (by omega)
          rw [hsame k (by omega), h3 k b1 (by omega)] at this; cases this
    obtain ⟨hkm, hke⟩ := break_ok hv hx hf hm b1 b2 b3 b4
    have hlt : cand s first l D i j < cand s first l D i k := by
      have := k5 k b1 hkm hke
      rw [hEi] at this
      rcases this with hh | hh <;> omega
    have hsum : paid s first l x i + cand s first l D i k ≤ cost s first (l.zip x) := by
      obtain ⟨ra, rb⟩ := row_cost (s := s) (first := first) hx D i h2x k b1 b2 b3 b4
      rcases Nat.lt_or_ge k l.length with hl | hg
      · obtain ⟨hr, he⟩ := ra hl
        have := low hv D hD' hx hf (l.length - (k + 1)) (k + 1) (by omega) hr
        omega
      · have := rb (by omega); omega
    have hpx : paid s first l x i = paid s first l y i := by
      unfold paid
      congr 2
      apply List.ext_getElem (by simp; omega)
      intro t ht1 ht2
      simp only [List.length_take, List.length_zip] at ht1
      have := hsame t (by omega)
      rw [List.getD_eq_getElem?_getD, List.getD_eq_getElem?_getD, List.getElem?_eq_getElem (by omega : t < x.length), List.getElem?_eq_getElem (by omega : t < y.length)] at this
      simpa using this
    have hcy := chain_cost D E hD hy hc (l.length - i) i (by omega) h2
    rw [hEi] at k4
    omega
end
end Go.Proofs.Ytblooekephkojaa

/- search: ends and begins in the loop of Best. -/
import Derived.Test.YtblooekephkojaaLtC
namespace Go.Proofs.Ytblooekephkojaa
open Go.RowKit Go.BigFrame Go.Shelf
set_option linter.unusedVariables false

/-- What holds while Best runs. -/
structure LCtx (w : World) (q : Ln) (l : List Gap) (s : Sty) (first : Int) (k : Nat) : Prop where
  nd : q.blocks.Nodup
  ge : ∀ b ∈ q.blocks, w.heap.size ≤ b
  row : RowAt 6 Gap.f w q.ga l
  len : l.length ≤ 65536
  val : ∀ g ∈ l, g.valid = true
  sty : StyOk s
  f0 : 0 ≤ first
  f1 : first ≤ 65536
  k1 : l.length + 1 ≤ 2 ^ k
  k2 : 2 ^ k < 2 * (l.length + 1)

abbrev atI (l : List Int) : Nat → Int := fun j => l.getD j 0
structure BP (s : Sty) (first : Int) (l : List Gap) (k m : Nat) (en cost fv fb sv sb : List Int) : Prop where
  el : en.length = l.length + 1
  cl : cost.length = l.length + 1
  t1 : TreeOk (l.length + 1) (2 ^ k) fv fb
  t2 : TreeOk (l.length + 1) (2 ^ k) sv sb
  pick : ∀ i, m ≤ i → i ≤ l.length → ∃ e : Nat, atI en i = e ∧ IsPick s first l (atI cost) i e (atI cost i)
  cb : ∀ x ∈ cost, 0 ≤ x ∧ x ≤ 100000000000000000
  cb2 : ∀ i, m ≤ i → i ≤ l.length → atI cost i ≤ ((l.length + 1 - i : Nat) : Int) * 65793000000 + 1000000 * (psum l l.length - psum l i)
  vb1 : ∀ a ∈ fv, 0 ≤ a ∧ a ≤ 2400000000000000000
  vb2 : ∀ a ∈ sv, 0 ≤ a ∧ a ≤ 2400000000000000000
abbrev hasP (l : List Gap) (m : Nat) : Nat → Prop := fun p => m ≤ p ∧ p ≤ l.length ∧ endB l p = true
structure TP (s : Sty) (l : List Gap) (k m : Nat) (D : Nat → Int) (fv fb sv sb : List Int) : Prop where
  tr1 : Tree k fv fb (hasP l m)
  tr2 : Tree k sv sb (hasP l m)
  v1 : ∀ p, hasP l m p → fv.getD p 0 = endc l D p
  v2 : ∀ p, hasP l m p → sv.getD p 0 = endc l D p + s.e * psum l p

theorem TP.skip {s : Sty} {l : List Gap} {k i : Nat} {D : Nat → Int} {fv fb sv sb : List Int} (h : TP s l k (i + 1) D fv fb sv sb) (he : endB l i = false) : TP s l k i D fv fb sv sb := by
  have hh : ∀ p, hasP l i p ↔ hasP l (i + 1) p := fun p => by
    refine ⟨fun ⟨h1, h2, h3⟩ => ⟨?_, h2, h3⟩, fun ⟨h1, h2, h3⟩ => ⟨by omega, h2, h3⟩⟩
    by_cases hp : p = i
    · rw [hp, he] at h3; cases h3
    · omega
  exact ⟨fun d hd t h1 h2 => (h.tr1 d hd t h1 h2).congr (fun _ => Iff.rfl) (fun p _ => hh p) (fun _ _ => rfl), fun d hd t h1 h2 => (h.tr2 d hd t h1 h2).congr (fun _ => Iff.rfl) (fun p _ => hh p) (fun _ _ => rfl),
    fun p hp => h.v1 p ((hh p).1 hp), fun p hp => h.v2 p ((hh p).1 hp)⟩

theorem TP.put {s : Sty} {l : List Gap} {k i : Nat} {D : Nat → Int} {fv fb sv sb : List Int} (h : TP s l k (i + 1) D fv fb sv sb) (hi : i ≤ l.length) (hk : l.length + 1 ≤ 2 ^ k) (t1 : TreeOk (l.length + 1) (2 ^ k) fv fb) (t2 : TreeOk (l.length + 1) (2 ^ k) sv sb) (he : endB l i = true) :
    TP s l k i D (putV fv i (endc l D i)) (putB (2 ^ k) fv fb i (endc l D i)) (putV sv i (endc l D i + s.e * psum l i)) (putB (2 ^ k) sv sb i (endc l D i + s.e * psum l i)) := by
  have hh : ∀ p, hasP l i p ↔ hasP l (i + 1) p ∨ p = i := fun p => by
    refine ⟨fun ⟨h1, h2, h3⟩ => ?_, fun h => ?_⟩
    · by_cases hp : p = i
      · exact .inr hp
      · exact .inl ⟨by omega, h2, h3⟩
    · rcases h with ⟨h1, h2, h3⟩ | rfl
      · exact ⟨by omega, h2, h3⟩
      · exact ⟨Nat.le_refl _, hi, he⟩
  have a1 := put_tree k fv fb _ i (endc l D i) (by omega) (by rw [t1.lv]; omega) t1.lb h.tr1
  have a2 := put_tree k sv sb _ i (endc l D i + s.e * psum l i) (by omega) (by rw [t2.lv]; omega) t2.lb h.tr2
  refine ⟨fun d hd t h1 h2 => (a1 d hd t h1 h2).congr (fun _ => Iff.rfl) (fun p _ => hh p) (fun _ _ => rfl), fun d hd t h1 h2 => (a2 d hd t h1 h2).congr (fun _ => Iff.rfl) (fun p _ => hh p) (fun _ _ => rfl), fun p hp => ?_, fun p hp => ?_⟩
  · unfold putV
    rw [getD_set _ _ _ _ (by rw [t1.lv]; omega)]
    split
    · rename_i e; rw [e]
    · rename_i e
      exact h.v1 p (((hh p).1 hp).elim id (fun x => absurd x.symm e))
  · unfold putV
    rw [getD_set _ _ _ _ (by rw [t2.lv]; omega)]
    split
    · rename_i e; rw [e]
    · rename_i e
      exact h.v2 p (((hh p).1 hp).elim id (fun x => absurd x.symm e))

theorem BP.put {s : Sty} {first : Int} {l : List Gap} {k m : Nat} {en cost fv fb sv sb : List Int} (h : BP s first l k m en cost fv fb sv sb) (i : Nat) (hi : i ≤ l.length) (x y : Int) (hx : 0 ≤ x ∧ x ≤ 2400000000000000000) (hy : 0 ≤ y ∧ y ≤ 2400000000000000000) :
    BP s first l k m en cost (putV fv i x) (putB (2 ^ k) fv fb i x) (putV sv i y) (putB (2 ^ k) sv sb i y) :=
  ⟨h.el, h.cl, h.t1.put i x (by omega), h.t2.put i y (by omega), h.pick, h.cb, h.cb2,
    fun a ha => by rcases List.mem_or_eq_of_mem_set ha with ha | ha; exact h.vb1 a ha; rw [ha]; exact hx,
    fun a ha => by rcases List.mem_or_eq_of_mem_set ha with ha | ha; exact h.vb2 a ha; rw [ha]; exact hy⟩

theorem endc_congr {l : List Gap} {D D' : Nat → Int} {k : Nat} (h : D (k + 1) = D' (k + 1)) : endc l D k = endc l D' k := by
  unfold endc
  cases l[k]? with
  | none => rfl
  | some g => dsimp only; rw [h]
theorem IsPick.congr {s : Sty} {first : Int} {l : List Gap} {D D' : Nat → Int} {i k : Nat} {c : Int} (hD : ∀ j, i < j → D j = D' j) (h : IsPick s first l D i k c) : IsPick s first l D' i k c := by
  obtain ⟨m, h1, h2, h3, h4, h5, h6⟩ := h
  have hc : ∀ q, i ≤ q → cand s first l D i q = cand s first l D' i q := fun q hq => by unfold cand; rw [endc_congr (hD (q + 1) (by omega))]
  exact ⟨m, h1, h2, h3, h4, by rw [← hc k h2]; exact h5, fun q a1 a2 a3 => by rw [← hc k h2, ← hc q a1]; exact h6 q a1 a2 a3⟩

theorem exc_bd {s : Sty} (hs : StyOk s) {x y : Int} (hx : x ≤ y) (hy : 0 ≤ y) : exc s x ≤ 1000000 * y := by
  unfold exc
  split
  · omega
  · obtain ⟨s1, s2, s3, s4⟩ := hs
    have h1 : (x - s.c) * s.e ≤ (x - s.c) * 1000000 := Int.mul_le_mul_of_nonneg_left s4 (by omega)
    omega
theorem exc_nn {s : Sty} (hs : StyOk s) (x : Int) : 0 ≤ exc s x := by
  unfold exc
  split
  · omega
  · exact Int.mul_nonneg (by omega) hs.2.2.1

/-- What begins does, in plain Lean. -/
theorem BP.beg {s : Sty} {first : Int} {l : List Gap} {k i : Nat} {en cost fv fb sv sb : List Int} (h : BP s first l k (i + 1) en cost fv fb sv sb) (ht : TP s l k i (atI cost) fv fb sv sb) (hi : i ≤ l.length) (hv : ∀ g ∈ l, g.valid = true) (hs : StyOk s) (hf0 : 0 ≤ first) (hf1 : first ≤ 65536) (hlen : l.length ≤ 65536)
    (e : Nat) (r : Int × Int) (he : r.1 = e) (hp : IsPick s first l (atI cost) i e r.2) :
    BP s first l k i (en.set i r.1) (cost.set i r.2) fv fb sv sb ∧ TP s l k i (atI (cost.set i r.2)) fv fb sv sb := by
  have hD : ∀ j, i < j → atI cost j = atI (cost.set i r.2) j := fun j hj => by
    unfold atI; rw [getD_set _ _ _ _ (by rw [h.cl]; omega), if_neg (by omega)]
  have hDi : atI (cost.set i r.2) i = r.2 := by unfold atI; rw [getD_set _ _ _ _ (by rw [h.cl]; omega), if_pos rfl]
  have hcn : ∀ j, 0 ≤ atI cost j := fun j => by
    unfold atI
    rw [List.getD_eq_getElem?_getD]
    cases hj : cost[j]? with
    | none => exact Int.le_refl _
    | some a => exact (h.cb a (List.mem_of_getElem? hj)).1
  have hen : ∀ q, 0 ≤ endc l (atI cost) q := fun q => by
    unfold endc
    cases hq : l[q]? with
    | none => exact Int.le_refl _
    | some g =>
      have := valid_bd (hv g (List.mem_of_getElem? hq))
      have := hcn (q + 1)
      dsimp only; omega
  -- the bound
  have hb : 0 ≤ r.2 ∧ r.2 ≤ ((l.length + 1 - i : Nat) : Int) * 65793000000 + 1000000 * (psum l l.length - psum l i) := by
    obtain ⟨m, hm, h1, h2, h3, h4, h5⟩ := hp
    have hml := hm.len
    have hle : r.2 ≤ cand s first l (atI cost) i m := by
      rcases h5 m hm.le (Nat.le_refl _) (must_end hv hm.must) with hx | hx <;> omega
    refine ⟨by rw [h4]; unfold cand; have := exc_nn hs (wid first l i e); have := hen e; omega, ?_⟩
    have hst : 0 ≤ startOf first l i ∧ startOf first l i ≤ 65792 := by
      unfold startOf
      split
      · omega
      · rename_i h0
        rw [List.getElem?_eq_getElem (show i - 1 < l.length from by omega)]
        have := valid_bd (hv _ (List.getElem_mem (show i - 1 < l.length from by omega)))
        simp only [Option.getD_some]; omega
    have hpm := psum_mono l hv i m hm.le hml
    have hex : exc s (wid first l i m) ≤ 1000000 * (65792 + psum l m - psum l i) := exc_bd hs (by unfold wid; omega) (by omega)
    have hec : endc l (atI cost) m ≤ 1000000 + ((l.length - m : Nat) : Int) * 65793000000 + 1000000 * (psum l l.length - psum l m) := by
      unfold endc
      rcases Nat.lt_or_ge m l.length with hlt | hge
      · rw [List.getElem?_eq_getElem hlt]
        have hg := valid_bd (hv _ (List.getElem_mem hlt))
        have hc := h.cb2 (m + 1) (by have := hm.le; omega) (by omega)
        have hp1 := psum_mono l hv m (m + 1) (by omega) (by omega)
        rw [show l.length + 1 - (m + 1) = l.length - m from by omega] at hc
        dsimp only
        omega
      · have : m = l.length := by omega
        subst this
        rw [List.getElem?_eq_none (Nat.le_refl _)]
        dsimp only
        omega
    have hcm : cand s first l (atI cost) i m = exc s (wid first l i m) + endc l (atI cost) m := rfl
    have := hm.le
    have hnn : ((l.length - m : Nat) : Int) ≤ ((l.length + 1 - i : Nat) : Int) - 1 := by omega
    omega
  have hps := psum_bd l hv l.length (Nat.le_refl _)
  have hpi := psum_bd l hv i hi
  have hr2 : 0 ≤ r.2 ∧ r.2 ≤ 100000000000000000 := by
    have : ((l.length + 1 - i : Nat) : Int) ≤ 65537 := by omega
    omega
  refine ⟨⟨by simp [h.el], by simp [h.cl], h.t1, h.t2, fun j h1 h2 => ?_, fun x hx => ?_, fun j h1 h2 => ?_, h.vb1, h.vb2⟩, ⟨ht.tr1, ht.tr2, fun p hp' => ?_, fun p hp' => ?_⟩⟩
  · by_cases hj : j = i
    · subst hj
      refine ⟨e, by unfold atI; rw [getD_set _ _ _ _ (by rw [h.el]; omega), if_pos rfl, he], ?_⟩
      rw [hDi]
      exact hp.congr hD
    · obtain ⟨e', he', hp'⟩ := h.pick j (by omega) h2
      refine ⟨e', by unfold atI; rw [getD_set _ _ _ _ (by rw [h.el]; omega), if_neg (fun x => hj x.symm)]; exact he', ?_⟩
      rw [← hD j (by omega)]
      exact hp'.congr (fun t ht' => hD t (by omega))
  · rcases List.mem_or_eq_of_mem_set hx with hx | hx
    · exact h.cb x hx
    · rw [hx]; exact hr2
  · by_cases hj : j = i
    · subst hj; rw [hDi]; exact hb.2
    · rw [← hD j (by omega)]; exact h.cb2 j (by omega) h2
  · rw [ht.v1 p hp']; exact endc_congr (hD (p + 1) (by have := hp'.1; omega))
  · rw [ht.v2 p hp', endc_congr (hD (p + 1) (by have := hp'.1; omega))]
end Go.Proofs.Ytblooekephkojaa

/- The plain law of search.least: a tree of the best places. -/
import Derived.Test.YtblooekephkojaaLsG
namespace Go.Proofs.Ytblooekephkojaa
set_option linter.unusedVariables false

/-- r is the best place of S (of those that have a number: h), or negative. -/
def IsB (v : List Int) (h S : Nat → Prop) (r : Int) : Prop :=
  (r < 0 ∧ ∀ p, S p → ¬ h p) ∨ ∃ p : Nat, r = p ∧ S p ∧ h p ∧ ∀ q, S q → h q → v.getD p 0 < v.getD q 0 ∨ (v.getD p 0 = v.getD q 0 ∧ q ≤ p)

theorem IsB.congr {v v' : List Int} {h h' S S' : Nat → Prop} {r : Int} (hb : IsB v h S r) (hS : ∀ p, S' p ↔ S p) (hh : ∀ p, S p → (h' p ↔ h p)) (hv : ∀ p, S p → v'.getD p 0 = v.getD p 0) : IsB v' h' S' r := by
  rcases hb with ⟨h1, h2⟩ | ⟨p, rfl, h1, h2, h3⟩
  · exact .inl ⟨h1, fun p hp hx => h2 p ((hS p).1 hp) ((hh p ((hS p).1 hp)).1 hx)⟩
  · refine .inr ⟨p, rfl, (hS p).2 h1, (hh p h1).2 h2, fun q hq hx => ?_⟩
    have hq' := (hS q).1 hq
    rw [hv p h1, hv q hq']
    exact h3 q hq' ((hh q hq').1 hx)

theorem IsB.better {v : List Int} {h S1 S2 : Nat → Prop} {a b : Int} (ha : IsB v h S1 a) (hb : IsB v h S2 b) : IsB v h (fun p => S1 p ∨ S2 p) (better v a b) := by
  unfold Ytblooekephkojaa.better
  rcases ha with ⟨h1, h2⟩ | ⟨p, rfl, h1, h2, h3⟩
  · rw [if_pos h1]
    rcases hb with ⟨k1, k2⟩ | ⟨q, rfl, k1, k2, k3⟩
    · exact .inl ⟨k1, fun p hp => hp.elim (h2 p) (k2 p)⟩
    · exact .inr ⟨q, rfl, .inr k1, k2, fun x hx hhx => hx.elim (fun hx => absurd hhx (h2 x hx)) (fun hx => k3 x hx hhx)⟩
  · rw [if_neg (by omega)]
    rcases hb with ⟨k1, k2⟩ | ⟨q, rfl, k1, k2, k3⟩
    · rw [if_pos k1]
      exact .inr ⟨p, rfl, .inl h1, h2, fun x hx hhx => hx.elim (fun hx => h3 x hx hhx) (fun hx => absurd hhx (k2 x hx))⟩
    · rw [if_neg (by omega)]
      simp only [Int.toNat_natCast]
      by_cases c1 : v.getD p 0 < v.getD q 0
      · rw [if_pos c1]
        refine .inr ⟨p, rfl, .inl h1, h2, fun x hx hhx => ?_⟩
        rcases hx with hx | hx
        · exact h3 x hx hhx
        · rcases k3 x hx hhx with k | k <;> left <;> omega
      · rw [if_neg c1]
        by_cases c2 : v.getD q 0 < v.getD p 0
        · rw [if_pos c2]
          refine .inr ⟨q, rfl, .inr k1, k2, fun x hx hhx => ?_⟩
          rcases hx with hx | hx
          · rcases h3 x hx hhx with k | k <;> left <;> omega
          · exact k3 x hx hhx
        · rw [if_neg c2]
          by_cases c3 : p ≤ q
          · refine .inr ⟨q, by omega, .inr k1, k2, fun x hx hhx => ?_⟩
            rcases hx with hx | hx
            · rcases h3 x hx hhx with k | k
              · left; omega
              · right; omega
            · exact k3 x hx hhx
          · refine .inr ⟨p, by omega, .inl h1, h2, fun x hx hhx => ?_⟩
            rcases hx with hx | hx
            · exact h3 x hx hhx
            · rcases k3 x hx hhx with k | k
              · left; omega
              · right; omega

/-- The leaves of the tree below node t, of height d. -/
def under (k d t p : Nat) : Prop := (2 ^ k + p) / 2 ^ d = t
/-- Every node holds the best place below it. -/
def Tree (k : Nat) (v best : List Int) (h : Nat → Prop) : Prop := ∀ d, d ≤ k → ∀ t, 2 ^ (k - d) ≤ t → t < 2 ^ (k - d + 1) → IsB v h (under k d t) (best.getD t 0)

theorem getD_set (l : List Int) (i j : Nat) (x : Int) (hi : i < l.length) : (l.set i x).getD j 0 = if i = j then x else l.getD j 0 := by
  rw [List.getD_eq_getElem?_getD, List.getElem?_set]
  split
  · rename_i h; subst h; simp
  · rw [List.getD_eq_getElem?_getD]
theorem half (x d : Nat) : x / 2 ^ (d + 1) = x / 2 ^ d / 2 := by rw [Nat.pow_succ, Nat.div_div_eq_div_mul]
theorem pow_le {a b : Nat} (h : a ≤ b) : 2 ^ a ≤ 2 ^ b := Nat.pow_le_pow_right (by omega) h

theorem up_tree (k : Nat) (v : List Int) (h : Nat → Prop) (place : Nat) (hp : place < 2 ^ k) : ∀ (f d node : Nat) (best : List Int), d ≤ k → node = (2 ^ k + place) / 2 ^ d → 2 ^ (k - d) ≤ node → node < 2 ^ (k - d + 1) → node ≤ f → best.length = 2 * 2 ^ k →
    (∀ d', d' ≤ d → ∀ t, 2 ^ (k - d') ≤ t → t < 2 ^ (k - d' + 1) → IsB v h (under k d' t) (best.getD t 0)) →
    (∀ d', d < d' → d' ≤ k → ∀ t, 2 ^ (k - d') ≤ t → t < 2 ^ (k - d' + 1) → t ≠ (2 ^ k + place) / 2 ^ d' → IsB v h (under k d' t) (best.getD t 0)) → Tree k v (up v f node best) h := by
  intro f
  induction f with
  | zero =>
    intro d node best _ _ h1 _ h3
    have := Nat.one_le_two_pow (n := k - d)
    omega
  | succ f ih =>
    intro d node best hd hn h1 h2 h3 hl H1 H2
    unfold up
    by_cases hlt : 1 < node
    · rw [if_pos hlt]
      have hdk : d < k := by
        rcases Nat.lt_or_ge d k with hh | hh
        · exact hh
        · rw [show k - d = 0 from by omega] at h2; simp at h2; omega
      obtain ⟨e, he⟩ : ∃ e, k - d = e + 1 := ⟨k - d - 1, by omega⟩
      have he2 : k - (d + 1) = e := by omega
      rw [he, Nat.pow_succ, Nat.pow_succ] at h2
      rw [he, Nat.pow_succ] at h1
      have hle : node / 2 < best.length := by
        have : node < 2 * 2 ^ k := by
          have := pow_le (show e + 1 ≤ k from by omega)
          rw [Nat.pow_succ] at this; omega
        omega
      refine ih (d + 1) (node / 2) _ (by omega) (by rw [half, ← hn]) (by rw [he2]; omega) (by rw [he2, Nat.pow_succ]; omega) (by omega) (by simp [hl]) ?_ ?_
      · intro d' hd' t ht1 ht2
        rw [getD_set _ _ _ _ hle]
        rcases Nat.lt_or_ge d' (d + 1) with hlt' | hge
        · rw [if_neg]
          · exact H1 d' (by omega) t ht1 ht2
          · have := pow_le (show e + 1 ≤ k - d' from by omega)
            rw [Nat.pow_succ] at this; omega
        · obtain rfl : d' = d + 1 := by omega
          split
          · rename_i heq
            subst heq
            have c1 := H1 d (Nat.le_refl _) (2 * (node / 2)) (by rw [he, Nat.pow_succ]; omega) (by rw [he, Nat.pow_succ, Nat.pow_succ]; omega)
            have c2 := H1 d (Nat.le_refl _) (2 * (node / 2) + 1) (by rw [he, Nat.pow_succ]; omega) (by rw [he, Nat.pow_succ, Nat.pow_succ]; omega)
            refine (c1.better c2).congr (fun p => ?_) (fun p _ => Iff.rfl) (fun p _ => rfl)
            unfold under
            rw [half]
            omega
          · rename_i hne
            refine H2 (d + 1) (by omega) (by omega) t ht1 ht2 (fun hc => hne ?_)
            rw [hc, half, ← hn]
      · intro d' hd' hd'k t ht1 ht2 hne
        rw [getD_set _ _ _ _ hle, if_neg]
        · exact H2 d' (by omega) hd'k t ht1 ht2 hne
        · have := pow_le (show k - d' + 1 ≤ e from by omega)
          omega
    · rw [if_neg hlt]
      have hdk : d = k := by
        rcases Nat.lt_or_ge d k with hh | hh
        · have := pow_le (show 1 ≤ k - d from by omega)
          omega
        · omega
      intro d' hd' t ht1 ht2
      exact H1 d' (by omega) t ht1 ht2

theorem put_tree (k : Nat) (v best : List Int) (h : Nat → Prop) (place : Nat) (x : Int) (hp : place < 2 ^ k) (hv : place < v.length) (hl : best.length = 2 * 2 ^ k) (ht : Tree k v best h) :
    Tree k (putV v place x) (putB (2 ^ k) v best place x) (fun p => h p ∨ p = place) := by
  unfold putV putB
  have hle : 2 ^ k + place < best.length := by omega
  have hsame : ∀ p, p ≠ place → (v.set place x).getD p 0 = v.getD p 0 := fun p hne => by rw [getD_set _ _ _ _ hv, if_neg (fun e => hne e.symm)]
  have hother : ∀ d' t, ¬ under k d' t place → IsB v h (under k d' t) (best.getD t 0) → IsB (v.set place x) (fun p => h p ∨ p = place) (under k d' t) (best.getD t 0) := fun d' t hn hb =>
    hb.congr (fun p => Iff.rfl) (fun p hp' => ⟨fun hh => hh.elim id (fun e => absurd (e ▸ hp') hn), .inl⟩) (fun p hp' => hsame p (fun e => hn (e ▸ hp')))
  refine up_tree k _ _ place hp (2 ^ k + place) 0 (2 ^ k + place) _ (Nat.zero_le _) (by simp) (by simp) (by simp [Nat.pow_succ]; omega) (Nat.le_refl _) (by simp [hl]) ?_ ?_
  · intro d' hd' t ht1 ht2
    obtain rfl : d' = 0 := by omega
    rw [getD_set _ _ _ _ hle]
    split
    · rename_i heq
      subst heq
      refine .inr ⟨place, rfl, by simp [under], .inr rfl, fun q hq _ => .inr ?_⟩
      have : q = place := by simp [under] at hq; omega
      subst this; exact ⟨rfl, Nat.le_refl _⟩
    · rename_i hne
      exact hother 0 t (fun hu => hne (by simp [under] at hu; omega)) (ht 0 (Nat.zero_le _) t ht1 ht2)
  · intro d' hd' hd'k t ht1 ht2 hne
    rw [getD_set _ _ _ _ hle, if_neg]
    · exact hother d' t (fun hu => hne hu.symm) (ht d' hd'k t ht1 ht2)
    · have := pow_le (show k - d' + 1 ≤ k from by omega)
      omega

theorem cov_isB (k : Nat) (v best : List Int) (h : Nat → Prop) (ht : Tree k v best h) : ∀ (f d a b : Nat), b < f → (a < b → d ≤ k ∧ 2 ^ (k - d) ≤ a ∧ b ≤ 2 ^ (k - d + 1)) → ∀ (r : Int) (S : Nat → Prop), IsB v h S r →
    IsB v h (fun p => S p ∨ (a ≤ (2 ^ k + p) / 2 ^ d ∧ (2 ^ k + p) / 2 ^ d < b)) ((cov f a b).foldl (fun p x => better v p (best.getD x 0)) r) := by
  intro f
  induction f with
  | zero => intro d a b hb; omega
  | succ f ih =>
    intro d a b hb hab r S hr
    unfold cov
    by_cases hlt : a < b
    · obtain ⟨hd, h1, h2⟩ := hab hlt
      rw [if_pos hlt]
      have hnext : ∀ r' S', IsB v h S' r' → IsB v h (fun p => S' p ∨ ((a + a % 2) / 2 ≤ (2 ^ k + p) / 2 ^ (d + 1) ∧ (2 ^ k + p) / 2 ^ (d + 1) < (b - b % 2) / 2)) ((cov f ((a + a % 2) / 2) ((b - b % 2) / 2)).foldl (fun p x => better v p (best.getD x 0)) r') := fun r' S' hr' =>
        ih (d + 1) ((a + a % 2) / 2) ((b - b % 2) / 2) (by omega) (fun hlt' => by
          have hdk : d < k := by
            rcases Nat.lt_or_ge d k with hh | hh
            · exact hh
            · rw [show k - d = 0 from by omega] at h1 h2; simp at h1 h2; omega
          obtain ⟨e, he⟩ : ∃ e, k - d = e + 1 := ⟨k - d - 1, by omega⟩
          rw [he, Nat.pow_succ] at h1 h2
          rw [show k - (d + 1) = e from by omega, Nat.pow_succ]
          rw [Nat.pow_succ] at h2
          exact ⟨by omega, by omega, by omega⟩) r' S' hr'
      have hnode : ∀ t, a ≤ t → t < b → IsB v h (under k d t) (best.getD t 0) := fun t ht1 ht2 => ht d hd t (by omega) (by omega)
      rcases Nat.mod_two_eq_zero_or_one a with ha | ha <;> rcases Nat.mod_two_eq_zero_or_one b with hb2 | hb2
      · rw [if_neg (by omega), if_neg (by omega)]
        simp only [List.nil_append]
        refine (hnext r S hr).congr (fun p => ?_) (fun p _ => Iff.rfl) (fun p _ => rfl)
        rw [half]
        generalize (2 ^ k + p) / 2 ^ d = y
        by_cases hSp : S p
        · simp [hSp]
        · simp only [hSp, false_or]; omega
      · rw [if_neg (by omega), if_pos hb2]
        simp only [List.nil_append, List.cons_append, List.foldl_cons]
        refine (hnext _ _ (hr.better (hnode (b - 1) (by omega) (by omega)))).congr (fun p => ?_) (fun p _ => Iff.rfl) (fun p _ => rfl)
        unfold under
        rw [half]
        generalize (2 ^ k + p) / 2 ^ d = y
        by_cases hSp : S p
        · simp [hSp]
        · simp only [hSp, false_or]; omega
      · rw [if_pos ha, if_neg (by omega)]
        simp only [List.nil_append, List.cons_append, List.foldl_cons]
        refine (hnext _ _ (hr.better (hnode a (by omega) (by omega)))).congr (fun p => ?_) (fun p _ => Iff.rfl) (fun p _ => rfl)
        unfold under
        rw [half]
        generalize (2 ^ k + p) / 2 ^ d = y
        by_cases hSp : S p
        · simp [hSp]
        · simp only [hSp, false_or]; omega
      · rw [if_pos ha, if_pos hb2]
        simp only [List.nil_append, List.cons_append, List.foldl_cons]
        refine (hnext _ _ ((hr.better (hnode a (by omega) (by omega))).better (hnode (b - 1) (by omega) (by omega)))).congr (fun p => ?_) (fun p _ => Iff.rfl) (fun p _ => rfl)
        unfold under
        rw [half]
        generalize (2 ^ k + p) / 2 ^ d = y
        by_cases hSp : S p
        · simp [hSp]
        · simp only [hSp, false_or]; omega
    · rw [if_neg hlt]
      refine hr.congr (fun p => ?_) (fun p _ => Iff.rfl) (fun p _ => rfl)
      generalize (2 ^ k + p) / 2 ^ d = y
      by_cases hSp : S p
      · simp [hSp]
      · simp only [hSp, false_or, iff_false]; omega

/-- What of answers is the best place of a range, and its number. -/
theorem ofR_isB (k : Nat) (v best : List Int) (h : Nat → Prop) (ht : Tree k v best h) (x y : Nat) (hx : x ≤ 2 ^ k) (hy : y ≤ 2 ^ k) :
    IsB v h (fun p => x ≤ p ∧ p < y) (ofR (2 ^ k) v best x y).1 ∧ (∀ p : Nat, (ofR (2 ^ k) v best x y).1 = p → (ofR (2 ^ k) v best x y).2 = v.getD p 0) := by
  have hb := cov_isB k v best h ht (2 ^ k + y + 1) 0 (2 ^ k + x) (2 ^ k + y) (by omega) (fun _ => ⟨Nat.zero_le _, by simp, by simp [Nat.pow_succ]; omega⟩) (-1) (fun _ => False) (.inl ⟨by omega, fun _ hf => hf.elim⟩)
  have hb2 : IsB v h (fun p => x ≤ p ∧ p < y) (fold v best (cov (2 ^ k + y + 1) (2 ^ k + x) (2 ^ k + y))) := by
    refine IsB.congr hb (fun p => ?_) (fun p _ => Iff.rfl) (fun p _ => rfl)
    simp
  unfold ofR
  dsimp only
  split
  · rename_i hneg
    refine ⟨?_, fun p hp => by omega⟩
    rcases hb2 with ⟨_, h2⟩ | ⟨p, hp, _⟩
    · exact .inl ⟨by omega, h2⟩
    · omega
  · exact ⟨hb2, fun p hp => by dsimp only at hp; rw [hp]; simp⟩
end Go.Proofs.Ytblooekephkojaa

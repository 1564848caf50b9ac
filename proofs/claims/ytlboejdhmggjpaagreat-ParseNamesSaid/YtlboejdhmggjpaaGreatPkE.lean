/- Plain: literals, punctuators; the longest token is the document's. -/
import Derived.Test.YtlboejdhmggjpaaGreatPkB
set_option linter.all false
namespace Go.Proofs.YtlboejdhmggjpaaGreat

-- literals
theorem pcs_run {q : UInt8} (h10 : q ≠ 10) (h92 : q ≠ 92) : ∀ (x y : Bs), isPcs q x = true → qRun q (x ++ q :: y) = some (x.length + 1)
 | [], [], _ => by simp [qRun, h10]
 | [], d :: y, _ => by simp [qRun, h10]
 | [c], [], h => by
  simp only [isPcs, ne_eq, decide_not, Bool.and_eq_true, Bool.not_eq_true', decide_eq_false_iff_not] at h
  simp [qRun, h, h10]
 | [c], d :: y, h => by
  simp only [isPcs, ne_eq, decide_not, Bool.and_eq_true, Bool.not_eq_true', decide_eq_false_iff_not] at h
  simp [qRun, h, h10]
 | c :: d :: r, y, h => by
  simp only [isPcs] at h
  split at h
  ·cases h
  rename_i h1
  rw [not_or] at h1
  split at h
  ·rename_i h2
   simp only [ne_eq, decide_not, Bool.and_eq_true, Bool.not_eq_true', decide_eq_false_iff_not] at h
   have := pcs_run h10 h92 r y h.2
   subst h2
   simp only [List.cons_append, qRun, h1, if_false, h, this, Option.map_some, List.length_cons, if_true]
  ·rename_i h2
   have := pcs_run h10 h92 (d :: r) y h
   simp only [List.cons_append] at this
   simp only [List.cons_append, qRun, h1, if_false, h2, this, Option.map_some, List.length_cons]
theorem run_pcs {q : UInt8} : ∀ (t : Bs) (m : Nat), qRun q t = some m → ∃ x y, t = x ++ q :: y ∧ isPcs q x = true ∧ m = x.length + 1 ∧ m ≤ toNl t
 | [], m, h => by simp [qRun] at h
 | [c], m, h => by
  simp only [qRun] at h
  split at h
  ·cases h
  split at h
  ·rename_i h1 h2
   subst h2
   exact ⟨[], [], rfl, rfl, by have := Option.some.inj h; simp [← this], by have := Option.some.inj h; simp [toNl, h1, ← this]⟩
  ·cases h
 | c :: d :: r, m, h => by
  simp only [qRun] at h
  split at h
  ·cases h
  rename_i h10
  split at h
  ·rename_i h2
   subst h2
   exact ⟨[], d :: r, rfl, rfl, by have := Option.some.inj h; simp [← this], by have := Option.some.inj h; simp [toNl, h10, ← this]⟩
  rename_i hq
  split at h
  ·rename_i h92
   split at h
   ·cases h
   rename_i hd
   cases hr : qRun q r with
   | none => rw [hr] at h; cases h
   | some k =>
    rw [hr] at h
    obtain ⟨x, y, hx, h1, h2, h3⟩ := run_pcs r k hr
    obtain rfl : k + 2 = m := Option.some.inj h
    refine ⟨c :: d :: x, y, by rw [hx]; rfl, ?_, by simp [h2], ?_⟩
    ·simp [isPcs, hq, h10, h92, hd, h1]
     rw [← h92]; exact hq
    ·simp [toNl, h10, hd]; omega
  ·rename_i h92
   cases hr : qRun q (d :: r) with
   | none => rw [hr] at h; cases h
   | some k =>
    rw [hr] at h
    obtain ⟨x, y, hx, h1, h2, h3⟩ := run_pcs (d :: r) k hr
    obtain rfl : k + 1 = m := Option.some.inj h
    refine ⟨c :: x, y, by rw [hx]; rfl, ?_, by simp [h2], ?_⟩
    ·cases x with
     | nil => simp [isPcs, hq, h10, h92]
     | cons e x => simp only [isPcs, hq, h10, or_self, if_false, h92, h1]
    ·rw [toNl]; simp [h10]; exact h3
theorem lit_shape {q : UInt8} {p t : Bs} (h : litAt q p t = true) : ∃ x, t = p ++ q :: (x ++ [q]) ∧ isPcs q x = true := by
 simp only [litAt, Bool.and_eq_true, decide_eq_true_eq, beq_iff_eq] at h
 obtain ⟨⟨⟨⟨h1, h2⟩, h3⟩, h4⟩, h5⟩ := h
 refine ⟨_, ?_, h5⟩
 have hl : p.length < t.length := by omega
 rw [List.getElem?_eq_getElem hl] at h3
 have e1 : t = p ++ t.drop p.length := by conv => lhs; rw [← List.take_append_drop p.length t, h2]
 have e2 : t.drop p.length = q :: t.drop (p.length + 1) := by rw [List.drop_eq_getElem_cons hl, Option.some.inj h3]
 have e3 : t.drop (p.length + 1) = (t.drop (p.length + 1)).take (t.length - p.length - 2) ++ [q] := by
  have hlen : (t.drop (p.length + 1)).length = t.length - p.length - 2 + 1 := by simp; omega
  have h6 : (t.drop (p.length + 1)).getLast? = some q := by
   rw [List.getLast?_drop, if_neg (by omega), h4]
  generalize t.drop (p.length + 1) = z at *
  rw [List.getLast?_eq_getElem?, hlen, Nat.add_sub_cancel] at h6
  conv => lhs; rw [← List.take_append_drop (t.length - p.length - 2) z]
  congr 1
  have hz : t.length - p.length - 2 < z.length := by omega
  rw [List.drop_eq_getElem_cons hz, List.getElem?_eq_getElem hz] at *
  rw [Option.some.inj h6, List.drop_of_length_le (by omega)]
 conv => lhs; rw [e1, e2, e3]
theorem lit_of_shape {q : UInt8} {p x : Bs} (hx : isPcs q x = true) : litAt q p (p ++ q :: (x ++ [q])) = true := by
 simp only [litAt, Bool.and_eq_true, decide_eq_true_eq, beq_iff_eq]
 refine ⟨⟨⟨⟨by simp, by simp⟩, by simp⟩, by rw [show p ++ q :: (x ++ [q]) = (p ++ q :: x) ++ [q] by simp, List.getLast?_concat]⟩, ?_⟩
 have : (List.drop (p.length + 1) (p ++ q :: (x ++ [q]))) = x ++ [q] := by
  rw [← List.drop_drop, List.drop_left]; rfl
 rw [this, List.take_left' (by simp)]
 exact hx
theorem pre_len {q : UInt8} {p r : Bs} (h : (q = 39 ∧ p ∈ pre39) ∨ (q = 34 ∧ p ∈ pre34)) : qPre (p ++ q :: r) = p.length := by
 rcases h with ⟨rfl, h⟩ | ⟨rfl, h⟩
 ·simp only [pre39, List.mem_cons, List.not_mem_nil, or_false] at h
  rcases h with rfl | rfl | rfl | rfl <;> simp [qPre]
 ·simp only [pre34, List.mem_cons, List.not_mem_nil, or_false] at h
  rcases h with rfl | rfl | rfl | rfl | rfl <;> simp [qPre]
theorem isLit_some {q : UInt8} : ∀ {ps : List Bs} {t : Bs}, isLit q ps t = true → ∃ p ∈ ps, litAt q p t = true ∧ (q = 34 ∨ p.length + 2 < t.length)
 | [], _, h => by simp [isLit] at h
 | p :: ps, t, h => by
  simp only [isLit] at h
  split at h
  ·rename_i hl
   exact ⟨p, by simp, hl, by simpa using h⟩
  ·obtain ⟨p', h1, h2⟩ := isLit_some h
   exact ⟨p', by simp [h1], h2⟩
theorem isLit_of {q : UInt8} {t p : Bs} (hl : litAt q p t = true) (hk : q = 34 ∨ p.length + 2 < t.length) : ∀ {ps : List Bs}, p ∈ ps → (∀ p' ∈ ps, litAt q p' t = true → p' = p) → isLit q ps t = true
 | [], h, _ => by simp at h
 | p' :: ps, h, hu => by
  simp only [isLit]
  split
  ·rename_i h2
   obtain rfl := hu p' (by simp) h2
   simpa using hk
  ·rename_i h2
   have h3 : p ∈ ps := by
    rcases List.mem_cons.1 h with rfl | h
    ·exact absurd hl h2
    ·exact h
   exact isLit_of hl hk h3 fun p'' h4 h5 => hu p'' (by simp [h4]) h5
def preOf (q : UInt8) : List Bs := if q = 34 then pre34 else pre39
theorem lit_ge {q : UInt8} (hq : q = 39 ∨ q = 34) (t : Bs) (n : Nat) (hn : n ≤ t.length) (h : isLit q (preOf q) (t.take n) = true) : qLen t = (if q = 34 then 4 else 3, n) := by
 obtain ⟨p, hp, hl, hk⟩ := isLit_some h
 obtain ⟨x, hx, hpx⟩ := lit_shape hl
 have hp' : (q = 39 ∧ p ∈ pre39) ∨ (q = 34 ∧ p ∈ pre34) := by
  rcases hq with rfl | rfl
  ·exact .inl ⟨rfl, by simpa [preOf] using hp⟩
  ·exact .inr ⟨rfl, by simpa [preOf] using hp⟩
 have hlen : n = p.length + x.length + 2 := by
  have := congrArg List.length hx
  simp at this; omega
 have ht : t = p ++ q :: (x ++ q :: t.drop n) := by
  conv => lhs; rw [← List.take_append_drop n t, hx]
  simp
 have h10 : q ≠ 10 := by rcases hq with rfl | rfl <;> decide
 have h92 : q ≠ 92 := by rcases hq with rfl | rfl <;> decide
 have hpre : qPre t = p.length := by rw [ht]; exact pre_len hp'
 have hdrop : t.drop (qPre t) = q :: (x ++ q :: t.drop n) := by rw [hpre]; conv => lhs; rw [ht, List.drop_left]
 unfold qLen
 rw [hdrop]
 simp only [hq, if_true, pcs_run h10 h92 x (t.drop n) hpx, hpre]
 split
 ·simp; omega
 ·rename_i h34
  rw [List.length_take, Nat.min_eq_left hn] at hk
  have : 1 < x.length + 1 := by
   rcases hk with e | e
   ·exact absurd e h34
   ·omega
  simp only [this, if_true]; simp; omega
theorem toNl_app {p r : Bs} (h : ∀ c ∈ p, c ≠ 10) : toNl (p ++ r) = p.length + toNl r := by
 induction p with
 | nil => simp
 | cons c p ih =>
  simp only [List.cons_append, toNl, h c (by simp), if_false, List.length_cons]
  rw [ih fun c hc => h c (by simp [hc])]; omega
theorem le_toNl {t : Bs} {n : Nat} (hn : n ≤ t.length) (h : ∀ c ∈ t.take n, c ≠ 10) : n ≤ toNl t := by
 have h1 := toNl_app (r := t.drop n) h
 rw [List.take_append_drop, List.length_take, Nat.min_eq_left hn] at h1
 omega
theorem qLen_end {t : Bs} {k n : Nat} (h : qLen t = (k, n)) (h0 : 0 < n) : n ≤ toNl t ∧ ((k = 3 ∧ isLit 39 pre39 (t.take n) = true) ∨ (k = 4 ∧ isLit 34 pre34 (t.take n) = true)) := by
 unfold qLen at h
 split at h
 ·simp at h; omega
 rename_i q r hd
 split at h
 rotate_left
 ·simp at h; omega
 rename_i hq
 split at h
 ·simp at h; omega
 rename_i m hm
 obtain ⟨x, y, rfl, hx, rfl, hle⟩ := run_pcs r m hm
 obtain ⟨p, hp⟩ : ∃ p, t.take (qPre t) = p := ⟨_, rfl⟩
 have ht : t = p ++ q :: (x ++ q :: y) := by rw [← hp, ← hd, List.take_append_drop]
 have hpl : p.length = qPre t := by
  have h1 : qPre t ≤ t.length := by
   have := congrArg List.length hd
   simp at this; omega
  rw [← hp, List.length_take, Nat.min_eq_left h1]
 -- the prefix is one of those
 have hpm : (q = 39 ∧ p ∈ pre39) ∨ (q = 34 ∧ p ∈ pre34) := by
  unfold qPre at hpl
  split at hpl
  ·rename_i h3
   match p, hpl with
   | [a, b], _ =>
    rw [ht] at h3
    simp only [List.cons_append, List.nil_append, List.take_succ_cons, List.take_zero, List.cons.injEq] at h3
    obtain ⟨rfl, rfl, rfl, -⟩ := h3
    exact .inr ⟨rfl, by decide⟩
  ·split at hpl
   ·rename_i h3
    match p, hpl with
    | [a], _ =>
     rw [ht] at h3
     simp only [List.cons_append, List.head?_cons, Option.some.injEq] at h3
     rcases hq with rfl | rfl
     ·exact .inl ⟨rfl, by rcases h3 with rfl | rfl | rfl <;> decide⟩
     ·exact .inr ⟨rfl, by rcases h3 with rfl | rfl | rfl <;> decide⟩
   ·match p, hpl with
    | [], _ =>
     rcases hq with rfl | rfl
     ·exact .inl ⟨rfl, by decide⟩
     ·exact .inr ⟨rfl, by decide⟩
 have hp10 : ∀ c ∈ p, c ≠ 10 := by
  have h1 : ∀ p' ∈ pre39 ++ pre34, ∀ c ∈ p', c ≠ 10 := by decide
  exact h1 p (by rcases hpm with h | h <;> simp [h.2])
 have hq10 : q ≠ 10 := by rcases hq with rfl | rfl <;> decide
 have hN : p.length + 1 + (x.length + 1) ≤ toNl t := by
  rw [ht, toNl_app hp10, toNl]
  simp only [hq10, if_false]; omega
 have htake : t.take (p.length + 1 + (x.length + 1)) = p ++ q :: (x ++ [q]) := by
  have : t = (p ++ q :: (x ++ [q])) ++ y := by rw [ht]; simp
  conv => lhs; rw [this]
  rw [List.take_left' (by simp; omega)]
 have huniq : ∀ p' ∈ preOf q, litAt q p' (p ++ q :: (x ++ [q])) = true → p' = p := fun p' h1 h2 => by
  obtain ⟨x', hx', -⟩ := lit_shape h2
  have a1 : qPre (p ++ q :: (x ++ [q])) = p.length := pre_len hpm
  have a2 : qPre (p ++ q :: (x ++ [q])) = p'.length := by
   rw [hx']
   refine pre_len ?_
   rcases hq with rfl | rfl
   ·exact .inl ⟨rfl, by simpa [preOf] using h1⟩
   ·exact .inr ⟨rfl, by simpa [preOf] using h1⟩
  exact (List.append_inj hx' (by omega)).1.symm
 rcases hpm with ⟨rfl, hpm⟩ | ⟨rfl, hpm⟩
 ·simp only [show ((39 : UInt8) = 34) = False by decide, if_false] at h
  split at h
  ·rename_i h1
   obtain ⟨rfl, rfl⟩ := Prod.mk.inj h
   rw [← hpl]
   refine ⟨hN, .inl ⟨rfl, ?_⟩⟩
   rw [htake]
   exact isLit_of (lit_of_shape hx) (.inr (by simp; omega)) hpm huniq
  ·simp at h; omega
 ·simp only [if_true] at h
  obtain ⟨rfl, rfl⟩ := Prod.mk.inj h
  rw [← hpl]
  refine ⟨hN, .inr ⟨rfl, ?_⟩⟩
  rw [htake]
  exact isLit_of (lit_of_shape hx) (.inl rfl) hpm huniq

-- kinds exclude one another
theorem num_chars {x : Bs} (h : Num x) : ∀ c ∈ x, numc c = true ∨ sign c = true := by
 have hR : ∀ {y : Bs}, Rest y → ∀ c ∈ y, numc c = true ∨ sign c = true := by
  intro y hy
  induction hy with
  | nil => intro c hc; cases hc
  | one h _ ih =>
   intro c hc
   rcases List.mem_cons.1 hc with rfl | hc
   ·exact .inl h
   ·exact ih c hc
  | two h1 h2 _ ih =>
   intro c hc
   rcases List.mem_cons.1 hc with rfl | hc
   ·left
    simp only [expo, Bool.or_eq_true, decide_eq_true_eq] at h1
    simp only [numc, letter, Bool.or_eq_true, Bool.and_eq_true, decide_eq_true_eq]; omega
   rcases List.mem_cons.1 hc with rfl | hc
   ·exact .inr h2
   ·exact ih c hc
 cases h with
 | one h1 hr =>
  intro c hc
  rcases List.mem_cons.1 hc with rfl | hc
  ·exact .inl (digit_numc h1)
  ·exact hR hr c hc
 | two h1 h2 hr =>
  intro c hc
  rcases List.mem_cons.1 hc with rfl | hc
  ·left; simp [numc, h1]
  rcases List.mem_cons.1 hc with rfl | hc
  ·exact .inl (digit_numc h2)
  ·exact hR hr c hc
theorem num_not_word {x : Bs} (h : isNum x = true) : isWord x = false := by
 cases (isNum_iff x).1 h with
 | @one c r h1 _ =>
  have : letter c = false := by
   simp only [digit, Bool.and_eq_true, decide_eq_true_eq] at h1
   simp only [letter, Bool.or_eq_false_iff, Bool.and_eq_false_iff, decide_eq_false_iff_not]; omega
  simp [isWord, this]
 | @two c d r h1 _ _ =>
  have : letter c = false := by
   simp only [letter, Bool.or_eq_false_iff, Bool.and_eq_false_iff, decide_eq_false_iff_not]; omega
  simp [isWord, this]
theorem word_chars {x : Bs} (h : isWord x = true) : ∀ c ∈ x, (letter c || digit c) = true := by
 cases x with
 | nil => simp [isWord] at h
 | cons c r =>
  simp only [isWord, Bool.and_eq_true, List.all_eq_true] at h
  intro e he
  rcases List.mem_cons.1 he with rfl | he
  ·simp [h.1]
  ·exact h.2 e he
theorem lit_quote {q : UInt8} {ps : List Bs} {x : Bs} (h : isLit q ps x = true) : q ∈ x ∧ x.getLast? = some q ∧ x ≠ [10] ∨ q = 10 := by
 obtain ⟨p, -, hl, -⟩ := isLit_some h
 obtain ⟨y, rfl, -⟩ := lit_shape hl
 by_cases hq : q = 10
 ·exact .inr hq
 ·refine .inl ⟨by simp, by rw [show p ++ q :: (y ++ [q]) = (p ++ q :: y) ++ [q] by simp, List.getLast?_concat], fun e => ?_⟩
  have := congrArg List.length e
  simp at this; omega
theorem lit_kind {q : UInt8} (hq : q = 39 ∨ q = 34) {x : Bs} (h : isLit q (preOf q) x = true) : kindOf x = if q = 34 then 4 else 3 := by
 have h10 : q ≠ 10 := by rcases hq with rfl | rfl <;> decide
 obtain ⟨hm, hl, hn⟩ := (lit_quote h).resolve_right h10
 have hw : isWord x = false := by
  cases hw : isWord x with
  | false => rfl
  | true => have := word_chars hw q hm; rcases hq with rfl | rfl <;> revert this <;> decide
 have hnu : isNum x = false := by
  cases hw : isNum x with
  | false => rfl
  | true => have := num_chars ((isNum_iff x).1 hw) q hm; rcases hq with rfl | rfl <;> revert this <;> decide
 rcases hq with rfl | rfl
 ·have h' : isLit 39 pre39 x = true := h
  simp [kindOf, hn, hw, hnu, h']
 ·have h' : isLit 34 pre34 x = true := h
  have h39 : isLit 39 pre39 x = false := by
   cases h39 : isLit 39 pre39 x with
   | false => rfl
   | true =>
    obtain ⟨-, hl2, -⟩ := (lit_quote h39).resolve_right (by decide)
    rw [hl] at hl2; cases hl2
  simp [kindOf, hn, hw, hnu, h', h39]
theorem punct_kind : ∀ x ∈ puncts, kindOf x = 5 ∧ 0 < x.length ∧ x.length ≤ 4 ∧ ∀ c ∈ x, c ≠ 10 := by decide
theorem word_kind {x : Bs} (h : isWord x = true) : kindOf x = 1 := by
 have : x ≠ [10] := by rintro rfl; revert h; decide
 simp [kindOf, this, h]
theorem num_kind {x : Bs} (h : isNum x = true) : kindOf x = 2 := by
 have : x ≠ [10] := by rintro rfl; revert h; decide
 simp [kindOf, this, num_not_word h, h]
theorem pDown_end (t : Bs) : ∀ n : Nat, 0 < pDown t n → puncts.contains (t.take (pDown t n)) = true ∧ pDown t n ≤ n
 | 0, h => by simp [pDown] at h
 | n + 1, h => by
  simp only [pDown] at h ⊢
  split
  ·rename_i h1; exact ⟨h1, Nat.le_refl _⟩
  ·rename_i h1
   rw [if_neg h1] at h
   have := pDown_end t n h
   exact ⟨this.1, by omega⟩
theorem pDown_ge (t : Bs) (k : Nat) (h : puncts.contains (t.take k) = true) : ∀ n : Nat, k ≤ n → k ≤ pDown t n
 | 0, h1 => by omega
 | n + 1, h1 => by
  simp only [pDown]
  split
  ·exact h1
  ·rename_i h2
   have : k ≠ n + 1 := by rintro rfl; exact h2 h
   exact pDown_ge t k h n (by omega)
theorem punct_ge (t : Bs) (n : Nat) (hn : n ≤ t.length) (h : puncts.contains (t.take n) = true) : n ≤ pLen t := by
 have h1 := punct_kind _ (List.contains_iff_mem.1 h)
 rw [List.length_take, Nat.min_eq_left hn] at h1
 exact pDown_ge t n h _ (by omega)
theorem punct_end (t : Bs) (h : 0 < pLen t) : puncts.contains (t.take (pLen t)) = true ∧ pLen t ≤ toNl t := by
 have h1 := pDown_end t _ h
 refine ⟨h1.1, le_toNl (by have := h1.2; unfold pLen; omega) (punct_kind _ (List.contains_iff_mem.1 h1.1)).2.2.2⟩

def Fnd (t : Bs) (b : Nat × Nat) : Prop := b = (0, 0) ∨ (b.1 ≠ 0 ∧ 0 < b.2 ∧ kindOf (t.take b.2) = b.1 ∧ b.2 ≤ toNl t)
theorem best_fnd {t : Bs} {a b : Nat × Nat} (ha : Fnd t a) (hb : b.2 = 0 ∨ Fnd t b) : Fnd t (best a b) := by
 unfold best
 split
 ·rename_i h
  rcases hb with h0 | h0
  ·omega
  ·exact h0
 ·exact ha
theorem best_le (a b : Nat × Nat) : a.2 ≤ (best a b).2 ∧ b.2 ≤ (best a b).2 := by
 unfold best; split <;> omega
theorem downK_at (t : Bs) (m k : Nat) (h0 : 0 < m) (hk : kindOf (t.take m) = k) (hp : 0 < k) : ∀ n : Nat, m ≤ n → (∀ i, m < i → i ≤ n → kindOf (t.take i) = 0) → downK t n = (k, m)
 | 0, h, _ => by omega
 | n + 1, h, hz => by
  simp only [downK]
  by_cases e : m = n + 1
  ·subst e; simp [hk, hp]
  ·simp only [hz (n + 1) (by omega) (Nat.le_refl _), Nat.lt_irrefl, if_false]
   exact downK_at t m k h0 hk hp n (by omega) fun i h1 h2 => hz i h1 (by omega)
theorem downK_none (t : Bs) : ∀ n : Nat, (∀ i, 0 < i → i ≤ n → kindOf (t.take i) = 0) → downK t n = if t.head? = some 39 ∨ t.head? = some 34 then (0, 0) else (6, 1)
 | 0, _ => rfl
 | n + 1, hz => by
  simp only [downK, hz (n + 1) (by omega) (Nat.le_refl _), Nat.lt_irrefl, if_false]
  exact downK_none t n fun i h1 h2 => hz i h1 (by omega)
theorem toNl_le : ∀ t : Bs, toNl t ≤ t.length
 | [] => Nat.le_refl _
 | c :: r => by simp only [toNl]; split <;> simp; exact toNl_le r
theorem kind_ge (t : Bs) (n : Nat) (h0 : 0 < n) (hn : n ≤ toNl t) (h : kindOf (t.take n) ≠ 0) (B : Nat) (hw : wLen t ≤ B) (hnu : nLen t ≤ B) (hq : (qLen t).2 ≤ B) (hp : pLen t ≤ B) : n ≤ B := by
 have hl : n ≤ t.length := Nat.le_trans hn (toNl_le t)
 unfold kindOf at h
 split at h
 ·rename_i h1
  cases t with
  | nil => simp at hl; omega
  | cons c r =>
   cases n with
   | zero => omega
   | succ n =>
    rw [List.take_succ_cons] at h1
    obtain ⟨rfl, -⟩ := List.cons.inj h1
    simp [toNl] at hn
 split at h
 ·rename_i h1; exact Nat.le_trans (word_ge t n hl h1) hw
 split at h
 ·rename_i h1; exact Nat.le_trans (num_ge t n hl h1) hnu
 split at h
 ·rename_i h1; have := lit_ge (.inl rfl) t n hl h1; rw [this] at hq; exact hq
 split at h
 ·rename_i h1; have := lit_ge (.inr rfl) t n hl h1; rw [this] at hq; exact hq
 split at h
 ·rename_i h1; exact Nat.le_trans (punct_ge t n hl h1) hp
 ·exact absurd rfl h
theorem longP_ref (t : Bs) (ht : t ≠ []) : longP t = longR t := by
 unfold longP longR
 cases t with
 | nil => exact absurd rfl ht
 | cons c r =>
 by_cases hc : c = 10
 ·subst hc; simp [toNl]
 have hN : toNl (c :: r) ≠ 0 := by simp [toNl, hc]
 simp only [List.head?_cons, Option.some.injEq, hc, if_false, hN]
 generalize htt : c :: r = t at *
 obtain ⟨b, hb⟩ : ∃ b, best (best (best (best (0, 0) (qLen t)) (1, wLen t)) (2, nLen t)) (5, pLen t) = b := ⟨_, rfl⟩
 rw [hb]
 have hq : (qLen t).2 = 0 ∨ Fnd t (qLen t) := by
  rcases Nat.eq_zero_or_pos (qLen t).2 with h | h
  ·exact .inl h
  ·obtain ⟨k, n, hkn⟩ : ∃ k n, qLen t = (k, n) := ⟨_, _, rfl⟩
   rw [hkn] at h ⊢
   obtain ⟨h1, h2⟩ := qLen_end hkn h
   right; right
   rcases h2 with ⟨h2, h3⟩ | ⟨h2, h3⟩
   ·have := lit_kind (.inl rfl) h3; simp at this; exact ⟨by show k ≠ 0; omega, h, by show _ = k; rw [this, h2], h1⟩
   ·have := lit_kind (.inr rfl) h3; simp at this; exact ⟨by show k ≠ 0; omega, h, by show _ = k; rw [this, h2], h1⟩
 have hw : wLen t = 0 ∨ Fnd t (1, wLen t) := by
  rcases Nat.eq_zero_or_pos (wLen t) with h | h
  ·exact .inl h
  ·obtain ⟨h1, h2⟩ := word_end t h
   exact .inr (.inr ⟨by simp, h, word_kind h1, h2⟩)
 have hn : nLen t = 0 ∨ Fnd t (2, nLen t) := by
  rcases Nat.eq_zero_or_pos (nLen t) with h | h
  ·exact .inl h
  ·obtain ⟨h1, h2⟩ := num_end t h
   exact .inr (.inr ⟨by simp, h, num_kind h1, h2⟩)
 have hp : pLen t = 0 ∨ Fnd t (5, pLen t) := by
  rcases Nat.eq_zero_or_pos (pLen t) with h | h
  ·exact .inl h
  ·obtain ⟨h1, h2⟩ := punct_end t h
   exact .inr (.inr ⟨by simp, h, (punct_kind _ (List.contains_iff_mem.1 h1)).1, h2⟩)
 have hF : Fnd t b := by rw [← hb]; exact best_fnd (best_fnd (best_fnd (best_fnd (.inl rfl) hq) hw) hn) hp
 have l1 := best_le (0, 0) (qLen t)
 have l2 := best_le (best (0, 0) (qLen t)) (1, wLen t)
 have l3 := best_le (best (best (0, 0) (qLen t)) (1, wLen t)) (2, nLen t)
 have l4 := best_le (best (best (best (0, 0) (qLen t)) (1, wLen t)) (2, nLen t)) (5, pLen t)
 rw [hb] at l4
 simp only at l1 l2 l3 l4
 have hge : ∀ i, 0 < i → i ≤ toNl t → kindOf (t.take i) ≠ 0 → i ≤ b.2 := fun i h1 h2 h3 => kind_ge t i h1 h2 h3 b.2 (by omega) (by omega) (by omega) (by omega)
 rcases hF with rfl | ⟨h1, h2, h3, h4⟩
 ·rw [downK_none t _ fun i h1 h2 => ?_]
  ·rw [← htt]; simp
  ·by_cases h : kindOf (t.take i) = 0
   ·exact h
   ·have := hge i h1 h2 h; omega
 ·rw [downK_at t b.2 b.1 h2 h3 (by omega) _ h4 fun i h5 h6 => ?_]
  ·simp [h1]
  ·by_cases h : kindOf (t.take i) = 0
   ·exact h
   ·have := hge i (by omega) h6 h; omega
end Go.Proofs.YtlboejdhmggjpaaGreat

/- PkD -/
namespace Go.Proofs.YtlboejdhmggjpaaGreat

structure Tk where
 kind : Nat
 text : Bs
 lo : Nat
 hi : Nat
 space : Bool
deriving DecidableEq

def hRun (q : UInt8) : Bs → Nat
 | [] => 0
 | c :: r => if c = 10 then 0 else if c = q then 1 else if hRun q r = 0 then 0 else hRun q r + 1
def hLen : Bs → Nat
 | [] => 0
 | c :: r => if c = 60 then (if hRun 62 r = 0 then 0 else hRun 62 r + 1) else if c = 34 then (if hRun 34 r = 0 then 0 else hRun 34 r + 1) else 0
def fEnd : Bs → Option Nat
 | [] => none
 | [_] => none
 | c :: d :: r => if c = 42 ∧ d = 47 then some 0 else (fEnd (d :: r)).map (· + 1)
def cLen : Bs → Nat × Nat
 | c :: d :: r => if c = 47 ∧ d = 42 then (match fEnd r with | none => (0, 20) | some n => (n + 4, 0)) else if c = 47 ∧ d = 47 then (toNl r + 2, 0) else (0, 0)
 | _ => (0, 0)
def itm (t : Bs) (hdr : Bool) : Nat × Nat × Nat :=
 if hdr = true ∧ 0 < hLen t then (7, hLen t, 0)
 else if (cLen t).2 ≠ 0 then (0, 0, (cLen t).2)
 else if (cLen t).1 ≠ 0 then (8, (cLen t).1, 0)
 else if (longP t).1 = 0 then (0, 0, 21) else ((longP t).1, (longP t).2, 0)
def isHash (x : Bs) : Bool := x == [35] || x == [37, 58]
def incl : Bs := [105, 110, 99, 108, 117, 100, 101]
def after (st kind : Nat) (x : Bs) : Nat :=
 if kind = 8 then st else if kind = 9 then 0 else if st = 0 ∧ kind = 5 ∧ isHash x = true then 1 else if st = 1 ∧ kind = 1 ∧ x = incl then 2 else 3
def tks (t : Bs) (at' st : Nat) (sp : Bool) : List Tk × Nat :=
 match t with
 | [] => ([], 0)
 | c :: r =>
  if isWhite c then tks r (at' + 1) st true
  else if (itm (c :: r) (st == 2)).2.2 ≠ 0 then ([], (itm (c :: r) (st == 2)).2.2)
  else
   let k := (itm (c :: r) (st == 2)).1
   let n := (itm (c :: r) (st == 2)).2.1
   let z := tks (r.drop (n - 1)) (at' + n) (after st k ((c :: r).take n)) false
   (⟨k, (c :: r).take n, at', at' + n, sp⟩ :: z.1, z.2)
termination_by t.length
decreasing_by all_goals simp; try omega

-- the token is not empty, and lies inside
theorem hRun_le (q : UInt8) : ∀ r : Bs, hRun q r ≤ r.length
 | [] => Nat.le_refl _
 | c :: r => by
  have := hRun_le q r
  simp only [hRun, List.length_cons]; split
  ·omega
  split
  ·omega
  split <;> omega
theorem fEnd_le : ∀ (r : Bs) (n : Nat), fEnd r = some n → n + 2 ≤ r.length
 | [], n, h => by simp [fEnd] at h
 | [_], n, h => by simp [fEnd] at h
 | c :: d :: r, n, h => by
  simp only [fEnd] at h
  split at h
  ·have := Option.some.inj h; simp; omega
  ·cases hr : fEnd (d :: r) with
   | none => rw [hr] at h; cases h
   | some m =>
    rw [hr] at h
    have h1 : m + 1 = n := Option.some.inj h
    have := fEnd_le (d :: r) m hr
    simp at this ⊢; omega
theorem cLen_le (t : Bs) : (cLen t).1 ≤ t.length := by
 unfold cLen
 split
 ·rename_i c d r
  split
  ·split
   ·simp
   ·rename_i n hn; have := fEnd_le r n hn; simp; omega
  ·split
   ·have := toNl_le r; simp; omega
   ·simp
 ·simp
theorem longP_le {t : Bs} (ht : t ≠ []) : (longP t).2 ≤ t.length := by
 rw [longP_ref t ht]
 unfold longR
 have h0 : 0 < t.length := List.length_pos_iff.2 ht
 split
 ·show 1 ≤ _; omega
 ·have : ∀ n, n ≤ toNl t → (downK t n).2 ≤ t.length := by
   intro n
   induction n with
   | zero => intro _; simp only [downK]; split <;> simp <;> omega
   | succ n ih =>
    intro h
    simp only [downK]
    split
    ·have := toNl_le t; simp; omega
    ·exact ih (by omega)
  exact this _ (Nat.le_refl _)
theorem longP_pos {t : Bs} (ht : t ≠ []) (h : (longP t).1 ≠ 0) : 0 < (longP t).2 := by
 rw [longP_ref t ht] at h ⊢
 unfold longR at h ⊢
 split
 ·simp
 ·rename_i h1
  rw [if_neg h1] at h
  have : ∀ n, (downK t n).1 ≠ 0 → 0 < (downK t n).2 := by
   intro n
   induction n with
   | zero => intro hh; simp only [downK] at hh ⊢; split <;> simp_all
   | succ n ih =>
    intro hh
    simp only [downK] at hh ⊢
    split
    ·simp
    ·rename_i h2; rw [if_neg h2] at hh; exact ih hh
  exact this _ h
theorem itm_pos {t : Bs} {hdr : Bool} (ht : t ≠ []) (h : (itm t hdr).2.2 = 0) : 0 < (itm t hdr).2.1 ∧ (itm t hdr).2.1 ≤ t.length ∧ (itm t hdr).1 ≠ 0 := by
 unfold itm at h ⊢
 split
 ·rename_i h1
  refine ⟨h1.2, ?_, by simp⟩
  show hLen t ≤ t.length
  cases t with
  | nil => simp [hLen]
  | cons c r =>
   have a1 := hRun_le 62 r
   have a2 := hRun_le 34 r
   simp only [hLen, List.length_cons]
   split
   ·split <;> omega
   split
   ·split <;> omega
   ·omega
 rename_i h1
 rw [if_neg h1] at h
 split
 ·rename_i h2; rw [if_pos h2] at h; exact absurd h h2
 rename_i h2
 rw [if_neg h2] at h
 split
 ·rename_i h3; exact ⟨by simpa [Nat.pos_iff_ne_zero] using h3, cLen_le t, by simp⟩
 rename_i h3
 rw [if_neg h3] at h
 split
 ·rename_i h4; rw [if_pos h4] at h; simp at h
 ·rename_i h4; exact ⟨longP_pos ht h4, longP_le ht, h4⟩
theorem tks_nil (at' st : Nat) (sp : Bool) : tks [] at' st sp = ([], 0) := by rw [tks]
theorem tks_white {c : UInt8} {r : Bs} {at' st : Nat} {sp : Bool} (h : isWhite c = true) : tks (c :: r) at' st sp = tks r (at' + 1) st true := by rw [tks]; simp [h]
theorem tks_err {c : UInt8} {r : Bs} {at' st : Nat} {sp : Bool} (h : isWhite c = false) (he : (itm (c :: r) (st == 2)).2.2 ≠ 0) : tks (c :: r) at' st sp = ([], (itm (c :: r) (st == 2)).2.2) := by rw [tks]; simp only [h, Bool.false_eq_true, if_false, ne_eq, he, not_false_eq_true, if_true]
theorem tks_tok {t : Bs} {c : UInt8} {r : Bs} {at' st : Nat} {sp : Bool} (ht : t = c :: r) (h : isWhite c = false) (he : (itm t (st == 2)).2.2 = 0) :
  tks t at' st sp = (⟨(itm t (st == 2)).1, t.take (itm t (st == 2)).2.1, at', at' + (itm t (st == 2)).2.1, sp⟩ :: (tks (t.drop (itm t (st == 2)).2.1) (at' + (itm t (st == 2)).2.1) (after st (itm t (st == 2)).1 (t.take (itm t (st == 2)).2.1)) false).1,
   (tks (t.drop (itm t (st == 2)).2.1) (at' + (itm t (st == 2)).2.1) (after st (itm t (st == 2)).1 (t.take (itm t (st == 2)).2.1)) false).2) := by
 have hp := (itm_pos (by rw [ht]; simp) he).1
 subst ht
 have hd : (c :: r).drop (itm (c :: r) (st == 2)).2.1 = r.drop ((itm (c :: r) (st == 2)).2.1 - 1) := by
  obtain ⟨m, hm⟩ : ∃ m, (itm (c :: r) (st == 2)).2.1 = m + 1 := ⟨_, (Nat.succ_pred_eq_of_pos hp).symm⟩
  rw [hm]; rfl
 rw [hd]
 conv => lhs; rw [tks]
 simp only [h, Bool.false_eq_true, if_false, he, ne_eq, not_true_eq_false]

theorem longP_kind {t : Bs} (ht : t ≠ []) (h : (longP t).1 ≠ 0) : (longP t).1 ≠ 8 ∧ ((longP t).1 = kindOf (t.take (longP t).2) ∨ ((longP t).1 = 6 ∧ kindOf (t.take (longP t).2) = 0)) := by
 have h8 : ∀ x : Bs, kindOf x ≠ 8 := by
  intro x; unfold kindOf
  split
  ·decide
  split
  ·decide
  split
  ·decide
  split
  ·decide
  split
  ·decide
  split <;> decide
 rw [longP_ref t ht] at h ⊢
 unfold longR at h ⊢
 split
 ·rename_i h1
  refine ⟨by simp, .inl ?_⟩
  cases t with
  | nil => exact absurd rfl ht
  | cons c r =>
   simp only [toNl] at h1
   split at h1
   ·rename_i h2; subst h2; rfl
   ·omega
 rename_i h1
 rw [if_neg h1] at h
 have key : ∀ n, (∀ i, n < i → i ≤ toNl t → kindOf (t.take i) = 0) → n ≤ toNl t → (downK t n).1 ≠ 0 → (downK t n).1 ≠ 8 ∧ ((downK t n).1 = kindOf (t.take (downK t n).2) ∨ ((downK t n).1 = 6 ∧ kindOf (t.take (downK t n).2) = 0)) := by
  intro n
  induction n with
  | zero =>
   intro hz _ hh
   simp only [downK] at hh ⊢
   split
   ·rename_i h2; rw [if_pos h2] at hh; simp at hh
   ·exact ⟨by simp, .inr ⟨rfl, hz 1 (by omega) (by omega)⟩⟩
  | succ n ih =>
   intro hz hn hh
   simp only [downK] at hh ⊢
   split
   ·exact ⟨h8 _, .inl rfl⟩
   ·rename_i h2
    rw [if_neg h2] at hh
    refine ih (fun i h3 h4 => ?_) (by omega) hh
    by_cases e : i = n + 1
    ·subst e; omega
    ·exact hz i (by omega) h4
 exact key _ (fun i h3 h4 => by omega) (Nat.le_refl _) h
end Go.Proofs.YtlboejdhmggjpaaGreat

/- PkE -/
namespace Go.Proofs.YtlboejdhmggjpaaGreat

def Spaced : Nat → List Tk → Prop
 | _, [] => True
 | b, x :: r => x.space = decide (b < x.lo) ∧ Spaced x.hi r
def Lies (l : Bs) : Nat → List Tk → Prop
 | _, [] => True
 | b, x :: r => b ≤ x.lo ∧ x.lo < x.hi ∧ x.hi ≤ l.length ∧ x.text = (l.drop x.lo).take (x.hi - x.lo) ∧ Lies l x.hi r
def isCom (x : Bs) : Prop := (∃ y, x = 47 :: 47 :: y) ∨ (∃ y n, x = 47 :: 42 :: y ∧ fEnd y = some n ∧ y.length = n + 2)
theorem toks_all : ∀ (n : Nat) (l t : Bs) (at' st : Nat) (sp : Bool) (b : Nat), t.length ≤ n → l.drop at' = t → at' ≤ l.length → b ≤ at' → (sp = decide (b < at')) →
  Spaced b (tks t at' st sp).1 ∧ Lies l b (tks t at' st sp).1 ∧ ∀ x ∈ (tks t at' st sp).1, (x.kind = 8 → isCom x.text) ∧ x.kind ≠ 0 ∧ x.kind ≤ 9 := by
 intro n
 induction n with
 | zero =>
  intro l t at' st sp b h _ _ _ _
  rw [List.length_eq_zero_iff.1 (Nat.le_zero.1 h), tks_nil]
  exact ⟨trivial, trivial, by simp⟩
 | succ n ih =>
  intro l t at' st sp b h hd hal hb hsp
  cases ht : t with
  | nil => rw [tks_nil]; exact ⟨trivial, trivial, by simp⟩
  | cons c r =>
   have hlen : at' + (r.length + 1) = l.length := by
    have := congrArg List.length hd
    rw [ht] at this; simp at this; omega
   cases hw : isWhite c with
   | true =>
    rw [tks_white hw]
    have hr : l.drop (at' + 1) = r := by rw [← List.drop_drop, hd, ht]; rfl
    have hbl : b < at' + 1 := by omega
    exact ih l r (at' + 1) st true b (by rw [ht] at h; simpa using h) hr (by omega) (by omega) (by simp [hbl])
   | false =>
    by_cases he : (itm (c :: r) (st == 2)).2.2 = 0
    ·rw [tks_tok rfl hw he]
     obtain ⟨i, hi⟩ : ∃ i, itm (c :: r) (st == 2) = i := ⟨_, rfl⟩
     have hp := itm_pos (t := c :: r) (by simp) he
     rw [hi] at hp he ⊢
     simp only [List.length_cons] at hp
     have hdr : l.drop (at' + i.2.1) = (c :: r).drop i.2.1 := by rw [← List.drop_drop, hd, ht]
     obtain ⟨h1, h2, h3⟩ := ih l ((c :: r).drop i.2.1) (at' + i.2.1) (after st i.1 ((c :: r).take i.2.1)) false (at' + i.2.1) (by rw [ht] at h; simp at h ⊢; omega) hdr (by omega) (Nat.le_refl _) (by simp)
     refine ⟨⟨hsp, h1⟩, ⟨hb, by show at' < at' + i.2.1; omega, by show at' + i.2.1 ≤ l.length; omega, ?_, h2⟩, ?_⟩
     ·show (c :: r).take i.2.1 = _
      rw [hd, ht, Nat.add_sub_cancel_left]
     ·intro x hx
      rcases List.mem_cons.1 hx with rfl | hx
      ·refine ⟨fun (h8 : i.1 = 8) => ?_, hp.2.2, ?_⟩
       ·show isCom ((c :: r).take i.2.1)
        unfold itm at hi
        split at hi
        ·subst hi; simp at h8
        split at hi
        ·subst hi; simp at h8
        split at hi
        ·rename_i h4 h5
         subst hi
         show isCom ((c :: r).take (cLen (c :: r)).1)
         cases r with
         | nil => simp [cLen] at h5
         | cons d r =>
          simp only [cLen] at h4 h5 ⊢
          split
          ·rename_i h6
           rw [if_pos h6] at h4 h5
           split
           ·rename_i h7; rw [h7] at h4; simp at h4
           ·rename_i m hm
            obtain ⟨rfl, rfl⟩ := h6
            refine .inr ⟨r.take (m + 2), m, rfl, ?_, ?_⟩
            ·have key : ∀ (y : Bs) (m : Nat), fEnd y = some m → fEnd (y.take (m + 2)) = some m := by
              intro y
              induction y with
              | nil => intro m hm; simp [fEnd] at hm
              | cons e y ihy =>
               intro m hm
               cases y with
               | nil => simp [fEnd] at hm
               | cons f y =>
                simp only [fEnd] at hm
                split at hm
                ·rename_i h9
                 obtain rfl : 0 = m := Option.some.inj hm
                 obtain ⟨rfl, rfl⟩ := h9
                 simp [fEnd]
                ·rename_i h9
                 cases hz : fEnd (f :: y) with
                 | none => rw [hz] at hm; cases hm
                 | some k =>
                  rw [hz] at hm
                  obtain rfl : k + 1 = m := Option.some.inj hm
                  have := ihy k hz
                  simp only [List.take_succ_cons] at this ⊢
                  simp only [fEnd, h9, if_false, this, Option.map_some]
             exact key r m hm
            ·have := fEnd_le r m hm; simp; omega
          ·rename_i h6
           rw [if_neg h6] at h4 h5
           split
           ·rename_i h7
            obtain ⟨rfl, rfl⟩ := h7
            exact .inl ⟨r.take (toNl r), rfl⟩
           ·rename_i h7
            rw [if_neg h7] at h5
            exact absurd rfl h5
        ·split at hi
         ·subst hi; simp at h8
         ·rename_i h4
          subst hi
          exact absurd h8 (longP_kind (by simp) h4).1
       ·show i.1 ≤ 9
        have hk : ∀ x : Bs, kindOf x ≤ 9 := by
         intro x; unfold kindOf
         split
         ·decide
         split
         ·decide
         split
         ·decide
         split
         ·decide
         split
         ·decide
         split <;> decide
        unfold itm at hi
        split at hi
        ·subst hi; simp
        split at hi
        ·subst hi; simp
        split at hi
        ·subst hi; simp
        split at hi
        ·subst hi; simp
        ·rename_i h4
         subst hi
         rcases (longP_kind (t := c :: r) (by simp) h4).2 with h5 | h5
         ·show (longP (c :: r)).1 ≤ 9; rw [h5]; exact hk _
         ·show (longP (c :: r)).1 ≤ 9; omega
      ·exact h3 x hx
    ·rw [tks_err hw he]; exact ⟨trivial, trivial, by simp⟩
def bareD (d : Bool) : List Tk → List Tk
 | [] => []
 | t :: r => if t.kind = 8 ∨ t.kind = 9 then bareD true r else { t with space := t.space || d } :: bareD false r
abbrev bare (l : List Tk) : List Tk := bareD false l
structure Rw where
 dir : Bool
 name : Bs
 toks : List Tk
deriving DecidableEq
def mute (r : Rw) : Bool := !r.dir && (bare r.toks).isEmpty
def less (l : List Rw) : List Rw := l.filter fun r => !mute r
end Go.Proofs.YtlboejdhmggjpaaGreat

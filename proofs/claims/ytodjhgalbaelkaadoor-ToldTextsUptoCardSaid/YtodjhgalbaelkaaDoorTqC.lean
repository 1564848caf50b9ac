/- told, plain: numerals read and written; texts of whole lines. -/
import Derived.Test.YtodjhgalbaelkaaDoorTqB
namespace Go.Proofs.YtodjhgalbaelkaaDoor
open Go.RowKit Go.Shelf
set_option linter.unusedVariables false

/-! Numerals. -/
theorem digs_snoc : ∀ (l : Bs) (c : UInt8) (n : Nat), digs n (l ++ [c]) = (digs n l).bind fun k => if c.toNat < 48 ∨ 57 < c.toNat then none else some (10 * k + (c.toNat - 48))
  | [], c, n => by simp only [List.nil_append, digs, Option.bind_some]
  | d :: l, c, n => by
    rw [List.cons_append, digs, digs]
    split
    · rfl
    · exact digs_snoc l c _
theorem dig_nat {k : Nat} (h : k < 10) : (UInt8.ofNat (48 + k)).toNat = 48 + k := by
  rw [UInt8.toNat_ofNat']; omega
theorem digs_dec (u : Nat) : digs 0 (Lib.decDigits u) = some u := by
  induction u using Nat.strongRecOn with
  | _ u ih =>
    by_cases h : u < 10
    · rw [Lib.decDigits, dif_pos h, digs, dig_nat h, if_neg (by omega), digs]
      congr 1; omega
    · rw [Lib.decDigits, dif_neg h, digs_snoc, ih (u / 10) (by omega), Option.bind_some, dig_nat (by omega), if_neg (by omega)]
      congr 1; omega
theorem dec_ne (u : Nat) : Lib.decDigits u ≠ [] := by
  intro h
  have := Lib.decDigits_length u
  rw [h] at this
  have := Lib.nDigits_pos u
  simp at *; omega
theorem dec_head (u : Nat) : u ≠ 0 → (Lib.decDigits u).head? ≠ some 48 := by
  induction u using Nat.strongRecOn with
  | _ u ih =>
    intro hu
    by_cases h : u < 10
    · rw [Lib.decDigits, dif_pos h]
      intro e
      have e : UInt8.ofNat (48 + u) = 48 := by simpa using e
      have := congrArg UInt8.toNat e
      rw [dig_nat h] at this
      simp at this; omega
    · rw [Lib.decDigits, dif_neg h]
      cases hd : Lib.decDigits (u / 10) with
      | nil => exact absurd hd (dec_ne _)
      | cons c r =>
        have := ih (u / 10) (by omega) (by omega)
        rw [hd] at this
        exact this
theorem dec_len {u : Nat} (h : u ≤ 99999) : (Lib.decDigits u).length ≤ 5 := by
  rw [Lib.decDigits_length]
  rcases Nat.lt_or_ge 5 (Lib.nDigits u) with h5 | h5
  · exfalso
    have key : ∀ v, 10 ^ (Lib.nDigits v - 1) ≤ v ∨ v = 0 := fun v => by
      induction v using Nat.strongRecOn with
      | _ v ih =>
        by_cases hv : v < 10
        · rw [Lib.nDigits_small hv]; simp; omega
        · left
          rw [Lib.nDigits_big hv]
          rcases ih (v / 10) (by omega) with h1 | h1
          · have := Lib.nDigits_pos (v / 10)
            obtain ⟨m, hm⟩ : ∃ m, Lib.nDigits (v / 10) = m + 1 := ⟨_, (Nat.sub_add_cancel this).symm⟩
            rw [hm] at h1 ⊢
            simp only [Nat.add_sub_cancel] at h1 ⊢
            rw [Nat.pow_succ]; omega
          · omega
    rcases key u with h1 | h1
    · have := Nat.pow_le_pow_right (n := 10) (by decide) (show 5 ≤ Lib.nDigits u - 1 by omega)
      omega
    · subst h1; rw [Lib.nDigits_small (by decide)] at h5; omega
  · exact h5
theorem numB_dec {u : Nat} (h : u ≤ 99999) : numB (Lib.decDigits u) = some u := by
  unfold numB
  rw [if_neg, digs_dec]
  rintro (h1 | h1 | ⟨h1, h2⟩)
  · exact dec_ne u (List.length_eq_zero_iff.1 h1)
  · have := dec_len h; omega
  · by_cases hu : u = 0
    · subst hu
      rw [Lib.decDigits, dif_pos (by decide)] at h2
      simp at h2
    · exact dec_head u hu h1
theorem digs_lower : ∀ (l : Bs) (n m : Nat), digs n l = some m → n ≤ m
  | [], n, m, h => by cases h; exact Nat.le_refl _
  | c :: l, n, m, h => by
    rw [digs] at h
    split at h
    · cases h
    · have := digs_lower l _ m h; omega
theorem u8_dig {c : UInt8} (h : ¬ (c.toNat < 48 ∨ 57 < c.toNat)) : UInt8.ofNat (48 + (c.toNat - 48)) = c := by
  rw [show 48 + (c.toNat - 48) = c.toNat by omega]
  exact UInt8.ofNat_toNat
theorem dec_of_digs : ∀ (k : Nat) (l : Bs) (m : Nat), l.length = k → digs 0 l = some m → l ≠ [] → ¬ (l.head? = some 48 ∧ 1 < l.length) → l = Lib.decDigits m := by
  intro k
  induction k with
  | zero => intro l m hk _ hne _; exact absurd (List.length_eq_zero_iff.1 hk) hne
  | succ k ih =>
    intro l m hk hd hne hz
    rcases List.eq_nil_or_concat l with rfl | ⟨l0, c, rfl⟩
    · exact absurd rfl hne
    rw [List.concat_eq_append] at *
    rw [digs_snoc] at hd
    cases h0 : digs 0 l0 with
    | none => rw [h0] at hd; cases hd
    | some j =>
      rw [h0, Option.bind_some] at hd
      split at hd
      · cases hd
      · rename_i hc
        have hm : 10 * j + (c.toNat - 48) = m := by simpa using hd
        by_cases hl : l0 = []
        · subst hl
          cases h0
          have hm10 : m < 10 := by omega
          rw [Lib.decDigits, dif_pos hm10, ← hm]
          simp only [Nat.mul_zero, Nat.zero_add, List.nil_append, u8_dig hc]
        · have hj : j ≠ 0 := by
            intro e
            subst e
            cases l0 with
            | nil => exact hl rfl
            | cons d r =>
              rw [digs] at h0
              split at h0
              · cases h0
              · rename_i hd'
                have := digs_lower r _ _ h0
                have hd48 : d = 48 := by
                  apply UInt8.toNat_inj.1
                  show d.toNat = 48
                  omega
                exact hz ⟨by simp [hd48], by simp⟩
          have h1 := ih l0 j (by simp at hk; omega) h0 hl (by
            rintro ⟨a, b⟩
            refine hz ⟨?_, by simp; omega⟩
            cases l0 with
            | nil => exact absurd rfl hl
            | cons d r => exact a)
          rw [Lib.decDigits, dif_neg (by omega), show m / 10 = j by omega, ← h1, show m % 10 = c.toNat - 48 by omega, u8_dig hc]
theorem dec_of_num {l : Bs} {m : Nat} (h : numB l = some m) : l = Lib.decDigits m := by
  unfold numB at h
  split at h
  · cases h
  · rename_i hc
    exact dec_of_digs _ l m rfl h (fun e => hc (.inl (by rw [e]; rfl))) (fun e => hc (.inr (.inr e)))
theorem dec_mem (u : Nat) : ∀ c ∈ Lib.decDigits u, 48 ≤ c.toNat ∧ c.toNat ≤ 57 := by
  induction u using Nat.strongRecOn with
  | _ u ih =>
    intro c hc
    by_cases h : u < 10
    · rw [Lib.decDigits, dif_pos h, List.mem_singleton] at hc
      subst hc
      rw [dig_nat h]; omega
    · rw [Lib.decDigits, dif_neg h, List.mem_append, List.mem_singleton] at hc
      rcases hc with hc | rfl
      · exact ih (u / 10) (by omega) c hc
      · rw [dig_nat (by omega)]; omega

/-! Cuts. -/
theorem cutB_at : ∀ (l r : Bs), (32 : UInt8) ∉ l → cutB (l ++ 32 :: r) = (l, some r)
  | [], r, _ => by simp [cutB]
  | c :: l, r, h => by
    have hc : c ≠ 32 := fun e => h (by simp [e])
    rw [List.cons_append, cutB, if_neg hc, cutB_at l r (fun hm => h (List.mem_cons_of_mem _ hm))]
theorem cutB_none : ∀ (l : Bs), (32 : UInt8) ∉ l → cutB l = (l, none)
  | [], _ => rfl
  | c :: l, h => by
    have hc : c ≠ 32 := fun e => h (by simp [e])
    rw [cutB, if_neg hc, cutB_none l (fun hm => h (List.mem_cons_of_mem _ hm))]
theorem cutB_back : ∀ (l : Bs), l = (cutB l).1 ++ (match (cutB l).2 with | none => [] | some r => 32 :: r)
  | [] => rfl
  | c :: l => by
    rw [cutB]
    split
    · rename_i h; subst h; rfl
    · have := cutB_back l
      simp only [List.cons_append]
      rw [← this]

/-! Whole lines. -/
def isLine (x : Bs) : Prop := ∃ u, x = u ++ [10] ∧ (10 : UInt8) ∉ u
theorem lines_line : ∀ (u r : Bs), (10 : UInt8) ∉ u → lines (u ++ 10 :: r) = (u ++ [10]) :: lines r
  | [], r, _ => by simp [lines_cons]
  | c :: u, r, h => by
    have hc : c ≠ 10 := fun e => h (by simp [e])
    rw [List.cons_append, lines_cons, if_neg hc, lines_line u r (fun hm => h (List.mem_cons_of_mem _ hm))]
    rfl
theorem lines_isLine {x : Bs} (r : Bs) (h : isLine x) : lines (x ++ r) = x :: lines r := by
  obtain ⟨u, rfl, hu⟩ := h
  rw [List.append_assoc]
  exact lines_line u r hu
theorem lines_of : ∀ (xs : List Bs) (r : Bs), (∀ x ∈ xs, isLine x) → lines (xs.flatten ++ r) = xs ++ lines r
  | [], r, _ => rfl
  | x :: xs, r, h => by
    rw [List.flatten_cons, List.append_assoc, lines_isLine _ (h x List.mem_cons_self), lines_of xs r (fun y hy => h y (List.mem_cons_of_mem _ hy))]
    rfl
theorem ends_snoc (u : Bs) (c : UInt8) : ends (u ++ [c]) = (c == 10) := by
  unfold ends
  rw [List.getLast?_append]
  simp
theorem ends_isLine {x : Bs} (h : isLine x) : ends x = true := by
  obtain ⟨u, rfl, _⟩ := h
  rw [ends_snoc]; rfl
theorem ends_back {x : Bs} (h : ends x = true) : ∃ u, x = u ++ [10] := by
  rcases List.eq_nil_or_concat x with rfl | ⟨u, c, rfl⟩
  · cases h
  · rw [List.concat_eq_append, ends_snoc] at h
    have h : c = 10 := by simpa using h
    exact ⟨u, by rw [h, List.concat_eq_append]⟩
theorem tlB_snoc (u : Bs) (c : UInt8) : tlB (u ++ [c]) = u := by
  unfold tlB
  simp
/-- A text's lines: all whole, or all but the last one. -/
theorem lines_form : ∀ l : Bs, ((∀ x ∈ lines l, isLine x) ∧ (l = [] ∨ ends l = true)) ∨ (∃ i z, lines l = i ++ [z] ∧ (∀ x ∈ i, isLine x) ∧ z ≠ [] ∧ (10 : UInt8) ∉ z ∧ l ≠ [] ∧ ends l = false)
  | [] => .inl ⟨by simp [lines], .inl rfl⟩
  | c :: l => by
    have he : l ≠ [] → ends (c :: l) = ends l := fun hl => by
      unfold ends
      rw [List.getLast?_cons_of_ne_nil hl]
    rw [lines_cons]
    by_cases hc : c = 10
    · subst hc
      rw [if_pos rfl]
      rcases lines_form l with ⟨h1, h2⟩ | ⟨i, z, h1, h2, h3, h4, h5, h6⟩
      · left
        refine ⟨fun x hx => ?_, .inr ?_⟩
        · rcases List.mem_cons.1 hx with rfl | hx
          · exact ⟨[], rfl, by simp⟩
          · exact h1 x hx
        · by_cases hl : l = []
          · subst hl; rfl
          · rw [he hl]
            exact h2.resolve_left hl
      · right
        exact ⟨[10] :: i, z, by rw [h1]; rfl, (fun x hx => by
          rcases List.mem_cons.1 hx with rfl | hx
          · exact ⟨[], rfl, by simp⟩
          · exact h2 x hx), h3, h4, by simp, by rw [he h5]; exact h6⟩
    · rw [if_neg hc]
      rcases lines_form l with ⟨h1, h2⟩ | ⟨i, z, h1, h2, h3, h4, h5, h6⟩
      · cases hl : lines l with
        | nil =>
          have hl0 := lines_nil.1 hl
          subst hl0
          right
          refine ⟨[], [c], rfl, by simp, by simp, ?_, by simp, ?_⟩
          · simp; exact fun e => hc e.symm
          · unfold ends; simp [hc]
        | cons x r =>
          left
          rw [hl] at h1
          have hl0 : l ≠ [] := fun e => by subst e; cases hl
          refine ⟨fun y hy => ?_, .inr ?_⟩
          · rcases List.mem_cons.1 hy with rfl | hy
            · obtain ⟨u, hu, hn⟩ := h1 x List.mem_cons_self
              exact ⟨c :: u, by rw [hu]; rfl, by simp; exact ⟨fun e => hc e.symm, hn⟩⟩
            · exact h1 y (List.mem_cons_of_mem _ hy)
          · rw [he hl0]; exact h2.resolve_left hl0
      · right
        cases i with
        | nil =>
          rw [h1]
          exact ⟨[], c :: z, rfl, by simp, by simp, by simp; exact ⟨fun e => hc e.symm, h4⟩, by simp, by rw [he h5]; exact h6⟩
        | cons x i =>
          rw [h1]
          refine ⟨(c :: x) :: i, z, rfl, fun y hy => ?_, h3, h4, by simp, by rw [he h5]; exact h6⟩
          rcases List.mem_cons.1 hy with rfl | hy
          · obtain ⟨u, hu, hn⟩ := h2 x List.mem_cons_self
            exact ⟨c :: u, by rw [hu]; rfl, by simp; exact ⟨fun e => hc e.symm, hn⟩⟩
          · exact h2 y (List.mem_cons_of_mem _ hy)
end Go.Proofs.YtodjhgalbaelkaaDoor

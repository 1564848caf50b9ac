/- The plain law of the reference's Best: all ways, one by one. -/
import Derived.Test.YtblooekephkojaaLtD
namespace Go.Proofs.Ytblooekephkojaa
set_option linter.unusedVariables false

def Gap.free (g : Gap) : Bool := g.may && !g.must
/-- How many gaps may be broken or not. -/
def fr : List Gap → Nat
  | [] => 0
  | g :: l => (if g.free = true then 1 else 0) + fr l
/-- The way of a number, and what is left of it. -/
def digs : List Gap → Nat → List Bool × Nat
  | [], n => ([], n)
  | g :: l, n => if g.free = true then (decide ((digs l n).2 % 2 = 1) :: (digs l n).1, (digs l n).2 / 2) else (g.must :: (digs l n).1, (digs l n).2)
/-- The number of a way. -/
def num : List Gap → List Bool → Nat
  | g :: l, b :: x => (if g.free = true ∧ b = true then 2 ^ fr l else 0) + num l x
  | _, _ => 0

theorem fr_cons (g : Gap) (l : List Gap) : fr (g :: l) = (if g.free = true then 1 else 0) + fr l := rfl
theorem num_cons (g : Gap) (l : List Gap) (b : Bool) (x : List Bool) : num (g :: l) (b :: x) = (if g.free = true ∧ b = true then 2 ^ fr l else 0) + num l x := rfl

theorem digs_len : ∀ (l : List Gap) (n : Nat), (digs l n).1.length = l.length
  | [], n => rfl
  | g :: l, n => by
    unfold digs
    split <;> simp [digs_len l n]

theorem fit_free {g : Gap} {b : Bool} (hv : g.valid = true) (hf : fitB (g, b) = true) (h : g.free = false) : b = g.must := by
  obtain ⟨-, -, -, -, -, -, -, -, hm⟩ := valid_bd hv
  unfold fitB at hf
  unfold Gap.free at h
  cases hb : b <;> cases h1 : g.must <;> cases h2 : g.may <;> simp_all
theorem free_fit {g : Gap} {b : Bool} (h : g.free = true) : fitB (g, b) = true := by
  unfold fitB
  unfold Gap.free at h
  cases hb : b <;> cases h1 : g.must <;> cases h2 : g.may <;> simp_all
theorem must_fit {g : Gap} (hv : g.valid = true) : fitB (g, g.must) = true := by
  obtain ⟨-, -, -, -, -, -, -, -, hm⟩ := valid_bd hv
  unfold fitB
  cases h1 : g.must <;> cases h2 : g.may <;> simp_all

theorem digs_fit : ∀ (l : List Gap) (n : Nat), (∀ g ∈ l, g.valid = true) → (l.zip (digs l n).1).all fitB = true
  | [], n, _ => rfl
  | g :: l, n, hv => by
    have ih := digs_fit l n (fun g' hg => hv g' (List.mem_cons_of_mem _ hg))
    unfold digs
    split
    · rename_i h
      simp only [List.zip_cons_cons, List.all_cons, ih, Bool.and_true]
      exact free_fit h
    · simp only [List.zip_cons_cons, List.all_cons, ih, Bool.and_true]
      exact must_fit (hv g List.mem_cons_self)

theorem num_lt : ∀ (l : List Gap) (x : List Bool), num l x < 2 ^ fr l
  | [], x => by cases x <;> simp [num, fr]
  | g :: l, [] => by simp only [num]; exact Nat.two_pow_pos _
  | g :: l, b :: x => by
    have ih := num_lt l x
    rw [num_cons, fr_cons]
    cases h : g.free
    · simp; exact ih
    · cases b
      · simp only [Bool.false_eq_true, and_false, if_false, if_true, Nat.zero_add]
        rw [Nat.pow_add]
        have := Nat.two_pow_pos (fr l)
        omega
      · simp only [and_self, if_true]
        rw [Nat.pow_add]
        omega

theorem digs_num : ∀ (l : List Gap) (x : List Bool) (m : Nat), (∀ g ∈ l, g.valid = true) → x.length = l.length → (l.zip x).all fitB = true → digs l (num l x + 2 ^ fr l * m) = (x, m)
  | [], x, m, _, hx, _ => by
    obtain rfl : x = [] := List.length_eq_zero_iff.1 hx
    simp [num, fr, digs]
  | g :: l, [], m, _, hx, _ => by simp at hx
  | g :: l, b :: x, m, hv, hx, hf => by
    simp only [List.zip_cons_cons, List.all_cons, Bool.and_eq_true] at hf
    have ih := fun m' => digs_num l x m' (fun g' hg => hv g' (List.mem_cons_of_mem _ hg)) (by simpa using hx) hf.2
    cases h : g.free
    · have e1 : num (g :: l) (b :: x) + 2 ^ fr (g :: l) * m = num l x + 2 ^ fr l * m := by simp [num, fr, h]
      rw [e1]
      unfold digs
      rw [ih m, h]
      simp [fit_free (hv g List.mem_cons_self) hf.1 h]
    · have e1 : num (g :: l) (b :: x) + 2 ^ fr (g :: l) * m = num l x + 2 ^ fr l * ((if b = true then 1 else 0) + 2 * m) := by
        rw [num_cons, fr_cons, h]
        simp only [if_true, true_and]
        rw [Nat.pow_add, Nat.pow_one, show 2 * 2 ^ fr l * m = 2 ^ fr l * (2 * m) from by rw [Nat.mul_comm 2, Nat.mul_assoc]]
        cases b
        · simp
        · rw [if_pos rfl, if_pos rfl, Nat.mul_add, Nat.mul_one]
          omega
      rw [e1]
      unfold digs
      rw [ih, h]
      cases b
      · simp
      · simp
        omega

theorem num_lex : ∀ (l : List Gap) (x y : List Bool) (j : Nat), (∀ g ∈ l, g.valid = true) → x.length = l.length → y.length = l.length → (l.zip x).all fitB = true → (l.zip y).all fitB = true → j < l.length →
    (∀ q, q < j → x.getD q false = y.getD q false) → y.getD j false = true → x.getD j false = false → num l x < num l y
  | [], x, y, j, _, _, _, _, _, hj, _, _, _ => by simp at hj
  | g :: l, [], y, j, _, hx, _, _, _, _, _, _, _ => by simp at hx
  | g :: l, b :: x, [], j, _, _, hy, _, _, _, _, _, _ => by simp at hy
  | g :: l, b :: x, d :: y, 0, hv, hx, hy, hfx, hfy, _, _, h1, h0 => by
    simp only [List.zip_cons_cons, List.all_cons, Bool.and_eq_true] at hfx hfy
    simp only [List.getD_cons_zero] at h1 h0
    subst h1 h0
    cases h : g.free
    · have e1 := fit_free (hv g List.mem_cons_self) hfx.1 h
      have e2 := fit_free (hv g List.mem_cons_self) hfy.1 h
      rw [← e1] at e2; cases e2
    · have := num_lt l x
      rw [num_cons, num_cons, h]
      simp only [and_self, if_true, Bool.false_eq_true, and_false, if_false]
      omega
  | g :: l, b :: x, d :: y, j + 1, hv, hx, hy, hfx, hfy, hj, hs, h1, h0 => by
    simp only [List.zip_cons_cons, List.all_cons, Bool.and_eq_true] at hfx hfy
    have ih := num_lex l x y j (fun g' hg => hv g' (List.mem_cons_of_mem _ hg)) (by simpa using hx) (by simpa using hy) hfx.2 hfy.2 (by simpa using hj) (fun q hq => by simpa using hs (q + 1) (by omega)) (by simpa using h1) (by simpa using h0)
    have hbd : b = d := by simpa using hs 0 (by omega)
    subst hbd
    rw [num_cons, num_cons]
    omega

/-- The best of the ways up to a number: the first of the cheapest ones. -/
def FirstBest (s : Sty) (first : Int) (l : List Gap) (n p : Nat) : Prop :=
  p < n ∧ (∀ q, q < n → cost s first (l.zip (digs l p).1) ≤ cost s first (l.zip (digs l q).1)) ∧ ∀ q, q < p → cost s first (l.zip (digs l p).1) < cost s first (l.zip (digs l q).1)
theorem FirstBest.one (s : Sty) (first : Int) (l : List Gap) : FirstBest s first l 1 0 :=
  ⟨by omega, fun q hq => by obtain rfl : q = 0 := by omega
                            exact Int.le_refl _, fun q hq => by omega⟩
theorem FirstBest.take {s : Sty} {first : Int} {l : List Gap} {n p : Nat} (h : FirstBest s first l n p) (hc : cost s first (l.zip (digs l n).1) < cost s first (l.zip (digs l p).1)) : FirstBest s first l (n + 1) n :=
  ⟨by omega, fun q hq => by
    by_cases hqn : q = n
    · rw [hqn]; exact Int.le_refl _
    · have := h.2.1 q (by omega); omega, fun q hq => by have := h.2.1 q hq; omega⟩
theorem FirstBest.keep {s : Sty} {first : Int} {l : List Gap} {n p : Nat} (h : FirstBest s first l n p) (hc : ¬ cost s first (l.zip (digs l n).1) < cost s first (l.zip (digs l p).1)) : FirstBest s first l (n + 1) p :=
  ⟨by have := h.1; omega, fun q hq => by
    by_cases hqn : q = n
    · rw [hqn]; omega
    · exact h.2.1 q (by omega), h.2.2⟩

theorem FirstBest.opt {s : Sty} {first : Int} {l : List Gap} {p : Nat} (hv : ∀ g ∈ l, g.valid = true) (h : FirstBest s first l (2 ^ fr l) p) : IsOpt s first l (digs l p).1 (cost s first (l.zip (digs l p).1)) := by
  have hn : ∀ x : List Bool, x.length = l.length → (l.zip x).all fitB = true → digs l (num l x) = (x, 0) := fun x hx hf => by
    have := digs_num l x 0 hv hx hf
    simpa using this
  refine ⟨digs_len l p, digs_fit l p hv, rfl, fun x hx hf => ?_, fun x hx hf j hj hs hy hxj => ?_⟩
  · have := h.2.1 (num l x) (num_lt l x)
    rw [hn x hx hf] at this
    exact this
  · have hlt := num_lex l x (digs l p).1 j hv hx (digs_len l p) hf (digs_fit l p hv) hj hs hy hxj
    have hpn : num l (digs l p).1 = p := by
      have h1 := hn (digs l p).1 (digs_len l p) (digs_fit l p hv)
      have : ∀ (l : List Gap) (n : Nat), n < 2 ^ fr l → num l (digs l n).1 = n := fun l n hn => by
        have : ∀ (l : List Gap) (n : Nat), num l (digs l n).1 = n % 2 ^ fr l ∧ (digs l n).2 = n / 2 ^ fr l := by
          intro l
          induction l with
          | nil => intro n; simp [num, digs, fr, Nat.mod_one]
          | cons g l ih =>
            intro n
            obtain ⟨i1, i2⟩ := ih n
            cases hg : g.free
            · have e : fr (g :: l) = fr l := by simp [fr, hg]
              have e2 : digs (g :: l) n = (g.must :: (digs l n).1, (digs l n).2) := by rw [digs, hg]; simp
              rw [e, e2]
              exact ⟨by simp [num, hg, i1], i2⟩
            · have e : fr (g :: l) = fr l + 1 := by simp only [fr, hg, if_true]; omega
              have e2 : digs (g :: l) n = (decide ((digs l n).2 % 2 = 1) :: (digs l n).1, (digs l n).2 / 2) := by rw [digs, hg]; simp
              rw [e, e2]
              refine ⟨?_, ?_⟩
              · simp only [num, hg, true_and, decide_eq_true_eq, i1, i2]
                rw [Nat.pow_succ, Nat.mod_mul]
                rcases Nat.mod_two_eq_zero_or_one (n / 2 ^ fr l) with h | h
                · rw [h]; simp
                · rw [h]; simp; omega
              · rw [i2, Nat.div_div_eq_div_mul, Nat.pow_succ]
        rw [(this l n).1, Nat.mod_eq_of_lt hn]
      exact this l p h.1
    have := h.2.2 (num l x) (by omega)
    rw [hn x hx hf] at this
    exact this
end Go.Proofs.Ytblooekephkojaa

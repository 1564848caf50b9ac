/- told.Parse, plain: a run over lines; bounds; the reader's memory under writes that are no cells'. -/
import Derived.Test.YtodjhgalbaelkaaDoorTwZ
namespace Go.Proofs.YtodjhgalbaelkaaDoor
open Go.RowKit Go.BigFrame Go.Shelf
set_option linter.unusedVariables false

def st0 : St := ⟨[], 0, 0, [], false⟩
def runL : St → List Bs → Option St
  | st, [] => some st
  | st, x :: r => (stepL st x).bind fun st' => runL st' r
def wrongAt : St → Nat → List Bs → Nat
  | _, _, [] => 0
  | st, i, x :: r => match stepL st x with
    | none => i + 1
    | some st' => wrongAt st' (i + 1) r
def doneP (st : St) : Bool := st.want == 0 && (match st.l.getLast? with | none => true | some c => !(c.2.length == 0))
def parseB (s : Bs) : Sum Nat St :=
  match runL st0 (lines s) with
  | none => .inl (wrongAt st0 0 (lines s))
  | some st => if doneP st = true then .inr st else .inl ((lines s).length + 1)
theorem runL_append : ∀ (l m : List Bs) (st : St), runL st (l ++ m) = (runL st l).bind fun st' => runL st' m
  | [], m, st => rfl
  | x :: l, m, st => by
    rw [List.cons_append, runL, runL]
    cases stepL st x with
    | none => rfl
    | some st' => exact runL_append l m st'
theorem runL_snoc (l : List Bs) (x : Bs) (st : St) : runL st (l ++ [x]) = (runL st l).bind fun st' => stepL st' x := by
  rw [runL_append]
  congr 1
  funext st'
  rw [runL]
  cases stepL st' x <;> rfl
theorem wrong_at : ∀ (l : List Bs) (x : Bs) (r : List Bs) (st st' : St) (i : Nat), runL st l = some st' → stepL st' x = none → runL st (l ++ x :: r) = none ∧ wrongAt st i (l ++ x :: r) = i + l.length + 1
  | [], x, r, st, st', i, h, hx => by
    cases h
    constructor
    · rw [List.nil_append, runL, hx]; rfl
    · rw [List.nil_append, wrongAt, hx]; rfl
  | y :: l, x, r, st, st', i, h, hx => by
    rw [runL] at h
    cases hy : stepL st y with
    | none => rw [hy] at h; cases h
    | some st1 =>
      rw [hy] at h
      obtain ⟨h1, h2⟩ := wrong_at l x r st1 st' (i + 1) h hx
      constructor
      · rw [List.cons_append, runL, hy]; exact h1
      · rw [List.cons_append, wrongAt, hy]; simp only; rw [h2]; simp; omega
theorem doneOk_pcs (l : List Chg) (want : Nat) (last : Int) (text : Bs) (o : Bool) : doneOk l (want : Int) = doneP ⟨pcs l, last, want, text, o⟩ := by
  unfold doneOk doneP
  rw [getLast_pcs]
  have : ((want : Int) == 0) = (want == 0) := by
    rw [Bool.eq_iff_iff, beq_iff_eq, beq_iff_eq]; omega
  rw [this]
  cases l.getLast? <;> rfl
/-- No more than m of all. -/
structure Sz (st : St) (m : Nat) : Prop where
  l : st.l.length ≤ m
  es : ∀ c ∈ st.l, c.2.length ≤ m
  tx : st.text.length ≤ m
  want : st.want ≤ 99999
theorem sz_set {l : List Pc} {t : Bs} {m : Nat} (h1 : l.length ≤ m) (h2 : ∀ c ∈ l, c.2.length ≤ m) : (setTxt l t).length ≤ m ∧ ∀ c ∈ setTxt l t, c.2.length ≤ m := by
  rcases List.eq_nil_or_concat l with rfl | ⟨d, c, rfl⟩
  · exact ⟨h1, h2⟩
  · rw [List.concat_eq_append] at h1 h2 ⊢
    obtain ⟨n, es⟩ := c
    rcases List.eq_nil_or_concat es with rfl | ⟨e0, x, rfl⟩
    · have : setTxt (d ++ [(n, [])]) t = d ++ [(n, [])] := by simp [setTxt]
      rw [this]; exact ⟨h1, h2⟩
    · rw [List.concat_eq_append] at h1 h2 ⊢
      rw [setTxt_at]
      refine ⟨by simpa using h1, fun c hc => ?_⟩
      rcases List.mem_append.1 hc with hc | hc
      · exact h2 c (List.mem_append_left _ hc)
      · rw [List.mem_singleton] at hc
        subst hc
        have := h2 (n, e0 ++ [x]) (by simp)
        simpa using this
theorem sz_step {st st' : St} {x : Bs} {m : Nat} (h : Sz st m) (hx : stepL st x = some st') : Sz st' (m + x.length) := by
  unfold stepL at hx
  split at hx
  · cases hx
  rename_i he
  have hpos : 0 < x.length := by
    rcases List.eq_nil_or_concat x with rfl | ⟨d, c, rfl⟩
    · exact absurd rfl he
    · simp
  have htl : (tlB x).length = x.length - 1 := by unfold tlB; rw [List.length_take]; omega
  split at hx
  · split at hx
    · cases hx
      unfold wantP
      have hu : ((tlB x).drop 1).length ≤ x.length - 1 := by rw [List.length_drop]; omega
      split
      · obtain ⟨s1, s2⟩ := sz_set (t := st.text ++ (tlB x).drop 1 ++ [10]) h.l h.es
        exact ⟨by show (setTxt _ _).length ≤ _; omega, fun c hc => by have := s2 c hc; omega, by show (st.text ++ (tlB x).drop 1 ++ [10]).length ≤ _; have := h.tx; simp only [List.length_append, List.length_singleton]; omega, by show 0 ≤ 99999; omega⟩
      · exact ⟨by show st.l.length ≤ _; have := h.l; omega, fun c hc => by have := h.es c hc; omega, by show (st.text ++ (tlB x).drop 1 ++ [10]).length ≤ _; have := h.tx; simp only [List.length_append, List.length_singleton]; omega, by show st.want - 1 ≤ 99999; have := h.want; omega⟩
    · cases hx
  split at hx
  · cases hx
    obtain ⟨s1, s2⟩ := sz_set (t := st.text.take (st.text.length - 1)) h.l h.es
    exact ⟨by show (setTxt _ _).length ≤ _; omega, fun c hc => by have := s2 c hc; omega, by show st.text.length ≤ _; have := h.tx; omega, h.want⟩
  split at hx
  · unfold headP at hx
    split at hx
    · cases hx
      refine ⟨by show (st.l ++ [_]).length ≤ _; have := h.l; simp; omega, fun c hc => ?_, by show st.text.length ≤ _; have := h.tx; omega, h.want⟩
      have hc : c ∈ st.l ++ [_] := hc
      rcases List.mem_append.1 hc with hc | hc
      · have := h.es c hc; omega
      · rw [List.mem_singleton] at hc; subst hc; simp
    · cases hx
  split at hx
  · unfold editP at hx
    split at hx
    · cases hx
    · rename_i c hc
      split at hx
      · cases hx
      · rename_i y n hy
        cases hx
        have hcm : c ∈ st.l := List.mem_of_getLast? hc
        have hcl := h.es c hcm
        refine ⟨by show (st.l.dropLast ++ [_]).length ≤ _; have := h.l; simp; omega, fun c' hc' => ?_, by show 0 ≤ _; omega, ?_⟩
        · have hc' : c' ∈ st.l.dropLast ++ [(c.1, c.2 ++ [y])] := hc'
          rcases List.mem_append.1 hc' with hc' | hc'
          · have := h.es c' ((List.dropLast_sublist _).subset hc'); omega
          · rw [List.mem_singleton] at hc'; subst hc'; simp; omega
        · show n ≤ 99999
          unfold editR at hy
          split at hy
          · cases hy
          · split at hy
            · cases hy
            · split at hy
              · cases hy
              · rename_i n' hn'
                split at hy
                · cases hy; exact numB_le hn'
                · cases hy
  · cases hx
end Go.Proofs.YtodjhgalbaelkaaDoor

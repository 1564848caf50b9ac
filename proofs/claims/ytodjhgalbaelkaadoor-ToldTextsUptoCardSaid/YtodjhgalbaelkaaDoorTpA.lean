/- told, plain: lines, the parts of a path, names; strings as lists of bytes. -/
import Derived.Test.YtodjhgalbaelkaaDoorBas
import Derived.Lib.Bytealg
namespace Go.Proofs.YtodjhgalbaelkaaDoor
set_option linter.unusedVariables false

abbrev Bs := List UInt8
def str (l : Bs) : ByteArray := ⟨l.toArray⟩
@[simp] theorem str_data (l : Bs) : (str l).data.toList = l := by simp [str]
@[simp] theorem str_size (l : Bs) : (str l).size = l.length := by simp [str, ByteArray.size]
theorem str_of (s : ByteArray) : str s.data.toList = s := by simp [str]
theorem str_inj {a b : Bs} (h : str a = str b) : a = b := by have := congrArg (fun s => s.data.toList) h; simpa using this
theorem ext_str (s : ByteArray) (a b : Nat) : s.extract a b = str ((s.data.toList.drop a).take (b - a)) := by
  rw [← Lib.extract_data, str_of]
theorem ext_to (s : ByteArray) (a : Nat) : s.extract a s.size = str (s.data.toList.drop a) := by
  rw [ext_str, List.take_of_length_le]
  rw [List.length_drop]; exact Nat.le_refl _
theorem ext_from (s : ByteArray) (b : Nat) : s.extract 0 b = str (s.data.toList.take b) := by
  rw [ext_str]; simp

/-- A text's lines, with their ends. -/
def lines : Bs → List Bs
  | [] => []
  | c :: l => if c = 10 then [10] :: lines l else match lines l with | [] => [[c]] | x :: r => (c :: x) :: r
theorem lines_cons (c : UInt8) (l : Bs) : lines (c :: l) = if c = 10 then [10] :: lines l else match lines l with | [] => [[c]] | x :: r => (c :: x) :: r := rfl
theorem lines_flat : ∀ l : Bs, (lines l).flatten = l
  | [] => rfl
  | c :: l => by
    have ih := lines_flat l
    unfold lines
    split
    · rename_i h; subst h; simp [ih]
    · cases hl : lines l with
      | nil => rw [hl] at ih; simp at ih; subst ih; rfl
      | cons x r => rw [hl] at ih; simp at ih ⊢; exact ih
theorem lines_nil {l : Bs} : lines l = [] ↔ l = [] := by
  constructor
  · intro h; have := lines_flat l; rw [h] at this; simpa using this.symm
  · rintro rfl; rfl
/-- How long the first line is. -/
def fl : Bs → Nat
  | [] => 0
  | c :: l => if c = 10 then 1 else fl l + 1
theorem fl_cons (c : UInt8) (l : Bs) : fl (c :: l) = if c = 10 then 1 else fl l + 1 := rfl
theorem index_cons (b : UInt8) (l : Bs) (c : UInt8) : Lib.indexByte (b :: l) c = if b == c then 0 else if Lib.indexByte l c == -1 then -1 else Lib.indexByte l c + 1 := rfl
theorem fl_le : ∀ l : Bs, fl l ≤ l.length
  | [] => Nat.le_refl _
  | c :: l => by
    unfold fl; have := fl_le l
    split <;> simp <;> omega
theorem fl_pos {l : Bs} (h : l ≠ []) : 0 < fl l := by
  cases l with
  | nil => exact absurd rfl h
  | cons c l => unfold fl; split <;> omega
theorem lines_step : ∀ {l : Bs}, l ≠ [] → lines l = l.take (fl l) :: lines (l.drop (fl l))
  | [], h => absurd rfl h
  | c :: l, _ => by
    rw [lines_cons, fl_cons]
    by_cases h : c = 10
    · subst h; rw [if_pos rfl, if_pos rfl]; simp
    · rw [if_neg h, if_neg h]
      by_cases hl : l = []
      · subst hl; simp [lines, fl]
      · rw [lines_step hl]; simp
theorem fl_index (l : Bs) : Lib.indexByte l 10 = if 10 ∈ l then (fl l : Int) - 1 else -1 := by
  induction l with
  | nil => rfl
  | cons c l ih =>
    rw [index_cons, fl_cons]
    by_cases hc : c = 10
    · subst hc; simp
    · have hc2 : (c == 10) = false := by simpa using hc
      rw [hc2, if_neg hc, ih]
      by_cases hm : (10 : UInt8) ∈ l
      · have hp : 0 < fl l := fl_pos (fun e => by subst e; cases hm)
        rw [if_pos hm, if_pos (List.mem_cons_of_mem _ hm)]
        have : ((fl l : Int) - 1 == -1) = false := by rw [beq_eq_false_iff_ne]; omega
        rw [if_neg (by simp), this, if_neg (by simp)]
        omega
      · have h2 : (10 : UInt8) ∉ c :: l := by simp [hm]; exact fun e => hc e.symm
        rw [if_neg hm, if_neg h2]; rfl
theorem fl_none (l : Bs) (h : (10 : UInt8) ∉ l) : fl l = l.length := by
  induction l with
  | nil => rfl
  | cons c l ih =>
    unfold fl
    rw [if_neg (fun e => h (by simp [e])), ih (fun hm => h (List.mem_cons_of_mem _ hm))]; rfl
/-- Does a text end a line? -/
def ends (l : Bs) : Bool := l.getLast? == some 10
theorem hasSuffix_nl (l : Bs) : Lib.hasSuffix l [10] = ends l := by
  unfold Lib.hasSuffix ends
  rcases List.eq_nil_or_concat l with rfl | ⟨m, c, rfl⟩
  · rfl
  · rw [Bool.eq_iff_iff, List.isSuffixOf_iff_suffix]
    simp only [List.concat_eq_append, List.getLast?_append, List.getLast?_singleton, Option.some_or, beq_iff_eq, Option.some.injEq]
    constructor
    · rintro ⟨t, ht⟩
      have := (List.append_inj' ht rfl).2
      simpa using this.symm
    · rintro rfl; exact ⟨m, rfl⟩
theorem count_lines (l : Bs) : (lines l).length = l.count 10 + if l ≠ [] ∧ ends l = false then 1 else 0 := by
  induction l with
  | nil => rfl
  | cons c l ih =>
    by_cases hl : l = []
    · subst hl
      by_cases hc : c = 10
      · subst hc; decide
      · have h1 : (10 : UInt8) ∉ [c] := by simp; exact fun e => hc e.symm
        rw [List.count_eq_zero_of_not_mem h1, if_pos ⟨by simp, by simp [ends, hc]⟩]
        simp [lines, hc]
    · have he : ends (c :: l) = ends l := by
        unfold ends
        rw [List.getLast?_cons_of_ne_nil hl]
      have hne : (if c :: l ≠ [] ∧ ends (c :: l) = false then 1 else 0) = if l ≠ [] ∧ ends l = false then 1 else 0 := by rw [he]; simp [hl]
      rw [hne]
      rw [lines_cons]
      by_cases hc : c = 10
      · subst hc; rw [if_pos rfl, List.length_cons, ih, List.count_cons_self]; omega
      · rw [if_neg hc, List.count_cons_of_ne (by simpa using fun e => hc e)]
        cases hll : lines l with
        | nil => exact absurd (lines_nil.1 hll) hl
        | cons x r => rw [hll] at ih; simpa using ih

/-- The parts between slashes. -/
def parts : Bs → List Bs
  | [] => [[]]
  | c :: l => if c = 47 then [] :: parts l else match parts l with | [] => [[c]] | x :: r => (c :: x) :: r
theorem parts_cons (c : UInt8) (l : Bs) : parts (c :: l) = if c = 47 then [] :: parts l else match parts l with | [] => [[c]] | x :: r => (c :: x) :: r := rfl
theorem parts_ne (l : Bs) : parts l ≠ [] := by
  cases l with
  | nil => simp [parts]
  | cons c l => unfold parts; split <;> (try split) <;> simp
def isName (x : Bs) : Bool := !(x == [] || decide (32 < x.length) || x == [46] || x == [46, 46]) && x.all fun c => decide (33 ≤ c.toNat) && decide (c.toNat ≤ 126) && decide (c.toNat ≠ 47)
def isPath (s : Bs) : Bool := decide ((parts s).length ≤ 20) && (parts s).all isName
theorem parts_index (l : Bs) : (Lib.indexByte l 47 = -1 ∧ parts l = [l]) ∨ ∃ i : Nat, Lib.indexByte l 47 = i ∧ i < l.length ∧ parts l = l.take i :: parts (l.drop (i + 1)) := by
  induction l with
  | nil => exact .inl ⟨rfl, rfl⟩
  | cons c l ih =>
    by_cases hc : c = 47
    · subst hc
      refine .inr ⟨0, by rw [index_cons]; rfl, by simp, by simp [parts]⟩
    · have hc2 : (c == 47) = false := by simpa using hc
      rw [index_cons, parts_cons, hc2, if_neg hc, if_neg (by simp)]
      rcases ih with ⟨h1, h2⟩ | ⟨i, h1, h2, h3⟩
      · refine .inl ⟨by rw [h1]; rfl, by rw [h2]⟩
      · refine .inr ⟨i + 1, ?_, by simp; omega, by rw [h3]; simp⟩
        rw [h1]
        have : ((i : Int) == -1) = false := by rw [beq_eq_false_iff_ne]; omega
        simp [this]
end Go.Proofs.YtodjhgalbaelkaaDoor

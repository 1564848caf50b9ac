/- Plain: characters, splices; tokens of a logical text. -/

namespace Go.Proofs.YtbnhefibpjldfaaGreatDoor
set_option linter.unusedVariables false

abbrev Bs := List UInt8

def third (c : UInt8) : Option UInt8 :=
  if c = 61 then some 35 else if c = 47 then some 92 else if c = 39 then some 94 else if c = 40 then some 91 else if c = 41 then some 93 else if c = 33 then some 124 else if c = 60 then some 123 else if c = 62 then some 125 else if c = 45 then some 126 else none

/-- A part of a text: a character, or a splice. -/
structure Pt where
  b : UInt8
  pos : Nat
  len : Nat
  spl : Bool
deriving DecidableEq

/-- What the trigraph at a place stands for. -/
def tri (s : Bs) (i : Nat) : Option UInt8 := if s[i]? = some 63 ∧ s[i + 1]? = some 63 then (s[i + 2]?).bind third else none
def bas (s : Bs) (i : Nat) : UInt8 × Nat := match tri s i with | some c => (c, 3) | none => (s.getD i 0, 1)
def isSpl (s : Bs) (i : Nat) : Bool := (bas s i).1 == 92 && s[i + (bas s i).2]? == some 10
def ptAt (s : Bs) (i : Nat) : Pt := if isSpl s i then ⟨0, i, (bas s i).2 + 1, true⟩ else ⟨(bas s i).1, i, (bas s i).2, false⟩

theorem bas_pos (s : Bs) (i : Nat) : 1 ≤ (bas s i).2 := by unfold bas; split <;> simp
theorem bas_le {s : Bs} {i : Nat} (h : i < s.length) : i + (bas s i).2 ≤ s.length := by
  unfold bas
  split
  · rename_i c hc
    unfold tri at hc
    split at hc
    · cases h2 : s[i + 2]? with
      | none => simp [h2] at hc
      | some x => have := (List.getElem?_eq_some_iff.1 h2).1; simp; omega
    · simp at hc
  · simp; omega
theorem pt_pos (s : Bs) (i : Nat) : 1 ≤ (ptAt s i).len := by unfold ptAt; have := bas_pos s i; split <;> simp <;> omega
theorem pt_le {s : Bs} {i : Nat} (h : i < s.length) : i + (ptAt s i).len ≤ s.length := by
  have h1 := bas_le h
  unfold ptAt
  split
  · rename_i hs
    unfold isSpl at hs
    simp only [Bool.and_eq_true, beq_iff_eq] at hs
    have := (List.getElem?_eq_some_iff.1 hs.2).1
    simp; omega
  · simpa using h1

/-- The prts from a place on. -/
def prts (s : Bs) (i : Nat) : List Pt := if h : i < s.length then ptAt s i :: prts s (i + (ptAt s i).len) else []
termination_by s.length - i
decreasing_by have := pt_pos s i; omega
theorem prts_lt {s : Bs} {i : Nat} (h : i < s.length) : prts s i = ptAt s i :: prts s (i + (ptAt s i).len) := by rw [prts, dif_pos h]
theorem prts_ge {s : Bs} {i : Nat} (h : s.length ≤ i) : prts s i = [] := by rw [prts, dif_neg (by omega)]

/-- Does the part end well at the text's end? -/
def endBad (p : Pt) : Bool := p.spl || p.b != 10
def badEnd (s : Bs) : Bool := match (prts s 0).getLast? with | none => false | some p => endBad p
def chk (s : Bs) : Nat := if 65536 < s.length then 3 else if badEnd s then 10 else 0
def chars (s : Bs) : List Pt := (prts s 0).filter fun p => !p.spl
def logic (s : Bs) : Bs := (chars s).map (·.b)

theorem third_ten {c d : UInt8} (h : third c = some d) : d ≠ 10 ∧ c ≠ 10 := by
  unfold third at h
  repeat' split at h
  all_goals first | (cases h; done) | (rename_i hc; have h1 := Option.some.inj h; subst h1; subst hc; decide)

/-- The last part of a text that is a character ends the line just if the last byte does. -/
theorem last_ten {s : Bs} {i : Nat} (h : i < s.length) (he : i + (ptAt s i).len = s.length) (hs : (ptAt s i).spl = false) : ((ptAt s i).b = 10 ↔ s.getLast? = some 10) := by
  unfold ptAt at he hs ⊢
  split at hs
  · simp at hs
  rename_i hsp
  simp only [hsp, Bool.false_eq_true, if_false] at he ⊢
  have hl : s.getLast? = s[s.length - 1]? := by rw [List.getLast?_eq_getElem?]
  unfold bas at he ⊢
  split at he <;> rename_i hc
  · simp only [hc] at he ⊢
    unfold tri at hc
    split at hc
    · cases h2 : s[i + 2]? with
      | none => simp [h2] at hc
      | some x =>
        rw [h2] at hc
        have := third_ten hc
        rw [hl, show s.length - 1 = i + 2 by omega, h2]
        simp [this]
    · simp at hc
  · simp only [hc] at he ⊢
    rw [hl, show s.length - 1 = i by omega, List.getElem?_eq_getElem h]
    simp [List.getD, h]

/-- All prts: each begins where the one ahead ends, the last one ends at the end. -/
theorem prts_last {s : Bs} : ∀ {i : Nat}, i < s.length → ∃ k, (prts s i).getLast? = some (ptAt s k) ∧ k < s.length ∧ k + (ptAt s k).len = s.length := by
  intro i h
  induction hn : s.length - i using Nat.strongRecOn generalizing i with
  | _ n ih =>
    rw [prts_lt h]
    have h1 := pt_pos s i
    have h2 := pt_le h
    by_cases hl : i + (ptAt s i).len < s.length
    · obtain ⟨k, hk, h3⟩ := ih (s.length - (i + (ptAt s i).len)) (by omega) hl rfl
      refine ⟨k, ?_, h3⟩
      rw [List.getLast?_cons, hk]; rfl
    · rw [prts_ge (by omega)]
      exact ⟨i, rfl, h, by omega⟩
/-- Whether the text ends badly, as the document says it. -/
theorem badEnd_ref (s : Bs) : badEnd s = (decide (0 < s.length) && (((prts s 0).getLast?.map (·.spl)).getD false || s.getLast? != some 10)) := by
  unfold badEnd
  by_cases h : 0 < s.length
  · obtain ⟨k, hk, hk1, hk2⟩ := prts_last h
    rw [hk]
    simp only [h, decide_true, Bool.true_and, Option.map_some, Option.getD_some, endBad]
    cases hs : (ptAt s k).spl with
    | true => rfl
    | false =>
      have := last_ten hk1 hk2 hs
      simp only [Bool.false_or]
      by_cases h10 : (ptAt s k).b = 10
      · rw [h10, this.1 h10]; rfl
      · have h11 : ¬ s.getLast? = some 10 := fun e => h10 (this.2 e)
        have e1 : ((ptAt s k).b != 10) = true := by simpa using h10
        have e2 : (s.getLast? != some 10) = true := by simpa using h11
        rw [e1, e2]
  · rw [prts_ge (by omega)]; simp [h]
end Go.Proofs.YtbnhefibpjldfaaGreatDoor

/- PkB -/
namespace Go.Proofs.YtbnhefibpjldfaaGreatDoor
set_option linter.unusedVariables false

def isWhite (c : UInt8) : Bool := decide (c.toNat = 32) || decide (c.toNat = 9) || decide (c.toNat = 11) || decide (c.toNat = 12)
def letter (c : UInt8) : Bool := (decide (97 ≤ c.toNat) && decide (c.toNat ≤ 122)) || (decide (65 ≤ c.toNat) && decide (c.toNat ≤ 90)) || decide (c.toNat = 95)
def digit (c : UInt8) : Bool := decide (48 ≤ c.toNat) && decide (c.toNat ≤ 57)
def sign (c : UInt8) : Bool := decide (c.toNat = 43) || decide (c.toNat = 45)
def expo (c : UInt8) : Bool := decide (c.toNat = 101) || decide (c.toNat = 69) || decide (c.toNat = 112) || decide (c.toNat = 80)
/-- What may stand inside a number. -/
def numc (c : UInt8) : Bool := digit c || letter c || decide (c.toNat = 46)

def wRun : Bs → Nat
  | [] => 0
  | c :: r => if letter c || digit c then wRun r + 1 else 0
def wLen : Bs → Nat
  | [] => 0
  | c :: r => if letter c then wRun r + 1 else 0
def nRun : Bs → Nat
  | [] => 0
  | [c] => if numc c then 1 else 0
  | c :: d :: r => if expo c && sign d then nRun r + 2 else if numc c then nRun (d :: r) + 1 else 0
def nLen : Bs → Nat
  | [] => 0
  | [c] => if digit c then 1 else 0
  | c :: d :: r => if c.toNat = 46 then (if digit d then nRun r + 2 else 0) else if digit c then nRun (d :: r) + 1 else 0
/-- How far the pieces of a literal go, with the quote that ends them. -/
def qRun (q : UInt8) : Bs → Option Nat
  | [] => none
  | [c] => if c = 10 then none else if c = q then some 1 else none
  | c :: d :: r => if c = 10 then none else if c = q then some 1 else if c = 92 then (if d = 10 then none else (qRun q r).map (· + 2)) else (qRun q (d :: r)).map (· + 1)
def qPre (t : Bs) : Nat := if t.take 3 = [117, 56, 34] then 2 else if t.head? = some 117 ∨ t.head? = some 85 ∨ t.head? = some 76 then 1 else 0
def qLen (t : Bs) : Nat × Nat :=
  match t.drop (qPre t) with
  | [] => (0, 0)
  | q :: r => if q = 39 ∨ q = 34 then (match qRun q r with | none => (0, 0) | some m => if q = 34 then (4, qPre t + 1 + m) else if 1 < m then (3, qPre t + 1 + m) else (0, 0)) else (0, 0)
def puncts : List Bs := [[91], [93], [40], [41], [123], [125], [46], [45, 62], [43, 43], [45, 45], [38], [42], [43], [45], [126], [33],
  [47], [37], [60, 60], [62, 62], [60], [62], [60, 61], [62, 61], [61, 61], [33, 61], [94], [124], [38, 38], [124, 124],
  [63], [58], [59], [46, 46, 46], [61], [42, 61], [47, 61], [37, 61], [43, 61], [45, 61], [60, 60, 61], [62, 62, 61], [38, 61], [94, 61], [124, 61],
  [44], [35], [35, 35], [60, 58], [58, 62], [60, 37], [37, 62], [37, 58], [37, 58, 37, 58]]
def pDown (t : Bs) : Nat → Nat
  | 0 => 0
  | n + 1 => if puncts.contains (t.take (n + 1)) then n + 1 else pDown t n
def pLen (t : Bs) : Nat := pDown t (min 4 t.length)

def isWord : Bs → Bool
  | [] => false
  | c :: r => letter c && r.all fun x => letter x || digit x
/-- Is a text, told from its end, a number? -/
def isNumR : Bs → Bool
  | [] => false
  | [a] => digit a
  | c :: b :: r => if r = [] ∧ b.toNat = 46 then digit c else if sign c then decide (r ≠ []) && expo b && isNumR r else numc c && isNumR (b :: r)
def isNum (t : Bs) : Bool := isNumR t.reverse
def isPcs (q : UInt8) : Bs → Bool
  | [] => true
  | [c] => c ≠ q && c ≠ 10 && c ≠ 92
  | c :: d :: r => if c = q ∨ c = 10 then false else if c = 92 then d ≠ 10 && isPcs q r else isPcs q (d :: r)
def litAt (q : UInt8) (p t : Bs) : Bool := decide (p.length + 2 ≤ t.length) && t.take p.length == p && t[p.length]? == some q && t.getLast? == some q && isPcs q ((t.drop (p.length + 1)).take (t.length - p.length - 2))
def isLit (q : UInt8) : List Bs → Bs → Bool
  | [], _ => false
  | p :: ps, t => if litAt q p t then (q == 34 || decide (p.length + 2 < t.length)) else isLit q ps t
def pre39 : List Bs := [[], [117], [85], [76]]
def pre34 : List Bs := [[], [117, 56], [117], [85], [76]]
def kindOf (t : Bs) : Nat :=
  if t = [10] then 9 else if isWord t then 1 else if isNum t then 2 else if isLit 39 pre39 t then 3 else if isLit 34 pre34 t then 4 else if puncts.contains t then 5 else 0
/-- How many bytes are ahead of the first byte 10. -/
def toNl : Bs → Nat
  | [] => 0
  | c :: r => if c = 10 then 0 else toNl r + 1
def downK (t : Bs) : Nat → Nat × Nat
  | 0 => if t.head? = some 39 ∨ t.head? = some 34 then (0, 0) else (6, 1)
  | n + 1 => if 0 < kindOf (t.take (n + 1)) then (kindOf (t.take (n + 1)), n + 1) else downK t n
/-- The longest token, as the document finds it. -/
def longR (t : Bs) : Nat × Nat := if toNl t = 0 then (9, 1) else downK t (toNl t)
def best (a b : Nat × Nat) : Nat × Nat := if a.2 < b.2 then b else a
/-- The longest token, as the program finds it. -/
def longP (t : Bs) : Nat × Nat :=
  if t.head? = some 10 then (9, 1)
  else
    let b := best (best (best (best (0, 0) (qLen t)) (1, wLen t)) (2, nLen t)) (5, pLen t)
    if b.1 ≠ 0 then b else if t.head? = some 39 ∨ t.head? = some 34 then (0, 0) else (6, 1)

-- words
theorem wRun_le : ∀ r : Bs, wRun r ≤ toNl r
  | [] => by simp [wRun, toNl]
  | c :: r => by
    simp only [wRun, toNl]
    split
    · rename_i h
      have hc : c ≠ 10 := by rintro rfl; revert h; decide
      simp [hc, wRun_le r]
    · exact Nat.zero_le _
theorem wRun_take : ∀ r : Bs, (r.take (wRun r)).all (fun x => letter x || digit x) = true
  | [] => by simp [wRun]
  | c :: r => by
    simp only [wRun]
    split
    · rename_i h
      simp only [List.take_succ_cons, List.all_cons, h, wRun_take r, Bool.and_self]
    · simp
theorem wRun_ge : ∀ (r : Bs) (n : Nat), n ≤ r.length → (r.take n).all (fun x => letter x || digit x) = true → n ≤ wRun r
  | r, 0, _, _ => Nat.zero_le _
  | [], n + 1, h, _ => by simp at h
  | c :: r, n + 1, h, ha => by
    simp only [List.take_succ_cons, List.all_cons, Bool.and_eq_true] at ha
    simp only [wRun, ha.1, if_true]
    have := wRun_ge r n (by simpa using h) ha.2
    omega
theorem word_ge (t : Bs) (n : Nat) (hn : n ≤ t.length) (h : isWord (t.take n) = true) : n ≤ wLen t := by
  cases t with
  | nil => simp at hn; omega
  | cons c r =>
    cases n with
    | zero => exact Nat.zero_le _
    | succ n =>
      simp only [List.take_succ_cons, isWord, Bool.and_eq_true] at h
      simp only [wLen, h.1, if_true]
      have := wRun_ge r n (by simpa using hn) h.2
      omega
theorem word_end (t : Bs) (h : 0 < wLen t) : isWord (t.take (wLen t)) = true ∧ wLen t ≤ toNl t := by
  cases t with
  | nil => simp [wLen] at h
  | cons c r =>
    by_cases hl : letter c = true
    · have hc : c ≠ 10 := by rintro rfl; revert hl; decide
      simp only [wLen, hl, if_true, List.take_succ_cons, isWord, Bool.true_and, wRun_take r, true_and, toNl, hc, if_false]
      have := wRun_le r; omega
    · simp [wLen, hl] at h

-- numbers
inductive Rest : Bs → Prop
  | nil : Rest []
  | one {c : UInt8} {r : Bs} : numc c = true → Rest r → Rest (c :: r)
  | two {c d : UInt8} {r : Bs} : expo c = true → sign d = true → Rest r → Rest (c :: d :: r)
inductive Num : Bs → Prop
  | one {c : UInt8} {r : Bs} : digit c = true → Rest r → Num (c :: r)
  | two {c d : UInt8} {r : Bs} : c.toNat = 46 → digit d = true → Rest r → Num (c :: d :: r)
theorem Rest.app {x y : Bs} (h : Rest x) (k : Rest y) : Rest (x ++ y) := by
  induction h with
  | nil => exact k
  | one h _ ih => exact .one h ih
  | two h1 h2 _ ih => exact .two h1 h2 ih
theorem Num.app {x y : Bs} (h : Num x) (k : Rest y) : Num (x ++ y) := by
  cases h with
  | one h r => exact .one h (r.app k)
  | two h1 h2 r => exact .two h1 h2 (r.app k)
/-- Where what stands inside a number ends. -/
theorem Rest.last {x : Bs} (h : Rest x) : x = [] ∨ (∃ y c, x = y ++ [c] ∧ numc c = true ∧ Rest y) ∨ (∃ y c d, x = y ++ [c, d] ∧ expo c = true ∧ sign d = true ∧ Rest y) := by
  induction h with
  | nil => exact .inl rfl
  | @one c r h hr ih =>
    right
    rcases ih with rfl | ⟨y, e, rfl, he, hy⟩ | ⟨y, e, d, rfl, he, hd, hy⟩
    · exact .inl ⟨[], c, rfl, h, .nil⟩
    · exact .inl ⟨c :: y, e, rfl, he, .one h hy⟩
    · exact .inr ⟨c :: y, e, d, rfl, he, hd, .one h hy⟩
  | @two c d r h1 h2 hr ih =>
    right
    rcases ih with rfl | ⟨y, e, rfl, he, hy⟩ | ⟨y, e, f, rfl, he, hf, hy⟩
    · exact .inr ⟨[], c, d, rfl, h1, h2, .nil⟩
    · exact .inl ⟨c :: d :: y, e, rfl, he, .two h1 h2 hy⟩
    · exact .inr ⟨c :: d :: y, e, f, rfl, he, hf, .two h1 h2 hy⟩
theorem digit_numc {c : UInt8} (h : digit c = true) : numc c = true := by simp [numc, h]
theorem digit_dot {c : UInt8} (h : digit c = true) : c.toNat ≠ 46 := by simp only [digit, Bool.and_eq_true, decide_eq_true_eq] at h; omega
theorem digit_sign {c : UInt8} (h : numc c = true) : sign c = false := by
  simp only [numc, digit, letter, Bool.or_eq_true, Bool.and_eq_true, decide_eq_true_eq] at h
  simp only [sign, Bool.or_eq_false_iff, decide_eq_false_iff_not]
  omega
theorem sign_numc {c : UInt8} (h : sign c = true) : numc c = false ∧ expo c = false := by
  constructor
  · cases hn : numc c with
    | false => rfl
    | true => rw [digit_sign hn] at h; cases h
  · simp only [sign, Bool.or_eq_true, decide_eq_true_eq] at h
    simp only [expo, Bool.or_eq_false_iff, decide_eq_false_iff_not]
    omega
theorem Num.ne {x : Bs} (h : Num x) : x ≠ [] := by cases h <;> simp
theorem isNumR_num : ∀ (x : Bs), isNumR x = true → Num x.reverse
  | [], h => by simp [isNumR] at h
  | [a], h => .one (by simpa [isNumR] using h) .nil
  | c :: b :: r, h => by
    simp only [isNumR] at h
    split at h
    · rename_i hr
      obtain ⟨rfl, hb⟩ := hr
      exact .two hb h .nil
    · split at h
      · simp only [Bool.and_eq_true, decide_eq_true_eq] at h
        rename_i hs
        have := (isNumR_num r h.2).app (.two h.1.2 hs .nil)
        simpa using this
      · simp only [Bool.and_eq_true] at h
        have := (isNumR_num (b :: r) h.2).app (.one h.1 .nil)
        simpa using this
theorem isNum_snoc (x : Bs) (c : UInt8) (hx : isNum x = true) (hc : numc c = true) : isNum (x ++ [c]) = true := by
  unfold isNum at hx ⊢
  rw [List.reverse_append]
  cases hr : x.reverse with
  | nil => rw [hr] at hx; simp [isNumR] at hx
  | cons b r =>
    rw [hr] at hx
    show isNumR (c :: b :: r) = true
    simp only [isNumR, digit_sign hc, Bool.false_eq_true, if_false, hc, Bool.true_and, hx]
    split
    · rename_i h
      obtain ⟨rfl, hb⟩ := h
      simp only [isNumR] at hx
      exact absurd hb (digit_dot hx)
    · rfl
theorem isNum_two (x : Bs) (c d : UInt8) (hx : isNum x = true) (hc : expo c = true) (hd : sign d = true) : isNum (x ++ [c, d]) = true := by
  unfold isNum at hx ⊢
  rw [List.reverse_append]
  show isNumR (d :: c :: x.reverse) = true
  have hne : x.reverse ≠ [] := by rintro e; rw [e] at hx; simp [isNumR] at hx
  simp only [isNumR, hne, false_and, if_false, hd, if_true, hc, hx, ne_eq, not_false_eq_true, decide_true, Bool.and_self]
theorem num_isNum {x : Bs} (h : Num x) : isNum x = true := by
  have base : ∀ (s : Bs), isNum s = true → ∀ (n : Nat) (r : Bs), r.length ≤ n → Rest r → isNum (s ++ r) = true := by
    intro s hs n
    induction n with
    | zero => intro r hr _; rw [List.length_eq_zero_iff.1 (Nat.le_zero.1 hr), List.append_nil]; exact hs
    | succ n ih =>
      intro r hr hR
      rcases hR.last with rfl | ⟨y, e, rfl, he, hy⟩ | ⟨y, e, f, rfl, he, hf, hy⟩
      · rw [List.append_nil]; exact hs
      · rw [← List.append_assoc]
        exact isNum_snoc _ _ (ih y (by simp at hr; omega) hy) he
      · rw [← List.append_assoc]
        exact isNum_two _ _ _ (ih y (by simp at hr; omega) hy) he hf
  cases h with
  | @one c r h hr => exact base [c] (by simpa [isNum, isNumR] using h) _ r (Nat.le_refl _) hr
  | @two c d r h1 h2 hr => exact base [c, d] (by simpa [isNum, isNumR, h1] using h2) _ r (Nat.le_refl _) hr
theorem isNum_iff (x : Bs) : isNum x = true ↔ Num x := ⟨fun h => by have := isNumR_num _ h; simpa using this, num_isNum⟩
theorem rest_ge {x : Bs} (h : Rest x) : ∀ y : Bs, x.length ≤ nRun (x ++ y) := by
  induction h with
  | nil => intro y; exact Nat.zero_le _
  | @one c r h hr ih =>
    intro y
    have h1 := ih y
    cases hry : r ++ y with
    | nil =>
      obtain rfl : r = [] := (List.append_eq_nil_iff.1 hry).1
      simp only [List.nil_append] at hry
      subst hry
      simp [nRun, h]
    | cons d z =>
      rw [hry] at h1
      simp only [List.cons_append, hry, nRun, h, if_true, List.length_cons]
      split
      · rename_i hes
        simp only [Bool.and_eq_true] at hes
        have : r = [] := by
          cases hr with
          | nil => rfl
          | one h2 _ => obtain ⟨rfl, -⟩ := List.cons.inj hry; rw [(sign_numc hes.2).1] at h2; cases h2
          | two h2 _ _ => obtain ⟨rfl, -⟩ := List.cons.inj hry; rw [(sign_numc hes.2).2] at h2; cases h2
        subst this
        simp
      · omega
  | @two c d r h1 h2 hr ih =>
    intro y
    have := ih y
    simp only [List.cons_append, nRun, h1, h2, Bool.and_self, if_true, List.length_cons]
    omega
theorem rest_run : ∀ r : Bs, Rest (r.take (nRun r)) ∧ nRun r ≤ toNl r
  | [] => ⟨.nil, Nat.le_refl _⟩
  | [c] => by
    simp only [nRun]
    split
    · rename_i h
      have hc : c ≠ 10 := by rintro rfl; revert h; decide
      exact ⟨.one h .nil, by simp [toNl, hc]⟩
    · exact ⟨.nil, Nat.zero_le _⟩
  | c :: d :: r => by
    simp only [nRun]
    split
    · rename_i h
      simp only [Bool.and_eq_true] at h
      have hc : c ≠ 10 := by rintro rfl; revert h; simp [expo]
      have hd : d ≠ 10 := by rintro rfl; revert h; simp [sign]
      obtain ⟨h1, h2⟩ := rest_run r
      exact ⟨.two h.1 h.2 h1, by simp [toNl, hc, hd]; omega⟩
    · split
      · rename_i h
        have hc : c ≠ 10 := by rintro rfl; revert h; decide
        obtain ⟨h1, h2⟩ := rest_run (d :: r)
        refine ⟨.one h h1, ?_⟩
        rw [toNl]; simp [hc]; exact h2
      · exact ⟨.nil, Nat.zero_le _⟩
theorem num_ge (t : Bs) (n : Nat) (hn : n ≤ t.length) (h : isNum (t.take n) = true) : n ≤ nLen t := by
  have hN := (isNum_iff _).1 h
  have hs : t = t.take n ++ t.drop n := (List.take_append_drop n t).symm
  have hl : (t.take n).length = n := by simp [hn]
  generalize t.take n = x at *
  generalize t.drop n = y at *
  subst hs
  cases hN with
  | @one c r hd hr =>
    have := rest_ge hr y
    simp only [List.length_cons] at hl
    cases hry : r ++ y with
    | nil => simp only [List.cons_append, hry, nLen, hd, if_true]; have := List.append_eq_nil_iff.1 hry; simp [this.1] at hl; omega
    | cons d z =>
      rw [hry] at this
      simp only [List.cons_append, hry, nLen, digit_dot hd, hd, if_true, if_false]
      omega
  | @two c d r hc hd hr =>
    have := rest_ge hr y
    simp only [List.length_cons] at hl
    simp only [List.cons_append, nLen, hc, hd, if_true]
    omega
theorem num_end (t : Bs) (h : 0 < nLen t) : isNum (t.take (nLen t)) = true ∧ nLen t ≤ toNl t := by
  rw [isNum_iff]
  match t with
  | [] => simp [nLen] at h
  | [c] =>
    by_cases hd : digit c = true
    · have hc : c ≠ 10 := by rintro rfl; revert hd; decide
      simp only [nLen, hd, if_true]
      exact ⟨.one hd .nil, by simp [toNl, hc]⟩
    · simp [nLen, hd] at h
  | c :: d :: r =>
    by_cases h46 : c.toNat = 46
    · by_cases hd : digit d = true
      · have hc : c ≠ 10 := by rintro rfl; revert h46; decide
        have hd2 : d ≠ 10 := by rintro rfl; revert hd; decide
        obtain ⟨h1, h2⟩ := rest_run r
        simp only [nLen, h46, hd, if_true]
        exact ⟨.two h46 hd h1, by simp [toNl, hc, hd2]; omega⟩
      · simp [nLen, h46, hd] at h
    · by_cases hd : digit c = true
      · have hc : c ≠ 10 := by rintro rfl; revert hd; decide
        obtain ⟨h1, h2⟩ := rest_run (d :: r)
        simp only [nLen, h46, hd, if_true, if_false]
        refine ⟨.one hd h1, ?_⟩
        rw [toNl]; simp [hc]; exact h2
      · simp [nLen, h46, hd] at h
end Go.Proofs.YtbnhefibpjldfaaGreatDoor

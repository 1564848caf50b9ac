/- told, plain: changes, and when they may be. -/
import Derived.Test.YtodjhgalbaelkaaDoorTwI
import Derived.WalkLawsBesides
namespace Go.Proofs.YtodjhgalbaelkaaDoor
open Go.RowKit
set_option linter.unusedVariables false

structure Chg where
  n : ByteArray
  ea : Option Addr
  ec : Nat
  es : List Edi
def Chg.f (c : Chg) : List Value := [.string c.n, .slice c.ea c.es.length c.ec]
theorem Chg.at {w : World} {b o : Nat} {c : Chg} (h : ∀ j v, (Chg.f c)[j]? = some v → w.cell? ⟨b, o + j, none⟩ = some v) :
    w.cell? ⟨b, o, none⟩ = some (.string c.n) ∧ w.cell? ⟨b, o + 1, none⟩ = some (.slice c.ea c.es.length c.ec) := ⟨h 0 _ rfl, h 1 _ rfl⟩
/-- Changes lie there. -/
def ChsAt (w : World) (a : Option Addr) (l : List Chg) : Prop := RowAt 2 Chg.f w a l ∧ ∀ c ∈ l, RowAt 3 Edi.f w c.ea c.es
theorem ChsAt.below {w w' : World} {a : Option Addr} {l : List Chg} (h : ChsAt w a l) (hb : Below w.heap.size w w') : ChsAt w' a l :=
  ⟨h.1.below hb (Nat.le_refl _) hb.size, fun c hc => (h.2 c hc).below hb (Nat.le_refl _) hb.size⟩
/-- No great texts. -/
structure Bnd (l : List Chg) : Prop where
  len : l.length ≤ 2000000
  n : ∀ c ∈ l, c.n.size ≤ 2000000
  es : ∀ c ∈ l, c.es.length ≤ 2000000
  t : ∀ c ∈ l, ∀ x ∈ c.es, x.t.size ≤ 2000000
def leB (a b : Bs) : Bool := Op.bytesLess a b || a == b
def okE (last : Int) (x : Edi) : Bool := nextB last x.a x.b (lines (dl x.t)).length
def okEs : Int → List Edi → Bool
  | _, [] => true
  | last, x :: r => okE last x && okEs x.b r
def okC (prev : Option ByteArray) (c : Chg) : Bool := isPath (dl c.n) && !(c.es.length == 0) && (match prev with | none => true | some p => !(leB (dl c.n) (dl p))) && okEs (-1) c.es
def okCs : Option ByteArray → List Chg → Bool
  | _, [] => true
  | p, c :: r => okC p c && okCs (some c.n) r
def prevOf (l : List Chg) (i : Nat) : Option ByteArray := match i with | 0 => none | k + 1 => l[k]?.map (·.n)
theorem okCs_at (l : List Chg) (i : Nat) (h : i < l.length) (p : Option ByteArray) : okCs p (l.drop i) = (okC p l[i] && okCs (prevOf l (i + 1)) (l.drop (i + 1))) := by
  have hp : prevOf l (i + 1) = some l[i].n := by
    show l[i]?.map (·.n) = _
    rw [List.getElem?_eq_getElem h]; rfl
  rw [List.drop_eq_getElem_cons h, okCs, hp]
theorem okEs_at (last : Int) (l : List Edi) (i : Nat) (h : i < l.length) : okEs last (l.drop i) = (okE last l[i] && okEs l[i].b (l.drop (i + 1))) := by
  rw [List.drop_eq_getElem_cons h]; rfl

/-! bytesLess is an order. -/
theorem less_irrefl : ∀ a : Bs, Op.bytesLess a a = false
  | [] => rfl
  | c :: a => by simp [Op.bytesLess, less_irrefl a]
theorem less_trans : ∀ a b c : Bs, Op.bytesLess a b = true → Op.bytesLess b c = true → Op.bytesLess a c = true
  | _, [], _, h, _ => by cases ‹Bs› <;> simp [Op.bytesLess] at h
  | _, _ :: _, [], _, h => by simp [Op.bytesLess] at h
  | [], _ :: _, _ :: _, _, _ => by simp [Op.bytesLess]
  | x :: a, y :: b, z :: c, h1, h2 => by
    simp only [Op.bytesLess, Bool.or_eq_true, decide_eq_true_eq, Bool.and_eq_true, beq_iff_eq] at *
    rcases h1 with h1 | ⟨rfl, h1⟩
    · rcases h2 with h2 | ⟨rfl, h2⟩
      · exact .inl (UInt8.lt_trans h1 h2)
      · exact .inl h1
    · rcases h2 with h2 | ⟨rfl, h2⟩
      · exact .inl h2
      · exact .inr ⟨rfl, less_trans a b c h1 h2⟩
theorem less_total : ∀ a b : Bs, Op.bytesLess a b = true ∨ a = b ∨ Op.bytesLess b a = true
  | [], [] => .inr (.inl rfl)
  | [], _ :: _ => .inl (by simp [Op.bytesLess])
  | _ :: _, [] => .inr (.inr (by simp [Op.bytesLess]))
  | x :: a, y :: b => by
    simp only [Op.bytesLess, Bool.or_eq_true, decide_eq_true_eq, Bool.and_eq_true, beq_iff_eq]
    by_cases hxy : x = y
    · subst hxy
      rcases less_total a b with h | h | h
      · exact .inl (.inr ⟨rfl, h⟩)
      · exact .inr (.inl (by rw [h]))
      · exact .inr (.inr (.inr ⟨rfl, h⟩))
    · rcases Nat.lt_trichotomy x.toNat y.toNat with h | h | h
      · exact .inl (.inl (UInt8.lt_iff_toNat_lt.2 h))
      · exact absurd (UInt8.toNat_inj.1 h) hxy
      · exact .inr (.inr (.inl (UInt8.lt_iff_toNat_lt.2 h)))
theorem not_le (a b : Bs) : leB a b = false ↔ Op.bytesLess b a = true := by
  unfold leB
  constructor
  · intro h
    simp at h
    rcases less_total a b with h1 | h1 | h1
    · rw [h.1] at h1; cases h1
    · exact absurd h1 h.2
    · exact h1
  · intro h
    have h1 : Op.bytesLess a b = false := by
      cases hh : Op.bytesLess a b
      · rfl
      · have := less_trans _ _ _ hh h; rw [less_irrefl] at this; cases this
    have h2 : a ≠ b := by rintro rfl; rw [less_irrefl] at h; cases h
    simp [h1, h2]
end Go.Proofs.YtodjhgalbaelkaaDoor

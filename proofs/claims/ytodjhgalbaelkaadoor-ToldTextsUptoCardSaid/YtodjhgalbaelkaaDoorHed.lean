/- A drawn region whose head is walked in every order, its tail once. -/
import Derived.Test.YtodjhgalbaelkaaDoorTal
import Derived.RegionTactic
namespace Go.Proofs.YtodjhgalbaelkaaDoor
open Go
set_option linter.unusedVariables false

section
variable {P : Program} {Q : Exit → Act → World → Prop}

def headTailB (l : List Oper) (n : Nat) : Bool :=
  headB .any l n && Region.sinkB .any l.toArray n && Region.chainB .any l.toArray n && decide (n < l.length) && Region.seqB .any l.toArray (l.length - n) n (fullB l n)

theorem wp_region_head {X : Type} {id : Nat} {a : Act} {w : World} {l : List Oper} (n : Nat) (g : X → Act → Act) (S : X → World → Prop) (hm : P.follows .mixedOrders = true) (hB : headTailB l n = true)
    (hhead : wpAny P .any (l.take n).toArray (fun e a' w' => e = .normal ∧ ∃ x, a' = g x a ∧ S x w') n (Array.replicate n false) a (World.drew w))
    (htail : ∀ x w', S x w' → wpList P l.toArray Q (l.drop n) (g x a) w') : (Code.region id l.toArray true).wp P Q a w := by
  refine wp_region_any hm ?_
  simp only [headTailB, Bool.and_eq_true, decide_eq_true_eq] at hB
  obtain ⟨⟨⟨⟨h1, h2⟩, h3⟩, h4⟩, h6⟩ := hB
  have hln : (l.take n).length = n := by simp; omega
  have := wpAny_split (P := P) (md := .any) (Q := Q) (g := l.length - n) h1 h2 h3 h4 (Qh := fun e a' w' => e = .normal ∧ ∃ x, a' = g x a ∧ S x w') (fun e a w he hh => absurd hh.1 he)
    (fun a' w' hh => by
      obtain ⟨_, x, rfl, hS⟩ := hh
      have := wpAny_of_seq (md := .any) (P := P) (Q' := Q) (l.drop n) n (fullB l n) (g x a) w' (fun j => by simp [List.getElem?_drop]) (by simpa using h6) (htail x w' hS)
      simpa using this)
    n (Array.replicate l.length false) (Array.replicate n false) a _
    ⟨by simp, by simp, fun i hi => by rw [getD_replicate_false, getD_replicate_false],
      ⟨by simp, fun j oj _ hl => (by rw [getD_replicate_false] at hl; cases hl), fun t _ ht => getD_in (by simpa using ht) (getD_replicate_false _ _)⟩⟩ hhead
  rw [show n + (l.length - n) = l.length from by omega] at this
  simpa using this
end
end Go.Proofs.YtodjhgalbaelkaaDoor

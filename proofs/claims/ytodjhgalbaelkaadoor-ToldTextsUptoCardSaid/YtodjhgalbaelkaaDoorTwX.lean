/- told: what a line makes of the reader's state (plain); the reader's memory without its text. -/
import Derived.Test.YtodjhgalbaelkaaDoorTwW
import Derived.Lib.AppendStr
namespace Go.Proofs.YtodjhgalbaelkaaDoor
open Go.RowKit Go.BigFrame Go.Shelf
set_option linter.unusedVariables false

abbrev Pc := ByteArray × List Edi
def pcs (l : List Chg) : List Pc := l.map fun c => (c.n, c.es)
structure St where
  l : List Pc
  last : Int
  want : Nat
  text : Bs
  opn : Bool
def setTxt (l : List Pc) (t : Bs) : List Pc :=
  match l.getLast? with
  | none => l
  | some c => l.dropLast ++ [(c.1, match c.2.getLast? with | none => c.2 | some x => c.2.dropLast ++ [⟨x.a, x.b, str t⟩])]
theorem setTxt_at (d : List Pc) (n : ByteArray) (es : List Edi) (x : Edi) (t : Bs) : setTxt (d ++ [(n, es ++ [x])]) t = d ++ [(n, es ++ [⟨x.a, x.b, str t⟩])] := by
  simp [setTxt]
def headOkP (l : List Pc) (name : Bs) : Bool := (match l.getLast? with | none => true | some c => !(c.2.length == 0) && !(leB name (dl c.1))) && isPath name
def headP (s : St) (name : Bs) : Option St := if headOkP s.l name = true then some { s with l := s.l ++ [(str name, [])], last := -1 } else none
def editP (s : St) (t : Bs) : Option St :=
  match s.l.getLast? with
  | none => none
  | some c => match editR s.last t with
    | none => none
    | some (x, n) => some { s with l := s.l.dropLast ++ [(c.1, c.2 ++ [x])], last := x.b, want := n, text := [] }
def tlB (l : Bs) : Bs := l.take (l.length - 1)
def wantP (s : St) (u : Bs) : St :=
  if s.want = 1 then { s with l := setTxt s.l (s.text ++ u ++ [10]), want := 0, text := s.text ++ u ++ [10], opn := !(u == []) } else { s with want := s.want - 1, text := s.text ++ u ++ [10], opn := false }
/-- A line. -/
def stepL (s : St) (line : Bs) : Option St :=
  if ends line = false then none
  else if 0 < s.want then (if Lib.hasPrefix (tlB line) [43] = true then some (wantP s ((tlB line).drop 1)) else none)
  else if tlB line = [45] ∧ s.opn = true then some { s with l := setTxt s.l (s.text.take (s.text.length - 1)), opn := false }
  else if Lib.hasPrefix (tlB line) [61, 32] = true then headP { s with opn := false } ((tlB line).drop 2)
  else if Lib.hasPrefix (tlB line) [64, 32] = true then editP { s with opn := false } ((tlB line).drop 2)
  else none
/-- While lines are wanted, or the last one may be open, there is a last edit; and there is a text that may be open. -/
def Good (s : St) : Prop := ((0 < s.want ∨ s.opn = true) → ∃ d n es x, s.l = d ++ [(n, es ++ [x])]) ∧ (s.opn = true → s.text ≠ [])
theorem good_head {s s' : St} {name : Bs} (h : headP s name = some s') (hw : s.want = 0) (ho : s.opn = false) : Good s' := by
  unfold headP at h
  split at h
  · cases h
    refine ⟨?_, fun h => by simp [ho] at h⟩
    rintro (h | h)
    · simp [hw] at h
    · simp [ho] at h
  · cases h
theorem good_edit {s s' : St} {t : Bs} (h : editP s t = some s') (ho : s.opn = false) : Good s' := by
  unfold editP at h
  split at h
  · cases h
  · rename_i c hc
    split at h
    · cases h
    · rename_i x n he
      cases h
      exact ⟨fun _ => ⟨_, _, _, _, rfl⟩, fun h => by simp [ho] at h⟩
theorem good_step {s s' : St} {line : Bs} (hg : Good s) (h : stepL s line = some s') : Good s' := by
  unfold stepL at h
  split at h
  · cases h
  split at h
  · rename_i hw
    split at h
    · obtain ⟨d, n, es, x, hl⟩ := hg.1 (.inl hw)
      cases h
      unfold wantP
      split
      · exact ⟨fun _ => ⟨d, n, es, _, by rw [show (_ : St).l = setTxt s.l _ from rfl, hl, setTxt_at]⟩, fun _ => by simp⟩
      · exact ⟨fun _ => ⟨d, n, es, x, hl⟩, fun h => by cases h⟩
    · cases h
  rename_i hw
  split at h
  · cases h
    refine ⟨?_, fun h => by cases h⟩
    rintro (h | h)
    · exact absurd h hw
    · cases h
  split at h
  · exact good_head h (by simpa using hw) rfl
  split at h
  · exact good_edit h rfl
  · cases h
theorem editP_none {l : List Chg} {last : Int} {want : Nat} {tx t : Bs} {o : Bool} (h : l = [] ∨ editR last t = none) : editP ⟨pcs l, last, want, tx, o⟩ t = none := by
  unfold editP
  rcases h with rfl | h
  · rfl
  · simp only [h]
    split <;> rfl
theorem editP_some {d : List Chg} {c : Chg} {last : Int} {want : Nat} {tx t : Bs} {o : Bool} {x : Edi} {n : Nat} (h : editR last t = some (x, n)) : editP ⟨pcs (d ++ [c]), last, want, tx, o⟩ t = some ⟨pcs d ++ [(c.n, c.es ++ [x])], x.b, n, [], o⟩ := by
  unfold editP
  simp [pcs, h]

/-- The reader's memory but for its text. -/
structure RdO (B K r : Nat) (lv tv : Value) (l : List Chg) (last want : Int) (opn : Bool) (w : World) : Prop where
  hd : w.heap[r]? = some (.cells #[lv, .int .i64 last, .int .i64 want, tv, .bool opn] 74 (0, 0))
  row : w.ownsRow B 48 2 lv l.length (l.flatMap Chg.f)
  old : ∀ c ∈ l.dropLast, w.ownsRow B 50 3 c.ev c.es.length (c.es.flatMap Edi.f) ∧ ∀ k, c.ev.ownBlock = some k → k < K
  new : ∀ c, l.getLast? = some c → w.ownsRow K 50 3 c.ev c.es.length (c.es.flatMap Edi.f)
  leB : B ≤ K
  leK : K ≤ w.heap.size
  leR : B ≤ r
section
variable {B K r : Nat} {lv tv : Value} {l : List Chg} {last want : Int} {text : Bs} {opn : Bool} {w w' : World}
theorem RdC.o (h : RdC B K r lv tv l last want text opn w) : RdO B K r lv tv l last want opn w := ⟨h.hd, h.row, h.old, h.new, h.leB, h.leK, h.leR⟩
theorem RdO.B_le (h : RdO B K r lv tv l last want opn w) : B ≤ w.heap.size := Nat.le_trans h.leB h.leK
theorem RdO.on (h : RdO B K r lv tv l last want opn w) (hb : Below w.heap.size w w') : RdO B K r lv tv l last want opn w' :=
  ⟨heap_below hb h.hd (Array.getElem?_eq_some_iff.1 h.hd).1, own_on h.row hb, fun c hc => ⟨own_on (h.old c hc).1 hb, (h.old c hc).2⟩, fun c hc => own_on (h.new c hc) hb, h.leB, Nat.le_trans h.leK hb.size, h.leR⟩
theorem RdO.grown {v : Value} {m : Nat} {ys : List Value} {X : Nat} (h : RdO B K r lv tv l last want opn w) (hv : w.ownsRow X 5 1 v m ys) (hg : w.grownBy w' v.ownBlock) : RdO B K r lv tv l last want opn w' :=
  ⟨other_block h.hd hv (by decide) hg, other_row h.row hv (by decide) hg, fun c hc => ⟨other_row (h.old c hc).1 hv (by decide) hg, (h.old c hc).2⟩, fun c hc => other_row (h.new c hc) hv (by decide) hg, h.leB, Nat.le_trans h.leK hg.size, h.leR⟩
theorem RdO.setText (h : RdO B K r lv tv l last want opn w) {v : Value} {t : Bs} (hv : w.ownsRow B 5 1 v t.length (Lib.byteCells t)) : RdC B K r lv v l last want t opn (w.setCell ⟨r, 3, none⟩ v) := by
  have hm : Mod (fun k => k = r) w (w.setCell ⟨r, 3, none⟩ v) := Mod.setCell (S := fun k => k = r) (Mod.refl _ w) ⟨r, 3, none⟩ (.inr rfl) v
  have key : ∀ {X e size n : Nat} {u : Value} {xs : List Value}, e ≠ 74 → w.ownsRow X e size u n xs → (w.setCell ⟨r, 3, none⟩ v).ownsRow X e size u n xs := fun he hx =>
    ownsRow_mod hx hm (fun k hk hkr => by
      subst hkr
      obtain ⟨_, cur, hc⟩ := row_cells hx hk
      rw [h.hd] at hc
      simp only [Option.some.injEq, Obj.cells.injEq] at hc
      exact he hc.2.1.symm)
  exact ⟨by simpa using heap_setCell_same w r 3 _ _ v h.hd, key (by decide) h.row, key (by decide) hv, fun c hc => ⟨key (by decide) (h.old c hc).1, (h.old c hc).2⟩, fun c hc => key (by decide) (h.new c hc), h.leB, by simpa using h.leK, h.leR⟩
end
end Go.Proofs.YtodjhgalbaelkaaDoor

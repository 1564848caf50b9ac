/- told: the reader's memory; done, head. -/
import Derived.Test.YtodjhgalbaelkaaDoorTwS
import Derived.Test.YtodjhgalbaelkaaDoorTwR
namespace Go.Proofs.YtodjhgalbaelkaaDoor
open Go.RowKit Go.BigFrame Go.Shelf
set_option linter.unusedVariables false

def Chg.ev (c : Chg) : Value := .slice c.ea c.es.length c.ec
/-- The reader lies at block r; the list's row, the text's, and the edits' rows are the reader's own. -/
structure RdC (B K r : Nat) (lv tv : Value) (l : List Chg) (last want : Int) (text : Bs) (opn : Bool) (w : World) : Prop where
  hd : w.heap[r]? = some (.cells #[lv, .int .i64 last, .int .i64 want, tv, .bool opn] 74 (0, 0))
  row : w.ownsRow B 48 2 lv l.length (l.flatMap Chg.f)
  txt : w.ownsRow B 5 1 tv text.length (Lib.byteCells text)
  old : ∀ c ∈ l.dropLast, w.ownsRow B 50 3 c.ev c.es.length (c.es.flatMap Edi.f) ∧ ∀ k, c.ev.ownBlock = some k → k < K
  new : ∀ c, l.getLast? = some c → w.ownsRow K 50 3 c.ev c.es.length (c.es.flatMap Edi.f)
  leB : B ≤ K
  leK : K ≤ w.heap.size
  leR : B ≤ r
def RdA (B r : Nat) (l : List Chg) (last want : Int) (text : Bs) (opn : Bool) (w : World) : Prop := ∃ K lv tv, RdC B K r lv tv l last want text opn w
theorem own_on {w w' : World} {B e size n : Nat} {v : Value} {xs : List Value} (h : w.ownsRow B e size v n xs) (hb : Below w.heap.size w w') : w'.ownsRow B e size v n xs :=
  ownsRow_mod h (Mod.of_below (S := fun _ => False) hb) (fun k _ h => h)
/-- All that is no cells of the reader's types stays. -/
def RdT (t : TypeId) : Prop := t = 74 ∨ t = 48 ∨ t = 50 ∨ t = 5
instance (t : TypeId) : Decidable (RdT t) := by unfold RdT; infer_instance
def K9 (w w' : World) : Prop := ∀ (k : Nat) (o : Obj), w.heap[k]? = some o → (∀ cs t fz, RdT t → o ≠ .cells cs t fz) → w'.heap[k]? = some o
theorem K9.refl (w : World) : K9 w w := fun _ _ h _ => h
theorem K9.trans {a b c : World} (h : K9 a b) (k : K9 b c) : K9 a c := fun i o hi ho => k i o (h i o hi ho) ho
theorem K9.of_below {w w' : World} (h : Below w.heap.size w w') : K9 w w' := fun k o hk _ => heap_below h hk (Array.getElem?_eq_some_iff.1 hk).1
theorem K9.grown {a w w' : World} {lv : Value} {B t m sz : Nat} {ys : List Value} (h : K9 a w) (hl : w.ownsRow B t sz lv m ys) (ht : RdT t) (hg : w.grownBy w' lv.ownBlock) : K9 a w' := fun k o hk ho => by
  have h1 := h k o hk ho
  rw [hg.block k (Array.getElem?_eq_some_iff.1 h1).1 (fun hs => by
    obtain ⟨_, c2, h2⟩ := row_cells hl hs.symm
    rw [h1] at h2
    exact ho _ _ _ ht (Option.some.inj h2))]
  exact h1
theorem K9.set {a w : World} {b t : Nat} {cs0 : Array Value} {fz : Nat × Nat} (h : K9 a w) (hb : w.heap[b]? = some (.cells cs0 t fz)) (ht : RdT t) (i : Nat) (v : Value) : K9 a (w.setCell ⟨b, i, none⟩ v) := fun k o hk ho => by
  have h1 := h k o hk ho
  rw [Below.heap_setCell _ _ _ _ (fun e => by
    have e : k = b := e
    subst e
    rw [hb] at h1
    exact ho _ _ _ ht (Option.some.inj h1).symm)]
  exact h1
/-- Cells of the types 9 and 3 stay. -/
def KC (w w' : World) : Prop := ∀ (k : Nat) (cs : Array Value) (t : TypeId), (t = 9 ∨ t = 3) → w.heap[k]? = some (.cells cs t (0, 0)) → w'.heap[k]? = some (.cells cs t (0, 0))
theorem KC.trans {a b c : World} (h : KC a b) (k : KC b c) : KC a c := fun i cs t ht hi => k i cs t ht (h i cs t ht hi)
theorem K9.kc {w w' : World} (h : K9 w w') : KC w w' := fun k cs t ht hk => h k _ hk (fun cs' t' fz ht' e => by
  cases e
  rcases ht with rfl | rfl <;> revert ht' <;> decide)
theorem KC.putObj {w : World} {l : Nat} {o o' : Obj} (ho : w.heap[l]? = some o) (hc : o.isCells = false) : KC w (w.putObj l o') := fun k cs t _ hk => by
  rw [World.putObj_heap_other (fun e => by
    subst e
    rw [ho] at hk
    cases hk
    cases hc)]
  exact hk
section
variable {B K r : Nat} {lv tv : Value} {l : List Chg} {last want : Int} {text : Bs} {opn : Bool} {w w' : World}
theorem RdC.on (h : RdC B K r lv tv l last want text opn w) (hb : Below w.heap.size w w') : RdC B K r lv tv l last want text opn w' :=
  ⟨heap_below hb h.hd (Array.getElem?_eq_some_iff.1 h.hd).1, own_on h.row hb, own_on h.txt hb, fun c hc => ⟨own_on (h.old c hc).1 hb, (h.old c hc).2⟩, fun c hc => own_on (h.new c hc) hb, h.leB, Nat.le_trans h.leK hb.size, h.leR⟩
theorem RdC.cell (h : RdC B K r lv tv l last want text opn w) : w.cell? ⟨r, 0, none⟩ = some lv ∧ w.cell? ⟨r, 1, none⟩ = some (.int .i64 last) ∧ w.cell? ⟨r, 2, none⟩ = some (.int .i64 want) ∧ w.cell? ⟨r, 3, none⟩ = some tv ∧ w.cell? ⟨r, 4, none⟩ = some (.bool opn) := by
  simp [World.cell?, h.hd]
theorem RdC.fz (h : RdC B K r lv tv l last want text opn w) (i : Nat) : w.frozen? ⟨r, i, none⟩ = false := Lib.frozen_of_heap h.hd i
theorem RdC.B_le (h : RdC B K r lv tv l last want text opn w) : B ≤ w.heap.size := Nat.le_trans h.leB h.leK
/-- The rows stand where the reader's own block alone is written. -/
theorem RdC.rows (h : RdC B K r lv tv l last want text opn w) (i : Nat) (u : Value) : (w.setCell ⟨r, i, none⟩ u).ownsRow B 48 2 lv l.length (l.flatMap Chg.f) ∧ (w.setCell ⟨r, i, none⟩ u).ownsRow B 5 1 tv text.length (Lib.byteCells text) ∧
    (∀ c ∈ l.dropLast, (w.setCell ⟨r, i, none⟩ u).ownsRow B 50 3 c.ev c.es.length (c.es.flatMap Edi.f) ∧ ∀ k, c.ev.ownBlock = some k → k < K) ∧ ∀ c, l.getLast? = some c → (w.setCell ⟨r, i, none⟩ u).ownsRow K 50 3 c.ev c.es.length (c.es.flatMap Edi.f) := by
  have hm : Mod (fun k => k = r) w (w.setCell ⟨r, i, none⟩ u) := Mod.setCell (S := fun k => k = r) (Mod.refl _ w) ⟨r, i, none⟩ (.inr rfl) u
  have key : ∀ {X e size n : Nat} {v : Value} {xs : List Value}, e ≠ 74 → w.ownsRow X e size v n xs → (w.setCell ⟨r, i, none⟩ u).ownsRow X e size v n xs := fun he hx =>
    ownsRow_mod hx hm (fun k hk hkr => by
      subst hkr
      obtain ⟨_, cur, hc⟩ := row_cells hx hk
      rw [h.hd] at hc
      simp only [Option.some.injEq, Obj.cells.injEq] at hc
      exact he hc.2.1.symm)
  exact ⟨key (by decide) h.row, key (by decide) h.txt, fun c hc => ⟨key (by decide) (h.old c hc).1, (h.old c hc).2⟩, fun c hc => key (by decide) (h.new c hc)⟩
theorem RdC.setLast (h : RdC B K r lv tv l last want text opn w) (x : Int) : RdC B K r lv tv l x want text opn (w.setCell ⟨r, 1, none⟩ (.int .i64 x)) := by
  obtain ⟨a, b, c, d⟩ := h.rows 1 (.int .i64 x)
  exact ⟨by simpa using heap_setCell_same w r 1 _ _ (.int .i64 x) h.hd, a, b, c, d, h.leB, by simpa using h.leK, h.leR⟩
theorem RdC.setWant (h : RdC B K r lv tv l last want text opn w) (x : Int) : RdC B K r lv tv l last x text opn (w.setCell ⟨r, 2, none⟩ (.int .i64 x)) := by
  obtain ⟨a, b, c, d⟩ := h.rows 2 (.int .i64 x)
  exact ⟨by simpa using heap_setCell_same w r 2 _ _ (.int .i64 x) h.hd, a, b, c, d, h.leB, by simpa using h.leK, h.leR⟩
theorem RdC.setOpen (h : RdC B K r lv tv l last want text opn w) (x : Bool) : RdC B K r lv tv l last want text x (w.setCell ⟨r, 4, none⟩ (.bool x)) := by
  obtain ⟨a, b, c, d⟩ := h.rows 4 (.bool x)
  exact ⟨by simpa using heap_setCell_same w r 4 _ _ (.bool x) h.hd, a, b, c, d, h.leB, by simpa using h.leK, h.leR⟩
theorem RdC.setText (h : RdC B K r lv tv l last want text opn w) {v : Value} {t : Bs} (hv : w.ownsRow B 5 1 v t.length (Lib.byteCells t)) : RdC B K r lv v l last want t opn (w.setCell ⟨r, 3, none⟩ v) := by
  obtain ⟨a, b, c, d⟩ := h.rows 3 v
  have hm : Mod (fun k => k = r) w (w.setCell ⟨r, 3, none⟩ v) := Mod.setCell (S := fun k => k = r) (Mod.refl _ w) ⟨r, 3, none⟩ (.inr rfl) v
  refine ⟨by simpa using heap_setCell_same w r 3 _ _ v h.hd, a, ownsRow_mod hv hm (fun k hk hkr => ?_), c, d, h.leB, by simpa using h.leK, h.leR⟩
  subst hkr
  obtain ⟨_, cur, hc⟩ := row_cells hv hk
  rw [h.hd] at hc
  simp at hc
end
theorem below_r {B : Nat} {a w : World} (h : Below B a w) {r i : Nat} (hr : B ≤ r) (u : Value) : Below B a (w.setCell ⟨r, i, none⟩ u) := h.setCell (p := ⟨r, i, none⟩) hr u

def doneOk (l : List Chg) (want : Int) : Bool := want == 0 && (match l.getLast? with | none => true | some c => !(c.es.length == 0))
theorem last_cases (l : List Chg) : l = [] ∨ ∃ d c, l = d ++ [c] := by
  rcases List.eq_nil_or_concat l with h | ⟨d, c, h⟩
  · exact .inl h
  · exact .inr ⟨d, c, by simpa using h⟩
theorem chg_flat (d : List Chg) (c : Chg) : ((d ++ [c]).flatMap Chg.f)[d.length * 2]? = some (.string c.n) ∧ ((d ++ [c]).flatMap Chg.f)[d.length * 2 + 1]? = some c.ev := by
  have h0 := flat_get 2 Chg.f (fun g => rfl) (d ++ [c]) d.length 0 (by simp) (by omega)
  have h1 := flat_get 2 Chg.f (fun g => rfl) (d ++ [c]) d.length 1 (by simp) (by omega)
  rw [show (d ++ [c])[d.length]'(by simp) = c from by simp] at h0 h1
  exact ⟨h0, h1⟩
/-- The last change's cells. -/
theorem RdC.last {B K r : Nat} {lv tv : Value} {d : List Chg} {c : Chg} {last want : Int} {text : Bs} {opn : Bool} {w : World} (h : RdC B K r lv tv (d ++ [c]) last want text opn w) :
    ∃ G cap, lv = .slice (some ⟨G, 0, none⟩) (d.length + 1) cap ∧ B ≤ G ∧ w.cell? ⟨G, d.length * 2, none⟩ = some (.string c.n) ∧ w.cell? ⟨G, d.length * 2 + 1, none⟩ = some c.ev := by
  have hl : (d ++ [c]).length = d.length + 1 := by simp
  have hrow := h.row
  rw [hl] at hrow
  rcases hrow.2 with ⟨_, h2⟩ | ⟨G, cap, cur, rfl, hb, _⟩
  · omega
  · obtain ⟨e0, e1⟩ := chg_flat d c
    refine ⟨G, cap, rfl, hb, ?_, ?_⟩
    · rw [hrow.cellAt _ (by omega), e0]
    · rw [hrow.cellAt _ (by omega), e1]

set_option maxRecDepth 100000 in
theorem Rd.done {B r : Nat} {l : List Chg} {last want : Int} {text : Bs} {opn : Bool} {w : World} (h : RdA B r l last want text opn w) (hl : l.length ≤ 4000000) :
    Calls Tryd.prog 30 #[.pointer (some ⟨r, 0, none⟩)] w fun e w' => e = .returned (.bool (doneOk l want)) ∧ w' = w := by
  obtain ⟨K, lv, tv, h⟩ := h
  obtain ⟨R, hR⟩ : ∃ R, doneOk l want = R := ⟨_, rfl⟩
  rw [hR]
  unfold doneOk at hR
  obtain ⟨c0, c1, c2, c3, c4⟩ := h.cell
  by_cases hw : want = 0
  · subst hw
    rcases last_cases l with rfl | ⟨d, c, rfl⟩
    · obtain ⟨ga, cap, rfl⟩ := row_shape h.row
      have HR := Lib.hid hR
      clear hR h
      go_enter Tryd.func30, Tryd.ntmps30
      go_wp2
      go_ret
      exact ⟨ret_bool (by rw [← HR.out]; rfl), rfl⟩
    · obtain ⟨G, cap, rfl, hG, g0, g1⟩ := h.last
      unfold Chg.ev at g1
      have hdl : (d.length : Int) ≤ 4000000 := by simp at hl; omega
      have HR := Lib.hid hR
      clear hR h hl
      by_cases he : c.es.length = 0
      · have he' : ¬ 0 < c.es.length := by omega
        have HE := Lib.hid he
        clear he
        go_enter Tryd.func30, Tryd.ntmps30
        go_wp2
        go_ret
        exact ⟨ret_bool (by rw [← HR.out]; simp [HE.out]; try omega), rfl⟩
      · have he' : 0 < c.es.length := by omega
        have HE := Lib.hid he
        clear he
        go_enter Tryd.func30, Tryd.ntmps30
        go_wp2
        go_ret
        exact ⟨ret_bool (by rw [← HR.out]; simp [HE.out]; try omega), rfl⟩
  · have hw' : (want == 0) = false := by rw [beq_eq_false_iff_ne]; exact hw
    obtain ⟨ga, cap, rfl⟩ := row_shape h.row
    rw [hw'] at hR
    have HR := Lib.hid hR
    clear hR h hw
    go_enter Tryd.func30, Tryd.ntmps30
    go_wp2
    go_ret
    exact ⟨ret_bool (by rw [← HR.out]; simp), rfl⟩
end Go.Proofs.YtodjhgalbaelkaaDoor

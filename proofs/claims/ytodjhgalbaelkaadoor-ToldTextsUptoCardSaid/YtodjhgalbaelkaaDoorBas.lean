/- General laws: rows of cells, loads of whole structs, small facts on worlds. -/
import Derived.WalkKit
import Derived.BigCall
import Derived.BigQuiet
import Derived.WalkLawsBesides
import Derived.Lib.Hide
import Derived.Lib.Strings
import Derived.Deep.QuietTactic
import Derived.Deep.RegionWith
import Derived.Deep.RegionHeld3
import Derived.Deep.LoopGhost
import Derived.Deep.DeepCutAuto
import Derived.Handy
namespace Go.Proofs.YtodjhgalbaelkaaDoor
open Go.RowKit
set_option linter.unusedVariables false

theorem ret_bool {a b : Bool} (h : a = b) : Ending.returned (.bool a) = Ending.returned (.bool b) := by rw [h]
theorem ret_int {k : IntKind} {a b : Int} (h : a = b) : Ending.returned (.int k a) = .returned (.int k b) := by rw [h]

/-- The cells from an address on. -/
def CellsAt (w : World) (b o : Nat) (cs : List Value) : Prop := ∀ (j : Nat) (v : Value), cs[j]? = some v → w.cell? ⟨b, o + j, none⟩ = some v

theorem CellsAt.below {w w' : World} {b o B : Nat} {cs : List Value} (h : CellsAt w b o cs) (hb : Below B w w') (hlt : b < B) : CellsAt w' b o cs :=
  fun j v hv => (hb.cell (p := ⟨b, o + j, none⟩) hlt).trans (h j v hv)
theorem CellsAt.of_heap {w : World} {b : Nat} {t : TypeId} {cs : Array Value} {fz : Nat × Nat} (h : w.heap[b]? = some (.cells cs t fz)) : CellsAt w b 0 cs.toList :=
  fun j v hv => by simp [World.cell?, h]; simpa using hv
theorem CellsAt.part {w : World} {b o : Nat} {cs : List Value} (h : CellsAt w b o cs) (i n : Nat) : CellsAt w b (o + i) ((cs.drop i).take n) := fun j v hv => by
  have := h (i + j) v (by
    rw [List.getElem?_take] at hv
    split at hv
    · rw [List.getElem?_drop] at hv; exact hv
    · cases hv)
  rw [Nat.add_assoc]; exact this

section
variable {P : Program}
theorem run_loadVar_at (w : World) (b o : Nat) (ty : TypeId) (cs : List Value) (d : TypeDesc) (hc : CellsAt w b o cs)
    (hu : P.underlying ty = some d) (hd : (match d with | .struct _ | .array _ _ => true | _ => false) = true) (hi : (P.info? ty).map (·.size) = some cs.length) :
    (loadVar ty ⟨b, o, none⟩).run P w = .ok (.agg cs.toArray) w := by
  have hl : (loadCells ⟨b, o, none⟩ cs.length).run P w = .ok cs.toArray w :=
    run_loadCells_list (P := P) w ⟨b, o, none⟩ cs (fun j v hv => by
      have hadd : (⟨b, o, none⟩ : Addr).add j = ⟨b, o + j, none⟩ := by unfold Addr.add; split <;> simp_all
      rw [hadd]; exact hc j v hv)
  cases hq : P.info? ty with
  | none => simp [hq] at hi
  | some i =>
    have hs : i.size = cs.length := by simpa [hq] using hi
    have hagg : (isAgg ty).run P w = .ok true w := by
      unfold isAgg
      rw [Sem.run_bind, run_underlying hu w]
      cases d <;> simp_all
    simp [loadVar, Sem.run_bind, hagg, sizeOf, typeInfo, hq, hs, hl]

/-- A load of a whole struct, wherever its cells lie. -/
theorem wp_load_at {o : Oper} {a : Act} {w : World} {K : Act → World → Prop} {Q : Exit → Act → World → Prop} (ty : TypeId) (x : Operand) (ho : o.op = .load ty x)
    (b i : Nat) (hx : a.eval x = .pointer (some ⟨b, i, none⟩)) (cs : List Value) (d : TypeDesc) (hc : CellsAt w b i cs)
    (hu : P.underlying ty = some d) (hd : (match d with | .struct _ | .array _ _ => true | _ => false) = true) (hi : (P.info? ty).map (·.size) = some cs.length)
    (h : K (a.put o.dst (.agg cs.toArray)) w) : o.wp P a w K Q := by
  unfold Oper.wp execOp
  simp only [ho, hx, Instr.loadAt, Instr.sureAddr, Sem.run_bind, Sem.run_pure, Result.andThen_ok, run_loadVar_at w b i ty cs d hc hu hd hi]
  exact h
theorem wpList_load_at {ops : Array Oper} {rest : List Oper} {o : Oper} {a : Act} {w : World} {Q : Exit → Act → World → Prop} (hgd : o.guard = none) (ty : TypeId) (x : Operand) (ho : o.op = .load ty x)
    (b i : Nat) (hx : a.eval x = .pointer (some ⟨b, i, none⟩)) (cs : List Value) (d : TypeDesc) (hc : CellsAt w b i cs)
    (hu : P.underlying ty = some d) (hd : (match d with | .struct _ | .array _ _ => true | _ => false) = true) (hi : (P.info? ty).map (·.size) = some cs.length)
    (h : wpList P ops Q rest (a.put o.dst (.agg cs.toArray)) w) : wpList P ops Q (o :: rest) a w :=
  wpList_plain hgd fun _ hK => wp_load_at ty x ho b i hx cs d hc hu hd hi (hK _ _ h)
end

/-- The worlds that keep what lies in w0. -/
def Ext (w0 : World) : Type := { u : World // Below w0.heap.size w0 u }
def Ext.w {w0 : World} (u : Ext w0) : World := u.1
instance Ext.nonempty (w0 : World) : Nonempty (Ext w0) := ⟨⟨w0, Below.refl _ _⟩⟩
theorem Ext.below {w0 : World} (u : Ext w0) : Below w0.heap.size w0 u.w := u.2
theorem Ext.cell {w0 : World} (u : Ext w0) {p : Addr} {v : Value} (h : w0.cell? p = some v) : u.w.cell? p = some v :=
  (u.2.cell (World.block_lt_of_cell? w0 p h)).trans h
theorem Ext.cellsAt {w0 : World} (u : Ext w0) {b o : Nat} {cs : List Value} (h : CellsAt w0 b o cs) : CellsAt u.w b o cs := fun j v hv => u.cell (h j v hv)
theorem Ext.on {w0 : World} (u : Ext w0) {w : World} (h : Below u.w.heap.size u.w w) : ∃ u' : Ext w0, w = u'.w := ⟨⟨w, u.2.trans (h.mono u.2.size)⟩, rfl⟩
theorem Ext.drew (w0 : World) : ∃ u : Ext w0, ({ w0 with drawn := w0.drawn + 1 } : World) = u.w := ⟨⟨_, ((Below.refl _ w0).drew)⟩, rfl⟩

section
variable {P : Program} {C : World → Prop}
theorem quiet_load_at {K : Act → Prop} {o : Oper} {a : Act} (ty : TypeId) (x : Operand) (ho : o.op = .load ty x)
    (b i : Nat) (hx : a.eval x = .pointer (some ⟨b, i, none⟩)) (cs : List Value) (d : TypeDesc) (hc : ∀ w, C w → CellsAt w b i cs)
    (hu : P.underlying ty = some d) (hd : (match d with | .struct _ | .array _ _ => true | _ => false) = true) (hi : (P.info? ty).map (·.size) = some cs.length)
    (h : K (a.put o.dst (.agg cs.toArray))) : o.quiet P a C K :=
  ⟨_, fun w hw => by
    unfold Oper.quietAt execOp
    simp only [ho, hx, Instr.loadAt, Instr.sureAddr, Sem.run_bind, Sem.run_pure, Result.andThen_ok, run_loadVar_at w b i ty cs d (hc w hw) hu hd hi]
    exact ⟨rfl, rfl⟩, h⟩
end

/-- A slice whose elements, of n cells each, read as l (f: the cells of an element). -/
def RowAt {α : Type} (n : Nat) (f : α → List Value) (w : World) (a : Option Addr) (l : List α) : Prop :=
  l = [] ∨ ∃ b off, a = some ⟨b, off, none⟩ ∧ b < w.heap.size ∧ ∀ i (h : i < l.length), CellsAt w b (off + i * n) (f l[i])

theorem RowAt.below {α : Type} {n : Nat} {f : α → List Value} {w w' : World} {a : Option Addr} {l : List α} {B : Nat} (h : RowAt n f w a l) (hb : Below B w w') (hB : w.heap.size ≤ B) (hs : w.heap.size ≤ w'.heap.size) : RowAt n f w' a l := by
  rcases h with h | ⟨b, off, ha, hlt, hc⟩
  · exact .inl h
  · exact .inr ⟨b, off, ha, Nat.lt_of_lt_of_le hlt hs, fun i hi => (hc i hi).below hb (Nat.lt_of_lt_of_le hlt hB)⟩
theorem RowAt.at {α : Type} {n : Nat} {f : α → List Value} {w : World} {a : Option Addr} {l : List α} (h : RowAt n f w a l) (h0 : l ≠ []) :
    ∃ b off, a = some ⟨b, off, none⟩ ∧ b < w.heap.size ∧ ∀ i (h : i < l.length), CellsAt w b (off + i * n) (f l[i]) := by
  rcases h with h | h
  · exact absurd h h0
  · exact h
theorem heap_below {B b : Nat} {w w' : World} {o : Obj} (hb : Below B w w') (h : w.heap[b]? = some o) (hlt : b < B) : w'.heap[b]? = some o := by
  rw [hb.block b hlt]; exact h
theorem below_alloc (w : World) (o : Obj) : Below w.heap.size w (w.alloc o) := (Below.refl _ _).alloc (Nat.le_refl _) _
theorem below_drewN (B : Nat) (w : World) (n : Nat) : Below B w (w.drewN n) := ⟨rfl, rfl, rfl, Nat.le_refl _, fun _ _ => rfl⟩
def boolF (b : Bool) : List Value := [.bool b]
theorem zip_take_succ {α β : Type} (l : List α) (m : List β) (k : Nat) (h : k < l.length) (h2 : k < m.length) : (l.zip m).take (k + 1) = (l.zip m).take k ++ [(l[k], m[k])] := by
  rw [List.take_succ_eq_append_getElem (by simp; omega)]; simp
end Go.Proofs.YtodjhgalbaelkaaDoor

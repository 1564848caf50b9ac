/- General laws: rows of cells, loads of whole structs, small facts on worlds. -/
import Derived.WalkKit
import Derived.BigCall
import Derived.BigQuiet
import Derived.WalkLawsBesides
import Derived.Lib.Hide
import Derived.Lib.Strings
import Derived.Deep.QuietTactic
import Derived.Deep.RegionWith
import Derived.Deep.RegionHeld3
import Derived.Deep.LoopGhost
import Derived.Deep.DeepCutAuto
import Derived.Handy
import Derived.Laws.AppendOwnNone
import Derived.Shelf.Small.Strs
import Derived.Shelf.Utf8.RuneCount
import Derived.Shelf.LaysM
import Derived.Shelf.Strconv.Clone
import Derived.Shelf.Strings.Search1
import Derived.Shelf.Strings.Search2
import Derived.Shelf.Strings.Search3
import Derived.Shelf.Strings.Count
import Derived.Shelf.Strings.Shaped
import Derived.Shelf.GgClosure.StringsIndexFunc
import Derived.Shelf.GgClosure.StringsTrimFunc
import Derived.Shelf.Strings.Prefix
import Derived.Shelf.Strings.Split
import Derived.Shelf.Unicode.Decode
import Derived.Shelf.Strings.RuneCount
import Derived.Shelf.Unicode.DecodeSlow
import Derived.Shelf.Unicode.DecodeAny
import Derived.Shelf.Strings.FieldsFuncAny
import Derived.Shelf.Strings.FuncGrows
import Derived.Shelf.Strings.FieldsFuncGrows
import Derived.Shelf.Slices.Equal
import Derived.Shelf.Slices.Empties2
import Derived.Test.YtbnhefibpjldfaaGreatDoorProg
import Derived.StillTail
import Derived.OrdersIn
import Derived.RangeFuncCalls
namespace Go.Proofs.YtbnhefibpjldfaaGreatDoor
open Go.RowKit
set_option linter.unusedVariables false

theorem ret_bool {a b : Bool} (h : a = b) : Ending.returned (.bool a) = Ending.returned (.bool b) := by rw [h]
theorem ret_int {k : IntKind} {a b : Int} (h : a = b) : Ending.returned (.int k a) = .returned (.int k b) := by rw [h]

/-- The cells from an address on. -/
def CellsAt (w : World) (b o : Nat) (cs : List Value) : Prop := ∀ (j : Nat) (v : Value), cs[j]? = some v → w.cell? ⟨b, o + j, none⟩ = some v

theorem CellsAt.below {w w' : World} {b o B : Nat} {cs : List Value} (h : CellsAt w b o cs) (hb : Below B w w') (hlt : b < B) : CellsAt w' b o cs :=
  fun j v hv => (hb.cell (p := ⟨b, o + j, none⟩) hlt).trans (h j v hv)
theorem CellsAt.of_heap {w : World} {b : Nat} {t : TypeId} {cs : Array Value} {fz : Nat × Nat} (h : w.heap[b]? = some (.cells cs t fz)) : CellsAt w b 0 cs.toList :=
  fun j v hv => by simp [World.cell?, h]; simpa using hv
theorem CellsAt.part {w : World} {b o : Nat} {cs : List Value} (h : CellsAt w b o cs) (i n : Nat) : CellsAt w b (o + i) ((cs.drop i).take n) := fun j v hv => by
  have := h (i + j) v (by
    rw [List.getElem?_take] at hv
    split at hv
    · rw [List.getElem?_drop] at hv; exact hv
    · cases hv)
  rw [Nat.add_assoc]; exact this

section
variable {P : Program}
theorem run_loadVar_at (w : World) (b o : Nat) (ty : TypeId) (cs : List Value) (d : TypeDesc) (hc : CellsAt w b o cs)
    (hu : P.underlying ty = some d) (hd : (match d with | .struct _ | .array _ _ => true | _ => false) = true) (hi : (P.info? ty).map (·.size) = some cs.length) :
    (loadVar ty ⟨b, o, none⟩).run P w = .ok (.agg cs.toArray) w := by
  have hl : (loadCells ⟨b, o, none⟩ cs.length).run P w = .ok cs.toArray w :=
    run_loadCells_list (P := P) w ⟨b, o, none⟩ cs (fun j v hv => by
      have hadd : (⟨b, o, none⟩ : Addr).add j = ⟨b, o + j, none⟩ := by unfold Addr.add; split <;> simp_all
      rw [hadd]; exact hc j v hv)
  cases hq : P.info? ty with
  | none => simp [hq] at hi
  | some i =>
    have hs : i.size = cs.length := by simpa [hq] using hi
    have hagg : (isAgg ty).run P w = .ok true w := by
      unfold isAgg
      rw [Sem.run_bind, run_underlying hu w]
      cases d <;> simp_all
    simp [loadVar, Sem.run_bind, hagg, sizeOf, typeInfo, hq, hs, hl]

/-- A load of a whole struct, wherever its cells lie. -/
theorem wp_load_at {o : Oper} {a : Act} {w : World} {K : Act → World → Prop} {Q : Exit → Act → World → Prop} (ty : TypeId) (x : Operand) (ho : o.op = .load ty x)
    (b i : Nat) (hx : a.eval x = .pointer (some ⟨b, i, none⟩)) (cs : List Value) (d : TypeDesc) (hc : CellsAt w b i cs)
    (hu : P.underlying ty = some d) (hd : (match d with | .struct _ | .array _ _ => true | _ => false) = true) (hi : (P.info? ty).map (·.size) = some cs.length)
    (h : K (a.put o.dst (.agg cs.toArray)) w) : o.wp P a w K Q := by
  unfold Oper.wp execOp
  simp only [ho, hx, Instr.loadAt, Instr.sureAddr, Sem.run_bind, Sem.run_pure, Result.andThen_ok, run_loadVar_at w b i ty cs d hc hu hd hi]
  exact h
theorem wpList_load_at {ops : Array Oper} {rest : List Oper} {o : Oper} {a : Act} {w : World} {Q : Exit → Act → World → Prop} (hgd : o.guard = none) (ty : TypeId) (x : Operand) (ho : o.op = .load ty x)
    (b i : Nat) (hx : a.eval x = .pointer (some ⟨b, i, none⟩)) (cs : List Value) (d : TypeDesc) (hc : CellsAt w b i cs)
    (hu : P.underlying ty = some d) (hd : (match d with | .struct _ | .array _ _ => true | _ => false) = true) (hi : (P.info? ty).map (·.size) = some cs.length)
    (h : wpList P ops Q rest (a.put o.dst (.agg cs.toArray)) w) : wpList P ops Q (o :: rest) a w :=
  wpList_plain hgd fun _ hK => wp_load_at ty x ho b i hx cs d hc hu hd hi (hK _ _ h)
end

/-- The worlds that keep what lies in w0. -/
def Ext (w0 : World) : Type := { u : World // Below w0.heap.size w0 u }
def Ext.w {w0 : World} (u : Ext w0) : World := u.1
instance Ext.nonempty (w0 : World) : Nonempty (Ext w0) := ⟨⟨w0, Below.refl _ _⟩⟩
theorem Ext.below {w0 : World} (u : Ext w0) : Below w0.heap.size w0 u.w := u.2
theorem Ext.cell {w0 : World} (u : Ext w0) {p : Addr} {v : Value} (h : w0.cell? p = some v) : u.w.cell? p = some v :=
  (u.2.cell (World.block_lt_of_cell? w0 p h)).trans h
theorem Ext.cellsAt {w0 : World} (u : Ext w0) {b o : Nat} {cs : List Value} (h : CellsAt w0 b o cs) : CellsAt u.w b o cs := fun j v hv => u.cell (h j v hv)
theorem Ext.on {w0 : World} (u : Ext w0) {w : World} (h : Below u.w.heap.size u.w w) : ∃ u' : Ext w0, w = u'.w := ⟨⟨w, u.2.trans (h.mono u.2.size)⟩, rfl⟩
theorem Ext.drew (w0 : World) : ∃ u : Ext w0, ({ w0 with drawn := w0.drawn + 1 } : World) = u.w := ⟨⟨_, ((Below.refl _ w0).drew)⟩, rfl⟩

section
variable {P : Program} {C : World → Prop}
theorem quiet_load_at {K : Act → Prop} {o : Oper} {a : Act} (ty : TypeId) (x : Operand) (ho : o.op = .load ty x)
    (b i : Nat) (hx : a.eval x = .pointer (some ⟨b, i, none⟩)) (cs : List Value) (d : TypeDesc) (hc : ∀ w, C w → CellsAt w b i cs)
    (hu : P.underlying ty = some d) (hd : (match d with | .struct _ | .array _ _ => true | _ => false) = true) (hi : (P.info? ty).map (·.size) = some cs.length)
    (h : K (a.put o.dst (.agg cs.toArray))) : o.quiet P a C K :=
  ⟨_, fun w hw => by
    unfold Oper.quietAt execOp
    simp only [ho, hx, Instr.loadAt, Instr.sureAddr, Sem.run_bind, Sem.run_pure, Result.andThen_ok, run_loadVar_at w b i ty cs d (hc w hw) hu hd hi]
    exact ⟨rfl, rfl⟩, h⟩
end

/-- A slice whose elements, of n cells each, read as l (f: the cells of an element). -/
def RowAt {α : Type} (n : Nat) (f : α → List Value) (w : World) (a : Option Addr) (l : List α) : Prop :=
  l = [] ∨ ∃ b off, a = some ⟨b, off, none⟩ ∧ b < w.heap.size ∧ ∀ i (h : i < l.length), CellsAt w b (off + i * n) (f l[i])

theorem RowAt.below {α : Type} {n : Nat} {f : α → List Value} {w w' : World} {a : Option Addr} {l : List α} {B : Nat} (h : RowAt n f w a l) (hb : Below B w w') (hB : w.heap.size ≤ B) (hs : w.heap.size ≤ w'.heap.size) : RowAt n f w' a l := by
  rcases h with h | ⟨b, off, ha, hlt, hc⟩
  · exact .inl h
  · exact .inr ⟨b, off, ha, Nat.lt_of_lt_of_le hlt hs, fun i hi => (hc i hi).below hb (Nat.lt_of_lt_of_le hlt hB)⟩
theorem RowAt.at {α : Type} {n : Nat} {f : α → List Value} {w : World} {a : Option Addr} {l : List α} (h : RowAt n f w a l) (h0 : l ≠ []) :
    ∃ b off, a = some ⟨b, off, none⟩ ∧ b < w.heap.size ∧ ∀ i (h : i < l.length), CellsAt w b (off + i * n) (f l[i]) := by
  rcases h with h | h
  · exact absurd h h0
  · exact h
theorem heap_below {B b : Nat} {w w' : World} {o : Obj} (hb : Below B w w') (h : w.heap[b]? = some o) (hlt : b < B) : w'.heap[b]? = some o := by
  rw [hb.block b hlt]; exact h
theorem below_alloc (w : World) (o : Obj) : Below w.heap.size w (w.alloc o) := (Below.refl _ _).alloc (Nat.le_refl _) _
theorem below_drewN (B : Nat) (w : World) (n : Nat) : Below B w (w.drewN n) := ⟨rfl, rfl, rfl, Nat.le_refl _, fun _ _ => rfl⟩
def boolF (b : Bool) : List Value := [.bool b]
theorem zip_take_succ {α β : Type} (l : List α) (m : List β) (k : Nat) (h : k < l.length) (h2 : k < m.length) : (l.zip m).take (k + 1) = (l.zip m).take k ++ [(l[k], m[k])] := by
  rw [List.take_succ_eq_append_getElem (by simp; omega)]; simp
end Go.Proofs.YtbnhefibpjldfaaGreatDoor

/- App -/
namespace Go.Proofs.YtbnhefibpjldfaaGreatDoor
open Go.RowKit Go.BigFrame
set_option linter.unusedVariables false

theorem addr_add' (b o j : Nat) : (⟨b, o, none⟩ : Addr).add j = ⟨b, o + j, none⟩ := by unfold Addr.add; split <;> simp_all

theorem flat_at {α : Type} (n : Nat) (f : α → List Value) (hf : ∀ g, (f g).length = n) (w : World) (b : Nat) : ∀ (l : List α) (off : Nat), (∀ i (h : i < l.length), CellsAt w b (off + i * n) (f l[i])) →
    ∀ (j : Nat) (u : Value), (l.flatMap f)[j]? = some u → w.cell? ⟨b, off + j, none⟩ = some u
  | [], off, _, j, u, h => by simp at h
  | g :: l, off, hc, j, u, h => by
    rw [List.flatMap_cons, List.getElem?_append] at h
    split at h
    · have := hc 0 (by simp) j u (by simpa using h)
      simpa using this
    · rename_i hj
      rw [hf] at hj h
      have := flat_at n f hf w b l (off + n) (fun i hi => by
        have := hc (i + 1) (by simpa using hi)
        rw [show off + n + i * n = off + (i + 1) * n from by rw [Nat.add_mul]; omega]
        simpa using this) (j - n) u h
      rwa [show off + n + (j - n) = off + j from by omega] at this

theorem flat_len {α : Type} (n : Nat) (f : α → List Value) (hf : ∀ g, (f g).length = n) : ∀ l : List α, (l.flatMap f).length = l.length * n
  | [] => by simp
  | g :: l => by rw [List.flatMap_cons, List.length_append, hf, flat_len n f hf l, List.length_cons, Nat.add_mul]; omega

theorem wpList_append_rows {P : Program} {w : World} {ops : Array Oper} {rest : List Oper} {o : Oper} {a : Act} {Q : Exit → Act → World → Prop} {α : Type} (f : α → List Value) (hgd : o.guard = none) (s x : Operand) (t : TypeId)
    (ho : o.op = .call { callee := .builtin .append, args := #[s, x], argTypes := #[t, t] })
    (base : Nat) (e : TypeId) (i : TypeInfo) (z : Value) (size bytes : Nat) (ht : P.underlying t = some (.slice e)) (hi : P.info? e = some i) (hz : i.zero = some z)
    (hsize : i.size = size) (hby : i.bytes = bytes) (hzs : z.cells.size = size) (hsz : 0 < size) (hf : ∀ g, (f g).length = size) (hf1 : ∀ g, ∀ u ∈ f g, u.oneCell' = true)
    (v : Value) (n : Nat) (xs : List Value) (hs : a.eval s = v) (hown : w.ownsRow base e size v n xs)
    (ao : Option Addr) (l : List α) (c : Nat) (hx : a.eval x = .slice ao l.length c) (hnil : ao = none → l = [] ∧ c = 0) (hr : RowAt size f w ao l)
    (h63 : n + l.length ≤ maxLen) (hbytes : (n + l.length) * bytes ≤ 140737488355328) (hbase : base ≤ w.heap.size)
    (h : ∀ v' w', w'.ownsRow base e size v' (n + l.length) (xs ++ l.flatMap f) → w.grownBy w' v.ownBlock → wpList P ops Q rest (a.put o.dst v') w') : wpList P ops Q (o :: rest) a w := by
  cases ao with
  | none =>
    obtain ⟨rfl, rfl⟩ := hnil rfl
    refine wpList_append_own_none hgd s x t ho base e i size ht hi v n xs hs hown (by simpa using hx) ?_
    have := h v w (by simpa using hown) ?_
    · exact this
    · exact ⟨rfl, rfl, rfl, Nat.le_refl _, fun k hk _ => rfl⟩
  | some ad =>
    refine wpList_append_own _ hgd s x t ho base e i z size bytes ht hi hz hsize hby hzs hsz v n xs hs hown ad l.length c (l.flatMap f) hx (flat_len size f hf l) (fun j u hj => ?_) (fun u hu => ?_) h63 hbytes hbase (fun v' w' h1 h2 _ => h v' w' h1 h2)
    · rcases hr with rfl | ⟨b, off, hab, _, hc⟩
      · simp at hj
      · cases hab
        rw [addr_add']
        exact flat_at size f hf w b l off hc j u hj
    · obtain ⟨g, hg, hu⟩ := List.mem_flatMap.1 hu
      exact hf1 g u hu
end Go.Proofs.YtbnhefibpjldfaaGreatDoor

/- Shelf -/
namespace Go.Proofs
open Go.Shelf
def Tryz.lays137_ren : Go.Shelf.Ren := ⟨fun | 137 => 91 | 217 => 106 | 266 => 125 | n => n, fun | 9 => 9 | 5 => 5 | 3 => 3 | n => n, fun | n => n⟩
theorem Tryz.lays137 : Go.Proofs.Lays.n137 Tryz.prog Tryz.lays137_ren := {
  mixed := by kernel_rfl
  f137 := Tryz.func91.trans (congrArg some (by kernel_rfl))
  f217 := Tryz.func106.trans (congrArg some (by kernel_rfl))
  f266 := Tryz.func125.trans (congrArg some (by kernel_rfl))
  t3 := Tryz.underlying3
  a3 := Tryz.isAgg3
  z3 := Tryz.sizeOf3
  v3 := Tryz.zeroValue3
  t5 := Tryz.underlying5
  a5 := Tryz.isAgg5
  z5 := Tryz.sizeOf5
  v5 := Tryz.zeroValue5
  t9 := Tryz.underlying9
  a9 := Tryz.isAgg9
  z9 := Tryz.sizeOf9
  v9 := Tryz.zeroValue9 }
open Go.RowKit in
theorem Tryz.strings_IndexByte (s : ByteArray) (c : Int) (w : World) :
    Calls Tryz.prog 91 #[.string s, .int .u8 c] w fun e w' => e = .returned (.int .i64 (Lib.indexByte s.data.toList c.toNat.toUInt8)) ∧ w' = w := Any.strings_IndexByte Tryz.lays137 s c w
def Tryz.laysM316_ren : Go.Shelf.Ren := ⟨fun | 316 => 124 | n => n, fun | 9 => 9 | 3 => 3 | 4 => 4 | 37 => 59 | 0 => 0 | 127 => 159 | 5 => 5 | n => n, fun | n => n⟩
theorem Tryz.laysM316 : Go.Proofs.LaysM.n316 Tryz.prog Tryz.laysM316_ren := {
  mixed := by kernel_rfl
  f316 := Tryz.func124.trans (congrArg some (by kernel_rfl))
  t0 := Tryz.underlying0
  a0 := Tryz.isAgg0
  z0 := Tryz.sizeOf0
  v0 := Tryz.zeroValue0
  t3 := Tryz.underlying3
  a3 := Tryz.isAgg3
  z3 := Tryz.sizeOf3
  v3 := Tryz.zeroValue3
  t4 := Tryz.underlying4
  a4 := Tryz.isAgg4
  z4 := Tryz.sizeOf4
  v4 := Tryz.zeroValue4
  t9 := Tryz.underlying9
  a9 := Tryz.isAgg9
  z9 := Tryz.sizeOf9
  v9 := Tryz.zeroValue9
  t37 := Tryz.underlying59
  a37 := Tryz.isAgg59
  z37 := Tryz.sizeOf59
  v37 := Tryz.zeroValue59
  t127 := Tryz.underlying159
  a127 := Tryz.isAgg159
  z127 := Tryz.sizeOf159
  v127 := Tryz.zeroValue159
  t5 := Tryz.underlying5
  a5 := Tryz.isAgg5
  z5 := Tryz.sizeOf5
  v5 := Tryz.zeroValue5
  i0 := by kernel_rfl
  i3 := by kernel_rfl
  i4 := by kernel_rfl
  i5 := by kernel_rfl
  i9 := by kernel_rfl
  i37 := by kernel_rfl
  i127 := by kernel_rfl }
open Go.RowKit in
theorem Tryz.stringslite_Clone (s : ByteArray) (w : World) (hlim : s.size ≤ 281474976710656) :
    Calls Tryz.prog 124 #[.string s] w fun e w' => e = .returned (.string s) ∧ Below w.heap.size w w' := Any.stringslite_Clone Tryz.laysM316 s w hlim
def Tryz.lays143_ren : Go.Shelf.Ren := ⟨fun | 143 => 65 | 219 => 93 | 217 => 106 | 225 => 111 | 224 => 112 | 267 => 113 | 266 => 125 | 314 => 129 | n => n, fun | 9 => 9 | 3 => 3 | 4 => 4 | 5 => 5 | 46 => 149 | 146 => 154 | 51 => 153 | n => n, fun | 1 => 0 | n => n⟩
theorem Tryz.lays143 : Go.Proofs.Lays.n143 Tryz.prog Tryz.lays143_ren := {
  mixed := by kernel_rfl
  f143 := Tryz.func65.trans (congrArg some (by kernel_rfl))
  f217 := Tryz.func106.trans (congrArg some (by kernel_rfl))
  f219 := Tryz.func93.trans (congrArg some (by kernel_rfl))
  f224 := Tryz.func112.trans (congrArg some (by kernel_rfl))
  f225 := Tryz.func111.trans (congrArg some (by kernel_rfl))
  f266 := Tryz.func125.trans (congrArg some (by kernel_rfl))
  f267 := Tryz.func113.trans (congrArg some (by kernel_rfl))
  f314 := Tryz.func129.trans (congrArg some (by kernel_rfl))
  t3 := Tryz.underlying3
  a3 := Tryz.isAgg3
  z3 := Tryz.sizeOf3
  v3 := Tryz.zeroValue3
  t4 := Tryz.underlying4
  a4 := Tryz.isAgg4
  z4 := Tryz.sizeOf4
  v4 := Tryz.zeroValue4
  t5 := Tryz.underlying5
  a5 := Tryz.isAgg5
  z5 := Tryz.sizeOf5
  v5 := Tryz.zeroValue5
  t9 := Tryz.underlying9
  a9 := Tryz.isAgg9
  z9 := Tryz.sizeOf9
  v9 := Tryz.zeroValue9
  t46 := Tryz.underlying149
  a46 := Tryz.isAgg149
  z46 := Tryz.sizeOf149
  v46 := Tryz.zeroValue149
  t51 := Tryz.underlying153
  a51 := Tryz.isAgg153
  z51 := Tryz.sizeOf153
  v51 := Tryz.zeroValue153
  t146 := Tryz.underlying154
  a146 := Tryz.isAgg154
  z146 := Tryz.sizeOf154
  v146 := Tryz.zeroValue154
  g1 := by kernel_rfl }
open Go.RowKit Go.Lib in
theorem Tryz.strings_Index (s sub : ByteArray) (m : Int) (w : World) (hs : s.size < 4294967281) (hm : w.cell? ⟨0, 0, none⟩ = some (.int .i64 m)) :
    Calls Tryz.prog 65 #[.string s, .string sub] w fun e w' => e = .returned (.int .i64 (Lib.index s.data.toList sub.data.toList)) ∧ w' = w := Any.strings_Index Tryz.lays143 s sub m w hs hm
def Tryz.lays138_ren : Go.Shelf.Ren := ⟨fun | 138 => 30 | 195 => 63 | 218 => 64 | 143 => 65 | 219 => 93 | 217 => 106 | 225 => 111 | 224 => 112 | 267 => 113 | 266 => 125 | 314 => 129 | n => n, fun | 9 => 9 | 3 => 3 | 4 => 4 | 5 => 5 | 0 => 0 | 46 => 149 | 146 => 154 | 51 => 153 | n => n, fun | 1 => 0 | n => n⟩
theorem Tryz.lays138 : Go.Proofs.Lays.n138 Tryz.prog Tryz.lays138_ren := {
  mixed := by kernel_rfl
  f138 := Tryz.func30.trans (congrArg some (by kernel_rfl))
  f143 := Tryz.func65.trans (congrArg some (by kernel_rfl))
  f195 := Tryz.func63.trans (congrArg some (by kernel_rfl))
  f217 := Tryz.func106.trans (congrArg some (by kernel_rfl))
  f218 := Tryz.func64.trans (congrArg some (by kernel_rfl))
  f219 := Tryz.func93.trans (congrArg some (by kernel_rfl))
  f224 := Tryz.func112.trans (congrArg some (by kernel_rfl))
  f225 := Tryz.func111.trans (congrArg some (by kernel_rfl))
  f266 := Tryz.func125.trans (congrArg some (by kernel_rfl))
  f267 := Tryz.func113.trans (congrArg some (by kernel_rfl))
  f314 := Tryz.func129.trans (congrArg some (by kernel_rfl))
  t0 := Tryz.underlying0
  a0 := Tryz.isAgg0
  z0 := Tryz.sizeOf0
  v0 := Tryz.zeroValue0
  t3 := Tryz.underlying3
  a3 := Tryz.isAgg3
  z3 := Tryz.sizeOf3
  v3 := Tryz.zeroValue3
  t4 := Tryz.underlying4
  a4 := Tryz.isAgg4
  z4 := Tryz.sizeOf4
  v4 := Tryz.zeroValue4
  t5 := Tryz.underlying5
  a5 := Tryz.isAgg5
  z5 := Tryz.sizeOf5
  v5 := Tryz.zeroValue5
  t9 := Tryz.underlying9
  a9 := Tryz.isAgg9
  z9 := Tryz.sizeOf9
  v9 := Tryz.zeroValue9
  t46 := Tryz.underlying149
  a46 := Tryz.isAgg149
  z46 := Tryz.sizeOf149
  v46 := Tryz.zeroValue149
  t51 := Tryz.underlying153
  a51 := Tryz.isAgg153
  z51 := Tryz.sizeOf153
  v51 := Tryz.zeroValue153
  t146 := Tryz.underlying154
  a146 := Tryz.isAgg154
  z146 := Tryz.sizeOf154
  v146 := Tryz.zeroValue154
  g1 := by kernel_rfl }
open Go.RowKit Go.Lib in
theorem Tryz.strings_Count_one (s : ByteArray) (c : UInt8) (w : World) :
    Calls Tryz.prog 30 #[.string s, .string ⟨#[c]⟩] w fun e w' => e = .returned (.int .i64 (Lib.countByte s.data.toList c)) ∧ w' = w := Any.strings_Count_one Tryz.lays138 s c w
def Tryz.lays272_ren : Go.Shelf.Ren := ⟨fun | 272 => 121 | 315 => 136 | n => n, fun | 9 => 9 | 40 => 113 | 4 => 4 | 3 => 3 | 0 => 0 | 21 => 21 | n => n, fun | n => n⟩
theorem Tryz.lays272 : Go.Proofs.Lays.n272 Tryz.prog Tryz.lays272_ren := {
  mixed := by kernel_rfl
  f272 := Tryz.func121.trans (congrArg some (by kernel_rfl))
  f315 := Tryz.func136.trans (congrArg some (by kernel_rfl))
  t0 := Tryz.underlying0
  a0 := Tryz.isAgg0
  z0 := Tryz.sizeOf0
  v0 := Tryz.zeroValue0
  t3 := Tryz.underlying3
  a3 := Tryz.isAgg3
  z3 := Tryz.sizeOf3
  v3 := Tryz.zeroValue3
  t4 := Tryz.underlying4
  a4 := Tryz.isAgg4
  z4 := Tryz.sizeOf4
  v4 := Tryz.zeroValue4
  t9 := Tryz.underlying9
  a9 := Tryz.isAgg9
  z9 := Tryz.sizeOf9
  v9 := Tryz.zeroValue9
  t21 := Tryz.underlying21
  a21 := Tryz.isAgg21
  z21 := Tryz.sizeOf21
  v21 := Tryz.zeroValue21
  t40 := Tryz.underlying113
  a40 := Tryz.isAgg113
  z40 := Tryz.sizeOf113
  v40 := Tryz.zeroValue113 }
open Go.RowKit Go.Lib in
theorem Tryz.strings_TrimLeftFunc (g : Nat) (lb : Array Value) (eg : ∀ args w, (callFunc g args).run Tryz.prog w = .ok (.enter g args) w) (p : Nat → Bool) (s : ByteArray) (w : World) (hp : PredAt Tryz.prog g lb encR p w) :
    Calls Tryz.prog 121 #[.string s, .func (.func g) #[] lb] w fun e w' => e = .returned (.string (Lib.trimLeftF p s)) ∧ Below w.heap.size w w' := Any.strings_TrimLeftFunc Tryz.lays272 g lb eg p s w hp
def Tryz.lays99_ren : Go.Shelf.Ren := ⟨fun | 99 => 79 | 206 => 99 | n => n, fun | 9 => 9 | 4 => 4 | 3 => 3 | n => n, fun | n => n⟩
theorem Tryz.lays99 : Go.Proofs.Lays.n99 Tryz.prog Tryz.lays99_ren := {
  mixed := by kernel_rfl
  f99 := Tryz.func79.trans (congrArg some (by kernel_rfl))
  f206 := Tryz.func99.trans (congrArg some (by kernel_rfl))
  t3 := Tryz.underlying3
  a3 := Tryz.isAgg3
  z3 := Tryz.sizeOf3
  v3 := Tryz.zeroValue3
  t4 := Tryz.underlying4
  a4 := Tryz.isAgg4
  z4 := Tryz.sizeOf4
  v4 := Tryz.zeroValue4
  t9 := Tryz.underlying9
  a9 := Tryz.isAgg9
  z9 := Tryz.sizeOf9
  v9 := Tryz.zeroValue9 }
open Go.RowKit Go.Lib in
theorem Tryz.strings_HasPrefix (s p : ByteArray) (w : World) :
    Calls Tryz.prog 79 #[.string s, .string p] w fun e w' => e = .returned (.bool (Lib.hasPrefix s.data.toList p.data.toList)) ∧ w' = w := Any.strings_HasPrefix Tryz.lays99 s p w
def Tryz.lays101_ren : Go.Shelf.Ren := ⟨fun | 101 => 81 | 208 => 100 | 206 => 99 | n => n, fun | 9 => 9 | 4 => 4 | 3 => 3 | n => n, fun | n => n⟩
theorem Tryz.lays101 : Go.Proofs.Lays.n101 Tryz.prog Tryz.lays101_ren := {
  mixed := by kernel_rfl
  f101 := Tryz.func81.trans (congrArg some (by kernel_rfl))
  f206 := Tryz.func99.trans (congrArg some (by kernel_rfl))
  f208 := Tryz.func100.trans (congrArg some (by kernel_rfl))
  t3 := Tryz.underlying3
  a3 := Tryz.isAgg3
  z3 := Tryz.sizeOf3
  v3 := Tryz.zeroValue3
  t4 := Tryz.underlying4
  a4 := Tryz.isAgg4
  z4 := Tryz.sizeOf4
  v4 := Tryz.zeroValue4
  t9 := Tryz.underlying9
  a9 := Tryz.isAgg9
  z9 := Tryz.sizeOf9
  v9 := Tryz.zeroValue9 }
open Go.RowKit Go.Lib in
theorem Tryz.strings_TrimPrefix (s p : ByteArray) (w : World) :
    Calls Tryz.prog 81 #[.string s, .string p] w fun e w' => e = .returned (.string ⟨(Lib.trimPrefix s.data.toList p.data.toList).toArray⟩) ∧ w' = w := Any.strings_TrimPrefix Tryz.lays101 s p w
def Tryz.lays146_ren : Go.Shelf.Ren := ⟨fun | 146 => 120 | 221 => 135 | 268 => 137 | 138 => 30 | 143 => 65 | 195 => 63 | 197 => 138 | 218 => 64 | 219 => 93 | 260 => 139 | 217 => 106 | 225 => 111 | 224 => 112 | 267 => 113 | 266 => 125 | 314 => 129 | n => n, fun | 9 => 9 | 31 => 36 | 3 => 3 | 4 => 4 | 0 => 0 | 105 => 161 | 21 => 21 | 5 => 5 | 46 => 149 | 119 => 163 | 139 => 166 | 138 => 165 | 146 => 154 | 51 => 153 | n => n, fun | 1 => 0 | 3 => 1 | 4 => 2 | n => n⟩
theorem Tryz.lays146 : Go.Proofs.Lays.n146 Tryz.prog Tryz.lays146_ren := {
  mixed := by kernel_rfl
  f138 := Tryz.func30.trans (congrArg some (by kernel_rfl))
  f143 := Tryz.func65.trans (congrArg some (by kernel_rfl))
  f146 := Tryz.func120.trans (congrArg some (by kernel_rfl))
  f195 := Tryz.func63.trans (congrArg some (by kernel_rfl))
  f197 := Tryz.func138.trans (congrArg some (by kernel_rfl))
  f217 := Tryz.func106.trans (congrArg some (by kernel_rfl))
  f218 := Tryz.func64.trans (congrArg some (by kernel_rfl))
  f219 := Tryz.func93.trans (congrArg some (by kernel_rfl))
  f221 := Tryz.func135.trans (congrArg some (by kernel_rfl))
  f224 := Tryz.func112.trans (congrArg some (by kernel_rfl))
  f225 := Tryz.func111.trans (congrArg some (by kernel_rfl))
  f260 := Tryz.func139.trans (congrArg some (by kernel_rfl))
  f266 := Tryz.func125.trans (congrArg some (by kernel_rfl))
  f267 := Tryz.func113.trans (congrArg some (by kernel_rfl))
  f268 := Tryz.func137.trans (congrArg some (by kernel_rfl))
  f314 := Tryz.func129.trans (congrArg some (by kernel_rfl))
  t0 := Tryz.underlying0
  a0 := Tryz.isAgg0
  z0 := Tryz.sizeOf0
  v0 := Tryz.zeroValue0
  t3 := Tryz.underlying3
  a3 := Tryz.isAgg3
  z3 := Tryz.sizeOf3
  v3 := Tryz.zeroValue3
  t4 := Tryz.underlying4
  a4 := Tryz.isAgg4
  z4 := Tryz.sizeOf4
  v4 := Tryz.zeroValue4
  t5 := Tryz.underlying5
  a5 := Tryz.isAgg5
  z5 := Tryz.sizeOf5
  v5 := Tryz.zeroValue5
  t9 := Tryz.underlying9
  a9 := Tryz.isAgg9
  z9 := Tryz.sizeOf9
  v9 := Tryz.zeroValue9
  t21 := Tryz.underlying21
  a21 := Tryz.isAgg21
  z21 := Tryz.sizeOf21
  v21 := Tryz.zeroValue21
  t31 := Tryz.underlying36
  a31 := Tryz.isAgg36
  z31 := Tryz.sizeOf36
  v31 := Tryz.zeroValue36
  t46 := Tryz.underlying149
  a46 := Tryz.isAgg149
  z46 := Tryz.sizeOf149
  v46 := Tryz.zeroValue149
  t51 := Tryz.underlying153
  a51 := Tryz.isAgg153
  z51 := Tryz.sizeOf153
  v51 := Tryz.zeroValue153
  t105 := Tryz.underlying161
  a105 := Tryz.isAgg161
  z105 := Tryz.sizeOf161
  v105 := Tryz.zeroValue161
  t119 := Tryz.underlying163
  a119 := Tryz.isAgg163
  z119 := Tryz.sizeOf163
  t138 := Tryz.underlying165
  a138 := Tryz.isAgg165
  z138 := Tryz.sizeOf165
  v138 := Tryz.zeroValue165
  t139 := Tryz.underlying166
  a139 := Tryz.isAgg166
  z139 := Tryz.sizeOf166
  v139 := Tryz.zeroValue166
  t146 := Tryz.underlying154
  a146 := Tryz.isAgg154
  z146 := Tryz.sizeOf154
  v146 := Tryz.zeroValue154
  g1 := by kernel_rfl
  g3 := by kernel_rfl
  g4 := by kernel_rfl }
open Go.RowKit Go.Lib in
theorem Tryz.strings_Split (s sep : ByteArray) (m : Int) (w : World) (hs : s.size < 4294967281) (hm : w.cell? ⟨0, 0, none⟩ = some (.int .i64 m)) (h1 : 1 ≤ sep.size) :
    Calls Tryz.prog 120 #[.string s, .string sep] w fun e w' =>
      e = .returned (.slice (some ⟨w.heap.size, 0, none⟩) (Lib.countB s sep + 1) (Lib.countB s sep + 1)) ∧ w' = w.alloc (.cells ((Lib.splitB sep 0 (Lib.countB s sep) s).map Value.string).toArray 9) := Any.strings_Split Tryz.lays146 (by kernel_rfl) s sep m w hs hm h1
def Tryz.lays229_ren : Go.Shelf.Ren := ⟨fun | 229 => 66 | n => n, fun | 9 => 9 | 40 => 113 | 31 => 36 | 152 => 132 | 3 => 3 | 0 => 0 | 4 => 4 | 21 => 21 | 154 => 134 | n => n, fun | n => n⟩
theorem Tryz.lays229 : Go.Proofs.Lays.n229 Tryz.prog Tryz.lays229_ren := {
  mixed := by kernel_rfl
  f229 := Tryz.func66.trans (congrArg some (by kernel_rfl))
  t0 := Tryz.underlying0
  a0 := Tryz.isAgg0
  z0 := Tryz.sizeOf0
  v0 := Tryz.zeroValue0
  t3 := Tryz.underlying3
  a3 := Tryz.isAgg3
  z3 := Tryz.sizeOf3
  v3 := Tryz.zeroValue3
  t4 := Tryz.underlying4
  a4 := Tryz.isAgg4
  z4 := Tryz.sizeOf4
  v4 := Tryz.zeroValue4
  t9 := Tryz.underlying9
  a9 := Tryz.isAgg9
  z9 := Tryz.sizeOf9
  v9 := Tryz.zeroValue9
  t21 := Tryz.underlying21
  a21 := Tryz.isAgg21
  z21 := Tryz.sizeOf21
  v21 := Tryz.zeroValue21
  t31 := Tryz.underlying36
  a31 := Tryz.isAgg36
  z31 := Tryz.sizeOf36
  v31 := Tryz.zeroValue36
  t40 := Tryz.underlying113
  a40 := Tryz.isAgg113
  z40 := Tryz.sizeOf113
  v40 := Tryz.zeroValue113
  t152 := Tryz.underlying132
  a152 := Tryz.isAgg132
  z152 := Tryz.sizeOf132
  v152 := Tryz.zeroValue132
  t154 := Tryz.underlying134
  a154 := Tryz.isAgg134
  z154 := Tryz.sizeOf134
  v154 := Tryz.zeroValue134 }
open Go.RowKit Go.Lib in
theorem Tryz.strings_FieldsFunc_runes (g : Nat) (lb : Array Value) (eg : ∀ args w, (callFunc g args).run Tryz.prog w = .ok (.enter g args) w) (p : Nat → Bool) (s : ByteArray) (w : World) (hs : s.size ≤ 4294967296) (hp : PredAtRunes Tryz.prog g lb p w) :
    Calls Tryz.prog 66 #[.string s, .func (.func g) #[] lb] w fun e w' => ∃ A, e = .returned (.slice (some ⟨A, 0, none⟩) (Lib.goFieldsP p s).length (Lib.goFieldsP p s).length) ∧ w.heap.size ≤ A ∧
      w'.ownsRow w.heap.size 9 1 (.slice (some ⟨A, 0, none⟩) (Lib.goFieldsP p s).length (Lib.goFieldsP p s).length) (Lib.goFieldsP p s).length ((Lib.goFieldsP p s).map Value.string) ∧ Below w.heap.size w w' := Any.strings_FieldsFunc_runes Tryz.lays229 g lb eg p s w hs hp (by kernel_rfl) (by kernel_rfl)
open Go.RowKit Go.Lib in
theorem Tryz.strings_FieldsFunc (g : Nat) (lb : Array Value) (eg : ∀ args w, (callFunc g args).run Tryz.prog w = .ok (.enter g args) w) (p : Nat → Bool) (s : ByteArray) (w : World) (hs : s.size ≤ 4294967296) (hp : PredAt Tryz.prog g lb encR p w) :
    Calls Tryz.prog 66 #[.string s, .func (.func g) #[] lb] w fun e w' => ∃ A, e = .returned (.slice (some ⟨A, 0, none⟩) (Lib.goFieldsP p s).length (Lib.goFieldsP p s).length) ∧ w.heap.size ≤ A ∧
      w'.ownsRow w.heap.size 9 1 (.slice (some ⟨A, 0, none⟩) (Lib.goFieldsP p s).length (Lib.goFieldsP p s).length) (Lib.goFieldsP p s).length ((Lib.goFieldsP p s).map Value.string) ∧ Below w.heap.size w w' := Any.strings_FieldsFunc Tryz.lays229 g lb eg p s w hs hp (by kernel_rfl) (by kernel_rfl)
open Go.RowKit Go.Lib in
theorem Tryz.strings_TrimLeftFunc_grows (g : Nat) (lb : Array Value) (eg : ∀ args w, (callFunc g args).run Tryz.prog w = .ok (.enter g args) w) (p : Nat → Bool) (s : ByteArray) (w : World) (hp : PredGrows Tryz.prog g lb p w) :
    Calls Tryz.prog 121 #[.string s, .func (.func g) #[] lb] w fun e w' => e = .returned (.string (Lib.trimLeftF p s)) ∧ Below w.heap.size w w' := Any.strings_TrimLeftFunc_grows Tryz.lays272 g lb eg p s w hp
open Go.RowKit Go.Lib in
theorem Tryz.strings_FieldsFunc_grows (g : Nat) (lb : Array Value) (eg : ∀ args w, (callFunc g args).run Tryz.prog w = .ok (.enter g args) w) (p : Nat → Bool) (s : ByteArray) (w : World) (hs : s.size ≤ 4294967296) (hp : PredGrows Tryz.prog g lb p w) :
    Calls Tryz.prog 66 #[.string s, .func (.func g) #[] lb] w fun e w' => ∃ A, e = .returned (.slice (some ⟨A, 0, none⟩) (Lib.goFieldsP p s).length (Lib.goFieldsP p s).length) ∧ w.heap.size ≤ A ∧
      w'.ownsRow w.heap.size 9 1 (.slice (some ⟨A, 0, none⟩) (Lib.goFieldsP p s).length (Lib.goFieldsP p s).length) (Lib.goFieldsP p s).length ((Lib.goFieldsP p s).map Value.string) ∧ Below w.heap.size w w' := Any.strings_FieldsFunc_grows Tryz.lays229 g lb eg p s w hs hp (by kernel_rfl) (by kernel_rfl)
def Tryz.lays193_ren : Go.Shelf.Ren := ⟨fun | 193 => 45 | n => n, fun | 31 => 36 | 9 => 9 | 4 => 4 | 3 => 3 | 0 => 0 | n => n, fun | n => n⟩
theorem Tryz.lays193 : Go.Proofs.Lays.n193 Tryz.prog Tryz.lays193_ren := {
  mixed := by kernel_rfl
  f193 := Tryz.func45.trans (congrArg some (by kernel_rfl))
  t0 := Tryz.underlying0
  a0 := Tryz.isAgg0
  z0 := Tryz.sizeOf0
  v0 := Tryz.zeroValue0
  t3 := Tryz.underlying3
  a3 := Tryz.isAgg3
  z3 := Tryz.sizeOf3
  v3 := Tryz.zeroValue3
  t4 := Tryz.underlying4
  a4 := Tryz.isAgg4
  z4 := Tryz.sizeOf4
  v4 := Tryz.zeroValue4
  t9 := Tryz.underlying9
  a9 := Tryz.isAgg9
  z9 := Tryz.sizeOf9
  v9 := Tryz.zeroValue9
  t31 := Tryz.underlying36
  a31 := Tryz.isAgg36
  z31 := Tryz.sizeOf36
  v31 := Tryz.zeroValue36 }
open Go.RowKit Go.Lib in
theorem Tryz.slices_Equal_string (b1 o1 n c b2 o2 m d : Nat) (xs ys : List ByteArray) (w : World) (hx : n ≤ xs.length) (hy : m ≤ ys.length) (hbig : n ≤ 9223372036854775807) (hbig2 : m ≤ 9223372036854775807) (hc1 : ∀ j, j < xs.length → w.cell? ⟨b1, o1 + j, none⟩ = some (.string (xs.getD j ByteArray.empty))) (hc2 : ∀ j, j < ys.length → w.cell? ⟨b2, o2 + j, none⟩ = some (.string (ys.getD j ByteArray.empty))) :
    Calls Tryz.prog 45 #[.slice (some ⟨b1, o1, none⟩) n c, .slice (some ⟨b2, o2, none⟩) m d] w fun e w' => e = .returned (.bool (decide (xs.take n = ys.take m))) ∧ ∃ q, w' = w.drewN q := Any.slices_Equal_string Tryz.lays193 b1 o1 n c b2 o2 m d xs ys w hx hy hbig hbig2 hc1 hc2
open Go.RowKit Go.Lib in
theorem Tryz.slices_Equal_string_empty (a1 a2 : Option Addr) (c m d : Nat) (w : World) (hbig2 : m ≤ 9223372036854775807) :
    Calls Tryz.prog 45 #[.slice a1 0 c, .slice a2 m d] w fun e w' => e = .returned (.bool (decide (m = 0))) ∧ w' = w := Any.slices_Equal_string_empty Tryz.lays193 a1 a2 c m d w hbig2
open Go.RowKit Go.Lib in
theorem Tryz.slices_Equal_string_lens (a1 a2 : Option Addr) (n c m d : Nat) (w : World) (hnm : n ≠ m) :
    Calls Tryz.prog 45 #[.slice a1 n c, .slice a2 m d] w fun e w' => e = .returned (.bool false) ∧ w' = w := Any.slices_Equal_string_lens Tryz.lays193 a1 a2 n c m d w hnm
end Go.Proofs

/- Tal -/
namespace Go.Proofs.YtbnhefibpjldfaaGreatDoor
open Go
set_option linter.unusedVariables false

section
variable {P : Program} {md : Region.Mode} {Q : Exit → Act → World → Prop}

theorem wpAny_more {ops : Array Oper} : ∀ (f : Nat) (listed : Array Bool) (a : Act) (w : World), wpAny P md ops Q f listed a w → wpAny P md ops Q (f + 1) listed a w
  | 0, listed, a, w, h => ⟨fun _ => h.2, fun i hi => by rw [h.1] at hi; cases hi⟩
  | f + 1, listed, a, w, h => ⟨h.1, fun i hi => wpOp_mono (fun a w h => wpAny_more f _ a w h) (h.2 i hi)⟩
theorem wpAny_le {ops : Array Oper} {listed : Array Bool} {a : Act} {w : World} (f k : Nat) (h : wpAny P md ops Q f listed a w) : wpAny P md ops Q (f + k) listed a w := by
  induction k with
  | zero => exact h
  | succ k ih => exact wpAny_more _ _ _ _ ih

/-- Each of the first n operations waits for earlier ones alone, and so do its guards. -/
def headB (md : Region.Mode) (l : List Oper) (n : Nat) : Bool :=
  (List.range n).all fun i => match l[i]? with
    | none => false
    | some o => (o.after.all fun e => !Region.binds md e || decide (e.on < i)) && (match o.guard with | some (g, _) => decide (g < n) | none => true)

theorem headB_spec {l : List Oper} {n i : Nat} (h : headB md l n = true) (hi : i < n) : ∃ o, l[i]? = some o ∧ (∀ e ∈ o.after, Region.binds md e = true → e.on < i) ∧ (∀ g b, o.guard = some (g, b) → g < n) := by
  have h1 := List.all_eq_true.1 h i (List.mem_range.2 hi)
  split at h1
  · cases h1
  · rename_i o ho
    simp only [Bool.and_eq_true] at h1
    refine ⟨o, ho, fun e he hb => ?_, fun g b hg => ?_⟩
    · have := Array.all_eq_true'.1 h1.1 e he
      simp only [hb, Bool.not_true, Bool.false_or, decide_eq_true_eq] at this
      exact this
    · have h2 := h1.2
      rw [hg] at h2
      simpa using h2

/-- The two bookkeepings go together. -/
structure Tog (l : List Oper) (n : Nat) (listed lh : Array Bool) : Prop where
  size : listed.size = l.length
  sizeh : lh.size = n
  same : ∀ i, i < n → listed.getD i false = lh.getD i false
  inv : HeadInv md l.toArray n listed

theorem getD_at {x : Array Bool} {i : Nat} (h : i < x.size) (d : Bool) : x.getD i d = x[i] := by simp [h]
theorem getD_tf {x : Array Bool} {i : Nat} (h : i < x.size) : x.getD i true = x.getD i false := by rw [getD_at h, getD_at h]

theorem Tog.ready {l : List Oper} {n : Nat} {listed lh : Array Bool} (h : Tog (md := md) l n listed lh) (hB : headB md l n = true) (hn : n ≤ l.length) {i : Nat} (hi : i < n) :
    i ∈ Region.ready md l.toArray listed ↔ i ∈ Region.ready md (l.take n).toArray lh := by
  obtain ⟨o, ho, hafter, _⟩ := headB_spec hB hi
  have e1 : listed.getD i true = lh.getD i true := by rw [getD_tf (by rw [h.size]; omega), getD_tf (by rw [h.sizeh]; exact hi)]; exact h.same i hi
  rw [mem_ready, mem_ready, e1]
  have ho2 : (l.take n).toArray[i]? = some o := by simp [hi, ho]
  have ho1 : l.toArray[i]? = some o := by simpa using ho
  constructor
  · rintro ⟨a, o', ho', hall⟩
    obtain rfl : o' = o := Option.some.inj (ho'.symm.trans ho1)
    exact ⟨a, o', ho2, fun e he hb => by rw [← h.same e.on (by have := hafter e he hb; omega)]; exact hall e he hb⟩
  · rintro ⟨a, o', ho', hall⟩
    obtain rfl : o' = o := Option.some.inj (ho'.symm.trans ho2)
    exact ⟨a, o', ho1, fun e he hb => by rw [h.same e.on (by have := hafter e he hb; omega)]; exact hall e he hb⟩

/-- Where nothing of the head may come up, all of it has. -/
theorem head_done {l : List Oper} {n : Nat} {lh : Array Bool} (hB : headB md l n = true) (hs : lh.size = n) (h : Region.ready md (l.take n).toArray lh = []) : ∀ i, i < n → lh.getD i false = true := by
  intro i
  induction i using Nat.strongRecOn with
  | _ i ih =>
    intro hi
    obtain ⟨o, ho, hafter, _⟩ := headB_spec hB hi
    cases hl : lh.getD i false with
    | true => rfl
    | false =>
      have : i ∈ Region.ready md (l.take n).toArray lh := by
        rw [mem_ready]
        exact ⟨by rw [getD_tf (by omega)]; exact hl, o, by simp [hi, ho], fun e he hb => ih e.on (hafter e he hb) (by have := hafter e he hb; omega)⟩
      rw [h] at this
      cases this

theorem wpOp_head {l : List Oper} {n i : Nat} (hB : headB md l n = true) (hi : i < n) (K : Act → World → Prop) (a : Act) (w : World) {Qh : Exit → Act → World → Prop} (hQ : ∀ e a w, e ≠ .normal → Qh e a w → Q e a w)
    (h : wpOp P (l.take n).toArray Qh i K a w) : wpOp P l.toArray Q i K a w := by
  obtain ⟨o, ho, _, hg⟩ := headB_spec hB hi
  unfold wpOp at *
  have e1 : (l.take n).toArray[i]? = some o := by simp [hi, ho]
  have e2 : l.toArray[i]? = some o := by simpa using ho
  rw [e2]; rw [e1] at h
  simp only at *
  have hw : Region.wanted o (yielded l.toArray a.tmps) = Region.wanted o (yielded (l.take n).toArray a.tmps) := by
    unfold Region.wanted
    cases hgu : o.guard with
    | none => rfl
    | some g =>
      obtain ⟨g, b⟩ := g
      have hgn := hg g b hgu
      have : yielded l.toArray a.tmps g = yielded (l.take n).toArray a.tmps g := by
        unfold yielded
        have : l.toArray[g]? = (l.take n).toArray[g]? := by simp [hgn]
        rw [this]
      simp only [this]
  rw [hw]
  split
  · rename_i hwt
    rw [if_pos hwt] at h
    rcases h with h | ⟨hasks, a', w', hq⟩
    · left
      unfold Oper.wp at *
      generalize (execOp a.eval o).run P w = r at *
      cases r with
      | ok x w' =>
        cases x <;> simp only [Oper.upon] at h ⊢ <;> try exact h
        refine Calls.mono h fun e w'' he => ?_
        cases e with
        | returned u => exact he
        | panicked c => exact hQ _ _ _ (by simp) he
        | outgrown => obtain ⟨a', w', hq⟩ := he; exact ⟨a', w', hQ _ _ _ (by simp) hq⟩
      | halt x w' =>
        cases x <;> simp only [Oper.upon] at h ⊢ <;> try exact h
        exact hQ _ _ _ (by simp) h
    · exact .inr ⟨hasks, a', w', hQ _ _ _ (by simp) hq⟩
  · rename_i hwt
    rw [if_neg hwt] at h
    exact h

theorem Tog.set {l : List Oper} {n i : Nat} {listed lh : Array Bool} (h : Tog (md := md) l n listed lh) (hi : i ∈ Region.ready md l.toArray listed) (hin : i < n) : Tog (md := md) l n (listed.setIfInBounds i true) (lh.setIfInBounds i true) := by
  refine ⟨by simp [h.size], by simp [h.sizeh], fun j hj => ?_, h.inv.set hi hin⟩
  by_cases hij : i = j
  · subst hij
    have h1 : i < listed.size := by
      have := (Array.getElem?_eq_some_iff.1 (mem_ready.1 hi).2.choose_spec.1).1
      rw [h.size]; simpa using this
    have h2 : i < lh.size := by rw [h.sizeh]; exact hin
    simp [h1, h2]
  · rw [getD_set_ne false hij, getD_set_ne false hij]; exact h.same j hj

def fullB (l : List Oper) (n : Nat) : Array Bool := ((List.range l.length).map fun i => decide (i < n)).toArray

theorem full_eq {l : List Oper} {n : Nat} {listed : Array Bool} (hs : listed.size = l.length) (h1 : ∀ i, i < n → listed.getD i false = true) (h2 : ∀ t, n ≤ t → t < l.length → listed.getD t true = false) : listed = fullB l n := by
  apply Array.ext
  · simp [fullB, hs]
  · intro i hi hi2
    simp only [fullB, List.getElem_toArray, List.getElem_map, List.getElem_range]
    by_cases hin : i < n
    · have := h1 i hin; rw [getD_at hi] at this; simp [this, hin]
    · have := h2 i (by omega) (by omega); rw [getD_at hi] at this; simp [this, hin]

theorem wpAny_split {l : List Oper} {n g : Nat} {Qh : Exit → Act → World → Prop} (hB : headB md l n = true) (hs : Region.sinkB md l.toArray n = true) (hc : Region.chainB md l.toArray n = true) (hn : n < l.length)
    (hQ : ∀ e a w, e ≠ .normal → Qh e a w → Q e a w) (hT : ∀ a w, Qh .normal a w → wpAny P md l.toArray Q g (fullB l n) a w) :
    ∀ (f : Nat) (listed lh : Array Bool) (a : Act) (w : World), Tog (md := md) l n listed lh → wpAny P md (l.take n).toArray Qh f lh a w → wpAny P md l.toArray Q (f + g) listed a w := by
  have hdone : ∀ (listed lh : Array Bool) (a : Act) (w : World), Tog (md := md) l n listed lh → Region.ready md (l.take n).toArray lh = [] → Qh .normal a w → wpAny P md l.toArray Q g listed a w := fun listed lh a w ht hr hq => by
    have hd := head_done hB ht.sizeh hr
    have : listed = fullB l n := full_eq ht.size (fun i hi => by rw [ht.same i hi]; exact hd i hi) (fun t h1 h2 => ht.inv.tail t h1 (by simpa using h2))
    rw [this]; exact hT a w hq
  intro f
  induction f with
  | zero =>
    intro listed lh a w ht h
    rw [Nat.zero_add]
    exact hdone listed lh a w ht h.1 h.2
  | succ f ih =>
    intro listed lh a w ht h
    by_cases hr : Region.ready md (l.take n).toArray lh = []
    · rw [Nat.add_comm]; exact wpAny_le g (f + 1) (hdone listed lh a w ht hr (h.1 hr))
    · obtain ⟨i0, hi0⟩ : ∃ i, i ∈ Region.ready md (l.take n).toArray lh := by
        cases hx : Region.ready md (l.take n).toArray lh with
        | nil => exact absurd hx hr
        | cons x xs => exact ⟨x, by simp⟩
      have hi0n : i0 < n := by
        have := (Array.getElem?_eq_some_iff.1 (mem_ready.1 hi0).2.choose_spec.1).1
        simp at this; omega
      have hi0' := (ht.ready hB (by omega) hi0n).2 hi0
      have hun := (mem_ready.1 hi0').1
      rw [show f + 1 + g = (f + g) + 1 from by omega]
      refine ⟨fun h0 => (by rw [h0] at hi0'; cases hi0'), fun i hi => ?_⟩
      have hin : i < n := by
        rcases Nat.lt_or_ge i n with h' | h'
        · exact h'
        · exact absurd hi (tail_waits hs hc (by simpa using hn) ht.inv _ i0 rfl hi0n hun i h')
      have h1 := h.2 i ((ht.ready hB (by omega) hin).1 hi)
      exact wpOp_mono (fun a' w' h' => ih _ _ a' w' (ht.set hi hin) h') (wpOp_head hB hin _ a w hQ h1)

/-- The Bools of a region whose tail, from operation n on, is forced. -/
def tailB (l : List Oper) (n : Nat) : Bool :=
  headB .any l n && Region.sinkB .any l.toArray n && Region.chainB .any l.toArray n && decide (n < l.length) && Region.lexB .any (l.take n).toArray && Region.seqB .any l.toArray (l.length - n) n (fullB l n)

/-- ONE WALK OF THE TEXT SERVES EVERY ORDER: the head is quiet in the class C, the tail is walked in every world of the class. -/
theorem wpAny_tail {C : World → Prop} {a : Act} {w : World} {l : List Oper} (n : Nat) (hB : tailB l n = true) (hC : C w)
    (h : wpQuiet P (l.take n).toArray C (fun a' => ∀ w', C w' → wpList P l.toArray Q (l.drop n) a' w') (l.take n) a) : wpAny P .any l.toArray Q l.toArray.size (Array.replicate l.toArray.size false) a w := by
  simp only [tailB, Bool.and_eq_true, decide_eq_true_eq] at hB
  obtain ⟨⟨⟨⟨⟨h1, h2⟩, h3⟩, h4⟩, h5⟩, h6⟩ := hB
  have hln : (l.take n).length = n := by simp; omega
  have hlex := h5
  simp only [Region.lexB, Bool.and_eq_true] at hlex
  have hq := wpAnyQ_lex (C := C) (md := .any) hlex.1 (l.take n) 0 (Array.replicate (l.take n).toArray.size false) a (by simp) (by simpa using hlex.2) h
  have hany := wpAny_of_quiet (P := P) (Q := fun a' => ∀ w', C w' → wpList P l.toArray Q (l.drop n) a' w')
    (Q' := fun e a' w' => e = .normal ∧ wpList P l.toArray Q (l.drop n) a' w') (fun a' w' hw' h' => ⟨rfl, h' w' hw'⟩) _ _ _ _ hC hq
  have := wpAny_split (P := P) (md := .any) (Q := Q) (g := l.length - n) h1 h2 h3 h4 (Qh := fun e a' w' => e = .normal ∧ wpList P l.toArray Q (l.drop n) a' w') (fun e a w he hh => absurd hh.1 he)
    (fun a' w' hh => by
      have := wpAny_of_seq (md := .any) (P := P) (Q' := Q) (l.drop n) n (fullB l n) a' w' (fun j => by simp [List.getElem?_drop]) (by simpa using h6) hh.2
      simpa using this)
    _ (Array.replicate l.length false) (Array.replicate (l.take n).toArray.size false) a _
    ⟨by simp, by simpa using hln, fun i hi => by rw [getD_replicate_false, getD_replicate_false],
      ⟨by simp, fun j oj _ hl => (by rw [getD_replicate_false] at hl; cases hl), fun t _ ht => getD_in (by simpa using ht) (getD_replicate_false _ _)⟩⟩ hany
  rw [hln] at this
  rw [show n + (l.length - n) = l.length from by omega] at this
  simpa using this

theorem wp_region_tail {C : World → Prop} {id : Nat} {a : Act} {w : World} {l : List Oper} (n : Nat) (hm : P.follows .mixedOrders = true) (hB : tailB l n = true) (hC : C { w with drawn := w.drawn + 1 })
    (h : wpQuiet P (l.take n).toArray C (fun a' => ∀ w', C w' → wpList P l.toArray Q (l.drop n) a' w') (l.take n) a) : (Code.region id l.toArray true).wp P Q a w :=
  wp_region_any hm (wpAny_tail n hB hC h)

/-! The same in a round of a range over a function. -/
def NoOut (Q : Exit → Act → World → Prop) : Exit → Act → World → Prop := fun e a w => e ≠ .outgrown ∧ Q e a w
theorem NoOut.normal {a : Act} {w : World} (h : Q .normal a w) : NoOut Q .normal a w := ⟨by simp, h⟩

theorem rows_round {l n : Nat} {row : String} {args : Array Value} {w : World} {R : Value → World → Prop} (h : Rows P row args w R) : RowsIn (Fence.wide.inRound l) n P row args w R :=
  fun c cs _ => let ⟨v, w', r, s⟩ := h c cs; ⟨v, w', r, stepsIn_wide.2 s⟩
theorem calls_round {l n : Nat} {f : FuncId} {args : Array Value} {w : World} {R : Ending → World → Prop} (h : Calls P f args w R) : CallsIn (Fence.wide.inRound l) n P f args w R :=
  CallsIn.inRound l (callsIn_wide.2 h)

def noDeferB (l : List Oper) : Bool := l.all fun o => match o.op with | .defer _ => false | _ => true
theorem noDeferB_spec {l : List Oper} {i : Nat} {o : Oper} (h : noDeferB l = true) (ho : l.toArray[i]? = some o) : ∀ c, o.op ≠ .defer c := fun c hc => by
  have := List.all_eq_true.1 h o (List.mem_of_getElem? (by simpa using ho))
  rw [hc] at this
  cases this

theorem wpAnyIn_of_any {l : List Oper} {r n : Nat} (hd : noDeferB l = true) : ∀ (f : Nat) (listed : Array Bool) (a : Act) (w : World), wpAny P md l.toArray (NoOut Q) f listed a w → wpAnyIn (Fence.wide.inRound r) n P md l.toArray Q f listed a w
  | 0, listed, a, w, h => ⟨h.1, h.2.2⟩
  | f + 1, listed, a, w, h => ⟨fun h0 => (h.1 h0).2, fun i hi => by
    have h1 := wpOp_mono (fun a w hh => wpAnyIn_of_any (r := r) (n := n) hd f _ a w hh) (h.2 i hi)
    unfold wpOp at h1
    unfold wpOpIn
    split
    · rename_i ho; simp only [ho] at h1; exact h1
    · rename_i o ho
      simp only [ho] at h1
      split
      · rename_i hw
        rw [if_pos hw] at h1
        rcases h1 with h1 | ⟨_, a', w', hq⟩
        · refine ⟨fun _ _ => trivial, ?_⟩
          rw [Oper.semAt_eq _ _ _ (noDeferB_spec hd ho)]
          unfold Oper.wp at h1
          generalize (execOp a.eval o).run P w = res at *
          cases res with
          | ok x w' =>
            cases x <;> simp only [Oper.upon, Oper.uponIn] at h1 ⊢ <;> try exact h1
            · refine ⟨fun hh => (by cases hh), calls_round (Calls.mono h1 fun e w'' he => ?_)⟩
              cases e with
              | returned u => exact he
              | panicked c => exact he.2
              | outgrown => obtain ⟨a', w', hq⟩ := he; exact absurd rfl hq.1
            · exact ⟨fun hh => (by cases hh), rows_round h1⟩
          | halt x w' =>
            cases x <;> simp only [Oper.upon, Oper.uponIn] at h1 ⊢ <;> try exact h1
            exact h1.2
        · exact absurd rfl hq.1
      · rename_i hw
        rw [if_neg hw] at h1
        exact ⟨fun _ _ => trivial, h1⟩⟩

theorem wpIn_region_tail {C : World → Prop} {id r m : Nat} {a : Act} {w : World} {l : List Oper} (n : Nat) (hm : P.follows .mixedOrders = true) (hB : (tailB l n && noDeferB l) = true) (hC : C { w with drawn := w.drawn + 1 })
    (h : wpQuiet P (l.take n).toArray C (fun a' => ∀ w', C w' → wpList P l.toArray (NoOut Q) (l.drop n) a' w') (l.take n) a) : (Code.region id l.toArray true).wpIn (Fence.wide.inRound r) m P Q a w := by
  simp only [Bool.and_eq_true] at hB
  exact wpIn_region_any hm (wpAnyIn_of_any hB.2 _ _ _ _ (wpAny_tail n hB.1 hC h))

/-- All operations quiet. -/
theorem wpIn_region_quiet_round {C : World → Prop} {id r m : Nat} {a : Act} {w : World} {l : List Oper} (hm : P.follows .mixedOrders = true) (hB : (Region.lexB .any l.toArray && noDeferB l) = true) (hC : C { w with drawn := w.drawn + 1 })
    (h : wpQuiet P l.toArray C (fun a' => ∀ w', C w' → Q .normal a' w') l a) : (Code.region id l.toArray true).wpIn (Fence.wide.inRound r) m P Q a w := by
  simp only [Bool.and_eq_true] at hB
  have hlex := hB.1
  simp only [Region.lexB, Bool.and_eq_true] at hlex
  refine wpIn_region_any hm (wpAnyIn_of_any hB.2 _ _ _ _ (wpAny_of_quiet (Q := fun a' => ∀ w', C w' → Q .normal a' w') (fun _ w' hw' h => ⟨by simp, h w' hw'⟩) _ _ _ _ hC ?_))
  have := wpAnyQ_lex (C := C) (md := .any) hlex.1 l 0 (Array.replicate l.toArray.size false) a (by simp) (by simpa using hlex.2) h
  simpa using this
end
end Go.Proofs.YtbnhefibpjldfaaGreatDoor

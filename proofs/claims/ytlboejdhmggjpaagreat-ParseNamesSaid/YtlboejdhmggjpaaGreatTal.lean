/- General laws: rows of cells, loads of whole structs, small facts on worlds. -/
import Derived.WalkKit
import Derived.BigCall
import Derived.BigQuiet
import Derived.WalkLawsBesides
import Derived.Lib.Hide
import Derived.Lib.Strings
import Derived.Deep.QuietTactic
import Derived.Deep.RegionWith
import Derived.Deep.RegionHeld3
import Derived.Deep.LoopGhost
import Derived.Deep.DeepCutAuto
import Derived.Handy
import Derived.Laws.AppendOwnNone
import Derived.Shelf.Small.Strs
import Derived.Shelf.Strings.Search1
import Derived.Shelf.Strings.Search2
import Derived.Shelf.Strings.Search3
import Derived.Shelf.LaysM
import Derived.Shelf.Strings.Shaped
import Derived.Shelf.Strings.Prefix
import Derived.Shelf.Bits.Mul64
import Derived.Test.YtlboejdhmggjpaaGreatProg
import Derived.StillTail
import Derived.OrdersIn
import Derived.RangeFuncCalls
set_option linter.all false
namespace Go.Proofs.YtlboejdhmggjpaaGreat
open Go.RowKit

theorem ret_bool {a b : Bool} (h : a = b) : Ending.returned (.bool a) = Ending.returned (.bool b) := by rw [h]
def CellsAt (w : World) (b o : Nat) (cs : List Value) : Prop := ∀ (j : Nat) (v : Value), cs[j]? = some v → w.cell? ⟨b, o + j, none⟩ = some v

theorem CellsAt.below {w w' : World} {b o B : Nat} {cs : List Value} (h : CellsAt w b o cs) (hb : Below B w w') (hlt : b < B) : CellsAt w' b o cs :=
 fun j v hv => (hb.cell (p := ⟨b, o + j, none⟩) hlt).trans (h j v hv)
theorem CellsAt.of_heap {w : World} {b : Nat} {t : TypeId} {cs : Array Value} {fz : Nat × Nat} (h : w.heap[b]? = some (.cells cs t fz)) : CellsAt w b 0 cs.toList :=
 fun j v hv => by simp [World.cell?, h]; simpa using hv
theorem CellsAt.part {w : World} {b o : Nat} {cs : List Value} (h : CellsAt w b o cs) (i n : Nat) : CellsAt w b (o + i) ((cs.drop i).take n) := fun j v hv => by
 have := h (i + j) v (by
  rw [List.getElem?_take] at hv
  split at hv
  ·rw [List.getElem?_drop] at hv; exact hv
  ·cases hv)
 rw [Nat.add_assoc]; exact this

section
variable {P : Program}
theorem run_loadVar_at (w : World) (b o : Nat) (ty : TypeId) (cs : List Value) (d : TypeDesc) (hc : CellsAt w b o cs)
  (hu : P.underlying ty = some d) (hd : (match d with | .struct _ | .array _ _ => true | _ => false) = true) (hi : (P.info? ty).map (·.size) = some cs.length) :
  (loadVar ty ⟨b, o, none⟩).run P w = .ok (.agg cs.toArray) w := by
 have hl : (loadCells ⟨b, o, none⟩ cs.length).run P w = .ok cs.toArray w :=
  run_loadCells_list (P := P) w ⟨b, o, none⟩ cs (fun j v hv => by
   have hadd : (⟨b, o, none⟩ : Addr).add j = ⟨b, o + j, none⟩ := by unfold Addr.add; split <;> simp_all
   rw [hadd]; exact hc j v hv)
 cases hq : P.info? ty with
 | none => simp [hq] at hi
 | some i =>
  have hs : i.size = cs.length := by simpa [hq] using hi
  have hagg : (isAgg ty).run P w = .ok true w := by
   unfold isAgg
   rw [Sem.run_bind, run_underlying hu w]
   cases d <;> simp_all
  simp [loadVar, Sem.run_bind, hagg, sizeOf, typeInfo, hq, hs, hl]

end

def Ext (w0 : World) : Type := { u : World // Below w0.heap.size w0 u }
def Ext.w {w0 : World} (u : Ext w0) : World := u.1
instance Ext.nonempty (w0 : World) : Nonempty (Ext w0) := ⟨⟨w0, Below.refl _ _⟩⟩
theorem Ext.below {w0 : World} (u : Ext w0) : Below w0.heap.size w0 u.w := u.2
theorem Ext.cell {w0 : World} (u : Ext w0) {p : Addr} {v : Value} (h : w0.cell? p = some v) : u.w.cell? p = some v :=
 (u.2.cell (World.block_lt_of_cell? w0 p h)).trans h
theorem Ext.on {w0 : World} (u : Ext w0) {w : World} (h : Below u.w.heap.size u.w w) : ∃ u' : Ext w0, w = u'.w := ⟨⟨w, u.2.trans (h.mono u.2.size)⟩, rfl⟩
theorem Ext.drew (w0 : World) : ∃ u : Ext w0, ({ w0 with drawn := w0.drawn + 1 } : World) = u.w := ⟨⟨_, ((Below.refl _ w0).drew)⟩, rfl⟩

section
variable {P : Program} {C : World → Prop}
theorem quiet_load_at {K : Act → Prop} {o : Oper} {a : Act} (ty : TypeId) (x : Operand) (ho : o.op = .load ty x)
  (b i : Nat) (hx : a.eval x = .pointer (some ⟨b, i, none⟩)) (cs : List Value) (d : TypeDesc) (hc : ∀ w, C w → CellsAt w b i cs)
  (hu : P.underlying ty = some d) (hd : (match d with | .struct _ | .array _ _ => true | _ => false) = true) (hi : (P.info? ty).map (·.size) = some cs.length)
  (h : K (a.put o.dst (.agg cs.toArray))) : o.quiet P a C K :=
 ⟨_, fun w hw => by
  unfold Oper.quietAt execOp
  simp only [ho, hx, Instr.loadAt, Instr.sureAddr, Sem.run_bind, Sem.run_pure, Result.andThen_ok, run_loadVar_at w b i ty cs d (hc w hw) hu hd hi]
  exact ⟨rfl, rfl⟩, h⟩
end

def RowAt {α : Type} (n : Nat) (f : α → List Value) (w : World) (a : Option Addr) (l : List α) : Prop :=
 l = [] ∨ ∃ b off, a = some ⟨b, off, none⟩ ∧ b < w.heap.size ∧ ∀ i (h : i < l.length), CellsAt w b (off + i * n) (f l[i])

theorem RowAt.below {α : Type} {n : Nat} {f : α → List Value} {w w' : World} {a : Option Addr} {l : List α} {B : Nat} (h : RowAt n f w a l) (hb : Below B w w') (hB : w.heap.size ≤ B) (hs : w.heap.size ≤ w'.heap.size) : RowAt n f w' a l := by
 rcases h with h | ⟨b, off, ha, hlt, hc⟩
 ·exact .inl h
 ·exact .inr ⟨b, off, ha, Nat.lt_of_lt_of_le hlt hs, fun i hi => (hc i hi).below hb (Nat.lt_of_lt_of_le hlt hB)⟩
theorem RowAt.at {α : Type} {n : Nat} {f : α → List Value} {w : World} {a : Option Addr} {l : List α} (h : RowAt n f w a l) (h0 : l ≠ []) :
  ∃ b off, a = some ⟨b, off, none⟩ ∧ b < w.heap.size ∧ ∀ i (h : i < l.length), CellsAt w b (off + i * n) (f l[i]) := by
 rcases h with h | h
 ·exact absurd h h0
 ·exact h
theorem heap_below {B b : Nat} {w w' : World} {o : Obj} (hb : Below B w w') (h : w.heap[b]? = some o) (hlt : b < B) : w'.heap[b]? = some o := by
 rw [hb.block b hlt]; exact h
theorem below_alloc (w : World) (o : Obj) : Below w.heap.size w (w.alloc o) := (Below.refl _ _).alloc (Nat.le_refl _) _
theorem below_drewN (B : Nat) (w : World) (n : Nat) : Below B w (w.drewN n) := ⟨rfl, rfl, rfl, Nat.le_refl _, fun _ _ => rfl⟩
end Go.Proofs.YtlboejdhmggjpaaGreat

/- App -/
namespace Go.Proofs.YtlboejdhmggjpaaGreat
open Go.RowKit Go.BigFrame

theorem addr_add' (b o j : Nat) : (⟨b, o, none⟩ : Addr).add j = ⟨b, o + j, none⟩ := by unfold Addr.add; split <;> simp_all
theorem flat_at {α : Type} (n : Nat) (f : α → List Value) (hf : ∀ g, (f g).length = n) (w : World) (b : Nat) : ∀ (l : List α) (off : Nat), (∀ i (h : i < l.length), CellsAt w b (off + i * n) (f l[i])) →
    ∀ (j : Nat) (u : Value), (l.flatMap f)[j]? = some u → w.cell? ⟨b, off + j, none⟩ = some u
  | [], off, _, j, u, h => by simp at h
  | g :: l, off, hc, j, u, h => by
    rw [List.flatMap_cons, List.getElem?_append] at h
    split at h
    · have := hc 0 (by simp) j u (by simpa using h)
      simpa using this
    · rename_i hj
      rw [hf] at hj h
      have := flat_at n f hf w b l (off + n) (fun i hi => by
        have := hc (i + 1) (by simpa using hi)
        rw [show off + n + i * n = off + (i + 1) * n from by rw [Nat.add_mul]; omega]
        simpa using this) (j - n) u h
      rwa [show off + n + (j - n) = off + j from by omega] at this
theorem flat_len {α : Type} (n : Nat) (f : α → List Value) (hf : ∀ g, (f g).length = n) : ∀ l : List α, (l.flatMap f).length = l.length * n
 | [] => by simp
 | g :: l => by rw [List.flatMap_cons, List.length_append, hf, flat_len n f hf l, List.length_cons, Nat.add_mul]; omega

theorem wpList_append_rows {P : Program} {w : World} {ops : Array Oper} {rest : List Oper} {o : Oper} {a : Act} {Q : Exit → Act → World → Prop} {α : Type} (f : α → List Value) (hgd : o.guard = none) (s x : Operand) (t : TypeId)
    (ho : o.op = .call { callee := .builtin .append, args := #[s, x], argTypes := #[t, t] })
    (base : Nat) (e : TypeId) (i : TypeInfo) (z : Value) (size bytes : Nat) (ht : P.underlying t = some (.slice e)) (hi : P.info? e = some i) (hz : i.zero = some z)
    (hsize : i.size = size) (hby : i.bytes = bytes) (hzs : z.cells.size = size) (hsz : 0 < size) (hf : ∀ g, (f g).length = size) (hf1 : ∀ g, ∀ u ∈ f g, u.oneCell' = true)
    (v : Value) (n : Nat) (xs : List Value) (hs : a.eval s = v) (hown : w.ownsRow base e size v n xs)
    (ao : Option Addr) (l : List α) (c : Nat) (hx : a.eval x = .slice ao l.length c) (hnil : ao = none → l = [] ∧ c = 0) (hr : RowAt size f w ao l)
    (h63 : n + l.length ≤ maxLen) (hbytes : (n + l.length) * bytes ≤ 140737488355328) (hbase : base ≤ w.heap.size)
    (h : ∀ v' w', w'.ownsRow base e size v' (n + l.length) (xs ++ l.flatMap f) → w.grownBy w' v.ownBlock → wpList P ops Q rest (a.put o.dst v') w') : wpList P ops Q (o :: rest) a w := by
  cases ao with
  | none =>
    obtain ⟨rfl, rfl⟩ := hnil rfl
    refine wpList_append_own_none hgd s x t ho base e i size ht hi v n xs hs hown (by simpa using hx) ?_
    have := h v w (by simpa using hown) ?_
    · exact this
    · exact ⟨rfl, rfl, rfl, Nat.le_refl _, fun k hk _ => rfl⟩
  | some ad =>
    refine wpList_append_own _ hgd s x t ho base e i z size bytes ht hi hz hsize hby hzs hsz v n xs hs hown ad l.length c (l.flatMap f) hx (flat_len size f hf l) (fun j u hj => ?_) (fun u hu => ?_) h63 hbytes hbase (fun v' w' h1 h2 _ => h v' w' h1 h2)
    · rcases hr with rfl | ⟨b, off, hab, _, hc⟩
      · simp at hj
      · cases hab
        rw [addr_add']
        exact flat_at size f hf w b l off hc j u hj
    · obtain ⟨g, hg, hu⟩ := List.mem_flatMap.1 hu
      exact hf1 g u hu
end Go.Proofs.YtlboejdhmggjpaaGreat

/- Shelf -/
namespace Go.Proofs
open Go.Shelf
def Tryz.lays137_ren : Go.Shelf.Ren := ⟨fun | 137 => 143 | 217 => 170 | 266 => 187 | n => n, fun | 9 => 9 | 5 => 5 | 3 => 3 | n => n, fun | n => n⟩
theorem Tryz.lays137 : Go.Proofs.Lays.n137 Tryz.prog Tryz.lays137_ren := {
 mixed := by kernel_rfl
 f137 := Tryz.func143.trans (congrArg some (by kernel_rfl))
 f217 := Tryz.func170.trans (congrArg some (by kernel_rfl))
 f266 := Tryz.func187.trans (congrArg some (by kernel_rfl))
 t3 := Tryz.underlying3
 a3 := Tryz.isAgg3
 z3 := Tryz.sizeOf3
 v3 := Tryz.zeroValue3
 t5 := Tryz.underlying5
 a5 := Tryz.isAgg5
 z5 := Tryz.sizeOf5
 v5 := Tryz.zeroValue5
 t9 := Tryz.underlying9
 a9 := Tryz.isAgg9
 z9 := Tryz.sizeOf9
 v9 := Tryz.zeroValue9 }
open Go.RowKit in
theorem Tryz.strings_IndexByte (s : ByteArray) (c : Int) (w : World) :
  Calls Tryz.prog 143 #[.string s, .int .u8 c] w fun e w' => e = .returned (.int .i64 (Lib.indexByte s.data.toList c.toNat.toUInt8)) ∧ w' = w := Any.strings_IndexByte Tryz.lays137 s c w
def Tryz.lays143_ren : Go.Shelf.Ren := ⟨fun | 143 => 142 | 219 => 169 | 217 => 170 | 225 => 184 | 224 => 185 | 267 => 186 | 266 => 187 | 314 => 198 | n => n, fun | 9 => 9 | 3 => 3 | 4 => 4 | 5 => 5 | 46 => 215 | 146 => 233 | 51 => 232 | n => n, fun | 1 => 0 | n => n⟩
theorem Tryz.lays143 : Go.Proofs.Lays.n143 Tryz.prog Tryz.lays143_ren := {
 mixed := by kernel_rfl
 f143 := Tryz.func142.trans (congrArg some (by kernel_rfl))
 f217 := Tryz.func170.trans (congrArg some (by kernel_rfl))
 f219 := Tryz.func169.trans (congrArg some (by kernel_rfl))
 f224 := Tryz.func185.trans (congrArg some (by kernel_rfl))
 f225 := Tryz.func184.trans (congrArg some (by kernel_rfl))
 f266 := Tryz.func187.trans (congrArg some (by kernel_rfl))
 f267 := Tryz.func186.trans (congrArg some (by kernel_rfl))
 f314 := Tryz.func198.trans (congrArg some (by kernel_rfl))
 t3 := Tryz.underlying3
 a3 := Tryz.isAgg3
 z3 := Tryz.sizeOf3
 v3 := Tryz.zeroValue3
 t4 := Tryz.underlying4
 a4 := Tryz.isAgg4
 z4 := Tryz.sizeOf4
 v4 := Tryz.zeroValue4
 t5 := Tryz.underlying5
 a5 := Tryz.isAgg5
 z5 := Tryz.sizeOf5
 v5 := Tryz.zeroValue5
 t9 := Tryz.underlying9
 a9 := Tryz.isAgg9
 z9 := Tryz.sizeOf9
 v9 := Tryz.zeroValue9
 t46 := Tryz.underlying215
 a46 := Tryz.isAgg215
 z46 := Tryz.sizeOf215
 v46 := Tryz.zeroValue215
 t51 := Tryz.underlying232
 a51 := Tryz.isAgg232
 z51 := Tryz.sizeOf232
 v51 := Tryz.zeroValue232
 t146 := Tryz.underlying233
 a146 := Tryz.isAgg233
 z146 := Tryz.sizeOf233
 v146 := Tryz.zeroValue233
 g1 := by kernel_rfl }
open Go.RowKit Go.Lib in
theorem Tryz.strings_Index (s sub : ByteArray) (m : Int) (w : World) (hs : s.size < 4294967281) (hm : w.cell? ⟨0, 0, none⟩ = some (.int .i64 m)) :
  Calls Tryz.prog 142 #[.string s, .string sub] w fun e w' => e = .returned (.int .i64 (Lib.index s.data.toList sub.data.toList)) ∧ w' = w := Any.strings_Index Tryz.lays143 s sub m w hs hm
def Tryz.lays99_ren : Go.Shelf.Ren := ⟨fun | 99 => 141 | 206 => 168 | n => n, fun | 9 => 9 | 4 => 4 | 3 => 3 | n => n, fun | n => n⟩
theorem Tryz.lays99 : Go.Proofs.Lays.n99 Tryz.prog Tryz.lays99_ren := {
 mixed := by kernel_rfl
 f99 := Tryz.func141.trans (congrArg some (by kernel_rfl))
 f206 := Tryz.func168.trans (congrArg some (by kernel_rfl))
 t3 := Tryz.underlying3
 a3 := Tryz.isAgg3
 z3 := Tryz.sizeOf3
 v3 := Tryz.zeroValue3
 t4 := Tryz.underlying4
 a4 := Tryz.isAgg4
 z4 := Tryz.sizeOf4
 v4 := Tryz.zeroValue4
 t9 := Tryz.underlying9
 a9 := Tryz.isAgg9
 z9 := Tryz.sizeOf9
 v9 := Tryz.zeroValue9 }
open Go.RowKit Go.Lib in
theorem Tryz.strings_HasPrefix (s p : ByteArray) (w : World) :
  Calls Tryz.prog 141 #[.string s, .string p] w fun e w' => e = .returned (.bool (Lib.hasPrefix s.data.toList p.data.toList)) ∧ w' = w := Any.strings_HasPrefix Tryz.lays99 s p w
def Tryz.lays264_ren : Go.Shelf.Ren := ⟨fun | 264 => 148 | n => n, fun | 53 => 181 | 46 => 215 | n => n, fun | n => n⟩
theorem Tryz.lays264 : Go.Proofs.Lays.n264 Tryz.prog Tryz.lays264_ren := {
  mixed := by kernel_rfl
  f264 := Tryz.func148.trans (congrArg some (by kernel_rfl))
  t46 := Tryz.underlying215
  a46 := Tryz.isAgg215
  z46 := Tryz.sizeOf215
  v46 := Tryz.zeroValue215
  t53 := Tryz.underlying181
  a53 := Tryz.isAgg181
  z53 := Tryz.sizeOf181
  v53 := Tryz.zeroValue181 }
theorem Tryz.bits_Mul64 (x y : Nat) (hx : x < 18446744073709551616) (hy : y < 18446744073709551616) (w : World) :
    Calls Tryz.prog 148 #[.int .u64 x, .int .u64 y] w fun e w' => e = .returned (.tuple #[.int .u64 ((x * y / 18446744073709551616 : Nat) : Int), .int .u64 ((x * y % 18446744073709551616 : Nat) : Int)]) ∧ w' = w := Any.bits_Mul64 Tryz.lays264 x y hx hy w
end Go.Proofs

/- Tal -/
namespace Go.Proofs.YtlboejdhmggjpaaGreat
open Go

section
variable {P : Program} {md : Region.Mode} {Q : Exit → Act → World → Prop}

theorem wpAny_more {ops : Array Oper} : ∀ (f : Nat) (listed : Array Bool) (a : Act) (w : World), wpAny P md ops Q f listed a w → wpAny P md ops Q (f + 1) listed a w
 | 0, listed, a, w, h => ⟨fun _ => h.2, fun i hi => by rw [h.1] at hi; cases hi⟩
 | f + 1, listed, a, w, h => ⟨h.1, fun i hi => wpOp_mono (fun a w h => wpAny_more f _ a w h) (h.2 i hi)⟩
theorem wpAny_le {ops : Array Oper} {listed : Array Bool} {a : Act} {w : World} (f k : Nat) (h : wpAny P md ops Q f listed a w) : wpAny P md ops Q (f + k) listed a w := by
 induction k with
 | zero => exact h
 | succ k ih => exact wpAny_more _ _ _ _ ih

def headB (md : Region.Mode) (l : List Oper) (n : Nat) : Bool :=
 (List.range n).all fun i => match l[i]? with
  | none => false
  | some o => (o.after.all fun e => !Region.binds md e || decide (e.on < i)) && (match o.guard with | some (g, _) => decide (g < n) | none => true)

theorem headB_spec {l : List Oper} {n i : Nat} (h : headB md l n = true) (hi : i < n) : ∃ o, l[i]? = some o ∧ (∀ e ∈ o.after, Region.binds md e = true → e.on < i) ∧ (∀ g b, o.guard = some (g, b) → g < n) := by
 have h1 := List.all_eq_true.1 h i (List.mem_range.2 hi)
 split at h1
 ·cases h1
 ·rename_i o ho
  simp only [Bool.and_eq_true] at h1
  refine ⟨o, ho, fun e he hb => ?_, fun g b hg => ?_⟩
  ·have := Array.all_eq_true'.1 h1.1 e he
   simp only [hb, Bool.not_true, Bool.false_or, decide_eq_true_eq] at this
   exact this
  ·have h2 := h1.2
   rw [hg] at h2
   simpa using h2

structure Tog (l : List Oper) (n : Nat) (listed lh : Array Bool) : Prop where
 size : listed.size = l.length
 sizeh : lh.size = n
 same : ∀ i, i < n → listed.getD i false = lh.getD i false
 inv : HeadInv md l.toArray n listed

theorem getD_at {x : Array Bool} {i : Nat} (h : i < x.size) (d : Bool) : x.getD i d = x[i] := by simp [h]
theorem getD_tf {x : Array Bool} {i : Nat} (h : i < x.size) : x.getD i true = x.getD i false := by rw [getD_at h, getD_at h]

theorem Tog.ready {l : List Oper} {n : Nat} {listed lh : Array Bool} (h : Tog (md := md) l n listed lh) (hB : headB md l n = true) (hn : n ≤ l.length) {i : Nat} (hi : i < n) :
  i ∈ Region.ready md l.toArray listed ↔ i ∈ Region.ready md (l.take n).toArray lh := by
 obtain ⟨o, ho, hafter, _⟩ := headB_spec hB hi
 have e1 : listed.getD i true = lh.getD i true := by rw [getD_tf (by rw [h.size]; omega), getD_tf (by rw [h.sizeh]; exact hi)]; exact h.same i hi
 rw [mem_ready, mem_ready, e1]
 have ho2 : (l.take n).toArray[i]? = some o := by simp [hi, ho]
 have ho1 : l.toArray[i]? = some o := by simpa using ho
 constructor
 ·rintro ⟨a, o', ho', hall⟩
  obtain rfl : o' = o := Option.some.inj (ho'.symm.trans ho1)
  exact ⟨a, o', ho2, fun e he hb => by rw [← h.same e.on (by have := hafter e he hb; omega)]; exact hall e he hb⟩
 ·rintro ⟨a, o', ho', hall⟩
  obtain rfl : o' = o := Option.some.inj (ho'.symm.trans ho2)
  exact ⟨a, o', ho1, fun e he hb => by rw [h.same e.on (by have := hafter e he hb; omega)]; exact hall e he hb⟩

theorem head_done {l : List Oper} {n : Nat} {lh : Array Bool} (hB : headB md l n = true) (hs : lh.size = n) (h : Region.ready md (l.take n).toArray lh = []) : ∀ i, i < n → lh.getD i false = true := by
 intro i
 induction i using Nat.strongRecOn with
 | _ i ih =>
  intro hi
  obtain ⟨o, ho, hafter, _⟩ := headB_spec hB hi
  cases hl : lh.getD i false with
  | true => rfl
  | false =>
   have : i ∈ Region.ready md (l.take n).toArray lh := by
    rw [mem_ready]
    exact ⟨by rw [getD_tf (by omega)]; exact hl, o, by simp [hi, ho], fun e he hb => ih e.on (hafter e he hb) (by have := hafter e he hb; omega)⟩
   rw [h] at this
   cases this

theorem wpOp_head {l : List Oper} {n i : Nat} (hB : headB md l n = true) (hi : i < n) (K : Act → World → Prop) (a : Act) (w : World) {Qh : Exit → Act → World → Prop} (hQ : ∀ e a w, e ≠ .normal → Qh e a w → Q e a w)
  (h : wpOp P (l.take n).toArray Qh i K a w) : wpOp P l.toArray Q i K a w := by
 obtain ⟨o, ho, _, hg⟩ := headB_spec hB hi
 unfold wpOp at *
 have e1 : (l.take n).toArray[i]? = some o := by simp [hi, ho]
 have e2 : l.toArray[i]? = some o := by simpa using ho
 rw [e2]; rw [e1] at h
 simp only at *
 have hw : Region.wanted o (yielded l.toArray a.tmps) = Region.wanted o (yielded (l.take n).toArray a.tmps) := by
  unfold Region.wanted
  cases hgu : o.guard with
  | none => rfl
  | some g =>
   obtain ⟨g, b⟩ := g
   have hgn := hg g b hgu
   have : yielded l.toArray a.tmps g = yielded (l.take n).toArray a.tmps g := by
    unfold yielded
    have : l.toArray[g]? = (l.take n).toArray[g]? := by simp [hgn]
    rw [this]
   simp only [this]
 rw [hw]
 split
 ·rename_i hwt
  rw [if_pos hwt] at h
  rcases h with h | ⟨hasks, a', w', hq⟩
  ·left
   unfold Oper.wp at *
   generalize (execOp a.eval o).run P w = r at *
   cases r with
   | ok x w' =>
    cases x <;> simp only [Oper.upon] at h ⊢ <;> try exact h
    refine Calls.mono h fun e w'' he => ?_
    cases e with
    | returned u => exact he
    | panicked c => exact hQ _ _ _ (by simp) he
    | outgrown => obtain ⟨a', w', hq⟩ := he; exact ⟨a', w', hQ _ _ _ (by simp) hq⟩
   | halt x w' =>
    cases x <;> simp only [Oper.upon] at h ⊢ <;> try exact h
    exact hQ _ _ _ (by simp) h
  ·exact .inr ⟨hasks, a', w', hQ _ _ _ (by simp) hq⟩
 ·rename_i hwt
  rw [if_neg hwt] at h
  exact h

theorem Tog.set {l : List Oper} {n i : Nat} {listed lh : Array Bool} (h : Tog (md := md) l n listed lh) (hi : i ∈ Region.ready md l.toArray listed) (hin : i < n) : Tog (md := md) l n (listed.setIfInBounds i true) (lh.setIfInBounds i true) := by
 refine ⟨by simp [h.size], by simp [h.sizeh], fun j hj => ?_, h.inv.set hi hin⟩
 by_cases hij : i = j
 ·subst hij
  have h1 : i < listed.size := by
   have := (Array.getElem?_eq_some_iff.1 (mem_ready.1 hi).2.choose_spec.1).1
   rw [h.size]; simpa using this
  have h2 : i < lh.size := by rw [h.sizeh]; exact hin
  simp [h1, h2]
 ·rw [getD_set_ne false hij, getD_set_ne false hij]; exact h.same j hj

def fullB (l : List Oper) (n : Nat) : Array Bool := ((List.range l.length).map fun i => decide (i < n)).toArray

theorem full_eq {l : List Oper} {n : Nat} {listed : Array Bool} (hs : listed.size = l.length) (h1 : ∀ i, i < n → listed.getD i false = true) (h2 : ∀ t, n ≤ t → t < l.length → listed.getD t true = false) : listed = fullB l n := by
 apply Array.ext
 ·simp [fullB, hs]
 ·intro i hi hi2
  simp only [fullB, List.getElem_toArray, List.getElem_map, List.getElem_range]
  by_cases hin : i < n
  ·have := h1 i hin; rw [getD_at hi] at this; simp [this, hin]
  ·have := h2 i (by omega) (by omega); rw [getD_at hi] at this; simp [this, hin]

theorem wpAny_split {l : List Oper} {n g : Nat} {Qh : Exit → Act → World → Prop} (hB : headB md l n = true) (hs : Region.sinkB md l.toArray n = true) (hc : Region.chainB md l.toArray n = true) (hn : n < l.length)
  (hQ : ∀ e a w, e ≠ .normal → Qh e a w → Q e a w) (hT : ∀ a w, Qh .normal a w → wpAny P md l.toArray Q g (fullB l n) a w) :
  ∀ (f : Nat) (listed lh : Array Bool) (a : Act) (w : World), Tog (md := md) l n listed lh → wpAny P md (l.take n).toArray Qh f lh a w → wpAny P md l.toArray Q (f + g) listed a w := by
 have hdone : ∀ (listed lh : Array Bool) (a : Act) (w : World), Tog (md := md) l n listed lh → Region.ready md (l.take n).toArray lh = [] → Qh .normal a w → wpAny P md l.toArray Q g listed a w := fun listed lh a w ht hr hq => by
  have hd := head_done hB ht.sizeh hr
  have : listed = fullB l n := full_eq ht.size (fun i hi => by rw [ht.same i hi]; exact hd i hi) (fun t h1 h2 => ht.inv.tail t h1 (by simpa using h2))
  rw [this]; exact hT a w hq
 intro f
 induction f with
 | zero =>
  intro listed lh a w ht h
  rw [Nat.zero_add]
  exact hdone listed lh a w ht h.1 h.2
 | succ f ih =>
  intro listed lh a w ht h
  by_cases hr : Region.ready md (l.take n).toArray lh = []
  ·rw [Nat.add_comm]; exact wpAny_le g (f + 1) (hdone listed lh a w ht hr (h.1 hr))
  ·obtain ⟨i0, hi0⟩ : ∃ i, i ∈ Region.ready md (l.take n).toArray lh := by
    cases hx : Region.ready md (l.take n).toArray lh with
    | nil => exact absurd hx hr
    | cons x xs => exact ⟨x, by simp⟩
   have hi0n : i0 < n := by
    have := (Array.getElem?_eq_some_iff.1 (mem_ready.1 hi0).2.choose_spec.1).1
    simp at this; omega
   have hi0' := (ht.ready hB (by omega) hi0n).2 hi0
   have hun := (mem_ready.1 hi0').1
   rw [show f + 1 + g = (f + g) + 1 from by omega]
   refine ⟨fun h0 => (by rw [h0] at hi0'; cases hi0'), fun i hi => ?_⟩
   have hin : i < n := by
    rcases Nat.lt_or_ge i n with h' | h'
    ·exact h'
    ·exact absurd hi (tail_waits hs hc (by simpa using hn) ht.inv _ i0 rfl hi0n hun i h')
   have h1 := h.2 i ((ht.ready hB (by omega) hin).1 hi)
   exact wpOp_mono (fun a' w' h' => ih _ _ a' w' (ht.set hi hin) h') (wpOp_head hB hin _ a w hQ h1)

def tailB (l : List Oper) (n : Nat) : Bool :=
 headB .any l n && Region.sinkB .any l.toArray n && Region.chainB .any l.toArray n && decide (n < l.length) && Region.lexB .any (l.take n).toArray && Region.seqB .any l.toArray (l.length - n) n (fullB l n)

theorem wpAny_tail {C : World → Prop} {a : Act} {w : World} {l : List Oper} (n : Nat) (hB : tailB l n = true) (hC : C w)
  (h : wpQuiet P (l.take n).toArray C (fun a' => ∀ w', C w' → wpList P l.toArray Q (l.drop n) a' w') (l.take n) a) : wpAny P .any l.toArray Q l.toArray.size (Array.replicate l.toArray.size false) a w := by
 simp only [tailB, Bool.and_eq_true, decide_eq_true_eq] at hB
 obtain ⟨⟨⟨⟨⟨h1, h2⟩, h3⟩, h4⟩, h5⟩, h6⟩ := hB
 have hln : (l.take n).length = n := by simp; omega
 have hlex := h5
 simp only [Region.lexB, Bool.and_eq_true] at hlex
 have hq := wpAnyQ_lex (C := C) (md := .any) hlex.1 (l.take n) 0 (Array.replicate (l.take n).toArray.size false) a (by simp) (by simpa using hlex.2) h
 have hany := wpAny_of_quiet (P := P) (Q := fun a' => ∀ w', C w' → wpList P l.toArray Q (l.drop n) a' w')
  (Q' := fun e a' w' => e = .normal ∧ wpList P l.toArray Q (l.drop n) a' w') (fun a' w' hw' h' => ⟨rfl, h' w' hw'⟩) _ _ _ _ hC hq
 have := wpAny_split (P := P) (md := .any) (Q := Q) (g := l.length - n) h1 h2 h3 h4 (Qh := fun e a' w' => e = .normal ∧ wpList P l.toArray Q (l.drop n) a' w') (fun e a w he hh => absurd hh.1 he)
  (fun a' w' hh => by
   have := wpAny_of_seq (md := .any) (P := P) (Q' := Q) (l.drop n) n (fullB l n) a' w' (fun j => by simp [List.getElem?_drop]) (by simpa using h6) hh.2
   simpa using this)
  _ (Array.replicate l.length false) (Array.replicate (l.take n).toArray.size false) a _
  ⟨by simp, by simpa using hln, fun i hi => by rw [getD_replicate_false, getD_replicate_false],
   ⟨by simp, fun j oj _ hl => (by rw [getD_replicate_false] at hl; cases hl), fun t _ ht => getD_in (by simpa using ht) (getD_replicate_false _ _)⟩⟩ hany
 rw [hln] at this
 rw [show n + (l.length - n) = l.length from by omega] at this
 simpa using this

theorem wp_region_tail {C : World → Prop} {id : Nat} {a : Act} {w : World} {l : List Oper} (n : Nat) (hm : P.follows .mixedOrders = true) (hB : tailB l n = true) (hC : C { w with drawn := w.drawn + 1 })
  (h : wpQuiet P (l.take n).toArray C (fun a' => ∀ w', C w' → wpList P l.toArray Q (l.drop n) a' w') (l.take n) a) : (Code.region id l.toArray true).wp P Q a w :=
 wp_region_any hm (wpAny_tail n hB hC h)

/-! The same in a round of a range over a function. -/
def NoOut (Q : Exit → Act → World → Prop) : Exit → Act → World → Prop := fun e a w => e ≠ .outgrown ∧ Q e a w
theorem NoOut.normal {a : Act} {w : World} (h : Q .normal a w) : NoOut Q .normal a w := ⟨by simp, h⟩

theorem rows_round {l n : Nat} {row : String} {args : Array Value} {w : World} {R : Value → World → Prop} (h : Rows P row args w R) : RowsIn (Fence.wide.inRound l) n P row args w R :=
 fun c cs _ => let ⟨v, w', r, s⟩ := h c cs; ⟨v, w', r, stepsIn_wide.2 s⟩
theorem calls_round {l n : Nat} {f : FuncId} {args : Array Value} {w : World} {R : Ending → World → Prop} (h : Calls P f args w R) : CallsIn (Fence.wide.inRound l) n P f args w R :=
 CallsIn.inRound l (callsIn_wide.2 h)

def noDeferB (l : List Oper) : Bool := l.all fun o => match o.op with | .defer _ => false | _ => true
theorem noDeferB_spec {l : List Oper} {i : Nat} {o : Oper} (h : noDeferB l = true) (ho : l.toArray[i]? = some o) : ∀ c, o.op ≠ .defer c := fun c hc => by
 have := List.all_eq_true.1 h o (List.mem_of_getElem? (by simpa using ho))
 rw [hc] at this
 cases this

theorem wpAnyIn_of_any {l : List Oper} {r n : Nat} (hd : noDeferB l = true) : ∀ (f : Nat) (listed : Array Bool) (a : Act) (w : World), wpAny P md l.toArray (NoOut Q) f listed a w → wpAnyIn (Fence.wide.inRound r) n P md l.toArray Q f listed a w
 | 0, listed, a, w, h => ⟨h.1, h.2.2⟩
 | f + 1, listed, a, w, h => ⟨fun h0 => (h.1 h0).2, fun i hi => by
  have h1 := wpOp_mono (fun a w hh => wpAnyIn_of_any (r := r) (n := n) hd f _ a w hh) (h.2 i hi)
  unfold wpOp at h1
  unfold wpOpIn
  split
  ·rename_i ho; simp only [ho] at h1; exact h1
  ·rename_i o ho
   simp only [ho] at h1
   split
   ·rename_i hw
    rw [if_pos hw] at h1
    rcases h1 with h1 | ⟨_, a', w', hq⟩
    ·refine ⟨fun _ _ => trivial, ?_⟩
     rw [Oper.semAt_eq _ _ _ (noDeferB_spec hd ho)]
     unfold Oper.wp at h1
     generalize (execOp a.eval o).run P w = res at *
     cases res with
     | ok x w' =>
      cases x <;> simp only [Oper.upon, Oper.uponIn] at h1 ⊢ <;> try exact h1
      ·refine ⟨fun hh => (by cases hh), calls_round (Calls.mono h1 fun e w'' he => ?_)⟩
       cases e with
       | returned u => exact he
       | panicked c => exact he.2
       | outgrown => obtain ⟨a', w', hq⟩ := he; exact absurd rfl hq.1
      ·exact ⟨fun hh => (by cases hh), rows_round h1⟩
     | halt x w' =>
      cases x <;> simp only [Oper.upon, Oper.uponIn] at h1 ⊢ <;> try exact h1
      exact h1.2
    ·exact absurd rfl hq.1
   ·rename_i hw
    rw [if_neg hw] at h1
    exact ⟨fun _ _ => trivial, h1⟩⟩

theorem wpIn_region_tail {C : World → Prop} {id r m : Nat} {a : Act} {w : World} {l : List Oper} (n : Nat) (hm : P.follows .mixedOrders = true) (hB : (tailB l n && noDeferB l) = true) (hC : C { w with drawn := w.drawn + 1 })
  (h : wpQuiet P (l.take n).toArray C (fun a' => ∀ w', C w' → wpList P l.toArray (NoOut Q) (l.drop n) a' w') (l.take n) a) : (Code.region id l.toArray true).wpIn (Fence.wide.inRound r) m P Q a w := by
 simp only [Bool.and_eq_true] at hB
 exact wpIn_region_any hm (wpAnyIn_of_any hB.2 _ _ _ _ (wpAny_tail n hB.1 hC h))

theorem wpIn_region_quiet_round {C : World → Prop} {id r m : Nat} {a : Act} {w : World} {l : List Oper} (hm : P.follows .mixedOrders = true) (hB : (Region.lexB .any l.toArray && noDeferB l) = true) (hC : C { w with drawn := w.drawn + 1 })
  (h : wpQuiet P l.toArray C (fun a' => ∀ w', C w' → Q .normal a' w') l a) : (Code.region id l.toArray true).wpIn (Fence.wide.inRound r) m P Q a w := by
 simp only [Bool.and_eq_true] at hB
 have hlex := hB.1
 simp only [Region.lexB, Bool.and_eq_true] at hlex
 refine wpIn_region_any hm (wpAnyIn_of_any hB.2 _ _ _ _ (wpAny_of_quiet (Q := fun a' => ∀ w', C w' → Q .normal a' w') (fun _ w' hw' h => ⟨by simp, h w' hw'⟩) _ _ _ _ hC ?_))
 have := wpAnyQ_lex (C := C) (md := .any) hlex.1 l 0 (Array.replicate l.toArray.size false) a (by simp) (by simpa using hlex.2) h
 simpa using this
end
end Go.Proofs.YtlboejdhmggjpaaGreat

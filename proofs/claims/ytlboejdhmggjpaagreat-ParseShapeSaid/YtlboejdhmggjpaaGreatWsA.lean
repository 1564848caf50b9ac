/- General laws: rows of cells, loads of whole structs, small facts on worlds. -/
import Derived.WalkKit
import Derived.BigCall
import Derived.BigQuiet
import Derived.WalkLawsBesides
import Derived.Lib.Hide
import Derived.Lib.Strings
import Derived.Deep.QuietTactic
import Derived.Deep.RegionWith
import Derived.Deep.RegionHeld3
import Derived.Deep.LoopGhost
import Derived.Deep.DeepCutAuto
import Derived.Handy
import Derived.Laws.AppendOwnNone
import Derived.ProofKit
import Derived.OpenShut
import Derived.Deep.Slices
import Derived.SizedLaws
import Derived.Shelf.Small.Strs
import Derived.Shelf.Strings.Search1
import Derived.Shelf.Strings.Search2
import Derived.Shelf.Strings.Search3
import Derived.Shelf.LaysM
import Derived.Shelf.Strings.Shaped
import Derived.Shelf.Strings.Prefix
import Derived.Shelf.Bits.Mul64
import Derived.Test.YtlboejdhmggjpaaGreatProg
import Derived.StillTail
import Derived.OrdersIn
import Derived.RangeFuncCalls
import Derived.RegionTactic
import Derived.RangeFuncWrites
import Derived.RangeFuncLeaves
import Derived.RangeFuncRecord
import Derived.Laws.CopyRow
import Derived.Laws.MakeOwn
import Derived.Deep.Quiet
import Derived.Maps.OwnOps
import Derived.Maps.OwnSet
import Derived.Maps.AppendAt
import Derived.Maps.Views
import Derived.Laws.OwnMore
import Derived.LaidEqlPtr
set_option linter.all false
namespace Go.Proofs.YtlboejdhmggjpaaGreat
open Go.RowKit

theorem ret_bool {a b : Bool} (h : a = b) : Ending.returned (.bool a) = Ending.returned (.bool b) := by rw [h]
def CellsAt (w : World) (b o : Nat) (cs : List Value) : Prop := ∀ (j : Nat) (v : Value), cs[j]? = some v → w.cell? ⟨b, o + j, none⟩ = some v

theorem CellsAt.below {w w' : World} {b o B : Nat} {cs : List Value} (h : CellsAt w b o cs) (hb : Below B w w') (hlt : b < B) : CellsAt w' b o cs :=
 fun j v hv => (hb.cell (p := ⟨b, o + j, none⟩) hlt).trans (h j v hv)
theorem CellsAt.of_heap {w : World} {b : Nat} {t : TypeId} {cs : Array Value} {fz : Nat × Nat} (h : w.heap[b]? = some (.cells cs t fz)) : CellsAt w b 0 cs.toList :=
 fun j v hv => by simp [World.cell?, h]; simpa using hv
theorem CellsAt.part {w : World} {b o : Nat} {cs : List Value} (h : CellsAt w b o cs) (i n : Nat) : CellsAt w b (o + i) ((cs.drop i).take n) := fun j v hv => by
 have := h (i + j) v (by
  rw [List.getElem?_take] at hv
  split at hv
  ·rw [List.getElem?_drop] at hv; exact hv
  ·cases hv)
 rw [Nat.add_assoc]; exact this

section
variable {P : Program}
theorem run_loadVar_at (w : World) (b o : Nat) (ty : TypeId) (cs : List Value) (d : TypeDesc) (hc : CellsAt w b o cs)
  (hu : P.underlying ty = some d) (hd : (match d with | .struct _ | .array _ _ => true | _ => false) = true) (hi : (P.info? ty).map (·.size) = some cs.length) :
  (loadVar ty ⟨b, o, none⟩).run P w = .ok (.agg cs.toArray) w := by
 have hl : (loadCells ⟨b, o, none⟩ cs.length).run P w = .ok cs.toArray w :=
  run_loadCells_list (P := P) w ⟨b, o, none⟩ cs (fun j v hv => by
   have hadd : (⟨b, o, none⟩ : Addr).add j = ⟨b, o + j, none⟩ := by unfold Addr.add; split <;> simp_all
   rw [hadd]; exact hc j v hv)
 cases hq : P.info? ty with
 | none => simp [hq] at hi
 | some i =>
  have hs : i.size = cs.length := by simpa [hq] using hi
  have hagg : (isAgg ty).run P w = .ok true w := by
   unfold isAgg
   rw [Sem.run_bind, run_underlying hu w]
   cases d <;> simp_all
  simp [loadVar, Sem.run_bind, hagg, sizeOf, typeInfo, hq, hs, hl]

end

def Ext (w0 : World) : Type := { u : World // Below w0.heap.size w0 u }
def Ext.w {w0 : World} (u : Ext w0) : World := u.1
instance Ext.nonempty (w0 : World) : Nonempty (Ext w0) := ⟨⟨w0, Below.refl _ _⟩⟩
theorem Ext.below {w0 : World} (u : Ext w0) : Below w0.heap.size w0 u.w := u.2
theorem Ext.cell {w0 : World} (u : Ext w0) {p : Addr} {v : Value} (h : w0.cell? p = some v) : u.w.cell? p = some v :=
 (u.2.cell (World.block_lt_of_cell? w0 p h)).trans h
theorem Ext.on {w0 : World} (u : Ext w0) {w : World} (h : Below u.w.heap.size u.w w) : ∃ u' : Ext w0, w = u'.w := ⟨⟨w, u.2.trans (h.mono u.2.size)⟩, rfl⟩
theorem Ext.drew (w0 : World) : ∃ u : Ext w0, ({ w0 with drawn := w0.drawn + 1 } : World) = u.w := ⟨⟨_, ((Below.refl _ w0).drew)⟩, rfl⟩

section
variable {P : Program} {C : World → Prop}
theorem quiet_load_at {K : Act → Prop} {o : Oper} {a : Act} (ty : TypeId) (x : Operand) (ho : o.op = .load ty x)
  (b i : Nat) (hx : a.eval x = .pointer (some ⟨b, i, none⟩)) (cs : List Value) (d : TypeDesc) (hc : ∀ w, C w → CellsAt w b i cs)
  (hu : P.underlying ty = some d) (hd : (match d with | .struct _ | .array _ _ => true | _ => false) = true) (hi : (P.info? ty).map (·.size) = some cs.length)
  (h : K (a.put o.dst (.agg cs.toArray))) : o.quiet P a C K :=
 ⟨_, fun w hw => by
  unfold Oper.quietAt execOp
  simp only [ho, hx, Instr.loadAt, Instr.sureAddr, Sem.run_bind, Sem.run_pure, Result.andThen_ok, run_loadVar_at w b i ty cs d (hc w hw) hu hd hi]
  exact ⟨rfl, rfl⟩, h⟩
end

def RowAt {α : Type} (n : Nat) (f : α → List Value) (w : World) (a : Option Addr) (l : List α) : Prop :=
 l = [] ∨ ∃ b off, a = some ⟨b, off, none⟩ ∧ b < w.heap.size ∧ ∀ i (h : i < l.length), CellsAt w b (off + i * n) (f l[i])

theorem RowAt.below {α : Type} {n : Nat} {f : α → List Value} {w w' : World} {a : Option Addr} {l : List α} {B : Nat} (h : RowAt n f w a l) (hb : Below B w w') (hB : w.heap.size ≤ B) (hs : w.heap.size ≤ w'.heap.size) : RowAt n f w' a l := by
 rcases h with h | ⟨b, off, ha, hlt, hc⟩
 ·exact .inl h
 ·exact .inr ⟨b, off, ha, Nat.lt_of_lt_of_le hlt hs, fun i hi => (hc i hi).below hb (Nat.lt_of_lt_of_le hlt hB)⟩
theorem RowAt.at {α : Type} {n : Nat} {f : α → List Value} {w : World} {a : Option Addr} {l : List α} (h : RowAt n f w a l) (h0 : l ≠ []) :
  ∃ b off, a = some ⟨b, off, none⟩ ∧ b < w.heap.size ∧ ∀ i (h : i < l.length), CellsAt w b (off + i * n) (f l[i]) := by
 rcases h with h | h
 ·exact absurd h h0
 ·exact h
theorem heap_below {B b : Nat} {w w' : World} {o : Obj} (hb : Below B w w') (h : w.heap[b]? = some o) (hlt : b < B) : w'.heap[b]? = some o := by
 rw [hb.block b hlt]; exact h
theorem below_alloc (w : World) (o : Obj) : Below w.heap.size w (w.alloc o) := (Below.refl _ _).alloc (Nat.le_refl _) _
theorem below_drewN (B : Nat) (w : World) (n : Nat) : Below B w (w.drewN n) := ⟨rfl, rfl, rfl, Nat.le_refl _, fun _ _ => rfl⟩
end Go.Proofs.YtlboejdhmggjpaaGreat

/- App -/
namespace Go.Proofs.YtlboejdhmggjpaaGreat
open Go.RowKit Go.BigFrame

theorem flat_len {α : Type} (n : Nat) (f : α → List Value) (hf : ∀ g, (f g).length = n) : ∀ l : List α, (l.flatMap f).length = l.length * n
 | [] => by simp
 | g :: l => by rw [List.flatMap_cons, List.length_append, hf, flat_len n f hf l, List.length_cons, Nat.add_mul]; omega

end Go.Proofs.YtlboejdhmggjpaaGreat

/- Opn -/
namespace Go.Proofs.YtlboejdhmggjpaaGreat
open Go.RowKit Go.ChangeShapes Go.WideShapes Go.Deep

theorem exists_list {α : Type} {p : Nat → α → Prop} : ∀ n, (∀ i, i < n → ∃ g, p i g) → ∃ l : List α, l.length = n ∧ ∀ i (h : i < l.length), p i l[i]
 | 0, _ => ⟨[], rfl, fun i h => absurd h (Nat.not_lt_zero i)⟩
 | n + 1, h => by
  obtain ⟨l, hl, hp⟩ := exists_list n (fun i hi => h i (by omega))
  obtain ⟨g, hg⟩ := h n (by omega)
  refine ⟨l ++ [g], by simp [hl], fun i hi => ?_⟩
  by_cases hin : i < l.length
  ·rw [List.getElem_append_left hin]; exact hp i hin
  ·have : i = n := by simp at hi; omega
   subst this
   rw [List.getElem_append_right (by omega)]
   simpa using hg

theorem addr_add (b o j : Nat) : (⟨b, o, none⟩ : Addr).add j = ⟨b, o + j, none⟩ := by unfold Addr.add; split <;> simp_all

section
variable {H : Type} {enc : TypeId × Value → H} {P : Program} {w : World} {base : Nat} {spare : Nat → Bool} {held : Bool}

def Fits (P : Program) (t : TypeId) (d : DataW H) : Prop := ∀ n ∈ d.weights P t, n ≤ reachBytes

theorem fits_all {e : TypeId} : ∀ {l : List (DataW H)} {d : DataW H}, (∀ n ∈ DataW.weightsAll P e l, n ≤ reachBytes) → d ∈ l → Fits P e d
 | [], d, _, hd => by cases hd
 | a :: l, d, h, hd => by
  simp only [DataW.weightsAll, List.mem_append] at h
  rcases List.mem_cons.1 hd with rfl | hd
  ·exact fun n hn => h n (.inl hn)
  ·exact fits_all (fun n hn => h n (.inr hn)) hd
theorem fits_each {ts : List TypeId} {ds : List (DataW H)} {j : Nat} {t : TypeId} {d : DataW H} (h : ∀ n ∈ DataW.weightsEach P ts ds, n ≤ reachBytes) (ht : ts[j]? = some t) (hd : ds[j]? = some d) : Fits P t d :=
 fun n hn => h n (DataW.weights_mem_each ht hd n hn)
theorem fits_arg {ts : List TypeId} {ds : List (DataW H)} {j : Nat} {t : TypeId} {d : DataW H} (h : (DataW.weightsEach P ts ds).all (· ≤ reachBytes) = true) (ht : ts[j]? = some t) (hd : ds[j]? = some d) : Fits P t d :=
 fits_each (fun n hn => by simpa using List.all_eq_true.1 h n hn) ht hd

theorem rd_fields {t : TypeId} {fs : Array Field} {fuel : Nat} {cs : List Value} {x : DataW H × List MemPlace} (ht : P.underlying t = some (.struct fs)) (h : DataW.trod enc P w base spare held fuel t cs = some x) (hw : Fits P t x.1) :
  cs.length = P.cellsOf t ∧ ∀ (i : Nat) (ty : TypeId) (off : Nat), (fs[i]?).map (fun f => (f.type, f.offset)) = some (ty, off) → ∃ n y, DataW.trod enc P w base spare held n ty ((cs.drop off).take (P.cellsOf ty)) = some y ∧ Fits P ty y.1 := by
 obtain ⟨xs, n, _, rfl, hl, hx, hf⟩ := DataW.trod_struct ht h
 refine ⟨hl, fun i ty off hi => ?_⟩
 obtain ⟨f, hfi, hfe⟩ := Option.map_eq_some_iff.1 hi
 simp only [Prod.mk.injEq] at hfe
 obtain ⟨rfl, rfl⟩ := hfe
 have hil : i < xs.length := by rw [hx]; exact (Array.getElem?_eq_some_iff.1 hfi).1
 refine ⟨n, xs[i], ?_, ?_⟩
 ·rw [hf i f hfi]; exact List.getElem?_eq_getElem _
 ·simp only [Fits, DataW.weights, ht] at hw
  refine fits_each (j := i) hw ?_ ?_
  ·simp [hfi]
  ·simp [hil]

theorem rd_slice {α : Type} {t e : TypeId} {fuel : Nat} {cs : List Value} {x : DataW H × List MemPlace} (n : Nat) (f : α → List Value) (G : α → Prop) (ht : P.underlying t = some (.slice e)) (hC : P.cellsOf e = n) (hn : 0 < n)
  (elem : ∀ fuel cs x, DataW.trod enc P w base spare held fuel e cs = some x → Fits P e x.1 → ∃ g, cs = f g ∧ G g) (h : DataW.trod enc P w base spare held fuel t cs = some x) (hw : Fits P t x.1) :
  ∃ a cap l, cs = [.slice a l.length cap] ∧ l.length ≤ cap ∧ cap ≤ maxLen ∧ l.length * P.bytesOf e ≤ reachBytes ∧ (a = none → l = [] ∧ cap = 0) ∧ RowAt n f w a l ∧ ∀ g ∈ l, G g := by
 rcases open_slice ht h with ⟨hcs, _⟩ | ⟨a, len, cap, m, k, D, Pl, hcs, _, hl, hm, hmm, hx, he⟩
 ·exact ⟨none, 0, [], hcs, Nat.le_refl _, Nat.zero_le _, by simp, fun _ => ⟨rfl, rfl⟩, .inl rfl, fun g hg => by cases hg⟩
 ·have hlm : len ≤ m := by rw [hmm]; split <;> omega
  have hw' := hw
  rw [hx] at hw'
  simp only [Fits, DataW.weights, ht] at hw'
  have hwh := hw' _ List.mem_cons_self
  obtain ⟨l, hll, hp⟩ := exists_list (p := fun i g => w.cells? base (a.add (i * n)) n = some (f g) ∧ G g) len (fun i hi => by
   obtain ⟨cs', hc, ht'⟩ := he i (by omega)
   obtain ⟨g, hg, hG⟩ := elem _ _ _ ht' (fits_all (l := (List.range len).map D) (fun n hn => hw' n (List.mem_cons_of_mem _ (List.mem_append_left _ hn))) (List.mem_map.2 ⟨i, List.mem_range.2 hi, rfl⟩))
   rw [hC] at hc
   exact ⟨g, by rw [hc, hg], hG⟩)
  subst hll
  refine ⟨some a, cap, l, hcs, hl, hm, ?_, (fun h => by cases h), ?_, fun g hg => ?_⟩
  ·simp only [List.length_map, List.length_range] at hwh
   exact Nat.le_trans (Nat.mul_le_mul_right _ (Nat.le_add_right _ _)) hwh
  ·by_cases h0 : l = []
   ·exact .inl h0
   ·right
    have hpos : 0 < l.length := List.length_pos_iff.2 h0
    obtain ⟨_, hlen0, hc0⟩ := World.cells?_some (hp 0 hpos).1
    have hc00 := hc0 0 hn
    obtain ⟨v, hv⟩ : ∃ v, (f l[0])[0]? = some v := ⟨(f l[0])[0]'(by omega), List.getElem?_eq_getElem _⟩
    rw [hv] at hc00
    have hsp := World.cell?_spot hc00
    have hbl := World.block_lt_of_cell? w _ hc00
    obtain ⟨b, off, spot⟩ := a
    have hspot : spot = none := by simpa [Addr.add] using hsp
    subst hspot
    refine ⟨b, off, rfl, by simpa [Addr.add] using hbl, fun i hi j u hu => ?_⟩
    obtain ⟨_, hlen, hcc⟩ := World.cells?_some (hp i hi).1
    have hj : j < n := by rw [← hlen]; exact (List.getElem?_eq_some_iff.1 hu).1
    have := hcc j hj
    rw [hu] at this
    rwa [addr_add, addr_add] at this
  ·obtain ⟨i, hi, rfl⟩ := List.mem_iff_getElem.1 hg
   exact (hp i hi).2

theorem rd_string {t : TypeId} {fuel : Nat} {cs : List Value} {x : DataW H × List MemPlace} (ht : P.underlying t = some .string) (h : DataW.trod enc P w base spare held fuel t cs = some x) (hw : Fits P t x.1) : ∃ s : ByteArray, cs = [.string s] ∧ s.size ≤ reachBytes := by
 obtain ⟨s, hs, rfl, _⟩ := DataW.trod_string ht h
 exact ⟨s, hs, by have := hw s.data.toList.length (by simp [DataW.weights]); simpa using this⟩
end
end Go.Proofs.YtlboejdhmggjpaaGreat

/- Shelf -/
namespace Go.Proofs
open Go.Shelf
def Tryz.lays137_ren : Go.Shelf.Ren := ⟨fun | 137 => 143 | 217 => 170 | 266 => 187 | n => n, fun | 9 => 9 | 5 => 5 | 3 => 3 | n => n, fun | n => n⟩
theorem Tryz.lays137 : Go.Proofs.Lays.n137 Tryz.prog Tryz.lays137_ren := {
 mixed := by kernel_rfl
 f137 := Tryz.func143.trans (congrArg some (by kernel_rfl))
 f217 := Tryz.func170.trans (congrArg some (by kernel_rfl))
 f266 := Tryz.func187.trans (congrArg some (by kernel_rfl))
 t3 := Tryz.underlying3
 a3 := Tryz.isAgg3
 z3 := Tryz.sizeOf3
 v3 := Tryz.zeroValue3
 t5 := Tryz.underlying5
 a5 := Tryz.isAgg5
 z5 := Tryz.sizeOf5
 v5 := Tryz.zeroValue5
 t9 := Tryz.underlying9
 a9 := Tryz.isAgg9
 z9 := Tryz.sizeOf9
 v9 := Tryz.zeroValue9 }
open Go.RowKit in
theorem Tryz.strings_IndexByte (s : ByteArray) (c : Int) (w : World) :
  Calls Tryz.prog 143 #[.string s, .int .u8 c] w fun e w' => e = .returned (.int .i64 (Lib.indexByte s.data.toList c.toNat.toUInt8)) ∧ w' = w := Any.strings_IndexByte Tryz.lays137 s c w
def Tryz.lays143_ren : Go.Shelf.Ren := ⟨fun | 143 => 142 | 219 => 169 | 217 => 170 | 225 => 184 | 224 => 185 | 267 => 186 | 266 => 187 | 314 => 198 | n => n, fun | 9 => 9 | 3 => 3 | 4 => 4 | 5 => 5 | 46 => 215 | 146 => 233 | 51 => 232 | n => n, fun | 1 => 0 | n => n⟩
theorem Tryz.lays143 : Go.Proofs.Lays.n143 Tryz.prog Tryz.lays143_ren := {
 mixed := by kernel_rfl
 f143 := Tryz.func142.trans (congrArg some (by kernel_rfl))
 f217 := Tryz.func170.trans (congrArg some (by kernel_rfl))
 f219 := Tryz.func169.trans (congrArg some (by kernel_rfl))
 f224 := Tryz.func185.trans (congrArg some (by kernel_rfl))
 f225 := Tryz.func184.trans (congrArg some (by kernel_rfl))
 f266 := Tryz.func187.trans (congrArg some (by kernel_rfl))
 f267 := Tryz.func186.trans (congrArg some (by kernel_rfl))
 f314 := Tryz.func198.trans (congrArg some (by kernel_rfl))
 t3 := Tryz.underlying3
 a3 := Tryz.isAgg3
 z3 := Tryz.sizeOf3
 v3 := Tryz.zeroValue3
 t4 := Tryz.underlying4
 a4 := Tryz.isAgg4
 z4 := Tryz.sizeOf4
 v4 := Tryz.zeroValue4
 t5 := Tryz.underlying5
 a5 := Tryz.isAgg5
 z5 := Tryz.sizeOf5
 v5 := Tryz.zeroValue5
 t9 := Tryz.underlying9
 a9 := Tryz.isAgg9
 z9 := Tryz.sizeOf9
 v9 := Tryz.zeroValue9
 t46 := Tryz.underlying215
 a46 := Tryz.isAgg215
 z46 := Tryz.sizeOf215
 v46 := Tryz.zeroValue215
 t51 := Tryz.underlying232
 a51 := Tryz.isAgg232
 z51 := Tryz.sizeOf232
 v51 := Tryz.zeroValue232
 t146 := Tryz.underlying233
 a146 := Tryz.isAgg233
 z146 := Tryz.sizeOf233
 v146 := Tryz.zeroValue233
 g1 := by kernel_rfl }
open Go.RowKit Go.Lib in
theorem Tryz.strings_Index (s sub : ByteArray) (m : Int) (w : World) (hs : s.size < 4294967281) (hm : w.cell? ⟨0, 0, none⟩ = some (.int .i64 m)) :
  Calls Tryz.prog 142 #[.string s, .string sub] w fun e w' => e = .returned (.int .i64 (Lib.index s.data.toList sub.data.toList)) ∧ w' = w := Any.strings_Index Tryz.lays143 s sub m w hs hm
def Tryz.lays99_ren : Go.Shelf.Ren := ⟨fun | 99 => 141 | 206 => 168 | n => n, fun | 9 => 9 | 4 => 4 | 3 => 3 | n => n, fun | n => n⟩
theorem Tryz.lays99 : Go.Proofs.Lays.n99 Tryz.prog Tryz.lays99_ren := {
 mixed := by kernel_rfl
 f99 := Tryz.func141.trans (congrArg some (by kernel_rfl))
 f206 := Tryz.func168.trans (congrArg some (by kernel_rfl))
 t3 := Tryz.underlying3
 a3 := Tryz.isAgg3
 z3 := Tryz.sizeOf3
 v3 := Tryz.zeroValue3
 t4 := Tryz.underlying4
 a4 := Tryz.isAgg4
 z4 := Tryz.sizeOf4
 v4 := Tryz.zeroValue4
 t9 := Tryz.underlying9
 a9 := Tryz.isAgg9
 z9 := Tryz.sizeOf9
 v9 := Tryz.zeroValue9 }
open Go.RowKit Go.Lib in
theorem Tryz.strings_HasPrefix (s p : ByteArray) (w : World) :
  Calls Tryz.prog 141 #[.string s, .string p] w fun e w' => e = .returned (.bool (Lib.hasPrefix s.data.toList p.data.toList)) ∧ w' = w := Any.strings_HasPrefix Tryz.lays99 s p w
end Go.Proofs

/- Tal -/
namespace Go.Proofs.YtlboejdhmggjpaaGreat
open Go

section
variable {P : Program} {md : Region.Mode} {Q : Exit → Act → World → Prop}

theorem wpAny_more {ops : Array Oper} : ∀ (f : Nat) (listed : Array Bool) (a : Act) (w : World), wpAny P md ops Q f listed a w → wpAny P md ops Q (f + 1) listed a w
 | 0, listed, a, w, h => ⟨fun _ => h.2, fun i hi => by rw [h.1] at hi; cases hi⟩
 | f + 1, listed, a, w, h => ⟨h.1, fun i hi => wpOp_mono (fun a w h => wpAny_more f _ a w h) (h.2 i hi)⟩
theorem wpAny_le {ops : Array Oper} {listed : Array Bool} {a : Act} {w : World} (f k : Nat) (h : wpAny P md ops Q f listed a w) : wpAny P md ops Q (f + k) listed a w := by
 induction k with
 | zero => exact h
 | succ k ih => exact wpAny_more _ _ _ _ ih

def headB (md : Region.Mode) (l : List Oper) (n : Nat) : Bool :=
 (List.range n).all fun i => match l[i]? with
  | none => false
  | some o => (o.after.all fun e => !Region.binds md e || decide (e.on < i)) && (match o.guard with | some (g, _) => decide (g < n) | none => true)

theorem headB_spec {l : List Oper} {n i : Nat} (h : headB md l n = true) (hi : i < n) : ∃ o, l[i]? = some o ∧ (∀ e ∈ o.after, Region.binds md e = true → e.on < i) ∧ (∀ g b, o.guard = some (g, b) → g < n) := by
 have h1 := List.all_eq_true.1 h i (List.mem_range.2 hi)
 split at h1
 ·cases h1
 ·rename_i o ho
  simp only [Bool.and_eq_true] at h1
  refine ⟨o, ho, fun e he hb => ?_, fun g b hg => ?_⟩
  ·have := Array.all_eq_true'.1 h1.1 e he
   simp only [hb, Bool.not_true, Bool.false_or, decide_eq_true_eq] at this
   exact this
  ·have h2 := h1.2
   rw [hg] at h2
   simpa using h2

structure Tog (l : List Oper) (n : Nat) (listed lh : Array Bool) : Prop where
 size : listed.size = l.length
 sizeh : lh.size = n
 same : ∀ i, i < n → listed.getD i false = lh.getD i false
 inv : HeadInv md l.toArray n listed

theorem getD_at {x : Array Bool} {i : Nat} (h : i < x.size) (d : Bool) : x.getD i d = x[i] := by simp [h]
theorem getD_tf {x : Array Bool} {i : Nat} (h : i < x.size) : x.getD i true = x.getD i false := by rw [getD_at h, getD_at h]

theorem Tog.ready {l : List Oper} {n : Nat} {listed lh : Array Bool} (h : Tog (md := md) l n listed lh) (hB : headB md l n = true) (hn : n ≤ l.length) {i : Nat} (hi : i < n) :
  i ∈ Region.ready md l.toArray listed ↔ i ∈ Region.ready md (l.take n).toArray lh := by
 obtain ⟨o, ho, hafter, _⟩ := headB_spec hB hi
 have e1 : listed.getD i true = lh.getD i true := by rw [getD_tf (by rw [h.size]; omega), getD_tf (by rw [h.sizeh]; exact hi)]; exact h.same i hi
 rw [mem_ready, mem_ready, e1]
 have ho2 : (l.take n).toArray[i]? = some o := by simp [hi, ho]
 have ho1 : l.toArray[i]? = some o := by simpa using ho
 constructor
 ·rintro ⟨a, o', ho', hall⟩
  obtain rfl : o' = o := Option.some.inj (ho'.symm.trans ho1)
  exact ⟨a, o', ho2, fun e he hb => by rw [← h.same e.on (by have := hafter e he hb; omega)]; exact hall e he hb⟩
 ·rintro ⟨a, o', ho', hall⟩
  obtain rfl : o' = o := Option.some.inj (ho'.symm.trans ho2)
  exact ⟨a, o', ho1, fun e he hb => by rw [h.same e.on (by have := hafter e he hb; omega)]; exact hall e he hb⟩

theorem head_done {l : List Oper} {n : Nat} {lh : Array Bool} (hB : headB md l n = true) (hs : lh.size = n) (h : Region.ready md (l.take n).toArray lh = []) : ∀ i, i < n → lh.getD i false = true := by
 intro i
 induction i using Nat.strongRecOn with
 | _ i ih =>
  intro hi
  obtain ⟨o, ho, hafter, _⟩ := headB_spec hB hi
  cases hl : lh.getD i false with
  | true => rfl
  | false =>
   have : i ∈ Region.ready md (l.take n).toArray lh := by
    rw [mem_ready]
    exact ⟨by rw [getD_tf (by omega)]; exact hl, o, by simp [hi, ho], fun e he hb => ih e.on (hafter e he hb) (by have := hafter e he hb; omega)⟩
   rw [h] at this
   cases this

theorem wpOp_head {l : List Oper} {n i : Nat} (hB : headB md l n = true) (hi : i < n) (K : Act → World → Prop) (a : Act) (w : World) {Qh : Exit → Act → World → Prop} (hQ : ∀ e a w, e ≠ .normal → Qh e a w → Q e a w)
  (h : wpOp P (l.take n).toArray Qh i K a w) : wpOp P l.toArray Q i K a w := by
 obtain ⟨o, ho, _, hg⟩ := headB_spec hB hi
 unfold wpOp at *
 have e1 : (l.take n).toArray[i]? = some o := by simp [hi, ho]
 have e2 : l.toArray[i]? = some o := by simpa using ho
 rw [e2]; rw [e1] at h
 simp only at *
 have hw : Region.wanted o (yielded l.toArray a.tmps) = Region.wanted o (yielded (l.take n).toArray a.tmps) := by
  unfold Region.wanted
  cases hgu : o.guard with
  | none => rfl
  | some g =>
   obtain ⟨g, b⟩ := g
   have hgn := hg g b hgu
   have : yielded l.toArray a.tmps g = yielded (l.take n).toArray a.tmps g := by
    unfold yielded
    have : l.toArray[g]? = (l.take n).toArray[g]? := by simp [hgn]
    rw [this]
   simp only [this]
 rw [hw]
 split
 ·rename_i hwt
  rw [if_pos hwt] at h
  rcases h with h | ⟨hasks, a', w', hq⟩
  ·left
   unfold Oper.wp at *
   generalize (execOp a.eval o).run P w = r at *
   cases r with
   | ok x w' =>
    cases x <;> simp only [Oper.upon] at h ⊢ <;> try exact h
    refine Calls.mono h fun e w'' he => ?_
    cases e with
    | returned u => exact he
    | panicked c => exact hQ _ _ _ (by simp) he
    | outgrown => obtain ⟨a', w', hq⟩ := he; exact ⟨a', w', hQ _ _ _ (by simp) hq⟩
   | halt x w' =>
    cases x <;> simp only [Oper.upon] at h ⊢ <;> try exact h
    exact hQ _ _ _ (by simp) h
  ·exact .inr ⟨hasks, a', w', hQ _ _ _ (by simp) hq⟩
 ·rename_i hwt
  rw [if_neg hwt] at h
  exact h

theorem Tog.set {l : List Oper} {n i : Nat} {listed lh : Array Bool} (h : Tog (md := md) l n listed lh) (hi : i ∈ Region.ready md l.toArray listed) (hin : i < n) : Tog (md := md) l n (listed.setIfInBounds i true) (lh.setIfInBounds i true) := by
 refine ⟨by simp [h.size], by simp [h.sizeh], fun j hj => ?_, h.inv.set hi hin⟩
 by_cases hij : i = j
 ·subst hij
  have h1 : i < listed.size := by
   have := (Array.getElem?_eq_some_iff.1 (mem_ready.1 hi).2.choose_spec.1).1
   rw [h.size]; simpa using this
  have h2 : i < lh.size := by rw [h.sizeh]; exact hin
  simp [h1, h2]
 ·rw [getD_set_ne false hij, getD_set_ne false hij]; exact h.same j hj

def fullB (l : List Oper) (n : Nat) : Array Bool := ((List.range l.length).map fun i => decide (i < n)).toArray

theorem full_eq {l : List Oper} {n : Nat} {listed : Array Bool} (hs : listed.size = l.length) (h1 : ∀ i, i < n → listed.getD i false = true) (h2 : ∀ t, n ≤ t → t < l.length → listed.getD t true = false) : listed = fullB l n := by
 apply Array.ext
 ·simp [fullB, hs]
 ·intro i hi hi2
  simp only [fullB, List.getElem_toArray, List.getElem_map, List.getElem_range]
  by_cases hin : i < n
  ·have := h1 i hin; rw [getD_at hi] at this; simp [this, hin]
  ·have := h2 i (by omega) (by omega); rw [getD_at hi] at this; simp [this, hin]

theorem wpAny_split {l : List Oper} {n g : Nat} {Qh : Exit → Act → World → Prop} (hB : headB md l n = true) (hs : Region.sinkB md l.toArray n = true) (hc : Region.chainB md l.toArray n = true) (hn : n < l.length)
  (hQ : ∀ e a w, e ≠ .normal → Qh e a w → Q e a w) (hT : ∀ a w, Qh .normal a w → wpAny P md l.toArray Q g (fullB l n) a w) :
  ∀ (f : Nat) (listed lh : Array Bool) (a : Act) (w : World), Tog (md := md) l n listed lh → wpAny P md (l.take n).toArray Qh f lh a w → wpAny P md l.toArray Q (f + g) listed a w := by
 have hdone : ∀ (listed lh : Array Bool) (a : Act) (w : World), Tog (md := md) l n listed lh → Region.ready md (l.take n).toArray lh = [] → Qh .normal a w → wpAny P md l.toArray Q g listed a w := fun listed lh a w ht hr hq => by
  have hd := head_done hB ht.sizeh hr
  have : listed = fullB l n := full_eq ht.size (fun i hi => by rw [ht.same i hi]; exact hd i hi) (fun t h1 h2 => ht.inv.tail t h1 (by simpa using h2))
  rw [this]; exact hT a w hq
 intro f
 induction f with
 | zero =>
  intro listed lh a w ht h
  rw [Nat.zero_add]
  exact hdone listed lh a w ht h.1 h.2
 | succ f ih =>
  intro listed lh a w ht h
  by_cases hr : Region.ready md (l.take n).toArray lh = []
  ·rw [Nat.add_comm]; exact wpAny_le g (f + 1) (hdone listed lh a w ht hr (h.1 hr))
  ·obtain ⟨i0, hi0⟩ : ∃ i, i ∈ Region.ready md (l.take n).toArray lh := by
    cases hx : Region.ready md (l.take n).toArray lh with
    | nil => exact absurd hx hr
    | cons x xs => exact ⟨x, by simp⟩
   have hi0n : i0 < n := by
    have := (Array.getElem?_eq_some_iff.1 (mem_ready.1 hi0).2.choose_spec.1).1
    simp at this; omega
   have hi0' := (ht.ready hB (by omega) hi0n).2 hi0
   have hun := (mem_ready.1 hi0').1
   rw [show f + 1 + g = (f + g) + 1 from by omega]
   refine ⟨fun h0 => (by rw [h0] at hi0'; cases hi0'), fun i hi => ?_⟩
   have hin : i < n := by
    rcases Nat.lt_or_ge i n with h' | h'
    ·exact h'
    ·exact absurd hi (tail_waits hs hc (by simpa using hn) ht.inv _ i0 rfl hi0n hun i h')
   have h1 := h.2 i ((ht.ready hB (by omega) hin).1 hi)
   exact wpOp_mono (fun a' w' h' => ih _ _ a' w' (ht.set hi hin) h') (wpOp_head hB hin _ a w hQ h1)

def tailB (l : List Oper) (n : Nat) : Bool :=
 headB .any l n && Region.sinkB .any l.toArray n && Region.chainB .any l.toArray n && decide (n < l.length) && Region.lexB .any (l.take n).toArray && Region.seqB .any l.toArray (l.length - n) n (fullB l n)

theorem wpAny_tail {C : World → Prop} {a : Act} {w : World} {l : List Oper} (n : Nat) (hB : tailB l n = true) (hC : C w)
  (h : wpQuiet P (l.take n).toArray C (fun a' => ∀ w', C w' → wpList P l.toArray Q (l.drop n) a' w') (l.take n) a) : wpAny P .any l.toArray Q l.toArray.size (Array.replicate l.toArray.size false) a w := by
 simp only [tailB, Bool.and_eq_true, decide_eq_true_eq] at hB
 obtain ⟨⟨⟨⟨⟨h1, h2⟩, h3⟩, h4⟩, h5⟩, h6⟩ := hB
 have hln : (l.take n).length = n := by simp; omega
 have hlex := h5
 simp only [Region.lexB, Bool.and_eq_true] at hlex
 have hq := wpAnyQ_lex (C := C) (md := .any) hlex.1 (l.take n) 0 (Array.replicate (l.take n).toArray.size false) a (by simp) (by simpa using hlex.2) h
 have hany := wpAny_of_quiet (P := P) (Q := fun a' => ∀ w', C w' → wpList P l.toArray Q (l.drop n) a' w')
  (Q' := fun e a' w' => e = .normal ∧ wpList P l.toArray Q (l.drop n) a' w') (fun a' w' hw' h' => ⟨rfl, h' w' hw'⟩) _ _ _ _ hC hq
 have := wpAny_split (P := P) (md := .any) (Q := Q) (g := l.length - n) h1 h2 h3 h4 (Qh := fun e a' w' => e = .normal ∧ wpList P l.toArray Q (l.drop n) a' w') (fun e a w he hh => absurd hh.1 he)
  (fun a' w' hh => by
   have := wpAny_of_seq (md := .any) (P := P) (Q' := Q) (l.drop n) n (fullB l n) a' w' (fun j => by simp [List.getElem?_drop]) (by simpa using h6) hh.2
   simpa using this)
  _ (Array.replicate l.length false) (Array.replicate (l.take n).toArray.size false) a _
  ⟨by simp, by simpa using hln, fun i hi => by rw [getD_replicate_false, getD_replicate_false],
   ⟨by simp, fun j oj _ hl => (by rw [getD_replicate_false] at hl; cases hl), fun t _ ht => getD_in (by simpa using ht) (getD_replicate_false _ _)⟩⟩ hany
 rw [hln] at this
 rw [show n + (l.length - n) = l.length from by omega] at this
 simpa using this

theorem wp_region_tail {C : World → Prop} {id : Nat} {a : Act} {w : World} {l : List Oper} (n : Nat) (hm : P.follows .mixedOrders = true) (hB : tailB l n = true) (hC : C { w with drawn := w.drawn + 1 })
  (h : wpQuiet P (l.take n).toArray C (fun a' => ∀ w', C w' → wpList P l.toArray Q (l.drop n) a' w') (l.take n) a) : (Code.region id l.toArray true).wp P Q a w :=
 wp_region_any hm (wpAny_tail n hB hC h)

/-! The same in a round of a range over a function. -/
def NoOut (Q : Exit → Act → World → Prop) : Exit → Act → World → Prop := fun e a w => e ≠ .outgrown ∧ Q e a w
theorem NoOut.normal {a : Act} {w : World} (h : Q .normal a w) : NoOut Q .normal a w := ⟨by simp, h⟩

theorem rows_round {l n : Nat} {row : String} {args : Array Value} {w : World} {R : Value → World → Prop} (h : Rows P row args w R) : RowsIn (Fence.wide.inRound l) n P row args w R :=
 fun c cs _ => let ⟨v, w', r, s⟩ := h c cs; ⟨v, w', r, stepsIn_wide.2 s⟩
theorem calls_round {l n : Nat} {f : FuncId} {args : Array Value} {w : World} {R : Ending → World → Prop} (h : Calls P f args w R) : CallsIn (Fence.wide.inRound l) n P f args w R :=
 CallsIn.inRound l (callsIn_wide.2 h)

def noDeferB (l : List Oper) : Bool := l.all fun o => match o.op with | .defer _ => false | _ => true
theorem noDeferB_spec {l : List Oper} {i : Nat} {o : Oper} (h : noDeferB l = true) (ho : l.toArray[i]? = some o) : ∀ c, o.op ≠ .defer c := fun c hc => by
 have := List.all_eq_true.1 h o (List.mem_of_getElem? (by simpa using ho))
 rw [hc] at this
 cases this

theorem wpAnyIn_of_any {l : List Oper} {r n : Nat} (hd : noDeferB l = true) : ∀ (f : Nat) (listed : Array Bool) (a : Act) (w : World), wpAny P md l.toArray (NoOut Q) f listed a w → wpAnyIn (Fence.wide.inRound r) n P md l.toArray Q f listed a w
 | 0, listed, a, w, h => ⟨h.1, h.2.2⟩
 | f + 1, listed, a, w, h => ⟨fun h0 => (h.1 h0).2, fun i hi => by
  have h1 := wpOp_mono (fun a w hh => wpAnyIn_of_any (r := r) (n := n) hd f _ a w hh) (h.2 i hi)
  unfold wpOp at h1
  unfold wpOpIn
  split
  ·rename_i ho; simp only [ho] at h1; exact h1
  ·rename_i o ho
   simp only [ho] at h1
   split
   ·rename_i hw
    rw [if_pos hw] at h1
    rcases h1 with h1 | ⟨_, a', w', hq⟩
    ·refine ⟨fun _ _ => trivial, ?_⟩
     rw [Oper.semAt_eq _ _ _ (noDeferB_spec hd ho)]
     unfold Oper.wp at h1
     generalize (execOp a.eval o).run P w = res at *
     cases res with
     | ok x w' =>
      cases x <;> simp only [Oper.upon, Oper.uponIn] at h1 ⊢ <;> try exact h1
      ·refine ⟨fun hh => (by cases hh), calls_round (Calls.mono h1 fun e w'' he => ?_)⟩
       cases e with
       | returned u => exact he
       | panicked c => exact he.2
       | outgrown => obtain ⟨a', w', hq⟩ := he; exact absurd rfl hq.1
      ·exact ⟨fun hh => (by cases hh), rows_round h1⟩
     | halt x w' =>
      cases x <;> simp only [Oper.upon, Oper.uponIn] at h1 ⊢ <;> try exact h1
      exact h1.2
    ·exact absurd rfl hq.1
   ·rename_i hw
    rw [if_neg hw] at h1
    exact ⟨fun _ _ => trivial, h1⟩⟩

theorem wpIn_region_tail {C : World → Prop} {id r m : Nat} {a : Act} {w : World} {l : List Oper} (n : Nat) (hm : P.follows .mixedOrders = true) (hB : (tailB l n && noDeferB l) = true) (hC : C { w with drawn := w.drawn + 1 })
  (h : wpQuiet P (l.take n).toArray C (fun a' => ∀ w', C w' → wpList P l.toArray (NoOut Q) (l.drop n) a' w') (l.take n) a) : (Code.region id l.toArray true).wpIn (Fence.wide.inRound r) m P Q a w := by
 simp only [Bool.and_eq_true] at hB
 exact wpIn_region_any hm (wpAnyIn_of_any hB.2 _ _ _ _ (wpAny_tail n hB.1 hC h))

theorem wpIn_region_quiet_round {C : World → Prop} {id r m : Nat} {a : Act} {w : World} {l : List Oper} (hm : P.follows .mixedOrders = true) (hB : (Region.lexB .any l.toArray && noDeferB l) = true) (hC : C { w with drawn := w.drawn + 1 })
  (h : wpQuiet P l.toArray C (fun a' => ∀ w', C w' → Q .normal a' w') l a) : (Code.region id l.toArray true).wpIn (Fence.wide.inRound r) m P Q a w := by
 simp only [Bool.and_eq_true] at hB
 have hlex := hB.1
 simp only [Region.lexB, Bool.and_eq_true] at hlex
 refine wpIn_region_any hm (wpAnyIn_of_any hB.2 _ _ _ _ (wpAny_of_quiet (Q := fun a' => ∀ w', C w' → Q .normal a' w') (fun _ w' hw' h => ⟨by simp, h w' hw'⟩) _ _ _ _ hC ?_))
 have := wpAnyQ_lex (C := C) (md := .any) hlex.1 l 0 (Array.replicate l.toArray.size false) a (by simp) (by simpa using hlex.2) h
 simpa using this
end
end Go.Proofs.YtlboejdhmggjpaaGreat

/- Hed -/
namespace Go.Proofs.YtlboejdhmggjpaaGreat
open Go

section
variable {P : Program} {Q : Exit → Act → World → Prop}

def headTailB (l : List Oper) (n : Nat) : Bool :=
 headB .any l n && Region.sinkB .any l.toArray n && Region.chainB .any l.toArray n && decide (n < l.length) && Region.seqB .any l.toArray (l.length - n) n (fullB l n)

end
end Go.Proofs.YtlboejdhmggjpaaGreat

/- Mod -/
namespace Go.Proofs.YtlboejdhmggjpaaGreat
open Go.RowKit Go.BigFrame

structure Mod (S : Nat → Prop) (w w' : World) : Prop where
 os : w'.os = w.os
 tape : w'.tape = w.tape
 output : w'.output = w.output
 size : w.heap.size ≤ w'.heap.size
 block : ∀ k, k < w.heap.size → ¬ S k → w'.heap[k]? = w.heap[k]?
theorem Mod.refl (S : Nat → Prop) (w : World) : Mod S w w := ⟨rfl, rfl, rfl, Nat.le_refl _, fun _ _ _ => rfl⟩
theorem Mod.trans {S : Nat → Prop} {a b c : World} (h : Mod S a b) (k : Mod S b c) : Mod S a c :=
 ⟨k.os.trans h.os, k.tape.trans h.tape, k.output.trans h.output, Nat.le_trans h.size k.size, fun i hi hs => (k.block i (Nat.lt_of_lt_of_le hi h.size) hs).trans (h.block i hi hs)⟩
theorem Mod.mono {S T : Nat → Prop} {a b : World} (h : Mod S a b) (hST : ∀ k, k < a.heap.size → S k → T k) : Mod T a b :=
 ⟨h.os, h.tape, h.output, h.size, fun i hi hs => h.block i hi (fun hh => hs (hST i hi hh))⟩
theorem Mod.drewN (S : Nat → Prop) (w : World) (n : Nat) : Mod S w (w.drewN n) := ⟨rfl, rfl, rfl, Nat.le_refl _, fun _ _ _ => rfl⟩
theorem Mod.setCell {S : Nat → Prop} {a w : World} (h : Mod S a w) (p : Addr) (hp : a.heap.size ≤ p.block ∨ S p.block) (u : Value) : Mod S a (w.setCell p u) :=
 ⟨h.os, h.tape, h.output, by simpa using h.size, fun k hk hs => by
  rw [Below.heap_setCell _ _ _ _ (fun e => by
   subst e
   rcases hp with hp | hp
   ·omega
   ·exact hs hp)]
  exact h.block k hk hs⟩
theorem Mod.of_below {w w' : World} {S : Nat → Prop} (h : Below w.heap.size w w') : Mod S w w' := ⟨h.os, h.tape, h.output, h.size, fun k hk _ => h.block k hk⟩
theorem Mod.below {w w' : World} {S : Nat → Prop} {B : Nat} (h : Mod S w w') (hB : B ≤ w.heap.size) (hS : ∀ k, S k → B ≤ k) : Below B w w' :=
 ⟨h.os, h.tape, h.output, h.size, fun k hk => h.block k (by omega) (fun hs => by have := hS k hs; omega)⟩
theorem Mod.alloc {S : Nat → Prop} {a w : World} (h : Mod S a w) (o : Obj) : Mod S a (w.alloc o) :=
 ⟨h.os, h.tape, h.output, by have := h.size; simp; omega, fun k hk hs => (Below.heap_alloc w o k (by have := h.size; omega)).trans (h.block k hk hs)⟩
theorem Mod.keep {S : Nat → Prop} {w w' : World} (h : Mod S w w') {k : Nat} {o : Obj} (hk : w.heap[k]? = some o) (hs : ¬ S k) : w'.heap[k]? = some o :=
 (h.block k (Array.getElem?_eq_some_iff.1 hk).1 hs).trans hk

end Go.Proofs.YtlboejdhmggjpaaGreat

/- Mon -/
namespace Go.Proofs.YtlboejdhmggjpaaGreat
open Go Go.RowKit

section
variable {P : Program} {Q : Exit → Act → World → Prop}

def putAll (v : Nat → Value) : Nat → List Oper → Act → Act
 | _, [], a => a
 | i, o :: l, a => putAll v (i + 1) l (a.put o.dst (v i))

theorem put_twice (a : Act) (x : Option Tmp) (u v : Value) : (a.put x u).put x v = a.put x v := by
 cases x with
 | none => rfl
 | some d =>
  simp only [Act.put]
  congr 1
  apply Array.ext
  ·simp
  ·intro i h1 h2
   simp only [Array.size_setIfInBounds] at h1 h2
   by_cases hi : d = i
   ·subst hi; simp
   ·simp

theorem putAll_put (v : Nat → Value) (x : Option Tmp) (u : Value) : ∀ (l : List Oper) (i : Nat) (a : Act), (∀ o ∈ l, ∀ d, o.dst = some d → x ≠ some d) → putAll v i l (a.put x u) = (putAll v i l a).put x u
 | [], i, a, _ => rfl
 | o :: l, i, a, h => by
  unfold putAll
  rw [← putAll_put v x u l (i + 1) (a.put o.dst (v i)) (fun o' ho' => h o' (List.mem_cons_of_mem _ ho'))]
  congr 1
  exact (Act.put_comm a (v i) u (fun d hd => h o List.mem_cons_self d hd)).symm ▸ rfl

theorem putAll_congr (v v' : Nat → Value) : ∀ (l : List Oper) (i : Nat) (a : Act), (∀ j, i ≤ j → v j = v' j) → putAll v i l a = putAll v' i l a
 | [], i, a, _ => rfl
 | o :: l, i, a, h => by
  unfold putAll
  rw [h i (Nat.le_refl _)]
  exact putAll_congr v v' l (i + 1) _ (fun j hj => h j (by omega))

theorem putAll_upd (v : Nat → Value) (u : Value) : ∀ (l : List Oper) (i k : Nat) (a : Act) (o : Oper), (l.map (·.dst)).Nodup → (∀ o ∈ l, o.dst ≠ none) → l[k]? = some o → (putAll v i l a).put o.dst u = putAll (fun j => if j = i + k then u else v j) i l a
 | [], i, k, a, o, _, _, h => by simp at h
 | o' :: l, i, 0, a, o, hn, hs, h => by
  obtain rfl : o' = o := by simpa using h
  simp only [List.map_cons, List.nodup_cons] at hn
  unfold putAll
  rw [← putAll_put v o'.dst u l (i + 1) _ (fun o2 ho2 d hd heq => hn.1 (List.mem_map.2 ⟨o2, ho2, by rw [hd, heq]⟩)), put_twice]
  simp only [Nat.add_zero, if_true]
  exact putAll_congr v _ l (i + 1) _ (fun j hj => by rw [if_neg (by omega)])
 | o' :: l, i, k + 1, a, o, hn, hs, h => by
  simp only [List.map_cons, List.nodup_cons] at hn
  have ih := putAll_upd v u l (i + 1) k (a.put o'.dst (v i)) o hn.2 (fun o ho => hs o (List.mem_cons_of_mem _ ho)) (by simpa using h)
  unfold putAll
  rw [ih]
  have e1 : (if i = i + (k + 1) then u else v i) = v i := if_neg (by omega)
  rw [e1]
  exact putAll_congr _ _ l (i + 1) _ (fun j hj => by rw [show i + 1 + k = i + (k + 1) from by omega])

theorem put_self (a : Act) (d : Tmp) : a.put (some d) (a.tmps.getD d undef) = a := by
 cases a with
 | mk t df =>
  simp only [Act.put, Act.mk.injEq, and_true]
  apply Array.ext
  ·simp
  ·intro i h1 h2
   by_cases hi : d = i
   ·subst hi; simp [h2]
   ·exact Array.getElem_setIfInBounds_ne h2 hi
theorem putAll_self (a : Act) (v : Nat → Value) : ∀ (l : List Oper) (i : Nat), (∀ o ∈ l, o.dst ≠ none) → (∀ k o d, l[k]? = some o → o.dst = some d → v (i + k) = a.tmps.getD d undef) → putAll v i l a = a
 | [], i, _, _ => rfl
 | o :: l, i, hs, h => by
  unfold putAll
  cases hd : o.dst with
  | none => exact absurd hd (hs o List.mem_cons_self)
  | some d =>
   rw [show v i = a.tmps.getD d undef from h 0 o d rfl hd, put_self]
   exact putAll_self a v l (i + 1) (fun o ho => hs o (List.mem_cons_of_mem _ ho)) (fun k o d h1 h2 => by
    rw [show i + 1 + k = i + (k + 1) from by omega]; exact h (k + 1) o d (by simpa using h1) h2)

def cntF (f : Nat → Bool) : Nat → Nat
 | 0 => 0
 | n + 1 => cntF f n + (if f n = true then 1 else 0)
theorem cntF_le (f : Nat → Bool) : ∀ n, cntF f n ≤ n
 | 0 => Nat.le_refl _
 | n + 1 => by have := cntF_le f n; unfold cntF; split <;> omega
theorem cntF_zero (f : Nat → Bool) : ∀ n, cntF f n = 0 → ∀ i, i < n → f i = false
 | 0, _, i, hi => by omega
 | n + 1, h, i, hi => by
  unfold cntF at h
  by_cases hin : i = n
  ·subst hin
   cases hf : f i with
   | false => rfl
   | true => rw [hf] at h; simp at h
  ·exact cntF_zero f n (by omega) i (by omega)
theorem cntF_same (f g : Nat → Bool) : ∀ n, (∀ j, j < n → f j = g j) → cntF f n = cntF g n
 | 0, _ => rfl
 | n + 1, h => by unfold cntF; rw [cntF_same f g n (fun j hj => h j (by omega)), h n (by omega)]
theorem cntF_less (f g : Nat → Bool) (i : Nat) (hf : f i = true) (hg : g i = false) (h : ∀ j, j ≠ i → g j = f j) : ∀ n, i < n → cntF g n + 1 = cntF f n
 | 0, hi => by omega
 | n + 1, hi => by
  unfold cntF
  by_cases hin : i = n
  ·subst hin
   rw [hf, hg, cntF_same g f i (fun j hj => h j (by omega))]; simp
  ·rw [h n (by omega)]
   have := cntF_less f g i hf hg h n (by omega)
   omega

def monB (l : List Oper) : Bool := headB .any l l.length && l.all (fun o => o.dst.isSome) && decide ((l.map (·.dst)).Nodup)
def depsOf (l : List Oper) (i : Nat) : List Nat :=
 match l[i]? with
 | none => []
 | some o => (o.after.toList.filter (fun e => Region.binds .any e)).map (·.on)
def dstOf (l : List Oper) (i : Nat) : Option Tmp :=
 match l[i]? with
 | none => none
 | some o => o.dst

theorem wpAny_mono {a0 : Act} {W : World} {l : List Oper} (S : Nat → Value → World → Prop) (hB : monB l = true)
  (hmono : ∀ i v w w', Below w.heap.size w w' → S i v w → S i v w')
  (hstep : ∀ i, i < l.length → ∀ (v : Nat → Value) w, Below W.heap.size W w → (∀ j ∈ depsOf l i, S j (v j) w) →
   wpOp P l.toArray Q i (fun a' w' => ∃ u, a' = (putAll v 0 l a0).put (dstOf l i) u ∧ S i u w' ∧ Below w.heap.size w w') (putAll v 0 l a0) w)
  (hQ : ∀ (v : Nat → Value) w, Below W.heap.size W w → (∀ i, i < l.length → S i (v i) w) → Q .normal (putAll v 0 l a0) w) : wpAny P .any l.toArray Q l.toArray.size (Array.replicate l.toArray.size false) a0 (World.drew W) := by
 simp only [monB, Bool.and_eq_true, decide_eq_true_eq, List.all_eq_true] at hB
 obtain ⟨⟨hh, hsome⟩, hnd⟩ := hB
 have hs : ∀ o ∈ l, o.dst ≠ none := fun o ho hn => by have := hsome o ho; rw [hn] at this; cases this
 have main : ∀ (fuel : Nat) (listed : Array Bool) (a : Act) (w : World), listed.size = l.length → cntF (fun i => !listed.getD i true) l.length ≤ fuel →
   (∃ v : Nat → Value, a = putAll v 0 l a0 ∧ Below W.heap.size W w ∧ ∀ i, i < l.length → listed.getD i true = true → S i (v i) w) → wpAny P .any l.toArray Q fuel listed a w := by
  have hend : ∀ (listed : Array Bool) (a : Act) (w : World), listed.size = l.length → (∃ v : Nat → Value, a = putAll v 0 l a0 ∧ Below W.heap.size W w ∧ ∀ i, i < l.length → listed.getD i true = true → S i (v i) w) →
    Region.ready .any l.toArray listed = [] → Q .normal a w := fun listed a w hsz ⟨v, ha, hb, hS⟩ hr => by
   have hall := head_done (n := l.length) (lh := listed) hh hsz (by rw [List.take_length]; exact hr)
   rw [ha]
   exact hQ v w hb (fun i hi => hS i hi (by rw [getD_tf (by omega)]; exact hall i hi))
  intro fuel
  induction fuel with
  | zero =>
   intro listed a w hsz hc hI
   have hz := cntF_zero _ _ (Nat.le_zero.1 hc)
   have hr : Region.ready .any l.toArray listed = [] := by
    apply List.eq_nil_iff_forall_not_mem.2
    intro i hi
    obtain ⟨hun, o, ho, _⟩ := mem_ready.1 hi
    have hil : i < l.length := by simpa using (Array.getElem?_eq_some_iff.1 ho).1
    have := hz i hil
    simp only [Bool.not_eq_false'] at this
    rw [hun] at this; cases this
   exact ⟨hr, hend listed a w hsz hI hr⟩
  | succ fuel ih =>
   intro listed a w hsz hc hI
   refine ⟨hend listed a w hsz hI, fun i hi => ?_⟩
   obtain ⟨v, rfl, hb, hS⟩ := hI
   obtain ⟨hun, o, ho, hall⟩ := mem_ready.1 hi
   have ho' : l[i]? = some o := by simpa using ho
   have hil : i < l.length := (List.getElem?_eq_some_iff.1 ho').1
   have hst := hstep i hil v w hb (fun j hj => by
    unfold depsOf at hj
    rw [ho'] at hj
    obtain ⟨e, he, rfl⟩ := List.mem_map.1 hj
    obtain ⟨he1, he2⟩ := List.mem_filter.1 he
    obtain ⟨o2, ho2, hafter, _⟩ := headB_spec hh hil
    obtain rfl : o2 = o := Option.some.inj (ho2.symm.trans ho')
    have hlt : e.on < i := hafter e (by simpa using he1) he2
    exact hS e.on (by omega) (by rw [getD_tf (by omega)]; exact hall e (by simpa using he1) he2))
   refine wpOp_mono (fun a' w' hK => ?_) hst
   obtain ⟨u, rfl, hSu, hbw⟩ := hK
   have hdst : dstOf l i = o.dst := by unfold dstOf; rw [ho']
   refine ih _ _ _ (by simp [hsz]) ?_ ⟨fun j => if j = i then u else v j, ?_, hb.trans (hbw.mono hb.size), fun j hj hl => ?_⟩
   ·have := cntF_less (fun j => !listed.getD j true) (fun j => !(listed.setIfInBounds i true).getD j true) i (by rw [hun]; rfl) (by simp [hsz, hil]) (fun j hj => by rw [getD_set_ne true (Ne.symm hj)]) l.length hil
    omega
   ·rw [hdst, putAll_upd v u l 0 i a0 o hnd hs ho']
    simp
   ·by_cases hji : j = i
    ·subst hji; simpa using hSu
    ·show S j (if j = i then u else v j) _
     rw [if_neg hji]
     rw [getD_set_ne true (Ne.symm hji)] at hl
     exact hmono j _ _ _ hbw (hS j hj hl)
 refine main _ _ _ _ (by simp) (Nat.le_trans (cntF_le _ _) (by simp)) ⟨fun i => match l[i]? with | some o => (match o.dst with | some d => a0.tmps.getD d undef | none => undef) | none => undef, ?_, (Below.refl _ _).drew, fun i hi hl => ?_⟩
 ·symm
  exact putAll_self a0 _ l 0 hs (fun k o d h1 h2 => by simp only [Nat.zero_add, h1, h2])
 ·rw [getD_at (by simpa using hi)] at hl
  simp at hl

theorem wpOp_of_list {ops : Array Oper} {i : Nat} {o : Oper} {K : Act → World → Prop} {a : Act} {w : World} (h0 : ops[i]? = some o) (h : wpList P ops (fun e a' w' => e = .normal ∧ K a' w') [o] a w) : wpOp P ops Q i K a w := by
 unfold wpOp
 rw [h0]
 unfold wpList at h
 dsimp only
 split
 ·rename_i hwt
  rw [if_pos hwt] at h
  rcases h with h | ⟨hasks, a', w', hq⟩
  ·left
   unfold Oper.wp at *
   generalize (execOp a.eval o).run P w = r at *
   cases r with
   | ok x w' =>
    cases x <;> simp only [Oper.upon] at h ⊢ <;> try first | exact h.2 | exact h
    all_goals first
     | exact Calls.mono h (fun e w'' he => by
       cases e with
       | returned u => exact he.2
       | panicked c => cases he.1
       | outgrown => obtain ⟨a', w', hq⟩ := he; cases hq.1)
     | exact Rows.mono h (fun v w'' he => he.2)
   | halt x w' =>
    cases x <;> simp only [Oper.upon] at h ⊢ <;> first | exact h | (cases h.1)
  ·cases hq.1
 ·rename_i hwt
  rw [if_neg hwt] at h
  exact h.2

end
end Go.Proofs.YtlboejdhmggjpaaGreat

/- Mrt -/
namespace Go.Proofs.YtlboejdhmggjpaaGreat
open Go Go.RowKit

section
variable {P : Program} {Q : Exit → Act → World → Prop}

theorem wpAny_each_tail {a0 : Act} {W : World} {l : List Oper} (n : Nat) (S : Nat → Value → World → Prop) (hB : (headTailB l n && monB (l.take n)) = true)
  (hmono : ∀ i v w w', Below w.heap.size w w' → S i v w → S i v w')
  (hstep : ∀ i o, (l.take n)[i]? = some o → ∀ (v : Nat → Value) w, Below W.heap.size W w → (∀ j, (depsOf (l.take n) i).contains j = true → S j (v j) w) →
   ∀ K : Act → World → Prop, (∀ u w', S i u w' → Below w.heap.size w w' → K ((putAll v 0 (l.take n) a0).put o.dst u) w') → wpList P (l.take n).toArray (fun e a' w' => e = .normal ∧ K a' w') [o] (putAll v 0 (l.take n) a0) w)
  (hQ : ∀ (v : Nat → Value) w, Below W.heap.size W w → (∀ i, i < (l.take n).length → S i (v i) w) → wpList P l.toArray Q (l.drop n) (putAll v 0 (l.take n) a0) w) : wpAny P .any l.toArray Q l.toArray.size (Array.replicate l.toArray.size false) a0 (World.drew W) := by
 rw [Bool.and_eq_true] at hB
 obtain ⟨hB1, hmon⟩ := hB
 simp only [headTailB, Bool.and_eq_true, decide_eq_true_eq] at hB1
 obtain ⟨⟨⟨⟨h1, h2⟩, h3⟩, h4⟩, h6⟩ := hB1
 have hln : (l.take n).length = n := by simp; omega
 have hany := wpAny_mono (P := P) (Q := fun e a' w' => e = .normal ∧ wpList P l.toArray Q (l.drop n) a' w') (W := W) (a0 := a0) S hmon hmono (fun i hi v w hb hd => by
   have ho : (l.take n)[i]? = some (l.take n)[i] := List.getElem?_eq_getElem hi
   exact wpOp_of_list (o := (l.take n)[i]) (by rw [List.getElem?_toArray]; exact ho) (hstep i (l.take n)[i] ho v w hb (fun j hj => hd j (by simpa using hj)) (fun a' w' => ∃ u, a' = (putAll v 0 (l.take n) a0).put (dstOf (l.take n) i) u ∧ S i u w' ∧ Below w.heap.size w w')
    (fun u w' hS hB => ⟨u, by rw [show dstOf (l.take n) i = (l.take n)[i].dst from by unfold dstOf; rw [ho]], hS, hB⟩))) (fun v w hb hS => ⟨rfl, hQ v w hb hS⟩)
 have := wpAny_split (P := P) (md := .any) (Q := Q) (g := l.length - n) h1 h2 h3 h4 (Qh := fun e a' w' => e = .normal ∧ wpList P l.toArray Q (l.drop n) a' w') (fun e a w he hh => absurd hh.1 he)
  (fun a' w' hh => by
   have := wpAny_of_seq (md := .any) (P := P) (Q' := Q) (l.drop n) n (fullB l n) a' w' (fun j => by simp [List.getElem?_drop]) (by simpa using h6) hh.2
   simpa using this)
  _ (Array.replicate l.length false) (Array.replicate (l.take n).toArray.size false) a0 _
  ⟨by simp, by simpa using hln, fun i hi => by rw [getD_replicate_false, getD_replicate_false],
   ⟨by simp, fun j oj _ hl => (by rw [getD_replicate_false] at hl; cases hl), fun t _ ht => getD_in (by simpa using ht) (getD_replicate_false _ _)⟩⟩ hany
 rw [List.size_toArray, hln] at this
 rw [show n + (l.length - n) = l.length from by omega] at this
 simpa using this
theorem wpIn_region_each_tail {id r m : Nat} {a0 : Act} {W : World} {l : List Oper} (n : Nat) (S : Nat → Value → World → Prop) (hm : P.follows .mixedOrders = true) (hB : (headTailB l n && monB (l.take n)) = true) (hD : noDeferB l = true)
  (hmono : ∀ i v w w', Below w.heap.size w w' → S i v w → S i v w')
  (hstep : ∀ i o, (l.take n)[i]? = some o → ∀ (v : Nat → Value) w, Below W.heap.size W w → (∀ j, (depsOf (l.take n) i).contains j = true → S j (v j) w) →
   ∀ K : Act → World → Prop, (∀ u w', S i u w' → Below w.heap.size w w' → K ((putAll v 0 (l.take n) a0).put o.dst u) w') → wpList P (l.take n).toArray (fun e a' w' => e = .normal ∧ K a' w') [o] (putAll v 0 (l.take n) a0) w)
  (hQ : ∀ (v : Nat → Value) w, Below W.heap.size W w → (∀ i, i < (l.take n).length → S i (v i) w) → wpList P l.toArray (NoOut Q) (l.drop n) (putAll v 0 (l.take n) a0) w) : (Code.region id l.toArray true).wpIn (Fence.wide.inRound r) m P Q a0 W :=
 wpIn_region_any hm (wpAnyIn_of_any hD _ _ _ _ (wpAny_each_tail n S hB hmono hstep hQ))
end
end Go.Proofs.YtlboejdhmggjpaaGreat

/- Rfg -/
namespace Go.Proofs.YtlboejdhmggjpaaGreat
open Go.RowKit
variable {F : Fence} {n : Nat} {P : Program}

def nc (w : World) (k : Nat) : Prop := ∃ o, w.heap[k]? = some o ∧ o.isCells = false
def SeqG {α : Type} (F : Fence) (n : Nat) (P : Program) (g : Nat) (lb : Array Value) (encs : α → Array Value) (Kp : World → World → Prop) (Ok : List α → α → Prop) (X : Nat → Prop) (S Sp : List α → Prop) (w : World) : Prop :=
 ∀ (l : Nat) (J Jx : List α → World → Prop) (W : World), Below w.heap.size w W → (∀ s A B, J s A → Mod (fun k => X k ∨ (W.heap.size ≤ k ∧ nc A k)) A B → J s B) → (∀ s A B, Jx s A → Mod (fun k => X k ∨ (W.heap.size ≤ k ∧ nc A k)) A B → Jx s B) →
  (∀ pre x W1, J pre W1 → Ok pre x → YieldAt F (n - 1) P l (encs x) W1 fun e W' => (e = .returned (.bool true) ∧ J (pre ++ [x]) W' ∧ Kp W1 W') ∨ (e = .returned (.bool false) ∧ Jx (pre ++ [x]) W')) → J [] W →
  CallsIn F n P g (#[.func (.yield l) #[] #[]] ++ lb) W fun e W' => (∃ v, e = .returned v) ∧ ((∃ xs, S xs ∧ J xs W') ∨ (∃ pre, Sp pre ∧ Jx pre W'))

end Go.Proofs.YtlboejdhmggjpaaGreat

/- Dfs -/
namespace Go.Proofs.YtlboejdhmggjpaaGreat
open Go.RowKit
variable {F : Fence} {n : Nat} {P : Program}

def markD (D : Nat) : Deferred := { target := .collected D, args := #[] }
def Marks (b : Nat) (w : World) (ds : List Deferred) : Prop := ∃ Ds : List Nat, ds = Ds.map markD ∧ Ds.Nodup ∧ ∀ D ∈ Ds, b ≤ D ∧ w.heap[D]? = some (.deferred (some []))
theorem Marks.nil (b : Nat) (w : World) : Marks b w [] := ⟨[], rfl, List.nodup_nil, fun D h => by simp at h⟩
theorem Marks.mod {b : Nat} {w w' : World} {ds : List Deferred} (h : Marks b w ds) (hk : ∀ D : Nat, w.heap[D]? = some (.deferred (some [])) → w'.heap[D]? = some (.deferred (some []))) : Marks b w' ds := by
 obtain ⟨Ds, h1, h2, h3⟩ := h
 exact ⟨Ds, h1, h2, fun D hD => ⟨(h3 D hD).1, hk D (h3 D hD).2⟩⟩
theorem Marks.push {b D : Nat} {w w' : World} {ds : List Deferred} (h : Marks b w ds) (hk : ∀ D : Nat, w.heap[D]? = some (.deferred (some [])) → w'.heap[D]? = some (.deferred (some []))) (hb : b ≤ D) (hD : w'.heap[D]? = some (.deferred (some []))) (hw : w.heap.size ≤ D) : Marks b w' (markD D :: ds) := by
 obtain ⟨Ds, h1, h2, h3⟩ := h
 refine ⟨D :: Ds, by rw [h1]; rfl, List.nodup_cons.2 ⟨fun e => ?_, h2⟩, fun D' hD' => ?_⟩
 ·have := (Array.getElem?_eq_some_iff.1 (h3 D e).2).1
  omega
 ·rcases List.mem_cons.1 hD' with rfl | hD'
  ·exact ⟨hb, hD⟩
  ·exact ⟨(h3 D' hD').1, hk D' (h3 D' hD').2⟩
theorem leaves_marks {fn : Func} {tmps : Array Value} {R : Ending → World → Prop} {u : FrameMode} (hu : u ≠ .run) {b : Nat} : ∀ (ds : List Deferred) (w : World), Marks b w ds →
  (∀ w', Mod (fun k => b ≤ k ∧ nc w k) w w' → LeavesInM F n P fn tmps R [] u w') → LeavesInM F n P fn tmps R ds u w := by
 suffices H : ∀ (Ds : List Nat) (w : World), Ds.Nodup → (∀ D ∈ Ds, b ≤ D ∧ w.heap[D]? = some (.deferred (some []))) → (∀ w', Mod (fun k => b ≤ k ∧ nc w k) w w' → LeavesInM F n P fn tmps R [] u w') → LeavesInM F n P fn tmps R (Ds.map markD) u w by
  rintro ds w ⟨Ds, rfl, h2, h3⟩ h
  exact H Ds w h2 h3 h
 intro Ds
 induction Ds with
 | nil => exact fun w _ _ h => h w (Mod.refl _ _)
 | cons D Ds ih =>
  intro w hn hall h
  obtain ⟨hnot, hn2⟩ := List.nodup_cons.1 hn
  have hD := hall D (by simp)
  refine ⟨hu, .inl ⟨D, w.putObj D (.deferred none), rfl, run_takeDeferred hD.2, ih _ hn2 (fun D' hD' => ?_) (fun w' hm => h w' ?_)⟩⟩
  ·have := hall D' (by simp [hD'])
   refine ⟨this.1, ?_⟩
   rw [World.putObj_heap_other (fun e => by subst e; exact hnot hD')]
   exact this.2
  ·have hlt := (Array.getElem?_eq_some_iff.1 hD.2).1
   have h1 : Mod (fun k => b ≤ k ∧ nc w k) w (w.putObj D (.deferred none)) := ⟨rfl, rfl, rfl, by simp, fun k hk hs => World.putObj_heap_other (fun e => hs (by subst e; exact ⟨hD.1, _, hD.2, rfl⟩))⟩
   refine h1.trans (hm.mono fun k hk hs => ⟨hs.1, ?_⟩)
   by_cases e : k = D
   ·subst e; exact ⟨_, hD.2, rfl⟩
   ·obtain ⟨o, ho, hc⟩ := hs.2
    rw [World.putObj_heap_other e] at ho
    exact ⟨o, ho, hc⟩

theorem run_storeVar_row (w : World) (ty : TypeId) (g o : Nat) (vs : List Value) (cur : Array Value) (t : TypeId) (hg : w.heap[g]? = some (.cells cur t (0, 0))) (hl : o + vs.length ≤ cur.size) (h1 : ∀ v ∈ vs, v.oneCell' = true) (hi : (P.info? ty).map (·.size) = some vs.length) :
  (storeVar ty ⟨g, o, none⟩ (.agg vs.toArray)).run P w = .ok () (w.setRow g (cur.toList.take o ++ vs ++ cur.toList.drop (o + vs.length)).toArray) := by
 have hst := run_storeCells_at P g o t vs 0 cur w hg (by simpa using hl) h1
 cases hq : P.info? ty with
 | none => simp [hq] at hi
 | some i =>
  have hs : i.size = vs.length := by simpa [hq] using hi
  simpa [storeVar, sizeOf, typeInfo, hq, hs, Value.cells, Sem.run_bind] using hst
theorem wp_store_at {o : Oper} {a : Act} {w : World} {K : Act → World → Prop} {Q : Exit → Act → World → Prop} (ty : TypeId) (x y : Operand) (ho : o.op = .store ty x y)
  (g i : Nat) (hx : a.eval x = .pointer (some ⟨g, i, none⟩)) (vs : List Value) (hy : a.eval y = .agg vs.toArray) (cur : Array Value) (t : TypeId) (hg : w.heap[g]? = some (.cells cur t (0, 0))) (hl : i + vs.length ≤ cur.size) (h1 : ∀ v ∈ vs, v.oneCell' = true) (hi : (P.info? ty).map (·.size) = some vs.length)
  (h : K (a.put o.dst undef) (w.setRow g (cur.toList.take i ++ vs ++ cur.toList.drop (i + vs.length)).toArray)) : o.wp P a w K Q := by
 unfold Oper.wp execOp
 simp only [ho, hx, hy, Instr.storeAt, Instr.sureAddr, Sem.run_bind, Sem.run_pure, Result.andThen_ok, run_storeVar_row w ty g i vs cur t hg hl h1 hi]
 exact h
theorem wpList_store_at {ops : Array Oper} {rest : List Oper} {o : Oper} {a : Act} {w : World} {Q : Exit → Act → World → Prop} (hgd : o.guard = none) (ty : TypeId) (x y : Operand) (ho : o.op = .store ty x y)
  (g i : Nat) (hx : a.eval x = .pointer (some ⟨g, i, none⟩)) (vs : List Value) (hy : a.eval y = .agg vs.toArray) (cur : Array Value) (t : TypeId) (hg : w.heap[g]? = some (.cells cur t (0, 0))) (hl : i + vs.length ≤ cur.size) (h1 : ∀ v ∈ vs, v.oneCell' = true) (hi : (P.info? ty).map (·.size) = some vs.length)
  (h : wpList P ops Q rest (a.put o.dst undef) (w.setRow g (cur.toList.take i ++ vs ++ cur.toList.drop (i + vs.length)).toArray)) : wpList P ops Q (o :: rest) a w :=
 wpList_plain hgd fun _ hK => wp_store_at ty x y ho g i hx vs hy cur t hg hl h1 hi (hK _ _ h)
theorem wpList_make_at (w : World) {ops : Array Oper} {rest : List Oper} {o : Oper} {a : Act} {Q : Exit → Act → World → Prop}
  (hg : o.guard = none) (l c : Operand) (t : TypeId) (hop : o.op = Op.makeSlice t l c)
  (e : TypeId) (i : TypeInfo) (z : Value) (size : Nat) (h1 : P.underlying t = some (.slice e)) (h2 : P.info? e = some i) (h3 : i.zero = some z) (h4 : i.size = size)
  (kl kc : IntKind) (L C : Int) (n : Nat) (hl : a.eval l = .int kl L) (hc : a.eval c = .int kc C) (hL : L = (n : Int)) (hC : C = (n : Int)) (b2 : i.bytes * n ≤ 281474976710656) (b3 : n ≤ 9223372036854775807)
  (cs : Array Value) (hcs : madeCells z.cells (n * size) = cs)
  (hK : wpList P ops Q rest (a.put o.dst (.slice (some ⟨w.heap.size, 0, none⟩) n n)) (w.alloc (.cells cs e))) :
  wpList P ops Q (o :: rest) a w := by
 refine wpList_plain hg fun K hK' => ?_
 subst hL hC h4 hcs
 have hb' : (i.bytes : Int) * (n : Int) ≤ 281474976710656 := by
  have h : ((i.bytes * n : Nat) : Int) ≤ 281474976710656 := by omega
  rwa [Int.natCast_mul] at h
 have hrun := run_make (P := P) w t e i z h1 h2 h3 kl kc n n (by omega) (Int.le_refl _) hb' (by omega)
 unfold Oper.wp
 simp only [Int.toNat_natCast] at hrun
 simp only [execOp, hop, hl, hc, hrun, Sem.run_bind, Result.andThen_ok, Sem.run_pure]
 exact hK' _ _ hK
theorem flat_set {α : Type} (n : Nat) (f : α → List Value) (hf : ∀ x, (f x).length = n) : ∀ (l : List α) (i : Nat) (x : α), i < l.length → (l.flatMap f).take (i * n) ++ f x ++ (l.flatMap f).drop (i * n + n) = (l.set i x).flatMap f
 | [], i, x, h => by simp at h
 | y :: l, 0, x, h => by
  rw [List.flatMap_cons, Nat.zero_mul, Nat.zero_add, List.take_zero, List.nil_append, List.set_cons_zero, List.flatMap_cons, List.drop_append_of_le_length (by rw [hf]; omega), List.drop_of_length_le (by rw [hf]; omega), List.nil_append]
 | y :: l, i + 1, x, h => by
  have ih := flat_set n f hf l i x (by simpa using h)
  rw [List.flatMap_cons, List.set_cons_succ, List.flatMap_cons, ← ih]
  have e1 : (i + 1) * n = (f y).length + i * n := by rw [hf, Nat.succ_mul]; omega
  rw [e1, List.take_length_add_append, Nat.add_assoc, List.drop_length_add_append]
  simp only [List.append_assoc]
end Go.Proofs.YtlboejdhmggjpaaGreat

/- Rfa -/
namespace Go.Proofs.YtlboejdhmggjpaaGreat
open Go.RowKit
variable {F : Fence} {n : Nat} {P : Program}

theorem wpIn_rangeFunc_asg {α : Type} {g : Operand} {ps : Array Tmp} {assign body : Code} {Q : Exit → Act → World → Prop} {a : Act} {w : World}
  (hro : F.round = none) (h1 : 1 ≤ n) {gf : Nat} {lb : Array Value} (hg : a.eval g = .func (.func gf) #[] lb) (hFg : F.fn gf) (eg : ∀ args w, (callFunc gf args).run P w = .ok (.enter gf args) w)
  {encs : α → Array Value} {Kp : World → World → Prop} {Ok : List α → α → Prop} {X : Nat → Prop} {S Sp : List α → Prop} {w0 : World} (hseq : SeqG F (n - 1) P gf lb encs Kp Ok X S Sp w0) (hX : ∀ k, X k → k < w.heap.size)
  (hKt : ∀ {A B C : World}, Kp A B → Kp B C → Kp A C) (hKb : ∀ (W : World) (l : Nat) (o o' : Obj), w.heap.size ≤ l → W.heap[l]? = some o → o.isCells = false → o.isWalk = false → Kp W (W.putObj l o')) (hb0 : Below w0.heap.size w0 w) (hps : ∀ x, (encs x).size = ps.size)
  (I : List α → World → Prop) (Ix : Code → List α → World → Prop) (hI : ∀ s A B, I s A → Mod (fun k => X k ∨ (w.heap.size ≤ k ∧ nc A k)) A B → I s B) (hIx : ∀ c s A B, Ix c s A → Mod (fun k => X k ∨ (w.heap.size ≤ k ∧ nc A k)) A B → Ix c s B) (h0 : I [] w) (Rw : α → Act → World → Prop) (hKa : ∀ {A B : World}, Below A.heap.size A B → Kp A B) (hRw : ∀ (x : α) (a' : Act) (W : World) (l : Nat) (o o' : Obj), W.heap[l]? = some o → o.isCells = false → Rw x a' W → Rw x a' (W.putObj l o'))
  (hassign : ∀ (l : Nat) (x : α) (W : World) (K : Act → World → Prop), (∀ a' W', Below W.heap.size W W' → Rw x a' W' → K a' W') →
   assign.wpIn (F.inRound l) (n - 1 - 1) P (Exit.then K (fun _ _ _ => False)) { tmps := (ps.zip (encs x)).foldl (fun t (p, v) => t.setIfInBounds p v) a.tmps, defers := [] } W)
  (hbody : ∀ (l : Nat) (pre : List α) (x : α) (a' : Act) (W : World), I pre W → Ok pre x → Rw x a' W → body.wpIn (F.inRound l) (n - 1 - 1) P (ownPostG w.heap.size Kp I Ix (pre ++ [x]) W) a' W)
  (hdone : ∀ (D : Nat) (xs : List α) (W : World), w.heap.size ≤ D → S xs → I xs W → W.heap[D]? = some (.deferred (some [])) → Q .normal { a with defers := { target := .collected D, args := #[] } :: a.defers } W)
  (hstop : ∀ (D : Nat) (c : Code) (pre : List α) (W : World), w.heap.size ≤ D → Sp pre → Ix c pre W → W.heap[D]? = some (.deferred (some [])) → c.wpIn F n P Q { a with defers := { target := .collected D, args := #[] } :: a.defers } W) :
  (Code.rangeFunc g ps assign body).wpIn F n P Q a w := by
 refine wpIn_rangeFunc fun fn hfn => ?_
 rw [hro]
 let L : LoopState → Option Code → Obj := fun st c => .loop { state := st, pending := c, fn, tmps := a.tmps, params := ps, assign, body, defers := w.heap.size }
 obtain ⟨V, hV⟩ : ∃ V, V = (w.alloc (.deferred (some []))).alloc (L .ready none) := ⟨_, rfl⟩
 have hVs : V.heap.size = w.heap.size + 2 := by rw [hV]; simp
 have hl0 : V.heap[w.heap.size + 1]? = some (L .ready none) := by
  rw [hV]; have := World.alloc_heap_new (w.alloc (.deferred (some []))) (L .ready none); rwa [World.size_alloc] at this
 have hd0 : V.heap[w.heap.size]? = some (.deferred (some [])) := by
  rw [hV]; exact (Below.heap_alloc _ _ _ (by simp)).trans (World.alloc_heap_new w _)
 have hwV : Below w.heap.size w V := by rw [hV]; exact ((Below.refl _ w).alloc (Nat.le_refl _) _).alloc (by simp) _
 have hi0 : I [] V := hI _ _ _ h0 (Mod.of_below hwV)
 have hput : ∀ {s : List α} {A : World} {l : Nat} {o0 : Obj} (o : Obj), I s A → A.heap[l]? = some o0 → o0.isCells = false → w.heap.size ≤ l → I s (A.putObj l o) := fun {s A l o0} o hi h0 h1 hl =>
  hI s A _ hi ⟨rfl, rfl, rfl, by simp, fun k hk hn => World.putObj_heap_other (fun e => hn (.inr (by subst e; exact ⟨hl, o0, h0, h1⟩)))⟩
 have hputx : ∀ {c : Code} {s : List α} {A : World} {l : Nat} {o0 : Obj} (o : Obj), Ix c s A → A.heap[l]? = some o0 → o0.isCells = false → w.heap.size ≤ l → Ix c s (A.putObj l o) := fun {c s A l o0} o hi h0 h1 hl =>
  hIx c s A _ hi ⟨rfl, rfl, rfl, by simp, fun k hk hn => World.putObj_heap_other (fun e => hn (.inr (by subst e; exact ⟨hl, o0, h0, h1⟩)))⟩
 refine ⟨w.heap.size + 1, [{ target := .collected w.heap.size, args := #[] }], V, { target := .fn (.func gf) lb, args := #[.func (.yield (w.heap.size + 1)) #[] #[]] }, V, gf,
  #[.func (.yield (w.heap.size + 1)) #[] #[]] ++ lb, V, by rw [hV]; exact run_enterLoop_outer _ _ _ _ _, by simp only [resolve, hg]; simp [go_sem], fun f' hf' => by simp [Target.leads] at hf'; subst hf'; exact hFg, by simp [invoke, go_sem, eg], fun _ => h1, ?_⟩
 let J : List α → World → Prop := fun pre W => I pre W ∧ W.heap[w.heap.size + 1]? = some (L .ready none) ∧ W.heap[w.heap.size]? = some (.deferred (some []))
 let Jx : List α → World → Prop := fun pre W => ∃ c, Ix c pre W ∧ W.heap[w.heap.size + 1]? = some (L .done (some c)) ∧ W.heap[w.heap.size]? = some (.deferred (some []))
 have hkeep : ∀ {A B : World} {k : Nat} {o : Obj}, Mod (fun k => X k ∨ (V.heap.size ≤ k ∧ nc A k)) A B → A.heap[k]? = some o → w.heap.size ≤ k → k < w.heap.size + 2 → B.heap[k]? = some o := fun hm ho h1 h2 =>
  hm.keep ho (fun e => by
   rcases e with e | e
   ·have := hX _ e; omega
   ·omega)
 have hsub : ∀ {A B : World}, Mod (fun k => X k ∨ (V.heap.size ≤ k ∧ nc A k)) A B → Mod (fun k => X k ∨ (w.heap.size ≤ k ∧ nc A k)) A B := fun hm => hm.mono (fun k _ hk => by
  rcases hk with hk | hk
  ·exact .inl hk
  ·exact .inr ⟨by omega, hk.2⟩)
 have hJ : ∀ s A B, J s A → Mod (fun k => X k ∨ (V.heap.size ≤ k ∧ nc A k)) A B → J s B := fun s A B hs hm =>
  ⟨hI s A B hs.1 (hsub hm), hkeep hm hs.2.1 (by omega) (by omega), hkeep hm hs.2.2 (by omega) (by omega)⟩
 have hJx : ∀ s A B, Jx s A → Mod (fun k => X k ∨ (V.heap.size ≤ k ∧ nc A k)) A B → Jx s B := fun s A B ⟨c, h1, h2, h3⟩ hm =>
  ⟨c, hIx c s A B h1 (hsub hm), hkeep hm h2 (by omega) (by omega), hkeep hm h3 (by omega) (by omega)⟩
 refine (hseq (w.heap.size + 1) J Jx V (hb0.trans (hwV.mono hb0.size)) hJ hJx ?_ ⟨hi0, hl0, hd0⟩).mono ?_
 ·rintro pre x W0 ⟨hi0, hl0, hk0⟩ hok
  have hlt0 : w.heap.size + 1 < W0.heap.size := (Array.getElem?_eq_some_iff.1 hl0).1
  refine ⟨fn, _, assign, body, run_yield (P := P) (args := encs x) hl0 (hps x), roundIn_of_wpIn hfn (hassign _ x W0 _ fun a' W hba hra => ?_)⟩
  have hl := heap_below hba hl0 hlt0
  have hk := heap_below hba hk0 (by omega)
  have hi : I pre W := hI _ _ _ hi0 (Mod.of_below hba)
  refine ⟨_, run_beginRound hl rfl, ?_⟩
  have hlt : w.heap.size + 1 < W.heap.size := (Array.getElem?_eq_some_iff.1 hl).1
  have hl2 : (W.putObj (w.heap.size + 1) (L .busy none)).heap[w.heap.size + 1]? = some (L .busy none) := World.putObj_heap_same hlt
  have hk2 : (W.putObj (w.heap.size + 1) (L .busy none)).heap[w.heap.size]? = some (.deferred (some [])) := (World.putObj_heap_other (by omega)).trans hk
  refine wpIn_mono (hbody _ pre x _ _ (hput _ hi hl rfl (by omega)) hok (hRw _ _ _ _ _ _ hl rfl hra)) ?_
  have fin : ∀ {W3 : World}, KeepsFrom w.heap.size (W.putObj (w.heap.size + 1) (L .busy none)) W3 → W3.heap[w.heap.size + 1]? = some (L .busy none) ∧ W3.heap[w.heap.size]? = some (.deferred (some [])) := fun hk3 =>
   ⟨hk3.same _ _ (by omega) hl2 rfl, hk3.same _ _ (Nat.le_refl _) hk2 rfl⟩
  rintro e a3 W3 hp
  have out : ∀ (c : Code), KeepsFrom w.heap.size (W.putObj (w.heap.size + 1) (L .busy none)) W3 → Ix c (pre ++ [x]) W3 → Jx (pre ++ [x]) (W3.putObj (w.heap.size + 1) (L .done (some c))) := fun c h1 h2 => by
   obtain ⟨hl3, hk3⟩ := fin h1
   exact ⟨c, hputx _ h2 hl3 rfl (by omega), World.putObj_heap_same (Array.getElem?_eq_some_iff.1 hl3).1, (World.putObj_heap_other (by omega)).trans hk3⟩
  cases e with
  | normal =>
   obtain ⟨hk3, hkp, hi3⟩ := hp
   obtain ⟨hl3, hd3⟩ := fin hk3
   refine ⟨_, _, run_endRound (P := P) none hl3, .inl ⟨rfl, ⟨hput _ hi3 hl3 rfl (by omega), World.putObj_heap_same (Array.getElem?_eq_some_iff.1 hl3).1, (World.putObj_heap_other (by omega)).trans hd3⟩, ?_⟩⟩
   exact hKt (hKa hba) <| hKt (hKt (hKb _ _ _ _ (by omega) hl rfl rfl) hkp) (hKb _ _ _ _ (by omega) hl3 rfl rfl)
  | ret => exact ⟨_, _, run_endRound (P := P) (some .ret) (fin hp.1).1, .inr ⟨rfl, out _ hp.1 hp.2⟩⟩
  | exit id => exact ⟨_, _, run_endRound (P := P) (some (.exit id)) (fin hp.1).1, .inr ⟨rfl, out _ hp.1 hp.2⟩⟩
  | goto t => exact ⟨_, _, run_endRound (P := P) (some (.goto t)) (fin hp.1).1, .inr ⟨rfl, out _ hp.1 hp.2⟩⟩
  | panic ch => exact hp.elim
  | outgrown => exact hp.elim
 ·rintro e W2 ⟨⟨v, rfl⟩, (⟨xs, hS, hi, hl, hk⟩ | ⟨pre, hSp, c, hi, hl, hk⟩)⟩
  ·exact ⟨none, _, run_endLoop (P := P) hl (by simp), hdone _ xs _ (Nat.le_refl _) hS (hput _ hi hl rfl (by omega)) ((World.putObj_heap_other (by omega)).trans hk)⟩
  ·exact ⟨some c, _, run_endLoop (P := P) hl (by simp), hstop _ c pre _ (Nat.le_refl _) hSp (hputx _ hi hl rfl (by omega)) ((World.putObj_heap_other (by omega)).trans hk)⟩
end Go.Proofs.YtlboejdhmggjpaaGreat

/- Sto -/
namespace Go.Proofs.YtlboejdhmggjpaaGreat
open Go

section
variable {P : Program} {ops : Array Oper} {md : Region.Mode} {E : Nat → Oper → Act → Value → Prop}

def YldE (ops : Array Oper) (E : Nat → Oper → Act → Value → Prop) (i : Nat) (o : Oper) (v : Value) (a : Act) : Prop :=
 (Region.wanted o (yielded ops a.tmps) = true ∧ E i o a v) ∨ (Region.wanted o (yielded ops a.tmps) = false ∧ v = undef)
def eOp (ops : Array Oper) (E : Nat → Oper → Act → Value → Prop) (i : Nat) (K : Act → Prop) (a : Act) : Prop :=
 ∀ o, ops[i]? = some o → ∃ v, YldE ops E i o v a ∧ K (a.put o.dst v)
def anyE (md : Region.Mode) (ops : Array Oper) (E : Nat → Oper → Act → Value → Prop) (Q : Act → Prop) : Nat → Array Bool → Act → Prop
 | 0, listed, a => Region.ready md ops listed = [] ∧ Q a
 | fuel + 1, listed, a => (Region.ready md ops listed = [] → Q a) ∧ ∀ i ∈ Region.ready md ops listed, eOp ops E i (anyE md ops E Q fuel (listed.setIfInBounds i true)) a
def seqE (ops : Array Oper) (E : Nat → Oper → Act → Value → Prop) (Q : Act → Prop) : Nat → List Oper → Act → Prop
 | _, [], a => Q a
 | i, o :: rest, a => ∃ v, YldE ops E i o v a ∧ seqE ops E Q (i + 1) rest (a.put o.dst v)

theorem eOp_mono {i : Nat} {K K' : Act → Prop} {a : Act} (h : ∀ a, K a → K' a) (hh : eOp ops E i K a) : eOp ops E i K' a :=
 fun o ho => let ⟨v, h1, h2⟩ := hh o ho; ⟨v, h1, h _ h2⟩

theorem YldE.same (hE : ∀ i o a a' v, execOp a'.eval o = execOp a.eval o → E i o a v → E i o a' v) {i : Nat} {o : Oper} {v : Value} {a a' : Act} (h : YldE ops E i o v a) (he : execOp a'.eval o = execOp a.eval o)
  (hw : Region.wanted o (yielded ops a'.tmps) = Region.wanted o (yielded ops a.tmps)) : YldE ops E i o v a' := by
 rcases h with ⟨h1, h2⟩ | ⟨h1, h2⟩
 ·exact .inl ⟨by rw [hw]; exact h1, hE _ _ _ _ _ he h2⟩
 ·exact .inr ⟨by rw [hw]; exact h1, h2⟩

theorem eOp_put (hE : ∀ i o a a' v, execOp a'.eval o = execOp a.eval o → E i o a v → E i o a' v) {i j : Nat} {oi oj : Oper} {v : Value} (hj : ops[j]? = some oj) (hap : oi.apart ops oj = true)
  (hsi : ∀ cs b, oi.op ≠ .select cs b) (hsj : ∀ cs b, oj.op ≠ .select cs b) {K : Act → Prop} {a : Act} (hy : YldE ops E i oi v a) (h : eOp ops E j K (a.put oi.dst v)) :
  eOp ops E j (fun a' => YldE ops E i oi v a' ∧ K (a'.put oi.dst v)) a := by
 obtain ⟨h1, h2, h3⟩ := Oper.apart_spec hap
 intro o ho
 obtain rfl : oj = o := Option.some.inj (hj.symm.trans ho)
 obtain ⟨u, hu, hK⟩ := h oj hj
 refine ⟨u, hu.same hE (execOp_put oj hsj a oi.dst v h1).symm (wanted_put oj a oi.dst v h1).symm, hy.same hE (execOp_put oi hsi a oj.dst u h3) (wanted_put oi a oj.dst u h3), ?_⟩
 rw [← Act.put_comm a v u h2]; exact hK

theorem anyE_first (hE : ∀ i o a a' v, execOp a'.eval o = execOp a.eval o → E i o a v → E i o a' v) {Q : Act → Prop} {i : Nat} {oi : Oper} {v : Value} (hi : ops[i]? = some oi) (hsel : ∀ (j : Nat) (o : Oper) cs b, ops[j]? = some o → o.op ≠ .select cs b) :
  ∀ (fuel : Nat) (listed : Array Bool) (a : Act),
   (∀ j oj, ops[j]? = some oj → j ≠ i → listed.getD j true = false → (∀ e ∈ oj.after, Region.binds md e = true → e.on ≠ i) → oi.apart ops oj = true) →
   i ∈ Region.ready md ops listed → YldE ops E i oi v a →
   anyE md ops E Q fuel (listed.setIfInBounds i true) (a.put oi.dst v) → anyE md ops E Q (fuel + 1) listed a := by
 have self : ∀ {K : Act → Prop} {a : Act}, YldE ops E i oi v a → K (a.put oi.dst v) → eOp ops E i K a := fun hy hK o ho => by
  obtain rfl : oi = o := Option.some.inj (hi.symm.trans ho)
  exact ⟨v, hy, hK⟩
 intro fuel
 induction fuel with
 | zero =>
  intro listed a _ hr hy H
  refine ⟨fun h => (by rw [h] at hr; cases hr), fun j hj => ?_⟩
  by_cases hji : j = i
  ·subst hji; exact self hy H
  ·have := ready_mono hj hji
   rw [H.1] at this
   cases this
 | succ fuel ih =>
  intro listed a hfree hr hy H
  refine ⟨fun h => (by rw [h] at hr; cases hr), fun j hj => ?_⟩
  by_cases hji : j = i
  ·subst hji; exact self hy H
  ·have h1 := H.2 j (ready_mono hj hji)
   obtain ⟨hjun, oj, hoj, hall⟩ := mem_ready.1 hj
   have hnot : ∀ e ∈ oj.after, Region.binds md e = true → e.on ≠ i := fun e he hb heq => by
    have h1 := hall e he hb
    have h0 := (mem_ready.1 hr).1
    rw [heq] at h1
    rcases Nat.lt_or_ge i listed.size with h' | h'
    ·simp [h'] at h0 h1; rw [h0] at h1; cases h1
    ·simp [Array.getElem?_eq_none h'] at h1
   have h2 := eOp_put hE hoj (hfree j oj hoj hji hjun hnot) (fun cs b => hsel i oi cs b hi) (fun cs b => hsel j oj cs b hoj) hy h1
   refine eOp_mono (fun a' h3 => ih (listed.setIfInBounds j true) a' (fun k ok hk hki hun hno => hfree k ok hk hki ?_ hno) (ready_mono hr (Ne.symm hji)) h3.1 ?_) h2
   ·by_cases hjk : j = k
    ·subst hjk; exact hjun
    ·rw [getD_set_ne true hjk] at hun; exact hun
   ·rw [Array.setIfInBounds_comm _ _ hji]
    exact h3.2

theorem anyE_lex (hE : ∀ i o a a' v, execOp a'.eval o = execOp a.eval o → E i o a v → E i o a' v) {Q : Act → Prop} (hs : Region.noSelect ops = true) : ∀ (l : List Oper) (k : Nat) (listed : Array Bool) (a : Act), (∀ j, l[j]? = ops[k + j]?) →
  Region.lexFrom md ops l.length k listed = true → seqE ops E Q k l a → anyE md ops E Q l.length listed a
 | [], _, _, _, _, hB, h => ⟨by simpa [Region.lexFrom] using hB, h⟩
 | o :: l, k, listed, a, hl, hB, h => by
  have h0 : ops[k]? = some o := by simpa using (hl 0).symm
  simp only [List.length_cons, Region.lexFrom, Bool.and_eq_true] at hB
  obtain ⟨⟨hr, hf⟩, hB'⟩ := hB
  obtain ⟨v, hy, hK⟩ := h
  exact anyE_first hE h0 (Region.noSelect_spec hs) l.length listed a (Region.free_spec h0 hf) (by simpa using hr) hy
   (anyE_lex hE hs l (k + 1) _ _ (fun j => by have := hl (j + 1); simpa [Nat.add_assoc, Nat.add_comm 1 j] using this) hB' hK)

def plainB (o : Oper) : Bool := match o.op with
 | .move _ | .assign _ | .load _ _ | .nilCheck _ | .binOp _ _ _ _ _ | .unOp _ _ _ | .fieldAddr _ _ _ | .indexAddr _ _ _ => true
 | _ => false
theorem bind_ok {α β : Type} {x : Sem α} {f : α → Sem β} {w w' : World} {n : β} (h : (x >>= f).run P w = .ok n w') : ∃ v w1, (f v).run P w1 = .ok n w' := by
 rw [Sem.run_bind] at h
 cases hx : x.run P w with
 | ok v w1 => rw [hx] at h; exact ⟨v, w1, h⟩
 | halt e w1 => rw [hx] at h; cases h
theorem value_run {x : Sem Value} {w w' : World} {n : Next} (h : (do pure (Next.value (← x)) : Sem Next).run P w = .ok n w') : ∃ v, n = .value v := by
 rw [Sem.run_bind] at h
 cases hx : x.run P w with
 | ok v w1 =>
  rw [hx] at h
  simp only [Result.andThen_ok, Sem.run_pure] at h
  cases h
  exact ⟨_, rfl⟩
 | halt e w1 => rw [hx] at h; cases h
theorem plain_value {o : Oper} (hp : plainB o = true) {a : Act} {w w' : World} {n : Next} (h : (execOp a.eval o).run P w = .ok n w') : ∃ v, n = .value v := by
 unfold plainB at hp
 unfold execOp at h
 split at hp <;> rename_i hop <;> simp only [hop] at h
 ·rw [Sem.run_pure] at h; cases h; exact ⟨_, rfl⟩
 ·rw [Sem.run_pure] at h; cases h; exact ⟨_, rfl⟩
 ·exact value_run h
 ·have hpan : (runtimePanic .nilDeref : Sem Next).run P w = .ok n w' → ∃ v, n = .value v := fun hh => by simp [runtimePanic, goPanic] at hh
  split at h
  ·exact hpan h
  ·exact hpan h
  ·exact hpan h
  ·split at h
   ·exact hpan h
   ·obtain ⟨v1, w1, h⟩ := bind_ok h
    obtain ⟨v2, w2, h⟩ := bind_ok h
    split at h
    ·obtain ⟨v3, w3, h⟩ := bind_ok h
     rw [Sem.run_pure] at h; cases h; exact ⟨_, rfl⟩
    ·rw [Sem.run_pure] at h; cases h; exact ⟨_, rfl⟩
   ·rw [Sem.run_pure] at h; cases h; exact ⟨_, rfl⟩
  ·rw [Sem.run_pure] at h; cases h; exact ⟨_, rfl⟩
 ·exact value_run h
 ·exact value_run h
 ·exact value_run h
 ·exact value_run h
 ·cases hp

end
end Go.Proofs.YtlboejdhmggjpaaGreat

/- Chn -/
namespace Go.Proofs.YtlboejdhmggjpaaGreat
open Go

section
variable {P : Program} {md : Region.Mode}

def chE (P : Program) (W : Nat → World) (ch : List Nat) (i : Nat) (o : Oper) (a : Act) (v : Value) : Prop :=
 match ch.idxOf? i with
 | some j => (execOp a.eval o).run P (W j) = .ok (.value v) (W (j + 1)) ∨ (execOp a.eval o).run P (W j) = .ok .skip (W (j + 1)) ∧ v = undef
 | none => ∀ j, j ≤ ch.length → (execOp a.eval o).run P (W j) = .ok (.value v) (W j)
theorem chE_same {W : Nat → World} {ch : List Nat} : ∀ i o (a a' : Act) v, execOp a'.eval o = execOp a.eval o → chE P W ch i o a v → chE P W ch i o a' v := fun i o a a' v he h => by
 unfold chE at *; rw [he]; exact h

def chainOkB (md : Region.Mode) (l : List Oper) (ch : List Nat) : Bool :=
 decide ch.Nodup && (List.range ch.length).all fun j => match ch[j]? with
  | none => false
  | some c => decide (c < l.length) && (match l[c]? with
   | none => false
   | some o => (match o.guard with | none => true | _ => false) && (decide (j = 0) || o.after.any fun e => Region.binds md e && decide (ch[j - 1]? = some e.on)))
theorem chainOk_spec {l : List Oper} {ch : List Nat} (h : chainOkB md l ch = true) (j : Nat) (hj : j < ch.length) :
  ∃ o, l[ch[j]]? = some o ∧ ch[j] < l.length ∧ o.guard = none ∧ (0 < j → ∃ e ∈ o.after, Region.binds md e = true ∧ ch[j - 1]? = some e.on) := by
 simp only [chainOkB, Bool.and_eq_true, List.all_eq_true] at h
 have h1 := h.2 j (List.mem_range.2 hj)
 rw [List.getElem?_eq_getElem hj] at h1
 simp only [Bool.and_eq_true, decide_eq_true_eq] at h1
 obtain ⟨h2, h3⟩ := h1
 cases ho : l[ch[j]]? with
 | none => rw [ho] at h3; cases h3
 | some o =>
  rw [ho] at h3
  simp only [Bool.and_eq_true, Bool.or_eq_true, decide_eq_true_eq] at h3
  refine ⟨o, rfl, h2, ?_, fun h0 => ?_⟩
  ·have := h3.1
   split at this
   ·assumption
   ·cases this
  ·rcases h3.2 with h4 | h4
   ·omega
   ·obtain ⟨i, hi, he⟩ := Array.any_eq_true.1 h4
    simp only [Bool.and_eq_true, decide_eq_true_eq] at he
    exact ⟨_, Array.getElem_mem hi, he.1, he.2⟩

theorem idx_some {ch : List Nat} {i j : Nat} (hn : ch.Nodup) (h : ch[j]? = some i) : ch.idxOf? i = some j := by
 obtain ⟨hj, rfl⟩ := List.getElem?_eq_some_iff.1 h
 rw [List.idxOf?_eq_some_iff]
 refine ⟨hj, rfl, fun k hk => ?_⟩
 intro he
 exact List.pairwise_iff_getElem.1 hn k j (by omega) hj hk he
theorem idx_spec {ch : List Nat} {i j : Nat} (h : ch.idxOf? i = some j) : ∃ hj : j < ch.length, ch[j] = i := by
 rw [List.idxOf?_eq_some_iff] at h
 obtain ⟨hj, he, _⟩ := h
 exact ⟨hj, he⟩

theorem wpAny_of_ch {W : Nat → World} {ch : List Nat} {l : List Oper} {Q : Act → Prop} {Q' : Exit → Act → World → Prop} (hB : headB md l l.length = true) (hc : chainOkB md l ch = true) (hQ : ∀ a, Q a → Q' .normal a (W ch.length)) :
  ∀ (fuel : Nat) (listed : Array Bool) (a : Act) (w : World), listed.size = l.length → (∃ j, j ≤ ch.length ∧ w = W j ∧ ∀ k (hk : k < ch.length), (listed.getD ch[k] true = true ↔ k < j)) →
   anyE md l.toArray (chE P W ch) Q fuel listed a → wpAny P md l.toArray Q' fuel listed a w := by
 have hnd : ch.Nodup := by
  simp only [chainOkB, Bool.and_eq_true, decide_eq_true_eq] at hc
  exact hc.1
 have hend : ∀ (listed : Array Bool) (w : World), listed.size = l.length → (∃ j, j ≤ ch.length ∧ w = W j ∧ ∀ k (hk : k < ch.length), (listed.getD ch[k] true = true ↔ k < j)) → Region.ready md l.toArray listed = [] → w = W ch.length := fun listed w hs ⟨j, hj, hw, hk⟩ hr => by
  have hall := head_done (n := l.length) (lh := listed) hB hs (by rw [List.take_length]; exact hr)
  by_cases hlt : j < ch.length
  ·obtain ⟨o, _, hcl, _⟩ := chainOk_spec hc j hlt
   have := (hk j hlt).1 (by rw [getD_tf (by omega)]; exact hall _ hcl)
   omega
  ·rw [hw]; congr 1; omega
 intro fuel
 induction fuel with
 | zero => exact fun listed a w hs hw h => ⟨h.1, by rw [hend listed w hs hw h.1]; exact hQ _ h.2⟩
 | succ fuel ih =>
  intro listed a w hs hw h
  refine ⟨fun h0 => by rw [hend listed w hs hw h0]; exact hQ _ (h.1 h0), fun i hi => ?_⟩
  obtain ⟨hun, o, ho, hall⟩ := mem_ready.1 hi
  obtain ⟨v, hy, hK⟩ := h.2 i hi o ho
  have hil : i < l.length := by simpa using (Array.getElem?_eq_some_iff.1 ho).1
  obtain ⟨j, hj, rfl, hk⟩ := hw
  unfold wpOp
  simp only [ho]
  cases hix : ch.idxOf? i with
  | some k =>
   obtain ⟨hkl, hki⟩ := idx_spec hix
   obtain ⟨o', ho', hcl, hgd, hprev⟩ := chainOk_spec hc k hkl
   have hoo : o' = o := by
    rw [hki] at ho'
    have : l[i]? = some o := by simpa using ho
    exact Option.some.inj (ho'.symm.trans this)
   subst hoo
   have hjk : j = k := by
    have h1 : ¬ k < j := fun hlt => by
     have := (hk k hkl).2 hlt
     rw [hki, hun] at this; cases this
    by_cases h0 : 0 < k
    ·obtain ⟨e, he, hb, hp⟩ := hprev h0
     have h2 := hall e he hb
     have hlt : k - 1 < ch.length := by omega
     have h3 : ch[k - 1] = e.on := by
      rw [List.getElem?_eq_getElem hlt] at hp; exact Option.some.inj hp
     obtain ⟨_, _, hcl2, _⟩ := chainOk_spec hc (k - 1) hlt
     have h4 := (hk (k - 1) hlt).1 (by rw [getD_tf (by omega), h3]; exact h2)
     omega
    ·omega
   subst hjk
   have hwt : Region.wanted o' (yielded l.toArray a.tmps) = true := by unfold Region.wanted; rw [hgd]
   have hinv : ∃ j', j' ≤ ch.length ∧ W (j + 1) = W j' ∧ ∀ k (hk : k < ch.length), ((listed.setIfInBounds i true).getD ch[k] true = true ↔ k < j') := by
    refine ⟨j + 1, by omega, rfl, fun k' hk' => ?_⟩
    by_cases hkk : k' = j
    ·subst hkk
     rw [hki]
     have : i < listed.size := by omega
     simp [this]
    ·have hne : i ≠ ch[k'] := by
      rw [← hki]
      intro he
      rcases Nat.lt_or_ge j k' with hlt | hge
      ·exact List.pairwise_iff_getElem.1 hnd j k' hkl hk' hlt he
      ·exact List.pairwise_iff_getElem.1 hnd k' j hk' hkl (by omega) he.symm
     rw [getD_set_ne true hne, hk k' hk']
     omega
   rcases hy with ⟨_, hE⟩ | ⟨hw1, _⟩
   ·rw [if_pos hwt]
    left
    unfold chE at hE
    rw [hix] at hE
    unfold Oper.wp
    rcases hE with hE | ⟨hE, rfl⟩
    ·rw [hE]
     exact ih _ _ _ (by simp [hs]) hinv hK
    ·rw [hE]
     exact ih _ _ _ (by simp [hs]) hinv hK
   ·rw [hwt] at hw1; cases hw1
  | none =>
   have hinv : ∃ j', j' ≤ ch.length ∧ W j = W j' ∧ ∀ k (hk : k < ch.length), ((listed.setIfInBounds i true).getD ch[k] true = true ↔ k < j') := by
    refine ⟨j, hj, rfl, fun k' hk' => ?_⟩
    have hne : i ≠ ch[k'] := fun he => by
     have := idx_some hnd (j := k') (i := i) (by rw [List.getElem?_eq_getElem hk', he])
     rw [hix] at this; cases this
    rw [getD_set_ne true hne]
    exact hk k' hk'
   rcases hy with ⟨hw1, hE⟩ | ⟨hw1, rfl⟩
   ·rw [if_pos hw1]
    left
    unfold chE at hE
    rw [hix] at hE
    unfold Oper.wp
    rw [hE j hj]
    exact ih _ _ _ (by simp [hs]) hinv hK
   ·rw [if_neg (by rw [hw1]; simp)]
    exact ih _ _ _ (by simp [hs]) hinv hK

def plain2B (o : Oper) : Bool := plainB o || match o.op with
 | .build _ _ | .slice _ _ _ _ _ | .extract _ _ | .lookup _ _ _ _ => true
 | .call c => (match c.callee with | .builtin .len => true | _ => false)
 | _ => false
theorem plain2_value {o : Oper} (hp : plain2B o = true) {a : Act} {w w' : World} {n : Next} (h : (execOp a.eval o).run P w = .ok n w') : ∃ v, n = .value v := by
 unfold plain2B at hp
 rw [Bool.or_eq_true] at hp
 rcases hp with hp | hp
 ·exact plain_value hp h
 ·unfold execOp at h
  split at hp <;> rename_i hop <;> simp only [hop] at h
  ·exact value_run h
  ·exact value_run h
  ·exact value_run h
  ·exact value_run h
  ·rename_i c
   split at hp
   ·rename_i hc
    unfold resolve at h
    simp only [hc, Sem.run_bind, Sem.run_pure, Result.andThen_ok, invoke, builtin] at h
    exact value_run (by rw [Sem.run_bind]; exact h)
   ·cases hp
  ·cases hp
theorem plain2_quiet {C : World → Prop} {o : Oper} (hp : plain2B o = true) {a : Act} {w : World} {v : Value} (h : o.quietAt P a C w v) : (execOp a.eval o).run P w = .ok (.value v) w := by
 unfold Oper.quietAt at h
 cases hr : (execOp a.eval o).run P w with
 | ok n w' =>
  obtain ⟨u, rfl⟩ := plain2_value hp hr
  rw [hr] at h
  obtain ⟨rfl, rfl⟩ := h
  rfl
 | halt e w' => rw [hr] at h; exact h.elim

theorem chain_reads {ops : Array Oper} {W : Nat → World} {ch : List Nat} {Q Q' : Act → Prop} : ∀ (l rest : List Oper) (i : Nat) (a : Act), ((List.range l.length).all fun j => (ch.idxOf? (i + j)).isNone) = true → l.all plain2B = true →
  (∀ a, Q a → seqE ops (chE P W ch) Q' (i + l.length) rest a) → wpQuiet P ops (fun w' => ∃ j, w' = W j) Q l a → seqE ops (chE P W ch) Q' i (l ++ rest) a
 | [], rest, i, a, _, _, hQ, h => hQ a h
 | o :: l, rest, i, a, hk, hp, hQ, h => by
  simp only [List.all_cons, Bool.and_eq_true] at hp
  rw [List.all_eq_true] at hk
  have hik : ch.idxOf? i = none := by
   have := hk 0 (by simp)
   simpa using this
  have hrest : ∀ a', wpQuiet P ops (fun w' => ∃ j, w' = W j) Q l a' → seqE ops (chE P W ch) Q' (i + 1) (l ++ rest) a' := fun a' h' =>
   chain_reads l rest (i + 1) a' (by
    rw [List.all_eq_true]
    intro j hj
    have := hk (j + 1) (by simp at hj ⊢; omega)
    rwa [show i + (j + 1) = i + 1 + j from by omega] at this) hp.2 (fun a'' hq => by have := hQ a'' hq; simpa [Nat.add_assoc, Nat.add_comm 1] using this) h'
  unfold wpQuiet at h
  by_cases hw : Region.wanted o (yielded ops a.tmps) = true
  ·rw [if_pos hw] at h
   obtain ⟨v, h1, h2⟩ := h
   refine ⟨v, .inl ⟨hw, ?_⟩, hrest _ h2⟩
   unfold chE
   rw [hik]
   intro j hj
   exact plain2_quiet hp.1 (h1 _ ⟨j, rfl⟩)
  ·rw [if_neg hw] at h
   exact ⟨undef, .inr ⟨by simpa using hw, rfl⟩, hrest _ h⟩
theorem chain_reads_at {ops : Array Oper} {W : Nat → World} {ch : List Nat} {Q' : Act → Prop} {l : List Oper} {i : Nat} {a : Act} (n : Nat) (hn : ((l.take n).length == n && ((List.range (l.take n).length).all fun j => (ch.idxOf? (i + j)).isNone) && (l.take n).all plain2B) = true)
  (h : wpQuiet P ops (fun w' => ∃ j, w' = W j) (fun a => seqE ops (chE P W ch) Q' (i + n) (l.drop n) a) (l.take n) a) : seqE ops (chE P W ch) Q' i l a := by
 simp only [Bool.and_eq_true, beq_iff_eq] at hn
 have := chain_reads (Q' := Q') (l.take n) (l.drop n) i a hn.1.2 hn.2 (fun a' hq => by rw [hn.1.1]; exact hq) h
 rwa [List.take_append_drop] at this
theorem exec_append {o : Oper} {a : Act} {w w' : World} {s x : Operand} {t : TypeId} {v u v' : Value} (ho : o.op = .call { callee := .builtin .append, args := #[s, x], argTypes := #[t, t] }) (hs : a.eval s = v) (hx : a.eval x = u)
  (hr : (Builtin.append_ #[t, t] o.type #[v, u]).run P w = .ok v' w') : (execOp a.eval o).run P w = .ok (.value v') w' := by
 unfold execOp
 simp only [ho, resolve, invoke, builtin, Sem.run_bind, Sem.run_pure, Result.andThen_ok, List.map_toArray, List.map_cons, List.map_nil, hs, hx, hr]
theorem exec_mapUpdate {o : Oper} {a : Act} {w w' : World} {m x v : Operand} {t : TypeId} {vm vx vv : Value} (ho : o.op = .mapUpdate t m x v) (hm : a.eval m = vm) (hx : a.eval x = vx) (hv : a.eval v = vv)
  (hr : (Instr.mapUpdate t vm vx vv).run P w = .ok () w') : (execOp a.eval o).run P w = .ok .skip w' := by
 unfold execOp
 simp only [ho, hm, hx, hv, Sem.run_bind, hr, Result.andThen_ok, Sem.run_pure]
theorem chain_op {ops : Array Oper} {W : Nat → World} {ch : List Nat} {Q' : Act → Prop} {o : Oper} {rest : List Oper} {i : Nat} {a : Act} (j : Nat) (v : Value) (hi : ch.idxOf? i = some j) (hg : o.guard = none)
  (hr : (execOp a.eval o).run P (W j) = .ok (.value v) (W (j + 1)) ∨ (execOp a.eval o).run P (W j) = .ok .skip (W (j + 1)) ∧ v = undef) (h : seqE ops (chE P W ch) Q' (i + 1) rest (a.put o.dst v)) : seqE ops (chE P W ch) Q' i (o :: rest) a :=
 ⟨v, .inl ⟨by unfold Region.wanted; rw [hg], by unfold chE; rw [hi]; exact hr⟩, h⟩

theorem chain_end {ops : Array Oper} {W : Nat → World} {ch : List Nat} {Q' : Act → Prop} {i : Nat} {a : Act} (h : Q' a) : seqE ops (chE P W ch) Q' i [] a := h
def chainB (l : List Oper) (ch : List Nat) : Bool := headB .any l l.length && Region.lexB .any l.toArray && chainOkB .any l ch
theorem wp_region_chain {Q : Exit → Act → World → Prop} {id : Nat} {a : Act} {w : World} {l : List Oper} (W : Nat → World) (ch : List Nat) (hW : W 0 = World.drew w) (hm : P.follows .mixedOrders = true) (hB : chainB l ch = true)
  (h : seqE l.toArray (chE P W ch) (fun a' => Q .normal a' (W ch.length)) 0 l a) : (Code.region id l.toArray true).wp P Q a w := by
 refine wp_region_any hm ?_
 simp only [chainB, Bool.and_eq_true] at hB
 obtain ⟨⟨h1, h2⟩, h3⟩ := hB
 have hlex := h2
 simp only [Region.lexB, Bool.and_eq_true] at hlex
 have hany := anyE_lex (md := .any) chE_same hlex.1 l 0 (Array.replicate l.toArray.size false) a (by simp) (by simpa using hlex.2) h
 have := wpAny_of_ch (P := P) (md := .any) (W := W) (ch := ch) (l := l) (Q' := Q) h1 h3 (fun a' h' => h') _ (Array.replicate l.toArray.size false) a (World.drew w) (by simp) ⟨0, Nat.zero_le _, hW.symm, fun k hk => by
  obtain ⟨o, _, hcl, _⟩ := chainOk_spec h3 k hk
  simp [hcl]⟩ hany
 simpa using this

theorem wp_region_chain_tail {Q : Exit → Act → World → Prop} {id : Nat} {a : Act} {w : World} {l : List Oper} (W : Nat → World) (ch : List Nat) (n : Nat) (hW : W 0 = World.drew w) (hm : P.follows .mixedOrders = true) (hB : (headTailB l n && chainB (l.take n) ch) = true)
  (h : seqE (l.take n).toArray (chE P W ch) (fun a' => wpList P l.toArray Q (l.drop n) a' (W ch.length)) 0 (l.take n) a) : (Code.region id l.toArray true).wp P Q a w := by
 refine wp_region_any hm ?_
 show wpAny P .any l.toArray Q l.toArray.size (Array.replicate l.toArray.size false) a (World.drew w)
 simp only [headTailB, chainB, Bool.and_eq_true, decide_eq_true_eq] at hB
 obtain ⟨⟨⟨⟨⟨h1, h2⟩, h3⟩, h4⟩, h6⟩, ⟨hb, hlex⟩, hch⟩ := hB
 have hln : (l.take n).length = n := by simp; omega
 have hlex2 := hlex
 simp only [Region.lexB, Bool.and_eq_true] at hlex2
 have hany := anyE_lex (md := .any) chE_same hlex2.1 (l.take n) 0 (Array.replicate (l.take n).toArray.size false) a (by simp) (by simpa using hlex2.2) h
 have hany2 := wpAny_of_ch (P := P) (md := .any) (W := W) (ch := ch) (l := l.take n) (Q' := fun e a' w' => e = .normal ∧ wpList P l.toArray Q (l.drop n) a' w') hb hch (fun a' h' => ⟨rfl, h'⟩) _ (Array.replicate (l.take n).toArray.size false) a (World.drew w) (by simp)
  ⟨0, Nat.zero_le _, hW.symm, fun k hk => by
   obtain ⟨o, _, hcl, _⟩ := chainOk_spec hch k hk
   rw [hln] at hcl
   simp [hln, hcl]⟩ hany
 have := wpAny_split (P := P) (md := .any) (Q := Q) (g := l.length - n) h1 h2 h3 h4 (Qh := fun e a' w' => e = .normal ∧ wpList P l.toArray Q (l.drop n) a' w') (fun e a w he hh => absurd hh.1 he)
  (fun a' w' hh => by
   have := wpAny_of_seq (md := .any) (P := P) (Q' := Q) (l.drop n) n (fullB l n) a' w' (fun j => by simp [List.getElem?_drop]) (by simpa using h6) hh.2
   simpa using this)
  _ (Array.replicate l.length false) (Array.replicate (l.take n).toArray.size false) a _
  ⟨by simp, by simpa using hln, fun i hi => by rw [getD_replicate_false, getD_replicate_false],
   ⟨by simp, fun j oj _ hl => (by rw [getD_replicate_false] at hl; cases hl), fun t _ ht => getD_in (by simpa using ht) (getD_replicate_false _ _)⟩⟩ hany2
 rw [hln] at this
 rw [show n + (l.length - n) = l.length from by omega] at this
 simpa using this
end
end Go.Proofs.YtlboejdhmggjpaaGreat

/- WsA -/
namespace Go.Proofs.YtlboejdhmggjpaaGreat.Sp
set_option maxRecDepth 100000
set_option maxHeartbeats 16000000
open Go.RowKit Go.BigFrame Go.ChangeMaps Go.WideMaps Go.Proofs.YtlboejdhmggjpaaGreat

abbrev Frm := List (ByteArray × Bool)
def look : Frm → ByteArray → Option Bool
 | [], _ => none
 | p :: f, x => if p.1 = x then some p.2 else look f x
def stkFrom (x : ByteArray) : Nat → List Frm → List (Nat × Bool)
 | _, [] => []
 | i, f :: F => (match look f x with | some t => [(i, t)] | none => []) ++ stkFrom x (i + 1) F
def stk (F : List Frm) (x : ByteArray) : List (Nat × Bool) := stkFrom x 1 F
def isTy (F : List Frm) (x : ByteArray) : Bool := match (stk F x).getLast? with | some p => p.2 | none => false
def mcell (p : Nat × Bool) : List Value := [.int .i64 p.1, .bool p.2]
abbrev nilS : Value := .slice none 0 0
def rawR (v : Value) : Option (DataW Value × List MemPlace) := some (.held v, [])
def names (f : Frm) : List Value := f.map fun p => .string p.1

theorem stkFrom_cons (x : ByteArray) (i : Nat) (f : Frm) (F : List Frm) : stkFrom x i (f :: F) = (match look f x with | some t => [(i, t)] | none => []) ++ stkFrom x (i + 1) F := rfl
theorem stkFrom_append (x : ByteArray) : ∀ (i : Nat) (F G : List Frm), stkFrom x i (F ++ G) = stkFrom x i F ++ stkFrom x (i + F.length) G
 | i, [], G => by simp [stkFrom]
 | i, f :: F, G => by
  rw [List.cons_append, stkFrom_cons, stkFrom_cons]
  rw [stkFrom_append x (i + 1) F G, List.append_assoc, show i + 1 + F.length = i + (f :: F).length from by simp; omega]
theorem stk_snoc (F : List Frm) (f : Frm) (x : ByteArray) : stk (F ++ [f]) x = stk F x ++ (match look f x with | some t => [(F.length + 1, t)] | none => []) := by
 unfold stk
 rw [stkFrom_append]
 simp [stkFrom, Nat.add_comm]
theorem stkFrom_lt (x : ByteArray) : ∀ (i : Nat) (F : List Frm), ∀ p ∈ stkFrom x i F, i ≤ p.1 ∧ p.1 < i + F.length
 | i, [], p, h => by simp [stkFrom] at h
 | i, f :: F, p, h => by
  rw [stkFrom_cons, List.mem_append] at h
  rcases h with h | h
  ·cases hl : look f x with
   | none => rw [hl] at h; simp at h
   | some t => rw [hl] at h; simp at h; subst h; simp
  ·have := stkFrom_lt x (i + 1) F p h
   simp only [List.length_cons]; omega
theorem stkFrom_len (x : ByteArray) : ∀ (i : Nat) (F : List Frm), (stkFrom x i F).length ≤ F.length
 | i, [] => by simp [stkFrom]
 | i, f :: F => by
  rw [stkFrom_cons]
  have := stkFrom_len x (i + 1) F
  cases look f x <;> simp <;> omega

structure ScAt (w : World) (A M n : Nat) (vB : Value) (vs : List Value) (mv : ByteArray → Value) (D : DataW Value) (F : List Frm) : Prop where
 hd : w.heap[A]? = some (.cells #[.pointer (some ⟨A, 0, none⟩), .map (some M), vB] 66 (0, 0))
 mp : w.ownsMap Tryz.prog 9 rawR M n D
 key : ∀ x : ByteArray, x.size ≤ maxLen → D.atKey (.string x.data.toList) (.held nilS) = .held (mv x)
 mrow : ∀ x, w.ownsRow 0 89 2 (mv x) (stk F x).length ((stk F x).flatMap mcell)
 brow : w.ownsRow 0 90 1 vB F.length vs
 vrow : ∀ i (h : i < F.length), w.ownsRow 0 9 1 (vs.getD i nilS) F[i].length (names F[i])
 dm : ∀ x y, x ≠ y → (mv x).ownBlock = none ∨ (mv x).ownBlock ≠ (mv y).ownBlock
 dv : ∀ i j, i < F.length → j < F.length → i ≠ j → (vs.getD i nilS).ownBlock = none ∨ (vs.getD i nilS).ownBlock ≠ (vs.getD j nilS).ownBlock
 pos : 0 < F.length
def foot (A M : Nat) (vB : Value) (vs : List Value) (mv : ByteArray → Value) (k : Nat) : Prop :=
 k = A ∨ k = M ∨ vB.ownBlock = some k ∨ (∃ i, (vs.getD i nilS).ownBlock = some k) ∨ ∃ x, (mv x).ownBlock = some k
def Sco (w : World) (A n : Nat) (S : Nat → Prop) (F : List Frm) : Prop :=
 ∃ M vB vs mv D, ScAt w A M n vB vs mv D F ∧ (∀ k, foot A M vB vs mv k → S k) ∧ ∀ k, S k → k < w.heap.size

theorem ownsRow_mod {w w' : World} {base e size : Nat} {v : Value} {n : Nat} {xs : List Value} {S : Nat → Prop} (h : w.ownsRow base e size v n xs) (hm : Mod S w w') (hs : ∀ k, v.ownBlock = some k → ¬ S k) : w'.ownsRow base e size v n xs := by
 refine ⟨h.1, ?_⟩
 rcases h.2 with hn | ⟨g, cap, cur, rfl, hb, hg, rest⟩
 ·exact .inl hn
 ·exact .inr ⟨g, cap, cur, rfl, hb, hm.keep hg (hs g rfl), rest⟩
theorem ScAt.vs_len {w : World} {A M n : Nat} {vB : Value} {vs : List Value} {mv : ByteArray → Value} {D : DataW Value} {F : List Frm} (h : ScAt w A M n vB vs mv D F) : vs.length = F.length := by
 have := h.brow.1; omega
theorem ScAt.keep {w w' : World} {A M n : Nat} {vB : Value} {vs : List Value} {mv : ByteArray → Value} {D : DataW Value} {F : List Frm} {T : Nat → Prop} (h : ScAt w A M n vB vs mv D F) (hm : Mod T w w') (hT : ∀ k, foot A M vB vs mv k → ¬ T k) : ScAt w' A M n vB vs mv D F := by
 refine ⟨hm.keep h.hd (hT A (.inl rfl)), ?_, h.key, fun x => ownsRow_mod (h.mrow x) hm (fun k hk => hT k (.inr (.inr (.inr (.inr ⟨x, hk⟩))))), ownsRow_mod h.brow hm (fun k hk => hT k (.inr (.inr (.inl hk)))),
  fun i hi => ownsRow_mod (h.vrow i hi) hm (fun k hk => hT k (.inr (.inr (.inr (.inl ⟨i, hk⟩))))), h.dm, h.dv, h.pos⟩
 obtain ⟨es, clock, hb, rest⟩ := h.mp
 exact ⟨es, clock, hm.keep hb (hT M (.inr (.inl rfl))), rest⟩
theorem Sco.keep {w w' : World} {A n : Nat} {S T : Nat → Prop} {F : List Frm} (h : Sco w A n S F) (hm : Mod T w w') (hd : ∀ k, S k → ¬ T k) : Sco w' A n S F := by
 obtain ⟨M, vB, vs, mv, D, h1, h2, h3⟩ := h
 exact ⟨M, vB, vs, mv, D, h1.keep hm (fun k hk => hd k (h2 k hk)), h2, fun k hk => Nat.lt_of_lt_of_le (h3 k hk) hm.size⟩
theorem Sco.pos {w : World} {A n : Nat} {S : Nat → Prop} {F : List Frm} (h : Sco w A n S F) : 0 < F.length := by
 obtain ⟨M, vB, vs, mv, D, h1, -⟩ := h; exact h1.pos

theorem row_shape {w : World} {base e size : Nat} {v : Value} {n : Nat} {xs : List Value} (h : w.ownsRow base e size v n xs) : ∃ a cap, v = .slice a n cap := by
 rcases h.2 with ⟨rfl, rfl⟩ | ⟨g, cap, cur, rfl, _⟩
 ·exact ⟨none, 0, rfl⟩
 ·exact ⟨_, cap, rfl⟩
theorem ScAt.cells {w : World} {A M n : Nat} {vB : Value} {vs : List Value} {mv : ByteArray → Value} {D : DataW Value} {F : List Frm} (h : ScAt w A M n vB vs mv D F) :
  w.cell? ⟨A, 0, none⟩ = some (.pointer (some ⟨A, 0, none⟩)) ∧ w.cell? ⟨A, 1, none⟩ = some (.map (some M)) ∧ w.cell? ⟨A, 2, none⟩ = some vB := by
 refine ⟨?_, ?_, ?_⟩ <;> simp [World.cell?, h.hd]

theorem info66 : (Tryz.prog.info? 66).map (·.size) = some 3 := by kernel_rfl
theorem ptr_same (A : Nat) (w : World) : (binOp .eql 39 (.pointer (some ⟨A, 0, none⟩)) (.pointer (some ⟨A, 0, none⟩))).run Tryz.prog w = .ok (.bool true) w := by
 have hi := info66
 cases hq : Tryz.prog.info? 66 with
 | none => rw [hq] at hi; cases hi
 | some i => exact run_eql_ptr_same w _ Tryz.underlying39 hq

theorem Sc.made (A : Nat) (w : World) (x y : Value) (h : w.heap[A]? = some (.cells #[.pointer (some ⟨A, 0, none⟩), x, y] 66 (0, 0))) : Calls Tryz.prog 39 #[.pointer (some ⟨A, 0, none⟩)] w fun e w' => e = .returned (.bool true) ∧ w' = w := by
 have c0 : w.cell? ⟨A, 0, none⟩ = some (.pointer (some ⟨A, 0, none⟩)) := by simp [World.cell?, h]
 clear h
 go_enter Tryz.func39, Tryz.ntmps39
 have hp := ptr_same A w
 go_wp2
 go_ret
 exact ⟨rfl, rfl⟩

theorem law9 : Maps.Keyed Tryz.prog 9 := Maps.string_keyed Tryz.underlying9
theorem zero88 (w : World) : (zeroValue 87).run Tryz.prog w = .ok nilS w := by kernel_rfl
theorem ScAt.lookup {w : World} {A M n : Nat} {vB : Value} {vs : List Value} {mv : ByteArray → Value} {D : DataW Value} {F : List Frm} (h : ScAt w A M n vB vs mv D F) (x : ByteArray) (hx : x.size ≤ maxLen) :
  (Instr.lookup 63 (.map (some M)) (.string x) false).run Tryz.prog w = .ok (mv x) w := by
 obtain ⟨v, ps, hrun, hv⟩ := h.mp.lookup law9 Tryz.underlying63 (zero88 w) (zd := .held nilS) (zp := []) rfl (keyOf_string_mk Tryz.underlying9 hx)
 rw [h.key x hx] at hv
 have : v = mv x := by
  unfold rawR at hv
  simp only [Option.some.injEq, Prod.mk.injEq, DataW.held.injEq] at hv
  exact hv.1
 rw [hrun, this]

theorem flat2 (l : List (Nat × Bool)) (i : Nat) (h : i < l.length) : (l.flatMap mcell)[i * 2]? = some (.int .i64 l[i].1) ∧ (l.flatMap mcell)[i * 2 + 1]? = some (.bool l[i].2) := by
 induction l generalizing i with
 | nil => simp at h
 | cons p l ih =>
  cases i with
  | zero => simp [mcell]
  | succ i =>
   have := ih i (by simpa using h)
   have e1 : (p :: l).flatMap mcell = (.int .i64 p.1) :: (.bool p.2) :: l.flatMap mcell := by simp [mcell]
   rw [e1, show (i + 1) * 2 = i * 2 + 1 + 1 from by omega]
   simpa using this
theorem row_top {w : World} {base e : Nat} {v : Value} {l : List (Nat × Bool)} (h : w.ownsRow base e 2 v l.length (l.flatMap mcell)) (h0 : 0 < l.length) :
  ∃ g cap, v = .slice (some ⟨g, 0, none⟩) l.length cap ∧ g < w.heap.size ∧ w.cell? ⟨g, (l.length - 1) * 2, none⟩ = some (.int .i64 (l[l.length - 1]'(by omega)).1) ∧ w.cell? ⟨g, (l.length - 1) * 2 + 1, none⟩ = some (.bool (l[l.length - 1]'(by omega)).2) := by
 obtain ⟨h1, h2⟩ := flat2 l (l.length - 1) (by omega)
 rcases h.2 with ⟨rfl, hz⟩ | ⟨g, cap, cur, rfl, hb, hg, hn, hm, hc, ht⟩
 ·omega
 ·refine ⟨g, cap, rfl, (Array.getElem?_eq_some_iff.1 hg).1, ?_, ?_⟩
  ·rw [h.cellAt _ (by omega)]; exact h1
  ·rw [h.cellAt _ (by omega)]; exact h2

theorem Sc.isType (A n : Nat) (S : Nat → Prop) (F : List Frm) (x : ByteArray) (w : World) (h : Sco w A n S F) (hx : x.size ≤ maxLen) (hF : F.length ≤ 9223372036854775807) :
  Calls Tryz.prog 21 #[.pointer (some ⟨A, 0, none⟩), .string x] w fun e w' => e = .returned (.bool (isTy F x)) ∧ w' = w := by
 obtain ⟨M, vB, vs, mv, D, h, h2, h3⟩ := h
 obtain ⟨c0, c1, c2⟩ := h.cells
 have HD := Lib.hid h.hd
 have hlk := h.lookup x hx
 have hrow := h.mrow x
 have hsl : (stk F x).length ≤ F.length := stkFrom_len x 1 F
 have hty : isTy F x = match (stk F x).getLast? with | some p => p.2 | none => false := rfl
 clear h h2 h3
 generalize stk F x = l at *
 generalize isTy F x = r at *
 generalize mv x = v at *
 by_cases h0 : 0 < l.length
 ·obtain ⟨g, cap, rfl, hg, k0, k1⟩ := row_top hrow h0
  have hr : r = (l[l.length - 1]'(by omega)).2 := by
   rw [hty, List.getLast?_eq_getElem?, List.getElem?_eq_getElem (by omega)]
  rw [← hr] at k1
  have i0 : ((l.length : Int) - 1).toNat = l.length - 1 := by omega
  have i1 : (0 : Int) ≤ (l.length : Int) - 1 := by omega
  have i2 : ((l.length : Int) - 1) < (l.length : Int) := by omega
  have i3 : (l.length : Int) ≤ 9223372036854775807 := by omega
  clear hr hty hrow k0
  go_enter Tryz.func21, Tryz.ntmps21
  go_wp2_with fail
  refine (Sc.made A w _ _ HD.out).mono ?_
  rintro e w1 ⟨rfl, rfl⟩
  go_wp2_with fail
  go_ret
  exact ⟨rfl, rfl⟩
 ·have hl0 : l = [] := List.length_eq_zero_iff.1 (by omega)
  subst hl0
  obtain rfl : r = false := by rw [hty]; rfl
  obtain ⟨a, cap, rfl⟩ := row_shape hrow
  clear hrow hty h0
  go_enter Tryz.func21, Tryz.ntmps21
  go_wp2_with fail
  refine (Sc.made A w _ _ HD.out).mono ?_
  rintro e w1 ⟨rfl, rfl⟩
  go_wp2_with fail
  go_ret
  exact ⟨rfl, rfl⟩
end Go.Proofs.YtlboejdhmggjpaaGreat.Sp

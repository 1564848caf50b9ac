/- Plain: marks, ranges, words of comments. -/
import Derived.Test.YtlboejdhmggjpaaGreatPkE
import Derived.Test.YtlboejdhmggjpaaGreatTal
import Derived.Lib.Bytealg
import Derived.Test.YtlboejdhmggjpaaGreatMon
import Derived.Test.YtlboejdhmggjpaaGreatWsA
import Derived.Test.YtlboejdhmggjpaaGreatPbA
import Derived.Test.YtlboejdhmggjpaaGreatProg
import Derived.Maps.OwnIn
import Derived.Maps.OwnOps
import Derived.Maps.OwnSet
import Derived.Maps.Views
import Derived.Maps.Range
import Derived.Carry
set_option linter.all false
namespace Go.Proofs.YtlboejdhmggjpaaGreat

def isBlock (x : Bs) : Bool := x.take 2 == [47, 42]
def inside (x : Bs) : Bs := if isBlock x then (x.drop 2).take (x.length - 4) else x.drop 2
def place (c : List Pt) (t : Tk) : Tk := { t with lo := (c.getD t.lo ⟨0, 0, 0, false⟩).pos, hi := (c.getD (t.hi - 1) ⟨0, 0, 0, false⟩).pos + (c.getD (t.hi - 1) ⟨0, 0, 0, false⟩).len }
def scanP (s : Bs) : Nat × List Tk :=
 if chk s ≠ 0 then (chk s, [])
 else if (tks (logic s) 0 0 false).2 ≠ 0 then ((tks (logic s) 0 0 false).2, [])
 else (0, (tks (logic s) 0 0 false).1.map (place (chars s)))
end Go.Proofs.YtlboejdhmggjpaaGreat

/- PkG -/
namespace Go.Proofs.YtlboejdhmggjpaaGreat

theorem pt_at (s : Bs) (i : Nat) : (ptAt s i).pos = i := by unfold ptAt; split <;> rfl
theorem prts_ok (s : Bs) : ∀ (n i : Nat), s.length - i ≤ n → (prts s i).Pairwise (fun a b => a.pos + a.len ≤ b.pos) ∧ ∀ p ∈ prts s i, i ≤ p.pos ∧ 1 ≤ p.len ∧ p.pos + p.len ≤ s.length := by
 intro n
 induction n with
 | zero => intro i h; rw [prts_ge (by omega)]; exact ⟨.nil, by simp⟩
 | succ n ih =>
  intro i h
  by_cases hi : i < s.length
  ·rw [prts_lt hi]
   have h1 := pt_pos s i
   have h2 := pt_le hi
   have h3 := pt_at s i
   obtain ⟨h4, h5⟩ := ih (i + (ptAt s i).len) (by omega)
   refine ⟨List.pairwise_cons.2 ⟨fun p hp => ?_, h4⟩, fun p hp => ?_⟩
   ·rw [h3]; exact (h5 p hp).1
   ·rcases List.mem_cons.1 hp with rfl | hp
    ·omega
    ·have := h5 p hp; omega
  ·rw [prts_ge (by omega)]; exact ⟨.nil, by simp⟩
theorem chars_ok (s : Bs) : (chars s).Pairwise (fun a b => a.pos + a.len ≤ b.pos) ∧ ∀ p ∈ chars s, 1 ≤ p.len ∧ p.pos + p.len ≤ s.length := by
 obtain ⟨h1, h2⟩ := prts_ok s _ 0 (Nat.le_refl _)
 exact ⟨h1.filter _, fun p hp => (h2 p (List.mem_filter.1 hp).1).2⟩
theorem chars_len (s : Bs) : (chars s).length ≤ s.length := by
 have key : ∀ (n i : Nat), s.length - i ≤ n → (prts s i).length ≤ s.length - i := by
  intro n
  induction n with
  | zero => intro i h; rw [prts_ge (by omega)]; simp
  | succ n ih =>
   intro i h
   by_cases hi : i < s.length
   ·rw [prts_lt hi]
    have h1 := pt_pos s i
    have h2 := pt_le hi
    have := ih (i + (ptAt s i).len) (by omega)
    simp; omega
   ·rw [prts_ge (by omega)]; simp
 exact Nat.le_trans (List.length_filter_le _ _) (by simpa using key _ 0 (Nat.le_refl _))
end Go.Proofs.YtlboejdhmggjpaaGreat

/- Pst -/
namespace Go.Proofs.YtlboejdhmggjpaaGreat

abbrev dl (s : ByteArray) : Bs := s.data.toList
def str (l : Bs) : ByteArray := ⟨l.toArray⟩
@[simp] theorem str_data (l : Bs) : (str l).data.toList = l := by simp [str]
@[simp] theorem str_size (l : Bs) : (str l).size = l.length := by simp [str, ByteArray.size]
theorem str_of (s : ByteArray) : str s.data.toList = s := by simp [str]
theorem str_inj {a b : Bs} (h : str a = str b) : a = b := by have := congrArg (fun s => s.data.toList) h; simpa using this
theorem dl_str (l : Bs) : dl (str l) = l := by simp [dl]
theorem dl_inj {a b : ByteArray} (h : dl a = dl b) : a = b := by rw [← str_of a, ← str_of b]; exact congrArg str h
theorem ext_str (s : ByteArray) (a b : Nat) : s.extract a b = str ((s.data.toList.drop a).take (b - a)) := by
 rw [← Lib.extract_data, str_of]
theorem ext_to (s : ByteArray) (a : Nat) : s.extract a s.size = str (s.data.toList.drop a) := by
 rw [ext_str, List.take_of_length_le]
 rw [List.length_drop]; exact Nat.le_refl _
theorem size_dl (s : ByteArray) : s.size = (dl s).length := (Array.length_toList (xs := s.data)).symm
theorem str_append (a b : Bs) : str a ++ str b = str (a ++ b) := by
 apply dl_inj
 simp [dl, str]
theorem dl_get {s : ByteArray} {i : Nat} (h : i < s.size) : (dl s)[i]? = some s[i] := by
 rw [List.getElem?_eq_getElem (by rw [← size_dl]; exact h)]; rfl
theorem dl_none {s : ByteArray} {i : Nat} (h : s.size ≤ i) : (dl s)[i]? = none := List.getElem?_eq_none_iff.2 (by rw [← size_dl]; exact h)
theorem drop_at {s : ByteArray} {i : Nat} (h : i < s.size) : (dl s).drop i = s[i] :: (dl s).drop (i + 1) := by
 rw [List.drop_eq_getElem_cons (by rw [← size_dl]; exact h)]; rfl
theorem drop_end {s : ByteArray} {i : Nat} (h : s.size ≤ i) : (dl s).drop i = [] := List.drop_eq_nil_of_le (by rw [← size_dl]; exact h)
theorem drop_len (s : ByteArray) (i : Nat) : ((dl s).drop i).length = s.size - i := by rw [List.length_drop, ← size_dl]
theorem byte_int (c : UInt8) (n : Nat) (hn : n < 256) : c = UInt8.ofNat n ↔ (c.toNat : Int) = n := by
 constructor
 ·intro h; rw [h]; simp; omega
 ·intro h; apply UInt8.toNat_inj.1; simp; omega
theorem byte_eq {c : UInt8} {n : Nat} (h : (c.toNat : Int) = n) (hn : n < 256) : c = UInt8.ofNat n := (byte_int c n hn).2 h
theorem byte_ne {c : UInt8} {n : Nat} (h : ¬ (c.toNat : Int) = n) (hn : n < 256) : c ≠ UInt8.ofNat n := fun e => h ((byte_int c n hn).1 e)
end Go.Proofs.YtlboejdhmggjpaaGreat

/- WkA -/
namespace Go.Proofs.YtlboejdhmggjpaaGreat.Pp
set_option maxRecDepth 100000
set_option maxHeartbeats 16000000
open Go.RowKit Go.BigFrame Go.Proofs.YtlboejdhmggjpaaGreat

theorem Hh {p : Prop} (h : p) : Hid p := h
def ctC (t : Ct) : List Value := [.int .i64 t.c, .string (str t.t)]
def ctV (t : Ct) : Value := .agg #[.int .i64 t.c, .string (str t.t)]
def hdV (h : Nat × Nat) : Value := .agg #[.int .i64 h.1, .int .i64 h.2]
def ndC (n : Nd) : List Value := [.int .i64 n.k, .int .i64 n.lo, .int .i64 n.hi, .int .i64 n.sz]
def inC (n : Nat) : List Value := [.int .i64 n]
def nowL (ch : List (Bs × Bool)) (x : Bs) : Option Bool := (ch.reverse.find? fun p => p.1 == x).map (·.2)
def nwI : Option Bool → Int
 | none => 0
 | some true => 1
 | some false => 2
def chC : List (Bs × Bool) → List Value
 | [] => []
 | p :: r => chC r ++ [.string (str p.1), .int .i64 (nwI ((r.find? fun q => q.1 == p.1).map (·.2))), .int .i64 (nwI (some p.2))]
structure En where
 X : Nat
 pb : Nat
 la : Option Addr
 lc : Nat
 L : List Ct
 sp : Value
 base : Bs → Bool
 w0 : World
structure En.ok (E : En) : Prop where
 X : E.X = E.w0.heap.size
 pb : E.X ≤ E.pb
 row : RowAt 2 ctC E.w0 E.la E.L
 len : E.L.length ≤ 100000
 txt : ∀ t ∈ E.L, t.t.length ≤ maxLen
 ist : ∀ (w : World) (x : Bs), Below E.X E.w0 w → x.length ≤ maxLen → Calls Tryz.prog 21 #[E.sp, .string (str x)] w fun e w' => e = .returned (.bool (E.base x)) ∧ Below w.heap.size w w'
def rawR (v : Value) : Option (DataW Value × List MemPlace) := some (.held v, [])
def Nm (w : World) (mb : Nat) (ch : List (Bs × Bool)) : Prop :=
 ∃ n D, w.ownsMap Tryz.prog 9 rawR mb n D ∧ ∀ x : Bs, (∀ z, D.atKey (.string x) z = match nowL ch x with | some b => .held (.int .i64 (nwI (some b))) | none => z) ∧ Maps.has D (.string x) = (nowL ch x).isSome
structure PX (E : En) (w : World) (s : Ps) (vd vc vb : Value) (mb : Nat) : Prop where
 bel : Below E.X E.w0 w
 box : w.heap[E.pb]? = some (.cells #[.slice E.la E.L.length E.lc, .int .i64 s.at', vd, E.sp, .map (some mb), vc, vb] 75 (0, 0))
 dn : w.ownsRow E.X 38 4 vd s.done.length (s.done.flatMap ndC)
 ch : w.ownsRow E.X 132 3 vc s.nm.ch.length (chC s.nm.ch.reverse)
 bl : w.ownsRow E.X 3 1 vb s.nm.bl.length (s.nm.bl.flatMap inC)
 mp : Nm w mb s.nm.ch
 mx : E.X ≤ mb
 le : s.at' ≤ E.L.length
 tx : ∀ p ∈ s.nm.ch, p.1.length ≤ maxLen
 cb : s.nm.ch.length ≤ 2 * E.L.length + 1
 bb : s.nm.bl.length ≤ 2 * E.L.length + 2
def PW (E : En) (w : World) (s : Ps) : Prop := ∃ vd vc vb mb, PX E w s vd vc vb mb
def own4 (t : TypeId) : Bool := t == 75 || t == 38 || t == 132 || t == 3
structure KP (w w' : World) : Prop where
 size : w.heap.size ≤ w'.heap.size
 cells : ∀ (k : Nat) (cs : Array Value) (t : TypeId) (fz : Nat × Nat), own4 t = false → w.heap[k]? = some (.cells cs t fz) → w'.heap[k]? = some (.cells cs t fz)
 dfr : ∀ (k : Nat) (x : Option (List Deferred)), w.heap[k]? = some (.deferred x) → w'.heap[k]? = some (.deferred x)
theorem KP.refl (w : World) : KP w w := ⟨Nat.le_refl _, fun _ _ _ _ _ h => h, fun _ _ h => h⟩
theorem KP.trans {a b c : World} (h : KP a b) (k : KP b c) : KP a c := ⟨Nat.le_trans h.1 k.1, fun i cs t fz ht hi => k.2 i cs t fz ht (h.2 i cs t fz ht hi), fun i x hi => k.3 i x (h.3 i x hi)⟩
theorem KP.of_below {w w' : World} (h : Below w.heap.size w w') : KP w w' := ⟨h.size, fun k cs t fz _ hk => heap_below h hk (Array.getElem?_eq_some_iff.1 hk).1, fun k x hk => heap_below h hk (Array.getElem?_eq_some_iff.1 hk).1⟩
theorem ownsRow_of {w w' : World} {base e size : Nat} {v : Value} {n : Nat} {xs : List Value} (h : w.ownsRow base e size v n xs) (hk : ∀ (g : Nat) (cur : Array Value), w.heap[g]? = some (Obj.cells cur e (0, 0)) → w'.heap[g]? = some (Obj.cells cur e (0, 0))) : w'.ownsRow base e size v n xs := by
 refine ⟨h.1, ?_⟩
 rcases h.2 with hn | ⟨g, cap, cur, rfl, hb, hg, rest⟩
 ·exact .inl hn
 ·exact .inr ⟨g, cap, cur, rfl, hb, hk g cur hg, rest⟩
theorem ownsRow_ext {w w' : World} {base e size : Nat} {v : Value} {n : Nat} {xs : List Value} (h : w.ownsRow base e size v n xs) (hm : Below w.heap.size w w') : w'.ownsRow base e size v n xs :=
 ownsRow_of h fun g cur hg => heap_below hm hg (Array.getElem?_eq_some_iff.1 hg).1
theorem ownsMap_of {w w' : World} {M n : Nat} {D : DataW Value} (h : w.ownsMap Tryz.prog 9 rawR M n D) (hk : ∀ es c, w.heap[M]? = some (Obj.map es c) → w'.heap[M]? = some (Obj.map es c)) : w'.ownsMap Tryz.prog 9 rawR M n D := by
 obtain ⟨es, c, h1, h2⟩ := h
 exact ⟨es, c, hk es c h1, h2⟩
theorem Nm.ext {w w' : World} {mb : Nat} {ch : List (Bs × Bool)} (h : Nm w mb ch) (hm : Below w.heap.size w w') : Nm w' mb ch := by
 obtain ⟨n, D, h1, h2⟩ := h
 exact ⟨n, D, ownsMap_of h1 fun es c hg => heap_below hm hg (Array.getElem?_eq_some_iff.1 hg).1, h2⟩
theorem PX.ext {E : En} {w w' : World} {s : Ps} {vd vc vb : Value} {mb : Nat} (h : PX E w s vd vc vb mb) (hE : E.ok) (hm : Below w.heap.size w w') : PX E w' s vd vc vb mb where
 bel := h.bel.trans (hm.mono (by have := h.bel.size; rw [hE.X]; exact this))
 box := heap_below hm h.box (Array.getElem?_eq_some_iff.1 h.box).1
 dn := ownsRow_ext h.dn hm
 ch := ownsRow_ext h.ch hm
 bl := ownsRow_ext h.bl hm
 mp := h.mp.ext hm
 mx := h.mx
 le := h.le
 tx := h.tx
 cb := h.cb
 bb := h.bb
theorem PW.ext {E : En} {w w' : World} {s : Ps} (h : PW E w s) (hE : E.ok) (hm : Below w.heap.size w w') : PW E w' s := by
 obtain ⟨vd, vc, vb, mb, h⟩ := h
 exact ⟨vd, vc, vb, mb, h.ext hE hm⟩
theorem PX.cell {E : En} {w : World} {s : Ps} {vd vc vb : Value} {mb : Nat} (h : PX E w s vd vc vb mb) :
  w.cell? ⟨E.pb, 0, none⟩ = some (.slice E.la E.L.length E.lc) ∧ w.cell? ⟨E.pb, 1, none⟩ = some (.int .i64 s.at') ∧ w.cell? ⟨E.pb, 2, none⟩ = some vd ∧ w.cell? ⟨E.pb, 3, none⟩ = some E.sp ∧ w.cell? ⟨E.pb, 4, none⟩ = some (.map (some mb)) ∧ w.cell? ⟨E.pb, 5, none⟩ = some vc ∧ w.cell? ⟨E.pb, 6, none⟩ = some vb := by
 simp [World.cell?, h.box]
theorem PX.tok {E : En} {w : World} {s : Ps} {vd vc vb : Value} {mb : Nat} (h : PX E w s vd vc vb mb) (hE : E.ok) {i : Nat} (hi : i < E.L.length) : ∃ b off, E.la = some ⟨b, off, none⟩ ∧ CellsAt w b (off + i * 2) (ctC E.L[i]) := by
 obtain ⟨b, off, h1, h2, h3⟩ := hE.row.at (by rintro e; rw [e] at hi; simp at hi)
 exact ⟨b, off, h1, (h3 i hi).below h.bel (by rw [hE.X]; exact h2)⟩
theorem info54 : (Tryz.prog.info? 54).map (fun i => i.size) = some 2 := by kernel_rfl
theorem new_cells (w : World) (cs : Array Value) (t : TypeId) : (w.alloc (.cells cs t)).heap[w.heap.size]? = some (.cells cs t (0, 0)) := heap_alloc_new w _
theorem wk_peek {E : En} (hE : E.ok) (k : Nat) (s : Ps) (w : World) (hk : k ≤ 10) (h : PW E w s) : Calls Tryz.prog 71 #[.pointer (some ⟨E.pb, 0, none⟩), .int .i64 k] w fun e w' => e = .returned (ctV (peekS E.L s k)) ∧ Below w.heap.size w w' := by
 obtain ⟨vd, vc, vb, mb, h⟩ := h
 have hl := h.le
 have hL := hE.len
 obtain ⟨T, hT⟩ : ∃ T, peekS E.L s k = T := ⟨_, rfl⟩
 rw [hT]
 obtain ⟨W1, hW1⟩ : ∃ W1, W1 = w.alloc (.cells #[.int .i64 0, .string ⟨#[]⟩] 54) := ⟨_, rfl⟩
 have hb1 : Below w.heap.size w W1 := by rw [hW1]; exact below_alloc _ _
 have hr1 : W1.heap[w.heap.size]? = some (.cells #[.int .i64 0, .string ⟨#[]⟩] 54 (0, 0)) := by rw [hW1]; exact new_cells _ _ _
 have h1 := h.ext hE hb1
 obtain ⟨c0, c1, -, -, -, -, -⟩ := h1.cell
 have hf : W1.frozen? ⟨w.heap.size, 0, none⟩ = false := Lib.frozen_of_heap hr1 0
 obtain ⟨a, hat⟩ : ∃ a, s.at' = a := ⟨_, rfl⟩
 obtain ⟨n, hn⟩ : ∃ n, E.L.length = n := ⟨_, rfl⟩
 obtain ⟨m, hm⟩ : ∃ m, w.heap.size = m := ⟨_, rfl⟩
 by_cases hi : s.at' + k < E.L.length
 ·obtain ⟨b, off, ha, hc⟩ := h1.tok hE hi
  have hp : peekS E.L s k = E.L[s.at' + k] := by unfold peekS; rw [List.getD_eq_getElem?_getD, List.getElem?_eq_getElem hi]; rfl
  rw [hT] at hp
  rw [← hp] at hc
  rw [ha] at c0
  rw [hn] at c0 hi hL
  rw [hat] at c1 hi hl hc
  have hi' : ¬ ((n : Int) ≤ (a : Int) + k) := by omega
  have hi2 : (a : Int) + k < n := by omega
  have HC := Lib.hid (fun n : Nat => (show CellsAt (W1.drewN n) b (off + (a + k) * 2) (ctC T) from fun j v hv => hc j v hv))
  have HB1 := Lib.hid hb1
  have HR1 := Lib.hid hr1
  clear hp hT hi hl h hc h1 hb1 hr1
  go_enter Tryz.func71, Tryz.ntmps71
  go_wp2_with fail
  rw [← hW1]
  clear hW1
  go_quiet (fail)
  go_wp2_with fail
  refine wp_region_tail (C := fun w' => ∃ n, w' = W1.drewN n) 12 (by kernel_rfl) (by kernel_rfl) ⟨nq + 1, rfl⟩ ?_
  simp only [List.take_succ_cons, List.take_zero, List.drop_succ_cons, List.drop_zero]
  repeat (first
   | (go_big_quiet_want; (with_reducible refine quiet_load_at 54 _ rfl b (off + (a + k) * 2) rfl (ctC T) _ (fun w' hw' => by obtain ⟨n, rfl⟩ := hw'; exact HC.out n) Tryz.underlying54 rfl (by kernel_rfl) ?_); go_big_quiet_on; simp only [ctC, Act.put, List.setIfInBounds_toArray, List.set_cons_succ, List.set_cons_zero])
   | go_big_quiet_step (fail))
  refine wpQuiet_nil ?_
  rintro w' ⟨nr, rfl⟩
  obtain ⟨W2, hW2⟩ : ∃ W2, W2 = W1.drewN nr := ⟨_, rfl⟩
  have hb2 : Below w.heap.size w W2 := by rw [hW2]; exact HB1.out.trans (below_drewN _ _ _)
  have hr2 : W2.heap[m]? = some (.cells #[.int .i64 0, .string ⟨#[]⟩] 54 (0, 0)) := by rw [hW2, ← hm]; exact HR1.out
  rw [← hW2]
  clear hW2
  have g0 : W2.cell? ⟨m, 0, none⟩ = some (.int .i64 0) := by simp [World.cell?, hr2]
  have g1 : W2.cell? ⟨m, 1, none⟩ = some (.string ⟨#[]⟩) := by simp [World.cell?, hr2]
  have f0 : W2.frozen? ⟨m, 0, none⟩ = false := Lib.frozen_of_heap hr2 0
  have f1 : W2.frozen? ⟨m, 1, none⟩ = false := Lib.frozen_of_heap hr2 1
  have HB2 := Lib.hid hb2
  clear hb2 hr2
  go_wp2_with fail
  refine bodyPost_ret (v := ctV T) ?_ rfl ⟨rfl, ((HB2.out.setCell (by rw [hm]; exact Nat.le_refl _) _).setCell (by rw [hm]; exact Nat.le_refl _) _)⟩
  simp [results, Tryz.results71, go_sem, g0, g1, ctV]
 ·have hp : peekS E.L s k = ⟨0, []⟩ := by unfold peekS; rw [List.getD_eq_getElem?_getD, List.getElem?_eq_none (by omega)]; rfl
  rw [hT] at hp
  subst hp
  rw [hn] at c0 hi hL
  rw [hat] at c1 hi hl
  rw [hn] at hl
  have hi' : (n : Int) ≤ (a : Int) + k := by omega
  have hi2 : (a : Int) ≤ n := by omega
  have HB1 := Lib.hid hb1
  have HR1 := Lib.hid hr1
  clear hT hi hl h h1 hb1 hr1
  go_enter Tryz.func71, Tryz.ntmps71
  go_wp2_with fail
  rw [← hW1]
  clear hW1
  go_quiet (fail)
  obtain ⟨W2, hW2⟩ : ∃ W2, W2 = W1.drewN nq := ⟨_, rfl⟩
  have hb2 : Below w.heap.size w W2 := by rw [hW2]; exact HB1.out.trans (below_drewN _ _ _)
  have hr2 : W2.heap[m]? = some (.cells #[.int .i64 0, .string ⟨#[]⟩] 54 (0, 0)) := by rw [hW2, ← hm]; exact HR1.out
  rw [← hW2]
  clear hW2
  have g0 : W2.cell? ⟨m, 0, none⟩ = some (.int .i64 0) := by simp [World.cell?, hr2]
  have g1 : W2.cell? ⟨m, 1, none⟩ = some (.string ⟨#[]⟩) := by simp [World.cell?, hr2]
  have f0 : W2.frozen? ⟨m, 0, none⟩ = false := Lib.frozen_of_heap hr2 0
  have f1 : W2.frozen? ⟨m, 1, none⟩ = false := Lib.frozen_of_heap hr2 1
  have HB2 := Lib.hid hb2
  clear hb2 hr2
  go_wp2_with fail
  refine bodyPost_ret (v := ctV ⟨0, []⟩) ?_ rfl ⟨rfl, ((HB2.out.setCell (by rw [hm]; exact Nat.le_refl _) _).setCell (by rw [hm]; exact Nat.le_refl _) _)⟩
  simp [results, Tryz.results71, go_sem, g0, g1, ctV, str]
end Go.Proofs.YtlboejdhmggjpaaGreat.Pp

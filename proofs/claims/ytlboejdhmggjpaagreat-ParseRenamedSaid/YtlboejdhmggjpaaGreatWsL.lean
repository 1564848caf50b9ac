/- scope: what a scope's memory holds; made, Blocks, IsType. -/
import Derived.Test.YtlboejdhmggjpaaGreatMon
import Derived.Test.YtlboejdhmggjpaaGreatTal
import Derived.Test.YtlboejdhmggjpaaGreatProg
import Derived.Maps.OwnOps
import Derived.Maps.OwnSet
import Derived.Maps.AppendAt
import Derived.Maps.Views
import Derived.Laws.OwnMore
import Derived.LaidEqlPtr
set_option linter.all false
namespace Go.Proofs.YtlboejdhmggjpaaGreat.Sp
set_option maxRecDepth 100000
set_option maxHeartbeats 16000000
open Go.RowKit Go.BigFrame Go.ChangeMaps Go.WideMaps Go.Proofs.YtlboejdhmggjpaaGreat

abbrev Frm := List (ByteArray × Bool)
def look : Frm → ByteArray → Option Bool
 | [], _ => none
 | p :: f, x => if p.1 = x then some p.2 else look f x
def stkFrom (x : ByteArray) : Nat → List Frm → List (Nat × Bool)
 | _, [] => []
 | i, f :: F => (match look f x with | some t => [(i, t)] | none => []) ++ stkFrom x (i + 1) F
def stk (F : List Frm) (x : ByteArray) : List (Nat × Bool) := stkFrom x 1 F
def isTy (F : List Frm) (x : ByteArray) : Bool := match (stk F x).getLast? with | some p => p.2 | none => false
def mcell (p : Nat × Bool) : List Value := [.int .i64 p.1, .bool p.2]
abbrev nilS : Value := .slice none 0 0
def rawR (v : Value) : Option (DataW Value × List MemPlace) := some (.held v, [])
def names (f : Frm) : List Value := f.map fun p => .string p.1

theorem stkFrom_cons (x : ByteArray) (i : Nat) (f : Frm) (F : List Frm) : stkFrom x i (f :: F) = (match look f x with | some t => [(i, t)] | none => []) ++ stkFrom x (i + 1) F := rfl
theorem stkFrom_append (x : ByteArray) : ∀ (i : Nat) (F G : List Frm), stkFrom x i (F ++ G) = stkFrom x i F ++ stkFrom x (i + F.length) G
 | i, [], G => by simp [stkFrom]
 | i, f :: F, G => by
  rw [List.cons_append, stkFrom_cons, stkFrom_cons]
  rw [stkFrom_append x (i + 1) F G, List.append_assoc, show i + 1 + F.length = i + (f :: F).length from by simp; omega]
theorem stk_snoc (F : List Frm) (f : Frm) (x : ByteArray) : stk (F ++ [f]) x = stk F x ++ (match look f x with | some t => [(F.length + 1, t)] | none => []) := by
 unfold stk
 rw [stkFrom_append]
 simp [stkFrom, Nat.add_comm]
theorem stkFrom_lt (x : ByteArray) : ∀ (i : Nat) (F : List Frm), ∀ p ∈ stkFrom x i F, i ≤ p.1 ∧ p.1 < i + F.length
 | i, [], p, h => by simp [stkFrom] at h
 | i, f :: F, p, h => by
  rw [stkFrom_cons, List.mem_append] at h
  rcases h with h | h
  ·cases hl : look f x with
   | none => rw [hl] at h; simp at h
   | some t => rw [hl] at h; simp at h; subst h; simp
  ·have := stkFrom_lt x (i + 1) F p h
   simp only [List.length_cons]; omega
theorem stkFrom_len (x : ByteArray) : ∀ (i : Nat) (F : List Frm), (stkFrom x i F).length ≤ F.length
 | i, [] => by simp [stkFrom]
 | i, f :: F => by
  rw [stkFrom_cons]
  have := stkFrom_len x (i + 1) F
  cases look f x <;> simp <;> omega

structure ScAt (w : World) (A M n : Nat) (vB : Value) (vs : List Value) (mv : ByteArray → Value) (D : DataW Value) (F : List Frm) : Prop where
 hd : w.heap[A]? = some (.cells #[.pointer (some ⟨A, 0, none⟩), .map (some M), vB] 66 (0, 0))
 mp : w.ownsMap Tryz.prog 9 rawR M n D
 key : ∀ x : ByteArray, x.size ≤ maxLen → D.atKey (.string x.data.toList) (.held nilS) = .held (mv x)
 mrow : ∀ x, w.ownsRow 0 89 2 (mv x) (stk F x).length ((stk F x).flatMap mcell)
 brow : w.ownsRow 0 90 1 vB F.length vs
 vrow : ∀ i (h : i < F.length), w.ownsRow 0 9 1 (vs.getD i nilS) F[i].length (names F[i])
 dm : ∀ x y, x ≠ y → (mv x).ownBlock = none ∨ (mv x).ownBlock ≠ (mv y).ownBlock
 dv : ∀ i j, i < F.length → j < F.length → i ≠ j → (vs.getD i nilS).ownBlock = none ∨ (vs.getD i nilS).ownBlock ≠ (vs.getD j nilS).ownBlock
 pos : 0 < F.length
def foot (A M : Nat) (vB : Value) (vs : List Value) (mv : ByteArray → Value) (k : Nat) : Prop :=
 k = A ∨ k = M ∨ vB.ownBlock = some k ∨ (∃ i, (vs.getD i nilS).ownBlock = some k) ∨ ∃ x, (mv x).ownBlock = some k
def Sco (w : World) (A n : Nat) (S : Nat → Prop) (F : List Frm) : Prop :=
 ∃ M vB vs mv D, ScAt w A M n vB vs mv D F ∧ (∀ k, foot A M vB vs mv k → S k) ∧ ∀ k, S k → k < w.heap.size

theorem ownsRow_mod {w w' : World} {base e size : Nat} {v : Value} {n : Nat} {xs : List Value} {S : Nat → Prop} (h : w.ownsRow base e size v n xs) (hm : Mod S w w') (hs : ∀ k, v.ownBlock = some k → ¬ S k) : w'.ownsRow base e size v n xs := by
 refine ⟨h.1, ?_⟩
 rcases h.2 with hn | ⟨g, cap, cur, rfl, hb, hg, rest⟩
 ·exact .inl hn
 ·exact .inr ⟨g, cap, cur, rfl, hb, hm.keep hg (hs g rfl), rest⟩
theorem ScAt.vs_len {w : World} {A M n : Nat} {vB : Value} {vs : List Value} {mv : ByteArray → Value} {D : DataW Value} {F : List Frm} (h : ScAt w A M n vB vs mv D F) : vs.length = F.length := by
 have := h.brow.1; omega
theorem ScAt.keep {w w' : World} {A M n : Nat} {vB : Value} {vs : List Value} {mv : ByteArray → Value} {D : DataW Value} {F : List Frm} {T : Nat → Prop} (h : ScAt w A M n vB vs mv D F) (hm : Mod T w w') (hT : ∀ k, foot A M vB vs mv k → ¬ T k) : ScAt w' A M n vB vs mv D F := by
 refine ⟨hm.keep h.hd (hT A (.inl rfl)), ?_, h.key, fun x => ownsRow_mod (h.mrow x) hm (fun k hk => hT k (.inr (.inr (.inr (.inr ⟨x, hk⟩))))), ownsRow_mod h.brow hm (fun k hk => hT k (.inr (.inr (.inl hk)))),
  fun i hi => ownsRow_mod (h.vrow i hi) hm (fun k hk => hT k (.inr (.inr (.inr (.inl ⟨i, hk⟩))))), h.dm, h.dv, h.pos⟩
 obtain ⟨es, clock, hb, rest⟩ := h.mp
 exact ⟨es, clock, hm.keep hb (hT M (.inr (.inl rfl))), rest⟩
theorem Sco.keep {w w' : World} {A n : Nat} {S T : Nat → Prop} {F : List Frm} (h : Sco w A n S F) (hm : Mod T w w') (hd : ∀ k, S k → ¬ T k) : Sco w' A n S F := by
 obtain ⟨M, vB, vs, mv, D, h1, h2, h3⟩ := h
 exact ⟨M, vB, vs, mv, D, h1.keep hm (fun k hk => hd k (h2 k hk)), h2, fun k hk => Nat.lt_of_lt_of_le (h3 k hk) hm.size⟩
theorem Sco.pos {w : World} {A n : Nat} {S : Nat → Prop} {F : List Frm} (h : Sco w A n S F) : 0 < F.length := by
 obtain ⟨M, vB, vs, mv, D, h1, -⟩ := h; exact h1.pos

theorem row_shape {w : World} {base e size : Nat} {v : Value} {n : Nat} {xs : List Value} (h : w.ownsRow base e size v n xs) : ∃ a cap, v = .slice a n cap := by
 rcases h.2 with ⟨rfl, rfl⟩ | ⟨g, cap, cur, rfl, _⟩
 ·exact ⟨none, 0, rfl⟩
 ·exact ⟨_, cap, rfl⟩
theorem ScAt.cells {w : World} {A M n : Nat} {vB : Value} {vs : List Value} {mv : ByteArray → Value} {D : DataW Value} {F : List Frm} (h : ScAt w A M n vB vs mv D F) :
  w.cell? ⟨A, 0, none⟩ = some (.pointer (some ⟨A, 0, none⟩)) ∧ w.cell? ⟨A, 1, none⟩ = some (.map (some M)) ∧ w.cell? ⟨A, 2, none⟩ = some vB := by
 refine ⟨?_, ?_, ?_⟩ <;> simp [World.cell?, h.hd]

theorem info66 : (Tryz.prog.info? 66).map (·.size) = some 3 := by kernel_rfl
theorem ptr_same (A : Nat) (w : World) : (binOp .eql 39 (.pointer (some ⟨A, 0, none⟩)) (.pointer (some ⟨A, 0, none⟩))).run Tryz.prog w = .ok (.bool true) w := by
 have hi := info66
 cases hq : Tryz.prog.info? 66 with
 | none => rw [hq] at hi; cases hi
 | some i => exact run_eql_ptr_same w _ Tryz.underlying39 hq

theorem Sc.made (A : Nat) (w : World) (x y : Value) (h : w.heap[A]? = some (.cells #[.pointer (some ⟨A, 0, none⟩), x, y] 66 (0, 0))) : Calls Tryz.prog 39 #[.pointer (some ⟨A, 0, none⟩)] w fun e w' => e = .returned (.bool true) ∧ w' = w := by
 have c0 : w.cell? ⟨A, 0, none⟩ = some (.pointer (some ⟨A, 0, none⟩)) := by simp [World.cell?, h]
 clear h
 go_enter Tryz.func39, Tryz.ntmps39
 have hp := ptr_same A w
 go_wp2
 go_ret
 exact ⟨rfl, rfl⟩

theorem law9 : Maps.Keyed Tryz.prog 9 := Maps.string_keyed Tryz.underlying9
theorem zero88 (w : World) : (zeroValue 87).run Tryz.prog w = .ok nilS w := by kernel_rfl
theorem ScAt.lookup {w : World} {A M n : Nat} {vB : Value} {vs : List Value} {mv : ByteArray → Value} {D : DataW Value} {F : List Frm} (h : ScAt w A M n vB vs mv D F) (x : ByteArray) (hx : x.size ≤ maxLen) :
  (Instr.lookup 63 (.map (some M)) (.string x) false).run Tryz.prog w = .ok (mv x) w := by
 obtain ⟨v, ps, hrun, hv⟩ := h.mp.lookup law9 Tryz.underlying63 (zero88 w) (zd := .held nilS) (zp := []) rfl (keyOf_string_mk Tryz.underlying9 hx)
 rw [h.key x hx] at hv
 have : v = mv x := by
  unfold rawR at hv
  simp only [Option.some.injEq, Prod.mk.injEq, DataW.held.injEq] at hv
  exact hv.1
 rw [hrun, this]

theorem flat2 (l : List (Nat × Bool)) (i : Nat) (h : i < l.length) : (l.flatMap mcell)[i * 2]? = some (.int .i64 l[i].1) ∧ (l.flatMap mcell)[i * 2 + 1]? = some (.bool l[i].2) := by
 induction l generalizing i with
 | nil => simp at h
 | cons p l ih =>
  cases i with
  | zero => simp [mcell]
  | succ i =>
   have := ih i (by simpa using h)
   have e1 : (p :: l).flatMap mcell = (.int .i64 p.1) :: (.bool p.2) :: l.flatMap mcell := by simp [mcell]
   rw [e1, show (i + 1) * 2 = i * 2 + 1 + 1 from by omega]
   simpa using this
theorem row_top {w : World} {base e : Nat} {v : Value} {l : List (Nat × Bool)} (h : w.ownsRow base e 2 v l.length (l.flatMap mcell)) (h0 : 0 < l.length) :
  ∃ g cap, v = .slice (some ⟨g, 0, none⟩) l.length cap ∧ g < w.heap.size ∧ w.cell? ⟨g, (l.length - 1) * 2, none⟩ = some (.int .i64 (l[l.length - 1]'(by omega)).1) ∧ w.cell? ⟨g, (l.length - 1) * 2 + 1, none⟩ = some (.bool (l[l.length - 1]'(by omega)).2) := by
 obtain ⟨h1, h2⟩ := flat2 l (l.length - 1) (by omega)
 rcases h.2 with ⟨rfl, hz⟩ | ⟨g, cap, cur, rfl, hb, hg, hn, hm, hc, ht⟩
 ·omega
 ·refine ⟨g, cap, rfl, (Array.getElem?_eq_some_iff.1 hg).1, ?_, ?_⟩
  ·rw [h.cellAt _ (by omega)]; exact h1
  ·rw [h.cellAt _ (by omega)]; exact h2

theorem Sc.isType (A n : Nat) (S : Nat → Prop) (F : List Frm) (x : ByteArray) (w : World) (h : Sco w A n S F) (hx : x.size ≤ maxLen) (hF : F.length ≤ 9223372036854775807) :
  Calls Tryz.prog 21 #[.pointer (some ⟨A, 0, none⟩), .string x] w fun e w' => e = .returned (.bool (isTy F x)) ∧ w' = w := by
 obtain ⟨M, vB, vs, mv, D, h, h2, h3⟩ := h
 obtain ⟨c0, c1, c2⟩ := h.cells
 have HD := Lib.hid h.hd
 have hlk := h.lookup x hx
 have hrow := h.mrow x
 have hsl : (stk F x).length ≤ F.length := stkFrom_len x 1 F
 have hty : isTy F x = match (stk F x).getLast? with | some p => p.2 | none => false := rfl
 clear h h2 h3
 generalize stk F x = l at *
 generalize isTy F x = r at *
 generalize mv x = v at *
 by_cases h0 : 0 < l.length
 ·obtain ⟨g, cap, rfl, hg, k0, k1⟩ := row_top hrow h0
  have hr : r = (l[l.length - 1]'(by omega)).2 := by
   rw [hty, List.getLast?_eq_getElem?, List.getElem?_eq_getElem (by omega)]
  rw [← hr] at k1
  have i0 : ((l.length : Int) - 1).toNat = l.length - 1 := by omega
  have i1 : (0 : Int) ≤ (l.length : Int) - 1 := by omega
  have i2 : ((l.length : Int) - 1) < (l.length : Int) := by omega
  have i3 : (l.length : Int) ≤ 9223372036854775807 := by omega
  clear hr hty hrow k0
  go_enter Tryz.func21, Tryz.ntmps21
  go_wp2_with fail
  refine (Sc.made A w _ _ HD.out).mono ?_
  rintro e w1 ⟨rfl, rfl⟩
  go_wp2_with fail
  go_ret
  exact ⟨rfl, rfl⟩
 ·have hl0 : l = [] := List.length_eq_zero_iff.1 (by omega)
  subst hl0
  obtain rfl : r = false := by rw [hty]; rfl
  obtain ⟨a, cap, rfl⟩ := row_shape hrow
  clear hrow hty h0
  go_enter Tryz.func21, Tryz.ntmps21
  go_wp2_with fail
  refine (Sc.made A w _ _ HD.out).mono ?_
  rintro e w1 ⟨rfl, rfl⟩
  go_wp2_with fail
  go_ret
  exact ⟨rfl, rfl⟩
end Go.Proofs.YtlboejdhmggjpaaGreat.Sp

/- WsB -/
namespace Go.Proofs.YtlboejdhmggjpaaGreat.Sp
set_option maxRecDepth 100000
set_option maxHeartbeats 16000000
open Go.RowKit Go.BigFrame Go.ChangeMaps Go.WideMaps Go.Proofs.YtlboejdhmggjpaaGreat

theorem row_ne {w : World} {b1 e1 s1 n1 b2 e2 s2 n2 : Nat} {v1 v2 : Value} {x1 x2 : List Value} (h : w.ownsRow b1 e1 s1 v1 n1 x1) (h' : w.ownsRow b2 e2 s2 v2 n2 x2) (he : e1 ≠ e2) (k : Nat) (hk : v1.ownBlock = some k) : v2.ownBlock ≠ some k := by
 intro hk2
 rcases h.2 with ⟨rfl, _⟩ | ⟨g, cap, cur, rfl, _, hg, _⟩
 ·simp [Value.ownBlock] at hk
 ·rcases h'.2 with ⟨rfl, _⟩ | ⟨g', cap', cur', rfl, _, hg', _⟩
  ·simp [Value.ownBlock] at hk2
  ·simp only [Value.ownBlock, Option.some.injEq] at hk hk2
   subst hk hk2
   rw [hg] at hg'
   simp only [Option.some.injEq, Obj.cells.injEq] at hg'
   exact he hg'.2.1
theorem row_ne_hd {w : World} {b e s n A : Nat} {v : Value} {x : List Value} {cs : Array Value} {t : TypeId} {fz : Nat × Nat} (h : w.ownsRow b e s v n x) (hA : w.heap[A]? = some (.cells cs t fz)) (he : e ≠ t) : v.ownBlock ≠ some A := by
 intro hk
 rcases h.2 with ⟨rfl, _⟩ | ⟨g, cap, cur, rfl, _, hg, _⟩
 ·simp [Value.ownBlock] at hk
 ·simp only [Value.ownBlock, Option.some.injEq] at hk
  subst hk
  rw [hg] at hA
  simp only [Option.some.injEq, Obj.cells.injEq] at hA
  exact he hA.2.1
theorem row_ne_map {w : World} {b e s n M : Nat} {v : Value} {x : List Value} {es : Array MapEntry} {c : Nat} (h : w.ownsRow b e s v n x) (hM : w.heap[M]? = some (.map es c)) : v.ownBlock ≠ some M := by
 intro hk
 rcases h.2 with ⟨rfl, _⟩ | ⟨g, cap, cur, rfl, _, hg, _⟩
 ·simp [Value.ownBlock] at hk
 ·simp only [Value.ownBlock, Option.some.injEq] at hk
  subst hk
  rw [hg] at hM
  cases hM
theorem Mod.of_grown {w w' : World} {row : Option Nat} (h : w.grownBy w' row) : Mod (fun k => row = some k) w w' :=
 ⟨h.os, h.tape, h.output, h.size, fun k hk hn => h.block k hk (fun e => hn e.symm)⟩
theorem ownsMap_heap {w : World} {M n : Nat} {D : DataW Value} (h : w.ownsMap Tryz.prog 9 rawR M n D) : ∃ es c, w.heap[M]? = some (.map es c) := by
 obtain ⟨es, c, hb, _⟩ := h; exact ⟨es, c, hb⟩
theorem ownsMap_mod {w w' : World} {M n : Nat} {D : DataW Value} {S : Nat → Prop} (h : w.ownsMap Tryz.prog 9 rawR M n D) (hm : Mod S w w') (hs : ¬ S M) : w'.ownsMap Tryz.prog 9 rawR M n D := by
 obtain ⟨es, clock, hb, rest⟩ := h
 exact ⟨es, clock, hm.keep hb hs, rest⟩
def NewOk (w : World) (e : Ending) (w' : World) : Prop := ∃ A, e = .returned (.pointer (some ⟨A, 0, none⟩)) ∧ Sco w' A 0 (fun k => w.heap.size ≤ k ∧ k < w'.heap.size) [[]] ∧ Below w.heap.size w w'

theorem Sc.new (w : World) : Calls Tryz.prog 16 #[] w (NewOk w) := by
 have hmm := @run_makeMap Tryz.prog
 have hbt : (Tryz.prog.built 66 [(1, Value.map (some w.heap.size)), (2, .slice (some ⟨w.heap.size + 1, 0, none⟩) 1 1)]) = some #[.pointer none, .map (some w.heap.size), .slice (some ⟨w.heap.size + 1, 0, none⟩) 1 1] := by kernel_rfl
 go_enter Tryz.func16, Tryz.ntmps16
 go_wp2_with (refine wpList_build rfl 66 _ rfl (by simp [Act.eval, hbt]) ?_)
 obtain ⟨W, hW⟩ : ∃ W, W = ((w.alloc (.map #[] 0)).alloc (.cells #[nilS] 90)).alloc (.cells #[.pointer (some ⟨w.heap.size + 1 + 1, 0, none⟩), .map (some w.heap.size), .slice (some ⟨w.heap.size + 1, 0, none⟩) 1 1] 66) := ⟨_, rfl⟩
 rw [← hW]
 have hs : W.heap.size = w.heap.size + 3 := by rw [hW]; simp
 have h1 : W.heap[w.heap.size]? = some (.map #[] 0) := by rw [hW, Lib.alloc_old _ _ _ (by simp; omega), Lib.alloc_old _ _ _ (by simp)]; exact heap_alloc_new _ _
 have h2 : W.heap[w.heap.size + 1]? = some (.cells #[nilS] 90 (0, 0)) := by
  rw [hW, Lib.alloc_old _ _ _ (by simp)]
  have := heap_alloc_new (w.alloc (.map #[] 0)) (.cells #[nilS] 90)
  simpa using this
 have h3 : W.heap[w.heap.size + 1 + 1]? = some (.cells #[.pointer (some ⟨w.heap.size + 1 + 1, 0, none⟩), .map (some w.heap.size), .slice (some ⟨w.heap.size + 1, 0, none⟩) 1 1] 66 (0, 0)) := by
  rw [hW]
  have := heap_alloc_new ((w.alloc (.map #[] 0)).alloc (.cells #[nilS] 90)) (.cells #[.pointer (some ⟨w.heap.size + 1 + 1, 0, none⟩), .map (some w.heap.size), .slice (some ⟨w.heap.size + 1, 0, none⟩) 1 1] 66)
  simpa using this
 have hB : Below w.heap.size w W := by rw [hW]; exact (((Below.refl _ _).alloc (Nat.le_refl _) _).alloc (by simp) _).alloc (by simp; omega) _
 have hmp : W.ownsMap Tryz.prog 9 rawR w.heap.size 0 (.map []) := by
  rw [hW]
  exact ((World.ownsMap_made w Tryz.prog 9 rawR).alloc _).alloc _
 clear hW
 go_ret
 refine ⟨_, rfl, ⟨w.heap.size, _, [nilS], fun _ => nilS, .map [], ⟨h3, hmp, fun x _ => rfl, fun x => World.ownsRow_nil _ _ _ _, ?_, ?_, fun x y _ => .inl rfl, fun i j hi hj hij => ?_, by simp⟩, ?_, fun k hk => hk.2⟩, hB⟩
 ·exact ⟨rfl, .inr ⟨w.heap.size + 1, 1, #[nilS], rfl, Nat.zero_le _, h2, Nat.le_refl _, by unfold maxLen; omega, rfl, rfl⟩⟩
 ·intro i hi
  obtain rfl : i = 0 := by simpa using hi
  exact World.ownsRow_nil _ _ _ _
 ·simp at hi hj; omega
 ·intro k hk
  rcases hk with rfl | rfl | hk | ⟨i, hk⟩ | ⟨x, hk⟩
  ·exact ⟨by omega, by omega⟩
  ·exact ⟨by omega, by omega⟩
  ·simp [Value.ownBlock] at hk; exact ⟨by omega, by omega⟩
  ·exfalso
   cases i <;> simp [Value.ownBlock] at hk
  ·simp [Value.ownBlock] at hk

def Leaves (A n : Nat) (S : Nat → Prop) (F : List Frm) (w w' : World) : Prop :=
 ∃ S', Sco w' A n S' F ∧ (∀ k, S' k → S k ∨ w.heap.size ≤ k) ∧ Mod S w w'

theorem Leaves.refl {A n : Nat} {S : Nat → Prop} {F : List Frm} {w : World} (h : Sco w A n S F) : Leaves A n S F w w := ⟨S, h, fun k hk => .inl hk, Mod.refl S w⟩

end Go.Proofs.YtlboejdhmggjpaaGreat.Sp

/- WsL -/
namespace Go.Proofs.YtlboejdhmggjpaaGreat.Sp
open Go.RowKit Go.BigFrame Go.ChangeMaps Go.WideMaps Go.Proofs.YtlboejdhmggjpaaGreat

def Own (W : World) (A n : Nat) (F : List Frm) (w : World) : Prop := ∃ S, Sco w A n S F ∧ (∀ k, S k → W.heap.size ≤ k) ∧ Below W.heap.size W w
theorem Own.below {W w : World} {A n : Nat} {F : List Frm} (h : Own W A n F w) : Below W.heap.size W w := let ⟨_, _, _, h⟩ := h; h
theorem Own.leaves {W w w' : World} {A m : Nat} {S : Nat → Prop} {F : List Frm} (hl : Leaves A m S F w w') (hS : ∀ k, S k → W.heap.size ≤ k) (hb : Below W.heap.size W w) : Own W A m F w' := by
 obtain ⟨S', h1, h2, h3⟩ := hl
 refine ⟨S', h1, fun k hk => ?_, hb.trans (h3.below hb.size hS)⟩
 rcases h2 k hk with h | h
 ·exact hS k h
 ·exact Nat.le_trans hb.size h
theorem Ow.new (W w : World) (hb : Below W.heap.size W w) : Calls Tryz.prog 16 #[] w fun e w' => ∃ A, e = .returned (.pointer (some ⟨A, 0, none⟩)) ∧ Own W A 0 [[]] w' := by
 refine (Sc.new w).mono ?_
 rintro e w1 ⟨A, rfl, h1, h2⟩
 exact ⟨A, rfl, _, h1, fun k hk => Nat.le_trans hb.size hk.1, hb.trans (h2.mono hb.size)⟩
theorem Ow.isType (W : World) (A n : Nat) (F : List Frm) (x : ByteArray) (w : World) (h : Own W A n F w) (hx : x.size ≤ maxLen) (hF : F.length ≤ 9223372036854775807) :
  Calls Tryz.prog 21 #[.pointer (some ⟨A, 0, none⟩), .string x] w fun e w' => e = .returned (.bool (isTy F x)) ∧ w' = w := by
 obtain ⟨S, h1, h2, h3⟩ := h
 exact Sc.isType A n S F x w h1 hx hF
end Go.Proofs.YtlboejdhmggjpaaGreat.Sp

/- scope: New. -/
import Derived.Test.YtlboejdhmggjpaaGreatWsA
set_option linter.all false
namespace Go.Proofs.YtlboejdhmggjpaaGreat.Sp
set_option maxRecDepth 100000
set_option maxHeartbeats 16000000
open Go.RowKit Go.BigFrame Go.ChangeMaps Go.WideMaps Go.Proofs.YtlboejdhmggjpaaGreat

theorem row_ne {w : World} {b1 e1 s1 n1 b2 e2 s2 n2 : Nat} {v1 v2 : Value} {x1 x2 : List Value} (h : w.ownsRow b1 e1 s1 v1 n1 x1) (h' : w.ownsRow b2 e2 s2 v2 n2 x2) (he : e1 ≠ e2) (k : Nat) (hk : v1.ownBlock = some k) : v2.ownBlock ≠ some k := by
 intro hk2
 rcases h.2 with ⟨rfl, _⟩ | ⟨g, cap, cur, rfl, _, hg, _⟩
 ·simp [Value.ownBlock] at hk
 ·rcases h'.2 with ⟨rfl, _⟩ | ⟨g', cap', cur', rfl, _, hg', _⟩
  ·simp [Value.ownBlock] at hk2
  ·simp only [Value.ownBlock, Option.some.injEq] at hk hk2
   subst hk hk2
   rw [hg] at hg'
   simp only [Option.some.injEq, Obj.cells.injEq] at hg'
   exact he hg'.2.1
theorem row_ne_hd {w : World} {b e s n A : Nat} {v : Value} {x : List Value} {cs : Array Value} {t : TypeId} {fz : Nat × Nat} (h : w.ownsRow b e s v n x) (hA : w.heap[A]? = some (.cells cs t fz)) (he : e ≠ t) : v.ownBlock ≠ some A := by
 intro hk
 rcases h.2 with ⟨rfl, _⟩ | ⟨g, cap, cur, rfl, _, hg, _⟩
 ·simp [Value.ownBlock] at hk
 ·simp only [Value.ownBlock, Option.some.injEq] at hk
  subst hk
  rw [hg] at hA
  simp only [Option.some.injEq, Obj.cells.injEq] at hA
  exact he hA.2.1
theorem row_ne_map {w : World} {b e s n M : Nat} {v : Value} {x : List Value} {es : Array MapEntry} {c : Nat} (h : w.ownsRow b e s v n x) (hM : w.heap[M]? = some (.map es c)) : v.ownBlock ≠ some M := by
 intro hk
 rcases h.2 with ⟨rfl, _⟩ | ⟨g, cap, cur, rfl, _, hg, _⟩
 ·simp [Value.ownBlock] at hk
 ·simp only [Value.ownBlock, Option.some.injEq] at hk
  subst hk
  rw [hg] at hM
  cases hM
theorem Mod.of_grown {w w' : World} {row : Option Nat} (h : w.grownBy w' row) : Mod (fun k => row = some k) w w' :=
 ⟨h.os, h.tape, h.output, h.size, fun k hk hn => h.block k hk (fun e => hn e.symm)⟩
theorem ownsMap_heap {w : World} {M n : Nat} {D : DataW Value} (h : w.ownsMap Tryz.prog 9 rawR M n D) : ∃ es c, w.heap[M]? = some (.map es c) := by
 obtain ⟨es, c, hb, _⟩ := h; exact ⟨es, c, hb⟩
theorem ownsMap_mod {w w' : World} {M n : Nat} {D : DataW Value} {S : Nat → Prop} (h : w.ownsMap Tryz.prog 9 rawR M n D) (hm : Mod S w w') (hs : ¬ S M) : w'.ownsMap Tryz.prog 9 rawR M n D := by
 obtain ⟨es, clock, hb, rest⟩ := h
 exact ⟨es, clock, hm.keep hb hs, rest⟩
def NewOk (w : World) (e : Ending) (w' : World) : Prop := ∃ A, e = .returned (.pointer (some ⟨A, 0, none⟩)) ∧ Sco w' A 0 (fun k => w.heap.size ≤ k ∧ k < w'.heap.size) [[]] ∧ Below w.heap.size w w'

theorem Sc.new (w : World) : Calls Tryz.prog 16 #[] w (NewOk w) := by
 have hmm := @run_makeMap Tryz.prog
 have hbt : (Tryz.prog.built 66 [(1, Value.map (some w.heap.size)), (2, .slice (some ⟨w.heap.size + 1, 0, none⟩) 1 1)]) = some #[.pointer none, .map (some w.heap.size), .slice (some ⟨w.heap.size + 1, 0, none⟩) 1 1] := by kernel_rfl
 go_enter Tryz.func16, Tryz.ntmps16
 go_wp2_with (refine wpList_build rfl 66 _ rfl (by simp [Act.eval, hbt]) ?_)
 obtain ⟨W, hW⟩ : ∃ W, W = ((w.alloc (.map #[] 0)).alloc (.cells #[nilS] 90)).alloc (.cells #[.pointer (some ⟨w.heap.size + 1 + 1, 0, none⟩), .map (some w.heap.size), .slice (some ⟨w.heap.size + 1, 0, none⟩) 1 1] 66) := ⟨_, rfl⟩
 rw [← hW]
 have hs : W.heap.size = w.heap.size + 3 := by rw [hW]; simp
 have h1 : W.heap[w.heap.size]? = some (.map #[] 0) := by rw [hW, Lib.alloc_old _ _ _ (by simp; omega), Lib.alloc_old _ _ _ (by simp)]; exact heap_alloc_new _ _
 have h2 : W.heap[w.heap.size + 1]? = some (.cells #[nilS] 90 (0, 0)) := by
  rw [hW, Lib.alloc_old _ _ _ (by simp)]
  have := heap_alloc_new (w.alloc (.map #[] 0)) (.cells #[nilS] 90)
  simpa using this
 have h3 : W.heap[w.heap.size + 1 + 1]? = some (.cells #[.pointer (some ⟨w.heap.size + 1 + 1, 0, none⟩), .map (some w.heap.size), .slice (some ⟨w.heap.size + 1, 0, none⟩) 1 1] 66 (0, 0)) := by
  rw [hW]
  have := heap_alloc_new ((w.alloc (.map #[] 0)).alloc (.cells #[nilS] 90)) (.cells #[.pointer (some ⟨w.heap.size + 1 + 1, 0, none⟩), .map (some w.heap.size), .slice (some ⟨w.heap.size + 1, 0, none⟩) 1 1] 66)
  simpa using this
 have hB : Below w.heap.size w W := by rw [hW]; exact (((Below.refl _ _).alloc (Nat.le_refl _) _).alloc (by simp) _).alloc (by simp; omega) _
 have hmp : W.ownsMap Tryz.prog 9 rawR w.heap.size 0 (.map []) := by
  rw [hW]
  exact ((World.ownsMap_made w Tryz.prog 9 rawR).alloc _).alloc _
 clear hW
 go_ret
 refine ⟨_, rfl, ⟨w.heap.size, _, [nilS], fun _ => nilS, .map [], ⟨h3, hmp, fun x _ => rfl, fun x => World.ownsRow_nil _ _ _ _, ?_, ?_, fun x y _ => .inl rfl, fun i j hi hj hij => ?_, by simp⟩, ?_, fun k hk => hk.2⟩, hB⟩
 ·exact ⟨rfl, .inr ⟨w.heap.size + 1, 1, #[nilS], rfl, Nat.zero_le _, h2, Nat.le_refl _, by unfold maxLen; omega, rfl, rfl⟩⟩
 ·intro i hi
  obtain rfl : i = 0 := by simpa using hi
  exact World.ownsRow_nil _ _ _ _
 ·simp at hi hj; omega
 ·intro k hk
  rcases hk with rfl | rfl | hk | ⟨i, hk⟩ | ⟨x, hk⟩
  ·exact ⟨by omega, by omega⟩
  ·exact ⟨by omega, by omega⟩
  ·simp [Value.ownBlock] at hk; exact ⟨by omega, by omega⟩
  ·exfalso
   cases i <;> simp [Value.ownBlock] at hk
  ·simp [Value.ownBlock] at hk

def Leaves (A n : Nat) (S : Nat → Prop) (F : List Frm) (w w' : World) : Prop :=
 ∃ S', Sco w' A n S' F ∧ (∀ k, S' k → S k ∨ w.heap.size ≤ k) ∧ Mod S w w'

theorem Leaves.refl {A n : Nat} {S : Nat → Prop} {F : List Frm} {w : World} (h : Sco w A n S F) : Leaves A n S F w w := ⟨S, h, fun k hk => .inl hk, Mod.refl S w⟩

end Go.Proofs.YtlboejdhmggjpaaGreat.Sp

/- WsC -/
namespace Go.Proofs.YtlboejdhmggjpaaGreat.Sp
open Go.RowKit Go.BigFrame Go.ChangeMaps Go.WideMaps Go.Proofs.YtlboejdhmggjpaaGreat
set_option linter.unusedVariables false

def setF : Frm → ByteArray → Bool → Frm
  | [], x, t => [(x, t)]
  | p :: f, x, t => if p.1 = x then (p.1, t) :: f else p :: setF f x t
/-- Declare, in the innermost block. -/
def declare (F : List Frm) (x : ByteArray) (t : Bool) : List Frm := F.dropLast ++ [setF (F.getLastD []) x t]
theorem declare_snoc (G : List Frm) (f : Frm) (x : ByteArray) (t : Bool) : declare (G ++ [f]) x t = G ++ [setF f x t] := by simp [declare]

theorem look_setF_same : ∀ (f : Frm) (x : ByteArray) (t : Bool), look (setF f x t) x = some t
  | [], x, t => by simp [setF, look]
  | p :: f, x, t => by
    unfold setF
    split
    · rename_i h; simp [look, h]
    · rename_i h; simp [look, h, look_setF_same f x t]
theorem look_setF_other : ∀ (f : Frm) (x y : ByteArray) (t : Bool), y ≠ x → look (setF f x t) y = look f y
  | [], x, y, t, h => by simp [setF, look, Ne.symm h]
  | p :: f, x, y, t, h => by
    unfold setF
    split
    · rename_i hp
      unfold look
      simp only
      split
      · rename_i h2; exact absurd (h2.symm.trans hp) h
      · rfl
    · simp only [look]
      split
      · rfl
      · exact look_setF_other f x y t h
theorem names_setF_old : ∀ (f : Frm) (x : ByteArray) (t t0 : Bool), look f x = some t0 → names (setF f x t) = names f
  | [], x, t, t0, h => by simp [look] at h
  | p :: f, x, t, t0, h => by
    unfold setF
    split
    · rfl
    · rename_i hp
      unfold look at h
      rw [if_neg hp] at h
      have := names_setF_old f x t t0 h
      unfold names at *
      simpa using this
theorem setF_new : ∀ (f : Frm) (x : ByteArray) (t : Bool), look f x = none → setF f x t = f ++ [(x, t)]
  | [], x, t, _ => rfl
  | p :: f, x, t, h => by
    unfold look at h
    split at h
    · cases h
    · rename_i hp
      unfold setF
      rw [if_neg hp, setF_new f x t h]; rfl
theorem names_len (f : Frm) : (names f).length = f.length := by simp [names]
theorem setF_old_len (f : Frm) (x : ByteArray) (t t0 : Bool) (h : look f x = some t0) : (setF f x t).length = f.length := by
  rw [← names_len, names_setF_old f x t t0 h, names_len]

theorem flat2_len (l : List (Nat × Bool)) : (l.flatMap mcell).length = l.length * 2 := by
  induction l with
  | nil => rfl
  | cons p l ih => rw [List.flatMap_cons, List.length_append, ih]; simp [mcell]; omega
theorem flat2_set (l : List (Nat × Bool)) (p : Nat × Bool) (t : Bool) : ((l ++ [p]).flatMap mcell).set (((l ++ [p]).length - 1) * 2 + 1) (.bool t) = (l ++ [(p.1, t)]).flatMap mcell := by
  rw [List.flatMap_append, List.flatMap_append, List.length_append, List.length_singleton, Nat.add_sub_cancel, List.set_append_right _ _ (by rw [flat2_len]; omega), flat2_len, Nat.add_sub_cancel_left]
  rfl

theorem snoc_of_pos {α : Type} (l : List α) (h : 0 < l.length) : ∃ a b, l = a ++ [b] := by
  have hne : l ≠ [] := by intro e; rw [e] at h; simp at h
  exact ⟨l.dropLast, l.getLast hne, (List.dropLast_concat_getLast hne).symm⟩

theorem ScAt.AM {w : World} {A M n : Nat} {vB : Value} {vs : List Value} {mv : ByteArray → Value} {D : DataW Value} {F : List Frm} (h : ScAt w A M n vB vs mv D F) : A ≠ M := by
  rintro rfl
  obtain ⟨es, c, hb⟩ := ownsMap_heap h.mp
  rw [h.hd] at hb; cases hb

/-- The name is there: its last cell is set. -/
theorem decl_old_done {w : World} {A M n g cap : Nat} {vB : Value} {vs : List Value} {mv : ByteArray → Value} {D : DataW Value} {G : List Frm} {f : Frm} {S : Nat → Prop} {x : ByteArray} {t t0 : Bool} (h : ScAt w A M n vB vs mv D (G ++ [f])) (hS : ∀ k, foot A M vB vs mv k → S k) (hS2 : ∀ k, S k → k < w.heap.size)
    (hl : look f x = some t0) (hv : mv x = .slice (some ⟨g, 0, none⟩) (stk (G ++ [f]) x).length cap) :
    Leaves A (n + 1) S (G ++ [setF f x t]) w (w.setCell ⟨g, ((stk (G ++ [f]) x).length - 1) * 2 + 1, none⟩ (.bool t)) := by
  have hrow := h.mrow x
  have hgo : (mv x).ownBlock = some g := by rw [hv]; rfl
  have hgA : g ≠ A := fun e => row_ne_hd hrow h.hd (by decide) (by rw [hgo, e])
  have hgM : g ≠ M := fun e => by
    obtain ⟨es, c, hb⟩ := ownsMap_heap h.mp
    exact row_ne_map hrow hb (by rw [hgo, e])
  have hm : Mod (fun k => k = g) w (w.setCell ⟨g, ((stk (G ++ [f]) x).length - 1) * 2 + 1, none⟩ (.bool t)) := Mod.setCell (Mod.refl (fun k => k = g) w) _ (.inr rfl) _
  have hst : stk (G ++ [f]) x = stk G x ++ [(G.length + 1, t0)] := by rw [stk_snoc, hl]
  have hst' : stk (G ++ [setF f x t]) x = stk G x ++ [(G.length + 1, t)] := by rw [stk_snoc, look_setF_same]
  have hlen : (stk (G ++ [setF f x t]) x).length = (stk (G ++ [f]) x).length := by rw [hst, hst']; simp
  refine ⟨S, ⟨M, vB, vs, mv, D, ⟨hm.keep h.hd (fun e => hgA e.symm), (ownsMap_mod h.mp hm (fun e => hgM e.symm)).mono (by omega), h.key, fun y => ?_, ?_, fun i hi => ?_, h.dm, fun i j hi hj => ?_, by simp⟩, hS, fun k hk => by simpa using hS2 k hk⟩, fun k hk => .inl hk, hm.mono (fun k _ hk => by
    subst hk; exact hS _ (.inr (.inr (.inr (.inr ⟨x, hgo⟩)))))⟩
  · by_cases hyx : y = x
    · subst hyx
      rw [hv] at hrow ⊢
      have hs := hrow.stored (((stk (G ++ [f]) y).length - 1) * 2 + 1) (.bool t)
      rw [hlen]
      have e1 : ((stk (G ++ [f]) y).flatMap mcell).set (((stk (G ++ [f]) y).length - 1) * 2 + 1) (.bool t) = (stk (G ++ [setF f y t]) y).flatMap mcell := by
        rw [hst, hst']
        exact flat2_set _ _ _
      rw [e1] at hs
      exact hs.1
    · have hsame : stk (G ++ [setF f x t]) y = stk (G ++ [f]) y := by rw [stk_snoc, stk_snoc, look_setF_other _ _ _ _ hyx]
      rw [hsame]
      refine ownsRow_mod (h.mrow y) hm (fun k hk e => ?_)
      subst e
      rcases h.dm y x hyx with hd | hd
      · rw [hd] at hk; cases hk
      · exact hd (by rw [hk, hgo])
  · have := ownsRow_mod h.brow hm (fun k hk e => by subst e; exact row_ne hrow h.brow (by decide) _ hgo hk)
    simpa using this
  · have hi' : i < (G ++ [f]).length := by simpa using hi
    have hr := h.vrow i hi'
    have hn : names (G ++ [setF f x t])[i] = names (G ++ [f])[i] ∧ (G ++ [setF f x t])[i].length = (G ++ [f])[i].length := by
      by_cases hiG : i < G.length
      · rw [List.getElem_append_left hiG, List.getElem_append_left hiG]; exact ⟨rfl, rfl⟩
      · obtain rfl : i = G.length := by simp at hi; omega
        simp only [List.getElem_append_right (Nat.le_refl _), Nat.sub_self, List.getElem_cons_zero]
        exact ⟨names_setF_old f x t t0 hl, setF_old_len f x t t0 hl⟩
    rw [hn.1, hn.2]
    exact ownsRow_mod hr hm (fun k hk e => by subst e; exact row_ne hrow hr (by decide) _ hgo hk)
  · exact h.dv i j (by simpa using hi) (by simpa using hj)
end Go.Proofs.YtlboejdhmggjpaaGreat.Sp

/- WsD -/
namespace Go.Proofs.YtlboejdhmggjpaaGreat.Sp
open Go.RowKit Go.BigFrame Go.ChangeMaps Go.WideMaps Go.Proofs.YtlboejdhmggjpaaGreat
set_option linter.unusedVariables false

/-- What lies at a scope amid a call: what each name is, and each block's names, each for itself. -/
structure ScG (w : World) (A M n : Nat) (vB : Value) (vs : List Value) (mv : ByteArray → Value) (D : DataW Value) (st : ByteArray → List (Nat × Bool)) (ns : List (List Value)) : Prop where
  hd : w.heap[A]? = some (.cells #[.pointer (some ⟨A, 0, none⟩), .map (some M), vB] 66 (0, 0))
  mp : w.ownsMap Tryz.prog 9 rawR M n D
  key : ∀ x : ByteArray, x.size ≤ maxLen → D.atKey (.string x.data.toList) (.held nilS) = .held (mv x)
  mrow : ∀ x, w.ownsRow 0 89 2 (mv x) (st x).length ((st x).flatMap mcell)
  brow : w.ownsRow 0 90 1 vB ns.length vs
  vrow : ∀ i (h : i < ns.length), w.ownsRow 0 9 1 (vs.getD i nilS) ns[i].length ns[i]
  dm : ∀ x y, x ≠ y → (mv x).ownBlock = none ∨ (mv x).ownBlock ≠ (mv y).ownBlock
  dv : ∀ i j, i < ns.length → j < ns.length → i ≠ j → (vs.getD i nilS).ownBlock = none ∨ (vs.getD i nilS).ownBlock ≠ (vs.getD j nilS).ownBlock

section
variable {w : World} {A M n : Nat} {vB : Value} {vs : List Value} {mv : ByteArray → Value} {D : DataW Value} {F : List Frm} {st : ByteArray → List (Nat × Bool)} {ns : List (List Value)}
theorem ScAt.toG (h : ScAt w A M n vB vs mv D F) : ScG w A M n vB vs mv D (stk F) (F.map names) :=
  ⟨h.hd, h.mp, h.key, h.mrow, by simpa using h.brow, fun i hi => by
    have := h.vrow i (by simpa using hi)
    simpa [names_len] using this, h.dm, fun i j hi hj => h.dv i j (by simpa using hi) (by simpa using hj)⟩
theorem ScG.toAt (h : ScG w A M n vB vs mv D st ns) (h1 : ∀ x, st x = stk F x) (h2 : ns = F.map names) (h0 : 0 < F.length) : ScAt w A M n vB vs mv D F := by
  subst h2
  exact ⟨h.hd, h.mp, h.key, fun x => by rw [← h1 x]; exact h.mrow x, by simpa using h.brow, fun i hi => by
    have := h.vrow i (by simpa using hi)
    simpa [names_len] using this, h.dm, fun i j hi hj => h.dv i j (by simpa using hi) (by simpa using hj), h0⟩
theorem ScG.AM (h : ScG w A M n vB vs mv D st ns) : A ≠ M := by
  rintro rfl
  obtain ⟨es, c, hb⟩ := ownsMap_heap h.mp
  rw [h.hd] at hb; cases hb
theorem ScG.vs_len (h : ScG w A M n vB vs mv D st ns) : vs.length = ns.length := by
  have := h.brow.1; omega
theorem ScG.mv_ne (h : ScG w A M n vB vs mv D st ns) (x : ByteArray) (k : Nat) (hk : (mv x).ownBlock = some k) : k ≠ A ∧ k ≠ M ∧ vB.ownBlock ≠ some k ∧ ∀ i, (vs.getD i nilS).ownBlock ≠ some k := by
  refine ⟨fun e => row_ne_hd (h.mrow x) h.hd (by decide) (by rw [← e]; exact hk), fun e => ?_, row_ne (h.mrow x) h.brow (by decide) k hk, fun i => ?_⟩
  · obtain ⟨es, c, hb⟩ := ownsMap_heap h.mp
    exact row_ne_map (h.mrow x) hb (by rw [← e]; exact hk)
  · by_cases hi : i < ns.length
    · exact row_ne (h.mrow x) (h.vrow i hi) (by decide) k hk
    · rw [List.getD_eq_getElem?_getD, List.getElem?_eq_none (by rw [h.vs_len]; omega)]
      simp [Value.ownBlock]
theorem ScG.v_ne (h : ScG w A M n vB vs mv D st ns) (i : Nat) (hi : i < ns.length) (k : Nat) (hk : (vs.getD i nilS).ownBlock = some k) : k ≠ A ∧ k ≠ M ∧ vB.ownBlock ≠ some k ∧ ∀ x, (mv x).ownBlock ≠ some k := by
  refine ⟨fun e => row_ne_hd (h.vrow i hi) h.hd (by decide) (by rw [← e]; exact hk), fun e => ?_, row_ne (h.vrow i hi) h.brow (by decide) k hk, fun x => row_ne (h.vrow i hi) (h.mrow x) (by decide) k hk⟩
  obtain ⟨es, c, hb⟩ := ownsMap_heap h.mp
  exact row_ne_map (h.vrow i hi) hb (by rw [← e]; exact hk)
theorem ScG.B_ne (h : ScG w A M n vB vs mv D st ns) (k : Nat) (hk : vB.ownBlock = some k) : k ≠ A ∧ k ≠ M := by
  refine ⟨fun e => row_ne_hd h.brow h.hd (by decide) (by rw [← e]; exact hk), fun e => ?_⟩
  obtain ⟨es, c, hb⟩ := ownsMap_heap h.mp
  exact row_ne_map h.brow hb (by rw [← e]; exact hk)
theorem ScG.lt (h : ScG w A M n vB vs mv D st ns) : ∀ k, foot A M vB vs mv k → k < w.heap.size := by
  intro k hk
  rcases hk with rfl | rfl | hk | ⟨i, hk⟩ | ⟨x, hk⟩
  · exact (Array.getElem?_eq_some_iff.1 h.hd).1
  · exact h.mp.lt
  · exact (h.brow.lt k hk).2
  · by_cases hi : i < ns.length
    · exact ((h.vrow i hi).lt k hk).2
    · rw [List.getD_eq_getElem?_getD, List.getElem?_eq_none (by rw [h.vs_len]; omega)] at hk
      simp [Value.ownBlock] at hk
  · exact ((h.mrow x).lt k hk).2

def updV (mv : ByteArray → Value) (x : ByteArray) (v : Value) : ByteArray → Value := fun y => if y = x then v else mv y
def updS (st : ByteArray → List (Nat × Bool)) (x : ByteArray) (l : List (Nat × Bool)) : ByteArray → List (Nat × Bool) := fun y => if y = x then l else st y
theorem lit_ne {x y : ByteArray} (h : y ≠ x) : Lit.string y.data.toList ≠ Lit.string x.data.toList := by
  intro e
  simp only [Lit.string.injEq] at e
  exact h (ByteArray.ext (Array.toList_inj.1 e))

/-- A name's row is another one: the old one written on, or a new one. The map's world turns last. -/
theorem ScG.turn (h : ScG w A M n vB vs mv D st ns) {w2 w3 : World} {x : ByteArray} {v' : Value} {l' : List (Nat × Bool)} {D' : DataW Value} {n' : Nat} (hown : w2.ownsRow 0 89 2 v' l'.length (l'.flatMap mcell)) (hg : w.grownBy w2 (mv x).ownBlock)
    (hat : v'.ownBlock = (mv x).ownBlock ∨ v'.ownBlock = none ∨ ∃ g, v'.ownBlock = some g ∧ w.heap.size ≤ g) (hu : w3.ownsMap Tryz.prog 9 rawR M n' D') (hgu : w2.grownBy w3 (some M))
    (hk1 : x.size ≤ maxLen → D'.atKey (.string x.data.toList) (.held nilS) = .held v') (hk2 : ∀ y, y ≠ x → D'.atKey (.string y.data.toList) (.held nilS) = D.atKey (.string y.data.toList) (.held nilS)) :
    ScG w3 A M n' vB vs (updV mv x v') D' (updS st x l') ns ∧ Mod (fun k => (mv x).ownBlock = some k ∨ k = M) w w3 := by
  have hm2 : Mod (fun k => (mv x).ownBlock = some k ∨ k = M) w w2 := (Mod.of_grown hg).mono (fun k _ hk => .inl hk)
  have hm3 : Mod (fun k => k = M) w2 w3 := (Mod.of_grown hgu).mono (fun k _ hk => (Option.some.inj hk).symm)
  have hm : Mod (fun k => (mv x).ownBlock = some k ∨ k = M) w w3 := hm2.trans (hm3.mono (fun k _ hk => .inr hk))
  have hMlt := h.mp.lt
  have hvM : v'.ownBlock ≠ some M := by
    rcases hat with hat | hat | ⟨g, hat, hgs⟩
    · rw [hat]; intro e; exact (h.mv_ne x M e).2.1 rfl
    · rw [hat]; simp
    · rw [hat]; intro e; simp only [Option.some.injEq] at e; omega
  refine ⟨⟨hm.keep h.hd ?_, hu, fun y hy => ?_, fun y => ?_, ownsRow_mod h.brow hm ?_, fun i hi => ownsRow_mod (h.vrow i hi) hm ?_, fun y z hyz => ?_, h.dv⟩, hm⟩
  · rintro (e | e)
    · exact (h.mv_ne x A e).1 rfl
    · exact h.AM e
  · unfold updV
    by_cases hyx : y = x
    · rw [if_pos hyx, hyx]; exact hk1 (by rw [← hyx]; exact hy)
    · rw [if_neg hyx, hk2 y hyx]; exact h.key y hy
  · unfold updV updS
    by_cases hyx : y = x
    · rw [if_pos hyx, if_pos hyx]
      exact ownsRow_mod hown hm3 (fun k hk e => hvM (by rw [← e]; exact hk))
    · rw [if_neg hyx, if_neg hyx]
      refine ownsRow_mod (h.mrow y) hm (fun k hk => ?_)
      rintro (e | e)
      · rcases h.dm y x hyx with hd | hd
        · rw [hd] at hk; cases hk
        · exact hd (by rw [hk, e])
      · exact (h.mv_ne y k hk).2.1 e
  · intro k hk
    rintro (e | e)
    · exact (h.mv_ne x k e).2.2.1 hk
    · exact (h.B_ne k hk).2 e
  · intro k hk
    rintro (e | e)
    · exact (h.v_ne i hi k hk).2.2.2 x e
    · exact (h.v_ne i hi k hk).2.1 e
  · have hfresh : ∀ z, z ≠ x → v'.ownBlock = none ∨ v'.ownBlock ≠ (mv z).ownBlock := fun z hz => by
      rcases hat with hat | hat | ⟨g, hat, hgs⟩
      · rw [hat]; exact h.dm x z (Ne.symm hz)
      · exact .inl hat
      · refine .inr (fun e => ?_)
        have := h.lt g (.inr (.inr (.inr (.inr ⟨z, by rw [← e, hat]⟩))))
        omega
    unfold updV
    by_cases hyx : y = x
    · rw [if_pos hyx, if_neg (fun e => hyz (by rw [hyx, e]))]
      exact hfresh z (fun e => hyz (by rw [hyx, e]))
    · rw [if_neg hyx]
      by_cases hzx : z = x
      · rw [if_pos hzx]
        rcases hfresh y hyx with hf | hf
        · cases hq : (mv y).ownBlock with
          | none => exact .inl rfl
          | some k => exact .inr (by rw [hf]; simp)
        · exact .inr (Ne.symm hf)
      · rw [if_neg hzx]; exact h.dm y z hyz

/-- A block's row of names is another one, and the row of blocks bears it. -/
theorem ScG.turnV (h : ScG w A M n vB vs mv D st ns) {w2 : World} {i gB cap : Nat} {v' : Value} {l' : List Value} (hi : i < ns.length) (hvB : vB = .slice (some ⟨gB, 0, none⟩) ns.length cap) (hown : w2.ownsRow 0 9 1 v' l'.length l') (hg : w.grownBy w2 (vs.getD i nilS).ownBlock)
    (hat : v'.ownBlock = (vs.getD i nilS).ownBlock ∨ v'.ownBlock = none ∨ ∃ g, v'.ownBlock = some g ∧ w.heap.size ≤ g) :
    ScG (w2.setCell ⟨gB, i, none⟩ v') A M n vB (vs.set i v') mv D st (ns.set i l') ∧ Mod (fun k => (vs.getD i nilS).ownBlock = some k ∨ k = gB) w (w2.setCell ⟨gB, i, none⟩ v') := by
  have hBg : vB.ownBlock = some gB := by rw [hvB]; rfl
  have hm2 : Mod (fun k => (vs.getD i nilS).ownBlock = some k ∨ k = gB) w w2 := (Mod.of_grown hg).mono (fun k _ hk => .inl hk)
  have hm3 : Mod (fun k => k = gB) w2 (w2.setCell ⟨gB, i, none⟩ v') := Mod.setCell (Mod.refl (fun k => k = gB) w2) _ (.inr rfl) _
  have hm : Mod (fun k => (vs.getD i nilS).ownBlock = some k ∨ k = gB) w (w2.setCell ⟨gB, i, none⟩ v') := hm2.trans (hm3.mono (fun k _ hk => .inr hk))
  have hBlt := (h.brow.lt gB hBg).2
  have hB2 : w2.ownsRow 0 90 1 vB ns.length vs := ownsRow_mod h.brow (Mod.of_grown hg) (fun k hk e => (h.v_ne i hi k e).2.2.1 hk)
  have hil : i < vs.length := by rw [h.vs_len]; exact hi
  have hgetS : ∀ j, (vs.set i v').getD j nilS = if j = i then v' else vs.getD j nilS := fun j => by
    rw [List.getD_eq_getElem?_getD, List.getElem?_set]
    by_cases hj : i = j
    · subst hj; simp [hil]
    · rw [if_neg hj, if_neg (Ne.symm hj), List.getD_eq_getElem?_getD]
  have hvB' : v'.ownBlock ≠ some gB := by
    rcases hat with hat | hat | ⟨g, hat, hgs⟩
    · rw [hat]; intro e; exact (h.v_ne i hi gB e).2.2.1 hBg
    · rw [hat]; simp
    · rw [hat]; intro e; simp only [Option.some.injEq] at e; omega
  refine ⟨⟨hm.keep h.hd ?_, ownsMap_mod h.mp hm ?_, h.key, fun y => ownsRow_mod (h.mrow y) hm ?_, ?_, fun j hj => ?_, h.dm, fun a b ha hb hab => ?_⟩, hm⟩
  · rintro (e | e)
    · exact (h.v_ne i hi A e).1 rfl
    · exact (h.B_ne gB hBg).1 e.symm
  · rintro (e | e)
    · exact (h.v_ne i hi M e).2.1 rfl
    · exact (h.B_ne gB hBg).2 e.symm
  · intro k hk
    rintro (e | e)
    · exact (h.mv_ne y k hk).2.2.2 i e
    · exact (h.mv_ne y k hk).2.2.1 (by rw [e]; exact hBg)
  · rw [List.length_set]
    rw [hvB] at hB2 ⊢
    exact (hB2.stored i v').1
  · rw [List.length_set] at hj
    rw [hgetS]
    by_cases hji : j = i
    · subst hji
      rw [if_pos rfl, List.getElem_set_self]
      exact ownsRow_mod hown hm3 (fun k hk e => hvB' (by rw [← e]; exact hk))
    · rw [if_neg hji, List.getElem_set_ne (Ne.symm hji)]
      refine ownsRow_mod (h.vrow j hj) hm (fun k hk => ?_)
      rintro (e | e)
      · rcases h.dv j i hj hi hji with hd | hd
        · rw [hd] at hk; cases hk
        · exact hd (by rw [hk, e])
      · exact (h.v_ne j hj k hk).2.2.1 (by rw [e]; exact hBg)
  · rw [List.length_set] at ha hb
    have hfresh : ∀ z, z < ns.length → z ≠ i → v'.ownBlock = none ∨ v'.ownBlock ≠ (vs.getD z nilS).ownBlock := fun z hz hzi => by
      rcases hat with hat | hat | ⟨g, hat, hgs⟩
      · rw [hat]; exact h.dv i z hi hz (Ne.symm hzi)
      · exact .inl hat
      · refine .inr (fun e => ?_)
        have := h.lt g (.inr (.inr (.inr (.inl ⟨z, by rw [← e, hat]⟩))))
        omega
    rw [hgetS, hgetS]
    by_cases hai : a = i
    · rw [if_pos hai, if_neg (fun e => hab (by rw [hai, e]))]
      exact hfresh b hb (fun e => hab (by rw [hai, e]))
    · rw [if_neg hai]
      by_cases hbi : b = i
      · rw [if_pos hbi]
        rcases hfresh a ha hai with hf | hf
        · cases hq : (vs.getD a nilS).ownBlock with
          | none => exact .inl rfl
          | some k => exact .inr (by rw [hf]; simp)
        · exact .inr (Ne.symm hf)
      · rw [if_neg hbi]; exact h.dv a b ha hb hab
end
end Go.Proofs.YtlboejdhmggjpaaGreat.Sp

/- WsE -/
namespace Go.Proofs.YtlboejdhmggjpaaGreat.Sp
open Go.RowKit Go.BigFrame Go.ChangeMaps Go.WideMaps Go.Proofs.YtlboejdhmggjpaaGreat
set_option linter.unusedVariables false

theorem infoMe : (Tryz.prog.info? 89).map (fun i => (i.zero, i.size, i.bytes)) = some (some (.agg #[.int .i64 0, .bool false]), 2, 16) := by kernel_rfl
theorem infoSt : (Tryz.prog.info? 9).map (fun i => (i.zero, i.size, i.bytes)) = some (some (.string ⟨#[]⟩), 1, 16) := by kernel_rfl

theorem top_block {F : List Frm} {G : List Frm} {f : Frm} {x : ByteArray} (h : F = G ++ [f]) : (∃ t0, look f x = some t0 ∧ 0 < (stk F x).length ∧ ∀ hh : (stk F x).length - 1 < (stk F x).length, ((stk F x)[(stk F x).length - 1]'hh).1 = F.length) ∨
    (look f x = none ∧ stk F x = stk G x ∧ ((stk F x).length = 0 ∨ ∃ b : Nat, b ≠ F.length ∧ ∀ hh : (stk F x).length - 1 < (stk F x).length, ((stk F x)[(stk F x).length - 1]'hh).1 = b)) := by
  subst h
  cases hl : look f x with
  | some t0 =>
    left
    have hs : stk (G ++ [f]) x = stk G x ++ [(G.length + 1, t0)] := by rw [stk_snoc, hl]
    refine ⟨t0, rfl, by rw [hs]; simp, fun hh => ?_⟩
    simp only [hs]
    simp
  | none =>
    right
    have hs : stk (G ++ [f]) x = stk G x := by rw [stk_snoc, hl]; simp
    refine ⟨rfl, hs, ?_⟩
    rw [hs]
    by_cases h0 : (stk G x).length = 0
    · exact .inl h0
    · right
      refine ⟨((stk G x)[(stk G x).length - 1]'(by omega)).1, ?_, fun hh => rfl⟩
      have := (stkFrom_lt x 1 G _ (List.getElem_mem (l := stk G x) (n := (stk G x).length - 1) (by omega))).2
      intro e
      have e2 : (G ++ [f]).length = G.length + 1 := by simp
      rw [e2] at e
      omega

theorem str_empty {x : ByteArray} (h : x.size = 0) : x = ⟨#[]⟩ := by
  obtain ⟨d⟩ := x
  have : d = #[] := Array.eq_empty_of_size_eq_zero h
  rw [this]

theorem str_some {x : ByteArray} (h : x.size ≠ 0) : x.toList.isEmpty = false := by
  rw [Lib.toList_data]
  cases hq : x.data.toList with
  | nil =>
    exfalso
    apply h
    show x.data.size = 0
    rw [← Array.length_toList, hq]; rfl
  | cons a l => rfl

set_option maxRecDepth 100000 in
set_option maxHeartbeats 1000000 in
theorem Sc.declare_empty (A n : Nat) (S : Nat → Prop) (F : List Frm) (t : Bool) (w : World) (h : Sco w A n S F) :
    Calls Tryz.prog 17 #[.pointer (some ⟨A, 0, none⟩), .string ⟨#[]⟩, .bool t] w fun e w' => e = .returned (.int .i64 100) ∧ w' = w := by
  obtain ⟨M, vB, vs, mv, D, h, h2, h3⟩ := h
  have HD := Lib.hid h.hd
  clear h h2 h3
  go_enter Tryz.func17, Tryz.ntmps17
  go_wp2_with fail
  refine (Sc.made A w _ _ HD.out).mono ?_
  rintro e w1 ⟨rfl, rfl⟩
  go_wp2_with fail
  go_ret
  exact ⟨rfl, rfl⟩

set_option maxRecDepth 100000 in
set_option maxHeartbeats 1000000 in
theorem Sc.declare_old (A n : Nat) (S : Nat → Prop) (G : List Frm) (f : Frm) (x : ByteArray) (t t0 : Bool) (w : World) (h : Sco w A n S (G ++ [f])) (hx0 : x.size ≠ 0) (hx : x.size ≤ maxLen) (hF : (G ++ [f]).length ≤ 65536) (hl : look f x = some t0) :
    Calls Tryz.prog 17 #[.pointer (some ⟨A, 0, none⟩), .string x, .bool t] w fun e w' => e = .returned (.int .i64 0) ∧ Leaves A (n + 1) S (G ++ [setF f x t]) w w' := by
  obtain ⟨M, vB, vs, mv, D, h, h2, h3⟩ := h
  obtain ⟨c0, c1, c2⟩ := h.cells
  have HD := Lib.hid h.hd
  have hlk := h.lookup x hx
  have hrow := h.mrow x
  have hsl : (stk (G ++ [f]) x).length ≤ (G ++ [f]).length := stkFrom_len x 1 (G ++ [f])
  obtain ⟨t1, _, h0, htop⟩ : ∃ t1, look f x = some t1 ∧ 0 < (stk (G ++ [f]) x).length ∧ ∀ hh : (stk (G ++ [f]) x).length - 1 < (stk (G ++ [f]) x).length, ((stk (G ++ [f]) x)[(stk (G ++ [f]) x).length - 1]'hh).1 = (G ++ [f]).length := by
    rcases top_block (x := x) (rfl : G ++ [f] = G ++ [f]) with hq | ⟨hn, _⟩
    · exact hq
    · rw [hl] at hn; cases hn
  obtain ⟨g, cap, hv, hg, k0, k1⟩ := row_top hrow h0
  rw [htop (by omega)] at k0
  have hdone := decl_old_done (t := t) h h2 h3 hl hv
  have HDN := Lib.hid hdone
  have hfz : w.frozen? ⟨g, ((stk (G ++ [f]) x).length - 1) * 2 + 1, none⟩ = false := by rw [hv] at hrow; exact hrow.frozenAt _
  obtain ⟨a, cB, hvB⟩ := row_shape h.brow
  rw [hvB] at c2
  rw [hv] at hlk
  have hne := str_some hx0
  clear h h2 h3 hrow hdone hv htop hvB hl
  generalize stk (G ++ [f]) x = l at *
  generalize l[l.length - 1].2 = told at k1
  generalize (G ++ [f]).length = N at *
  have i0 : ((l.length : Int) - 1).toNat = l.length - 1 := by omega
  have i1 : (0 : Int) ≤ (l.length : Int) - 1 := by omega
  have i2 : ((l.length : Int) - 1) < (l.length : Int) := by omega
  have i3 : (l.length : Int) ≤ 65536 := by omega
  go_enter Tryz.func17, Tryz.ntmps17
  go_wp2_with fail
  refine (Sc.made A w _ _ HD.out).mono ?_
  rintro e w1 ⟨rfl, rfl⟩
  go_wp2_with fail
  go_ret
  exact ⟨rfl, HDN.out⟩
end Go.Proofs.YtlboejdhmggjpaaGreat.Sp

/- A drawn region in a round: a head whose operations make memory, each walked once, and a forced tail. -/
import Derived.Test.YtlboejdhmggjpaaGreatMon
import Derived.Test.YtlboejdhmggjpaaGreatTal
import Derived.RangeFuncWrites
import Derived.RangeFuncLeaves
import Derived.RangeFuncRecord
import Derived.Laws.CopyRow
import Derived.Laws.MakeOwn
set_option linter.all false
namespace Go.Proofs.YtlboejdhmggjpaaGreat
open Go Go.RowKit

section
variable {P : Program} {Q : Exit → Act → World → Prop}

theorem wpAny_each_tail {a0 : Act} {W : World} {l : List Oper} (n : Nat) (S : Nat → Value → World → Prop) (hB : (headTailB l n && monB (l.take n)) = true)
  (hmono : ∀ i v w w', Below w.heap.size w w' → S i v w → S i v w')
  (hstep : ∀ i o, (l.take n)[i]? = some o → ∀ (v : Nat → Value) w, Below W.heap.size W w → (∀ j, (depsOf (l.take n) i).contains j = true → S j (v j) w) →
   ∀ K : Act → World → Prop, (∀ u w', S i u w' → Below w.heap.size w w' → K ((putAll v 0 (l.take n) a0).put o.dst u) w') → wpList P (l.take n).toArray (fun e a' w' => e = .normal ∧ K a' w') [o] (putAll v 0 (l.take n) a0) w)
  (hQ : ∀ (v : Nat → Value) w, Below W.heap.size W w → (∀ i, i < (l.take n).length → S i (v i) w) → wpList P l.toArray Q (l.drop n) (putAll v 0 (l.take n) a0) w) : wpAny P .any l.toArray Q l.toArray.size (Array.replicate l.toArray.size false) a0 (World.drew W) := by
 rw [Bool.and_eq_true] at hB
 obtain ⟨hB1, hmon⟩ := hB
 simp only [headTailB, Bool.and_eq_true, decide_eq_true_eq] at hB1
 obtain ⟨⟨⟨⟨h1, h2⟩, h3⟩, h4⟩, h6⟩ := hB1
 have hln : (l.take n).length = n := by simp; omega
 have hany := wpAny_mono (P := P) (Q := fun e a' w' => e = .normal ∧ wpList P l.toArray Q (l.drop n) a' w') (W := W) (a0 := a0) S hmon hmono (fun i hi v w hb hd => by
   have ho : (l.take n)[i]? = some (l.take n)[i] := List.getElem?_eq_getElem hi
   exact wpOp_of_list (o := (l.take n)[i]) (by rw [List.getElem?_toArray]; exact ho) (hstep i (l.take n)[i] ho v w hb (fun j hj => hd j (by simpa using hj)) (fun a' w' => ∃ u, a' = (putAll v 0 (l.take n) a0).put (dstOf (l.take n) i) u ∧ S i u w' ∧ Below w.heap.size w w')
    (fun u w' hS hB => ⟨u, by rw [show dstOf (l.take n) i = (l.take n)[i].dst from by unfold dstOf; rw [ho]], hS, hB⟩))) (fun v w hb hS => ⟨rfl, hQ v w hb hS⟩)
 have := wpAny_split (P := P) (md := .any) (Q := Q) (g := l.length - n) h1 h2 h3 h4 (Qh := fun e a' w' => e = .normal ∧ wpList P l.toArray Q (l.drop n) a' w') (fun e a w he hh => absurd hh.1 he)
  (fun a' w' hh => by
   have := wpAny_of_seq (md := .any) (P := P) (Q' := Q) (l.drop n) n (fullB l n) a' w' (fun j => by simp [List.getElem?_drop]) (by simpa using h6) hh.2
   simpa using this)
  _ (Array.replicate l.length false) (Array.replicate (l.take n).toArray.size false) a0 _
  ⟨by simp, by simpa using hln, fun i hi => by rw [getD_replicate_false, getD_replicate_false],
   ⟨by simp, fun j oj _ hl => (by rw [getD_replicate_false] at hl; cases hl), fun t _ ht => getD_in (by simpa using ht) (getD_replicate_false _ _)⟩⟩ hany
 rw [List.size_toArray, hln] at this
 rw [show n + (l.length - n) = l.length from by omega] at this
 simpa using this
theorem wpIn_region_each_tail {id r m : Nat} {a0 : Act} {W : World} {l : List Oper} (n : Nat) (S : Nat → Value → World → Prop) (hm : P.follows .mixedOrders = true) (hB : (headTailB l n && monB (l.take n)) = true) (hD : noDeferB l = true)
  (hmono : ∀ i v w w', Below w.heap.size w w' → S i v w → S i v w')
  (hstep : ∀ i o, (l.take n)[i]? = some o → ∀ (v : Nat → Value) w, Below W.heap.size W w → (∀ j, (depsOf (l.take n) i).contains j = true → S j (v j) w) →
   ∀ K : Act → World → Prop, (∀ u w', S i u w' → Below w.heap.size w w' → K ((putAll v 0 (l.take n) a0).put o.dst u) w') → wpList P (l.take n).toArray (fun e a' w' => e = .normal ∧ K a' w') [o] (putAll v 0 (l.take n) a0) w)
  (hQ : ∀ (v : Nat → Value) w, Below W.heap.size W w → (∀ i, i < (l.take n).length → S i (v i) w) → wpList P l.toArray (NoOut Q) (l.drop n) (putAll v 0 (l.take n) a0) w) : (Code.region id l.toArray true).wpIn (Fence.wide.inRound r) m P Q a0 W :=
 wpIn_region_any hm (wpAnyIn_of_any hD _ _ _ _ (wpAny_each_tail n S hB hmono hstep hQ))
end
end Go.Proofs.YtlboejdhmggjpaaGreat

/- Rfg -/
namespace Go.Proofs.YtlboejdhmggjpaaGreat
open Go.RowKit
variable {F : Fence} {n : Nat} {P : Program}

def nc (w : World) (k : Nat) : Prop := ∃ o, w.heap[k]? = some o ∧ o.isCells = false
def SeqG {α : Type} (F : Fence) (n : Nat) (P : Program) (g : Nat) (lb : Array Value) (encs : α → Array Value) (Kp : World → World → Prop) (Ok : List α → α → Prop) (X : Nat → Prop) (S Sp : List α → Prop) (w : World) : Prop :=
 ∀ (l : Nat) (J Jx : List α → World → Prop) (W : World), Below w.heap.size w W → (∀ s A B, J s A → Mod (fun k => X k ∨ (W.heap.size ≤ k ∧ nc A k)) A B → J s B) → (∀ s A B, Jx s A → Mod (fun k => X k ∨ (W.heap.size ≤ k ∧ nc A k)) A B → Jx s B) →
  (∀ pre x W1, J pre W1 → Ok pre x → YieldAt F (n - 1) P l (encs x) W1 fun e W' => (e = .returned (.bool true) ∧ J (pre ++ [x]) W' ∧ Kp W1 W') ∨ (e = .returned (.bool false) ∧ Jx (pre ++ [x]) W')) → J [] W →
  CallsIn F n P g (#[.func (.yield l) #[] #[]] ++ lb) W fun e W' => (∃ v, e = .returned v) ∧ ((∃ xs, S xs ∧ J xs W') ∨ (∃ pre, Sp pre ∧ Jx pre W'))

theorem wpIn_rangeFunc_gen {α : Type} {g : Operand} {ps : Array Tmp} {assign body : Code} {Q : Exit → Act → World → Prop} {a : Act} {w : World}
    (hro : F.round = none) (h1 : 1 ≤ n) {gf : Nat} {lb : Array Value} (hg : a.eval g = .func (.func gf) #[] lb) (hFg : F.fn gf) (eg : ∀ args w, (callFunc gf args).run P w = .ok (.enter gf args) w)
    {encs : α → Array Value} {Kp : World → World → Prop} {Ok : List α → α → Prop} {X : Nat → Prop} {S Sp : List α → Prop} {w0 : World} (hseq : SeqG F (n - 1) P gf lb encs Kp Ok X S Sp w0) (hX : ∀ k, X k → k < w.heap.size)
    (hKt : ∀ {A B C : World}, Kp A B → Kp B C → Kp A C) (hKb : ∀ (W : World) (l : Nat) (o o' : Obj), w.heap.size ≤ l → W.heap[l]? = some o → o.isCells = false → o.isWalk = false → Kp W (W.putObj l o')) (hb0 : Below w0.heap.size w0 w) (hps : ∀ x, (encs x).size = ps.size)
    (I : List α → World → Prop) (Ix : Code → List α → World → Prop) (hI : ∀ s A B, I s A → Mod (fun k => X k ∨ (w.heap.size ≤ k ∧ nc A k)) A B → I s B) (hIx : ∀ c s A B, Ix c s A → Mod (fun k => X k ∨ (w.heap.size ≤ k ∧ nc A k)) A B → Ix c s B) (h0 : I [] w) (a₁ : α → Act)
    (hassign : ∀ (l : Nat) (x : α) (W : World) (K : Act → World → Prop), K (a₁ x) W →
      assign.wpIn (F.inRound l) (n - 1 - 1) P (Exit.then K (fun _ _ _ => False)) { tmps := (ps.zip (encs x)).foldl (fun t (p, v) => t.setIfInBounds p v) a.tmps, defers := [] } W)
    (hbody : ∀ (l : Nat) (pre : List α) (x : α) (W : World), I pre W → Ok pre x → body.wpIn (F.inRound l) (n - 1 - 1) P (ownPostG w.heap.size Kp I Ix (pre ++ [x]) W) (a₁ x) W)
    (hdone : ∀ (D : Nat) (xs : List α) (W : World), w.heap.size ≤ D → S xs → I xs W → W.heap[D]? = some (.deferred (some [])) → Q .normal { a with defers := { target := .collected D, args := #[] } :: a.defers } W)
    (hstop : ∀ (D : Nat) (c : Code) (pre : List α) (W : World), w.heap.size ≤ D → Sp pre → Ix c pre W → W.heap[D]? = some (.deferred (some [])) → c.wpIn F n P Q { a with defers := { target := .collected D, args := #[] } :: a.defers } W) :
    (Code.rangeFunc g ps assign body).wpIn F n P Q a w := by
  refine wpIn_rangeFunc fun fn hfn => ?_
  rw [hro]
  let L : LoopState → Option Code → Obj := fun st c => .loop { state := st, pending := c, fn, tmps := a.tmps, params := ps, assign, body, defers := w.heap.size }
  obtain ⟨V, hV⟩ : ∃ V, V = (w.alloc (.deferred (some []))).alloc (L .ready none) := ⟨_, rfl⟩
  have hVs : V.heap.size = w.heap.size + 2 := by rw [hV]; simp
  have hl0 : V.heap[w.heap.size + 1]? = some (L .ready none) := by
    rw [hV]; have := World.alloc_heap_new (w.alloc (.deferred (some []))) (L .ready none); rwa [World.size_alloc] at this
  have hd0 : V.heap[w.heap.size]? = some (.deferred (some [])) := by
    rw [hV]; exact (Below.heap_alloc _ _ _ (by simp)).trans (World.alloc_heap_new w _)
  have hwV : Below w.heap.size w V := by rw [hV]; exact ((Below.refl _ w).alloc (Nat.le_refl _) _).alloc (by simp) _
  have hi0 : I [] V := hI _ _ _ h0 (Mod.of_below hwV)
  have hput : ∀ {s : List α} {A : World} {l : Nat} {o0 : Obj} (o : Obj), I s A → A.heap[l]? = some o0 → o0.isCells = false → w.heap.size ≤ l → I s (A.putObj l o) := fun {s A l o0} o hi h0 h1 hl =>
    hI s A _ hi ⟨rfl, rfl, rfl, by simp, fun k hk hn => World.putObj_heap_other (fun e => hn (.inr (by subst e; exact ⟨hl, o0, h0, h1⟩)))⟩
  have hputx : ∀ {c : Code} {s : List α} {A : World} {l : Nat} {o0 : Obj} (o : Obj), Ix c s A → A.heap[l]? = some o0 → o0.isCells = false → w.heap.size ≤ l → Ix c s (A.putObj l o) := fun {c s A l o0} o hi h0 h1 hl =>
    hIx c s A _ hi ⟨rfl, rfl, rfl, by simp, fun k hk hn => World.putObj_heap_other (fun e => hn (.inr (by subst e; exact ⟨hl, o0, h0, h1⟩)))⟩
  refine ⟨w.heap.size + 1, [{ target := .collected w.heap.size, args := #[] }], V, { target := .fn (.func gf) lb, args := #[.func (.yield (w.heap.size + 1)) #[] #[]] }, V, gf,
    #[.func (.yield (w.heap.size + 1)) #[] #[]] ++ lb, V, by rw [hV]; exact run_enterLoop_outer _ _ _ _ _, by simp only [resolve, hg]; simp [go_sem], fun f' hf' => by simp [Target.leads] at hf'; subst hf'; exact hFg, by simp [invoke, go_sem, eg], fun _ => h1, ?_⟩
  let J : List α → World → Prop := fun pre W => I pre W ∧ W.heap[w.heap.size + 1]? = some (L .ready none) ∧ W.heap[w.heap.size]? = some (.deferred (some []))
  let Jx : List α → World → Prop := fun pre W => ∃ c, Ix c pre W ∧ W.heap[w.heap.size + 1]? = some (L .done (some c)) ∧ W.heap[w.heap.size]? = some (.deferred (some []))
  have hkeep : ∀ {A B : World} {k : Nat} {o : Obj}, Mod (fun k => X k ∨ (V.heap.size ≤ k ∧ nc A k)) A B → A.heap[k]? = some o → w.heap.size ≤ k → k < w.heap.size + 2 → B.heap[k]? = some o := fun hm ho h1 h2 =>
    hm.keep ho (fun e => by
      rcases e with e | e
      · have := hX _ e; omega
      · omega)
  have hsub : ∀ {A B : World}, Mod (fun k => X k ∨ (V.heap.size ≤ k ∧ nc A k)) A B → Mod (fun k => X k ∨ (w.heap.size ≤ k ∧ nc A k)) A B := fun hm => hm.mono (fun k _ hk => by
    rcases hk with hk | hk
    · exact .inl hk
    · exact .inr ⟨by omega, hk.2⟩)
  have hJ : ∀ s A B, J s A → Mod (fun k => X k ∨ (V.heap.size ≤ k ∧ nc A k)) A B → J s B := fun s A B hs hm =>
    ⟨hI s A B hs.1 (hsub hm), hkeep hm hs.2.1 (by omega) (by omega), hkeep hm hs.2.2 (by omega) (by omega)⟩
  have hJx : ∀ s A B, Jx s A → Mod (fun k => X k ∨ (V.heap.size ≤ k ∧ nc A k)) A B → Jx s B := fun s A B ⟨c, h1, h2, h3⟩ hm =>
    ⟨c, hIx c s A B h1 (hsub hm), hkeep hm h2 (by omega) (by omega), hkeep hm h3 (by omega) (by omega)⟩
  refine (hseq (w.heap.size + 1) J Jx V (hb0.trans (hwV.mono hb0.size)) hJ hJx ?_ ⟨hi0, hl0, hd0⟩).mono ?_
  · rintro pre x W ⟨hi, hl, hk⟩ hok
    have hlt : w.heap.size + 1 < W.heap.size := (Array.getElem?_eq_some_iff.1 hl).1
    refine ⟨fn, _, assign, body, run_yield (P := P) (args := encs x) hl (hps x), roundIn_of_wpIn hfn (hassign _ x W _ ⟨_, run_beginRound hl rfl, ?_⟩)⟩
    have hl2 : (W.putObj (w.heap.size + 1) (L .busy none)).heap[w.heap.size + 1]? = some (L .busy none) := World.putObj_heap_same hlt
    have hk2 : (W.putObj (w.heap.size + 1) (L .busy none)).heap[w.heap.size]? = some (.deferred (some [])) := (World.putObj_heap_other (by omega)).trans hk
    refine wpIn_mono (hbody _ pre x _ (hput _ hi hl rfl (by omega)) hok) ?_
    have fin : ∀ {W3 : World}, KeepsFrom w.heap.size (W.putObj (w.heap.size + 1) (L .busy none)) W3 → W3.heap[w.heap.size + 1]? = some (L .busy none) ∧ W3.heap[w.heap.size]? = some (.deferred (some [])) := fun hk3 =>
      ⟨hk3.same _ _ (by omega) hl2 rfl, hk3.same _ _ (Nat.le_refl _) hk2 rfl⟩
    rintro e a3 W3 hp
    have out : ∀ (c : Code), KeepsFrom w.heap.size (W.putObj (w.heap.size + 1) (L .busy none)) W3 → Ix c (pre ++ [x]) W3 → Jx (pre ++ [x]) (W3.putObj (w.heap.size + 1) (L .done (some c))) := fun c h1 h2 => by
      obtain ⟨hl3, hk3⟩ := fin h1
      exact ⟨c, hputx _ h2 hl3 rfl (by omega), World.putObj_heap_same (Array.getElem?_eq_some_iff.1 hl3).1, (World.putObj_heap_other (by omega)).trans hk3⟩
    cases e with
    | normal =>
      obtain ⟨hk3, hkp, hi3⟩ := hp
      obtain ⟨hl3, hd3⟩ := fin hk3
      refine ⟨_, _, run_endRound (P := P) none hl3, .inl ⟨rfl, ⟨hput _ hi3 hl3 rfl (by omega), World.putObj_heap_same (Array.getElem?_eq_some_iff.1 hl3).1, (World.putObj_heap_other (by omega)).trans hd3⟩, ?_⟩⟩
      exact hKt (hKt (hKb _ _ _ _ (by omega) hl rfl rfl) hkp) (hKb _ _ _ _ (by omega) hl3 rfl rfl)
    | ret => exact ⟨_, _, run_endRound (P := P) (some .ret) (fin hp.1).1, .inr ⟨rfl, out _ hp.1 hp.2⟩⟩
    | exit id => exact ⟨_, _, run_endRound (P := P) (some (.exit id)) (fin hp.1).1, .inr ⟨rfl, out _ hp.1 hp.2⟩⟩
    | goto t => exact ⟨_, _, run_endRound (P := P) (some (.goto t)) (fin hp.1).1, .inr ⟨rfl, out _ hp.1 hp.2⟩⟩
    | panic ch => exact hp.elim
    | outgrown => exact hp.elim
  · rintro e W2 ⟨⟨v, rfl⟩, (⟨xs, hS, hi, hl, hk⟩ | ⟨pre, hSp, c, hi, hl, hk⟩)⟩
    · exact ⟨none, _, run_endLoop (P := P) hl (by simp), hdone _ xs _ (Nat.le_refl _) hS (hput _ hi hl rfl (by omega)) ((World.putObj_heap_other (by omega)).trans hk)⟩
    · exact ⟨some c, _, run_endLoop (P := P) hl (by simp), hstop _ c pre _ (Nat.le_refl _) hSp (hputx _ hi hl rfl (by omega)) ((World.putObj_heap_other (by omega)).trans hk)⟩
end Go.Proofs.YtlboejdhmggjpaaGreat

/- Dfs -/
namespace Go.Proofs.YtlboejdhmggjpaaGreat
open Go.RowKit
variable {F : Fence} {n : Nat} {P : Program}

def markD (D : Nat) : Deferred := { target := .collected D, args := #[] }
def Marks (b : Nat) (w : World) (ds : List Deferred) : Prop := ∃ Ds : List Nat, ds = Ds.map markD ∧ Ds.Nodup ∧ ∀ D ∈ Ds, b ≤ D ∧ w.heap[D]? = some (.deferred (some []))
theorem Marks.nil (b : Nat) (w : World) : Marks b w [] := ⟨[], rfl, List.nodup_nil, fun D h => by simp at h⟩
theorem Marks.mod {b : Nat} {w w' : World} {ds : List Deferred} (h : Marks b w ds) (hk : ∀ D : Nat, w.heap[D]? = some (.deferred (some [])) → w'.heap[D]? = some (.deferred (some []))) : Marks b w' ds := by
 obtain ⟨Ds, h1, h2, h3⟩ := h
 exact ⟨Ds, h1, h2, fun D hD => ⟨(h3 D hD).1, hk D (h3 D hD).2⟩⟩
theorem Marks.push {b D : Nat} {w w' : World} {ds : List Deferred} (h : Marks b w ds) (hk : ∀ D : Nat, w.heap[D]? = some (.deferred (some [])) → w'.heap[D]? = some (.deferred (some []))) (hb : b ≤ D) (hD : w'.heap[D]? = some (.deferred (some []))) (hw : w.heap.size ≤ D) : Marks b w' (markD D :: ds) := by
 obtain ⟨Ds, h1, h2, h3⟩ := h
 refine ⟨D :: Ds, by rw [h1]; rfl, List.nodup_cons.2 ⟨fun e => ?_, h2⟩, fun D' hD' => ?_⟩
 ·have := (Array.getElem?_eq_some_iff.1 (h3 D e).2).1
  omega
 ·rcases List.mem_cons.1 hD' with rfl | hD'
  ·exact ⟨hb, hD⟩
  ·exact ⟨(h3 D' hD').1, hk D' (h3 D' hD').2⟩
theorem leaves_marks {fn : Func} {tmps : Array Value} {R : Ending → World → Prop} {u : FrameMode} (hu : u ≠ .run) {b : Nat} : ∀ (ds : List Deferred) (w : World), Marks b w ds →
  (∀ w', Mod (fun k => b ≤ k ∧ nc w k) w w' → LeavesInM F n P fn tmps R [] u w') → LeavesInM F n P fn tmps R ds u w := by
 suffices H : ∀ (Ds : List Nat) (w : World), Ds.Nodup → (∀ D ∈ Ds, b ≤ D ∧ w.heap[D]? = some (.deferred (some []))) → (∀ w', Mod (fun k => b ≤ k ∧ nc w k) w w' → LeavesInM F n P fn tmps R [] u w') → LeavesInM F n P fn tmps R (Ds.map markD) u w by
  rintro ds w ⟨Ds, rfl, h2, h3⟩ h
  exact H Ds w h2 h3 h
 intro Ds
 induction Ds with
 | nil => exact fun w _ _ h => h w (Mod.refl _ _)
 | cons D Ds ih =>
  intro w hn hall h
  obtain ⟨hnot, hn2⟩ := List.nodup_cons.1 hn
  have hD := hall D (by simp)
  refine ⟨hu, .inl ⟨D, w.putObj D (.deferred none), rfl, run_takeDeferred hD.2, ih _ hn2 (fun D' hD' => ?_) (fun w' hm => h w' ?_)⟩⟩
  ·have := hall D' (by simp [hD'])
   refine ⟨this.1, ?_⟩
   rw [World.putObj_heap_other (fun e => by subst e; exact hnot hD')]
   exact this.2
  ·have hlt := (Array.getElem?_eq_some_iff.1 hD.2).1
   have h1 : Mod (fun k => b ≤ k ∧ nc w k) w (w.putObj D (.deferred none)) := ⟨rfl, rfl, rfl, by simp, fun k hk hs => World.putObj_heap_other (fun e => hs (by subst e; exact ⟨hD.1, _, hD.2, rfl⟩))⟩
   refine h1.trans (hm.mono fun k hk hs => ⟨hs.1, ?_⟩)
   by_cases e : k = D
   ·subst e; exact ⟨_, hD.2, rfl⟩
   ·obtain ⟨o, ho, hc⟩ := hs.2
    rw [World.putObj_heap_other e] at ho
    exact ⟨o, ho, hc⟩

theorem run_storeVar_row (w : World) (ty : TypeId) (g o : Nat) (vs : List Value) (cur : Array Value) (t : TypeId) (hg : w.heap[g]? = some (.cells cur t (0, 0))) (hl : o + vs.length ≤ cur.size) (h1 : ∀ v ∈ vs, v.oneCell' = true) (hi : (P.info? ty).map (·.size) = some vs.length) :
  (storeVar ty ⟨g, o, none⟩ (.agg vs.toArray)).run P w = .ok () (w.setRow g (cur.toList.take o ++ vs ++ cur.toList.drop (o + vs.length)).toArray) := by
 have hst := run_storeCells_at P g o t vs 0 cur w hg (by simpa using hl) h1
 cases hq : P.info? ty with
 | none => simp [hq] at hi
 | some i =>
  have hs : i.size = vs.length := by simpa [hq] using hi
  simpa [storeVar, sizeOf, typeInfo, hq, hs, Value.cells, Sem.run_bind] using hst
theorem wp_store_at {o : Oper} {a : Act} {w : World} {K : Act → World → Prop} {Q : Exit → Act → World → Prop} (ty : TypeId) (x y : Operand) (ho : o.op = .store ty x y)
  (g i : Nat) (hx : a.eval x = .pointer (some ⟨g, i, none⟩)) (vs : List Value) (hy : a.eval y = .agg vs.toArray) (cur : Array Value) (t : TypeId) (hg : w.heap[g]? = some (.cells cur t (0, 0))) (hl : i + vs.length ≤ cur.size) (h1 : ∀ v ∈ vs, v.oneCell' = true) (hi : (P.info? ty).map (·.size) = some vs.length)
  (h : K (a.put o.dst undef) (w.setRow g (cur.toList.take i ++ vs ++ cur.toList.drop (i + vs.length)).toArray)) : o.wp P a w K Q := by
 unfold Oper.wp execOp
 simp only [ho, hx, hy, Instr.storeAt, Instr.sureAddr, Sem.run_bind, Sem.run_pure, Result.andThen_ok, run_storeVar_row w ty g i vs cur t hg hl h1 hi]
 exact h
theorem wpList_store_at {ops : Array Oper} {rest : List Oper} {o : Oper} {a : Act} {w : World} {Q : Exit → Act → World → Prop} (hgd : o.guard = none) (ty : TypeId) (x y : Operand) (ho : o.op = .store ty x y)
  (g i : Nat) (hx : a.eval x = .pointer (some ⟨g, i, none⟩)) (vs : List Value) (hy : a.eval y = .agg vs.toArray) (cur : Array Value) (t : TypeId) (hg : w.heap[g]? = some (.cells cur t (0, 0))) (hl : i + vs.length ≤ cur.size) (h1 : ∀ v ∈ vs, v.oneCell' = true) (hi : (P.info? ty).map (·.size) = some vs.length)
  (h : wpList P ops Q rest (a.put o.dst undef) (w.setRow g (cur.toList.take i ++ vs ++ cur.toList.drop (i + vs.length)).toArray)) : wpList P ops Q (o :: rest) a w :=
 wpList_plain hgd fun _ hK => wp_store_at ty x y ho g i hx vs hy cur t hg hl h1 hi (hK _ _ h)
theorem wpList_make_at (w : World) {ops : Array Oper} {rest : List Oper} {o : Oper} {a : Act} {Q : Exit → Act → World → Prop}
  (hg : o.guard = none) (l c : Operand) (t : TypeId) (hop : o.op = Op.makeSlice t l c)
  (e : TypeId) (i : TypeInfo) (z : Value) (size : Nat) (h1 : P.underlying t = some (.slice e)) (h2 : P.info? e = some i) (h3 : i.zero = some z) (h4 : i.size = size)
  (kl kc : IntKind) (L C : Int) (n : Nat) (hl : a.eval l = .int kl L) (hc : a.eval c = .int kc C) (hL : L = (n : Int)) (hC : C = (n : Int)) (b2 : i.bytes * n ≤ 281474976710656) (b3 : n ≤ 9223372036854775807)
  (cs : Array Value) (hcs : madeCells z.cells (n * size) = cs)
  (hK : wpList P ops Q rest (a.put o.dst (.slice (some ⟨w.heap.size, 0, none⟩) n n)) (w.alloc (.cells cs e))) :
  wpList P ops Q (o :: rest) a w := by
 refine wpList_plain hg fun K hK' => ?_
 subst hL hC h4 hcs
 have hb' : (i.bytes : Int) * (n : Int) ≤ 281474976710656 := by
  have h : ((i.bytes * n : Nat) : Int) ≤ 281474976710656 := by omega
  rwa [Int.natCast_mul] at h
 have hrun := run_make (P := P) w t e i z h1 h2 h3 kl kc n n (by omega) (Int.le_refl _) hb' (by omega)
 unfold Oper.wp
 simp only [Int.toNat_natCast] at hrun
 simp only [execOp, hop, hl, hc, hrun, Sem.run_bind, Result.andThen_ok, Sem.run_pure]
 exact hK' _ _ hK
theorem flat_set {α : Type} (n : Nat) (f : α → List Value) (hf : ∀ x, (f x).length = n) : ∀ (l : List α) (i : Nat) (x : α), i < l.length → (l.flatMap f).take (i * n) ++ f x ++ (l.flatMap f).drop (i * n + n) = (l.set i x).flatMap f
 | [], i, x, h => by simp at h
 | y :: l, 0, x, h => by
  rw [List.flatMap_cons, Nat.zero_mul, Nat.zero_add, List.take_zero, List.nil_append, List.set_cons_zero, List.flatMap_cons, List.drop_append_of_le_length (by rw [hf]; omega), List.drop_of_length_le (by rw [hf]; omega), List.nil_append]
 | y :: l, i + 1, x, h => by
  have ih := flat_set n f hf l i x (by simpa using h)
  rw [List.flatMap_cons, List.set_cons_succ, List.flatMap_cons, ← ih]
  have e1 : (i + 1) * n = (f y).length + i * n := by rw [hf, Nat.succ_mul]; omega
  rw [e1, List.take_length_add_append, Nat.add_assoc, List.drop_length_add_append]
  simp only [List.append_assoc]
end Go.Proofs.YtlboejdhmggjpaaGreat

/- Rfa -/
namespace Go.Proofs.YtlboejdhmggjpaaGreat
open Go.RowKit
variable {F : Fence} {n : Nat} {P : Program}

theorem wpIn_rangeFunc_asg {α : Type} {g : Operand} {ps : Array Tmp} {assign body : Code} {Q : Exit → Act → World → Prop} {a : Act} {w : World}
  (hro : F.round = none) (h1 : 1 ≤ n) {gf : Nat} {lb : Array Value} (hg : a.eval g = .func (.func gf) #[] lb) (hFg : F.fn gf) (eg : ∀ args w, (callFunc gf args).run P w = .ok (.enter gf args) w)
  {encs : α → Array Value} {Kp : World → World → Prop} {Ok : List α → α → Prop} {X : Nat → Prop} {S Sp : List α → Prop} {w0 : World} (hseq : SeqG F (n - 1) P gf lb encs Kp Ok X S Sp w0) (hX : ∀ k, X k → k < w.heap.size)
  (hKt : ∀ {A B C : World}, Kp A B → Kp B C → Kp A C) (hKb : ∀ (W : World) (l : Nat) (o o' : Obj), w.heap.size ≤ l → W.heap[l]? = some o → o.isCells = false → o.isWalk = false → Kp W (W.putObj l o')) (hb0 : Below w0.heap.size w0 w) (hps : ∀ x, (encs x).size = ps.size)
  (I : List α → World → Prop) (Ix : Code → List α → World → Prop) (hI : ∀ s A B, I s A → Mod (fun k => X k ∨ (w.heap.size ≤ k ∧ nc A k)) A B → I s B) (hIx : ∀ c s A B, Ix c s A → Mod (fun k => X k ∨ (w.heap.size ≤ k ∧ nc A k)) A B → Ix c s B) (h0 : I [] w) (Rw : α → Act → World → Prop) (hKa : ∀ {A B : World}, Below A.heap.size A B → Kp A B) (hRw : ∀ (x : α) (a' : Act) (W : World) (l : Nat) (o o' : Obj), W.heap[l]? = some o → o.isCells = false → Rw x a' W → Rw x a' (W.putObj l o'))
  (hassign : ∀ (l : Nat) (x : α) (W : World) (K : Act → World → Prop), (∀ a' W', Below W.heap.size W W' → Rw x a' W' → K a' W') →
   assign.wpIn (F.inRound l) (n - 1 - 1) P (Exit.then K (fun _ _ _ => False)) { tmps := (ps.zip (encs x)).foldl (fun t (p, v) => t.setIfInBounds p v) a.tmps, defers := [] } W)
  (hbody : ∀ (l : Nat) (pre : List α) (x : α) (a' : Act) (W : World), I pre W → Ok pre x → Rw x a' W → body.wpIn (F.inRound l) (n - 1 - 1) P (ownPostG w.heap.size Kp I Ix (pre ++ [x]) W) a' W)
  (hdone : ∀ (D : Nat) (xs : List α) (W : World), w.heap.size ≤ D → S xs → I xs W → W.heap[D]? = some (.deferred (some [])) → Q .normal { a with defers := { target := .collected D, args := #[] } :: a.defers } W)
  (hstop : ∀ (D : Nat) (c : Code) (pre : List α) (W : World), w.heap.size ≤ D → Sp pre → Ix c pre W → W.heap[D]? = some (.deferred (some [])) → c.wpIn F n P Q { a with defers := { target := .collected D, args := #[] } :: a.defers } W) :
  (Code.rangeFunc g ps assign body).wpIn F n P Q a w := by
 refine wpIn_rangeFunc fun fn hfn => ?_
 rw [hro]
 let L : LoopState → Option Code → Obj := fun st c => .loop { state := st, pending := c, fn, tmps := a.tmps, params := ps, assign, body, defers := w.heap.size }
 obtain ⟨V, hV⟩ : ∃ V, V = (w.alloc (.deferred (some []))).alloc (L .ready none) := ⟨_, rfl⟩
 have hVs : V.heap.size = w.heap.size + 2 := by rw [hV]; simp
 have hl0 : V.heap[w.heap.size + 1]? = some (L .ready none) := by
  rw [hV]; have := World.alloc_heap_new (w.alloc (.deferred (some []))) (L .ready none); rwa [World.size_alloc] at this
 have hd0 : V.heap[w.heap.size]? = some (.deferred (some [])) := by
  rw [hV]; exact (Below.heap_alloc _ _ _ (by simp)).trans (World.alloc_heap_new w _)
 have hwV : Below w.heap.size w V := by rw [hV]; exact ((Below.refl _ w).alloc (Nat.le_refl _) _).alloc (by simp) _
 have hi0 : I [] V := hI _ _ _ h0 (Mod.of_below hwV)
 have hput : ∀ {s : List α} {A : World} {l : Nat} {o0 : Obj} (o : Obj), I s A → A.heap[l]? = some o0 → o0.isCells = false → w.heap.size ≤ l → I s (A.putObj l o) := fun {s A l o0} o hi h0 h1 hl =>
  hI s A _ hi ⟨rfl, rfl, rfl, by simp, fun k hk hn => World.putObj_heap_other (fun e => hn (.inr (by subst e; exact ⟨hl, o0, h0, h1⟩)))⟩
 have hputx : ∀ {c : Code} {s : List α} {A : World} {l : Nat} {o0 : Obj} (o : Obj), Ix c s A → A.heap[l]? = some o0 → o0.isCells = false → w.heap.size ≤ l → Ix c s (A.putObj l o) := fun {c s A l o0} o hi h0 h1 hl =>
  hIx c s A _ hi ⟨rfl, rfl, rfl, by simp, fun k hk hn => World.putObj_heap_other (fun e => hn (.inr (by subst e; exact ⟨hl, o0, h0, h1⟩)))⟩
 refine ⟨w.heap.size + 1, [{ target := .collected w.heap.size, args := #[] }], V, { target := .fn (.func gf) lb, args := #[.func (.yield (w.heap.size + 1)) #[] #[]] }, V, gf,
  #[.func (.yield (w.heap.size + 1)) #[] #[]] ++ lb, V, by rw [hV]; exact run_enterLoop_outer _ _ _ _ _, by simp only [resolve, hg]; simp [go_sem], fun f' hf' => by simp [Target.leads] at hf'; subst hf'; exact hFg, by simp [invoke, go_sem, eg], fun _ => h1, ?_⟩
 let J : List α → World → Prop := fun pre W => I pre W ∧ W.heap[w.heap.size + 1]? = some (L .ready none) ∧ W.heap[w.heap.size]? = some (.deferred (some []))
 let Jx : List α → World → Prop := fun pre W => ∃ c, Ix c pre W ∧ W.heap[w.heap.size + 1]? = some (L .done (some c)) ∧ W.heap[w.heap.size]? = some (.deferred (some []))
 have hkeep : ∀ {A B : World} {k : Nat} {o : Obj}, Mod (fun k => X k ∨ (V.heap.size ≤ k ∧ nc A k)) A B → A.heap[k]? = some o → w.heap.size ≤ k → k < w.heap.size + 2 → B.heap[k]? = some o := fun hm ho h1 h2 =>
  hm.keep ho (fun e => by
   rcases e with e | e
   ·have := hX _ e; omega
   ·omega)
 have hsub : ∀ {A B : World}, Mod (fun k => X k ∨ (V.heap.size ≤ k ∧ nc A k)) A B → Mod (fun k => X k ∨ (w.heap.size ≤ k ∧ nc A k)) A B := fun hm => hm.mono (fun k _ hk => by
  rcases hk with hk | hk
  ·exact .inl hk
  ·exact .inr ⟨by omega, hk.2⟩)
 have hJ : ∀ s A B, J s A → Mod (fun k => X k ∨ (V.heap.size ≤ k ∧ nc A k)) A B → J s B := fun s A B hs hm =>
  ⟨hI s A B hs.1 (hsub hm), hkeep hm hs.2.1 (by omega) (by omega), hkeep hm hs.2.2 (by omega) (by omega)⟩
 have hJx : ∀ s A B, Jx s A → Mod (fun k => X k ∨ (V.heap.size ≤ k ∧ nc A k)) A B → Jx s B := fun s A B ⟨c, h1, h2, h3⟩ hm =>
  ⟨c, hIx c s A B h1 (hsub hm), hkeep hm h2 (by omega) (by omega), hkeep hm h3 (by omega) (by omega)⟩
 refine (hseq (w.heap.size + 1) J Jx V (hb0.trans (hwV.mono hb0.size)) hJ hJx ?_ ⟨hi0, hl0, hd0⟩).mono ?_
 ·rintro pre x W0 ⟨hi0, hl0, hk0⟩ hok
  have hlt0 : w.heap.size + 1 < W0.heap.size := (Array.getElem?_eq_some_iff.1 hl0).1
  refine ⟨fn, _, assign, body, run_yield (P := P) (args := encs x) hl0 (hps x), roundIn_of_wpIn hfn (hassign _ x W0 _ fun a' W hba hra => ?_)⟩
  have hl := heap_below hba hl0 hlt0
  have hk := heap_below hba hk0 (by omega)
  have hi : I pre W := hI _ _ _ hi0 (Mod.of_below hba)
  refine ⟨_, run_beginRound hl rfl, ?_⟩
  have hlt : w.heap.size + 1 < W.heap.size := (Array.getElem?_eq_some_iff.1 hl).1
  have hl2 : (W.putObj (w.heap.size + 1) (L .busy none)).heap[w.heap.size + 1]? = some (L .busy none) := World.putObj_heap_same hlt
  have hk2 : (W.putObj (w.heap.size + 1) (L .busy none)).heap[w.heap.size]? = some (.deferred (some [])) := (World.putObj_heap_other (by omega)).trans hk
  refine wpIn_mono (hbody _ pre x _ _ (hput _ hi hl rfl (by omega)) hok (hRw _ _ _ _ _ _ hl rfl hra)) ?_
  have fin : ∀ {W3 : World}, KeepsFrom w.heap.size (W.putObj (w.heap.size + 1) (L .busy none)) W3 → W3.heap[w.heap.size + 1]? = some (L .busy none) ∧ W3.heap[w.heap.size]? = some (.deferred (some [])) := fun hk3 =>
   ⟨hk3.same _ _ (by omega) hl2 rfl, hk3.same _ _ (Nat.le_refl _) hk2 rfl⟩
  rintro e a3 W3 hp
  have out : ∀ (c : Code), KeepsFrom w.heap.size (W.putObj (w.heap.size + 1) (L .busy none)) W3 → Ix c (pre ++ [x]) W3 → Jx (pre ++ [x]) (W3.putObj (w.heap.size + 1) (L .done (some c))) := fun c h1 h2 => by
   obtain ⟨hl3, hk3⟩ := fin h1
   exact ⟨c, hputx _ h2 hl3 rfl (by omega), World.putObj_heap_same (Array.getElem?_eq_some_iff.1 hl3).1, (World.putObj_heap_other (by omega)).trans hk3⟩
  cases e with
  | normal =>
   obtain ⟨hk3, hkp, hi3⟩ := hp
   obtain ⟨hl3, hd3⟩ := fin hk3
   refine ⟨_, _, run_endRound (P := P) none hl3, .inl ⟨rfl, ⟨hput _ hi3 hl3 rfl (by omega), World.putObj_heap_same (Array.getElem?_eq_some_iff.1 hl3).1, (World.putObj_heap_other (by omega)).trans hd3⟩, ?_⟩⟩
   exact hKt (hKa hba) <| hKt (hKt (hKb _ _ _ _ (by omega) hl rfl rfl) hkp) (hKb _ _ _ _ (by omega) hl3 rfl rfl)
  | ret => exact ⟨_, _, run_endRound (P := P) (some .ret) (fin hp.1).1, .inr ⟨rfl, out _ hp.1 hp.2⟩⟩
  | exit id => exact ⟨_, _, run_endRound (P := P) (some (.exit id)) (fin hp.1).1, .inr ⟨rfl, out _ hp.1 hp.2⟩⟩
  | goto t => exact ⟨_, _, run_endRound (P := P) (some (.goto t)) (fin hp.1).1, .inr ⟨rfl, out _ hp.1 hp.2⟩⟩
  | panic ch => exact hp.elim
  | outgrown => exact hp.elim
 ·rintro e W2 ⟨⟨v, rfl⟩, (⟨xs, hS, hi, hl, hk⟩ | ⟨pre, hSp, c, hi, hl, hk⟩)⟩
  ·exact ⟨none, _, run_endLoop (P := P) hl (by simp), hdone _ xs _ (Nat.le_refl _) hS (hput _ hi hl rfl (by omega)) ((World.putObj_heap_other (by omega)).trans hk)⟩
  ·exact ⟨some c, _, run_endLoop (P := P) hl (by simp), hstop _ c pre _ (Nat.le_refl _) hSp (hputx _ hi hl rfl (by omega)) ((World.putObj_heap_other (by omega)).trans hk)⟩
end Go.Proofs.YtlboejdhmggjpaaGreat

/- A range over a function whose assignment makes memory and whose body may hold maps: only what is neither cells nor map turns. -/
import Derived.Test.YtlboejdhmggjpaaGreatRfa
import Derived.Test.YtlboejdhmggjpaaGreatMon
import Derived.Deep.Quiet
import Derived.Test.YtlboejdhmggjpaaGreatTal
import Derived.Test.YtlboejdhmggjpaaGreatProg
import Derived.Maps.OwnOps
import Derived.Maps.OwnSet
import Derived.Maps.AppendAt
import Derived.Maps.Views
import Derived.Laws.OwnMore
import Derived.LaidEqlPtr
set_option linter.all false
namespace Go.Proofs.YtlboejdhmggjpaaGreat
open Go.RowKit
set_option linter.unusedVariables false
variable {F : Fence} {n : Nat} {P : Program}

def notMap : Obj → Bool
  | .map _ _ => false
  | _ => true
/-- No cells, no map. -/
def nk (w : World) (k : Nat) : Prop := ∃ o, w.heap[k]? = some o ∧ o.isCells = false ∧ notMap o = true
def SeqM {α : Type} (F : Fence) (n : Nat) (P : Program) (g : Nat) (lb : Array Value) (encs : α → Array Value) (Kp : World → World → Prop) (Ok : List α → α → Prop) (X : Nat → Prop) (S Sp : List α → Prop) (w : World) : Prop :=
  ∀ (l : Nat) (J Jx : List α → World → Prop) (W : World), Below w.heap.size w W → (∀ s A B, J s A → Mod (fun k => X k ∨ (W.heap.size ≤ k ∧ nk A k)) A B → J s B) → (∀ s A B, Jx s A → Mod (fun k => X k ∨ (W.heap.size ≤ k ∧ nk A k)) A B → Jx s B) →
    (∀ pre x W1, J pre W1 → Ok pre x → YieldAt F (n - 1) P l (encs x) W1 fun e W' => (e = .returned (.bool true) ∧ J (pre ++ [x]) W' ∧ Kp W1 W') ∨ (e = .returned (.bool false) ∧ Jx (pre ++ [x]) W')) → J [] W →
    CallsIn F n P g (#[.func (.yield l) #[] #[]] ++ lb) W fun e W' => (∃ v, e = .returned v) ∧ ((∃ xs, S xs ∧ J xs W') ∨ (∃ pre, Sp pre ∧ Jx pre W'))

/-- What is neither cells nor map stays. -/
structure KeepsM (B : Nat) (W W' : World) : Prop where
  size : W.heap.size ≤ W'.heap.size
  same : ∀ (k : Nat) (o : Obj), B ≤ k → W.heap[k]? = some o → o.isCells = false → notMap o = true → W'.heap[k]? = some o
def ownPostM (B : Nat) (Kp : World → World → Prop) {α : Type} (I : List α → World → Prop) (Ix : Code → List α → World → Prop) (s : List α) (W : World) : Exit → Act → World → Prop
  | .normal, _, W' => KeepsM B W W' ∧ Kp W W' ∧ I s W'
  | .ret, _, W' => KeepsM B W W' ∧ Ix .ret s W'
  | .exit id, _, W' => KeepsM B W W' ∧ Ix (.exit id) s W'
  | .goto t, _, W' => KeepsM B W W' ∧ Ix (.goto t) s W'
  | _, _, _ => False
theorem wpIn_rangeFunc_asgM {α : Type} {g : Operand} {ps : Array Tmp} {assign body : Code} {Q : Exit → Act → World → Prop} {a : Act} {w : World}
    (hro : F.round = none) (h1 : 1 ≤ n) {gf : Nat} {lb : Array Value} (hg : a.eval g = .func (.func gf) #[] lb) (hFg : F.fn gf) (eg : ∀ args w, (callFunc gf args).run P w = .ok (.enter gf args) w)
    {encs : α → Array Value} {Kp : World → World → Prop} {Ok : List α → α → Prop} {X : Nat → Prop} {S Sp : List α → Prop} {w0 : World} (hseq : SeqM F (n - 1) P gf lb encs Kp Ok X S Sp w0) (hX : ∀ k, X k → k < w.heap.size)
    (hKt : ∀ {A B C : World}, Kp A B → Kp B C → Kp A C) (hKb : ∀ (W : World) (l : Nat) (o o' : Obj), w.heap.size ≤ l → W.heap[l]? = some o → o.isCells = false → o.isWalk = false → Kp W (W.putObj l o')) (hb0 : Below w0.heap.size w0 w) (hps : ∀ x, (encs x).size = ps.size)
    (I : List α → World → Prop) (Ix : Code → List α → World → Prop) (hI : ∀ s A B, I s A → Mod (fun k => X k ∨ (w.heap.size ≤ k ∧ nk A k)) A B → I s B) (hIx : ∀ c s A B, Ix c s A → Mod (fun k => X k ∨ (w.heap.size ≤ k ∧ nk A k)) A B → Ix c s B) (h0 : I [] w) (Rw : α → Act → World → Prop) (hKa : ∀ {A B : World}, Below A.heap.size A B → Kp A B) (hRw : ∀ (x : α) (a' : Act) (W : World) (l : Nat) (o o' : Obj), W.heap[l]? = some o → o.isCells = false → Rw x a' W → Rw x a' (W.putObj l o'))
    (hassign : ∀ (l : Nat) (x : α) (W : World) (K : Act → World → Prop), (∀ a' W', Below W.heap.size W W' → Rw x a' W' → K a' W') →
      assign.wpIn (F.inRound l) (n - 1 - 1) P (Exit.then K (fun _ _ _ => False)) { tmps := (ps.zip (encs x)).foldl (fun t (p, v) => t.setIfInBounds p v) a.tmps, defers := [] } W)
    (hbody : ∀ (l : Nat) (pre : List α) (x : α) (a' : Act) (W : World), I pre W → Ok pre x → Rw x a' W → body.wpIn (F.inRound l) (n - 1 - 1) P (ownPostM w.heap.size Kp I Ix (pre ++ [x]) W) a' W)
    (hdone : ∀ (D : Nat) (xs : List α) (W : World), w.heap.size ≤ D → S xs → I xs W → W.heap[D]? = some (.deferred (some [])) → Q .normal { a with defers := { target := .collected D, args := #[] } :: a.defers } W)
    (hstop : ∀ (D : Nat) (c : Code) (pre : List α) (W : World), w.heap.size ≤ D → Sp pre → Ix c pre W → W.heap[D]? = some (.deferred (some [])) → c.wpIn F n P Q { a with defers := { target := .collected D, args := #[] } :: a.defers } W) :
    (Code.rangeFunc g ps assign body).wpIn F n P Q a w := by
  refine wpIn_rangeFunc fun fn hfn => ?_
  rw [hro]
  let L : LoopState → Option Code → Obj := fun st c => .loop { state := st, pending := c, fn, tmps := a.tmps, params := ps, assign, body, defers := w.heap.size }
  obtain ⟨V, hV⟩ : ∃ V, V = (w.alloc (.deferred (some []))).alloc (L .ready none) := ⟨_, rfl⟩
  have hVs : V.heap.size = w.heap.size + 2 := by rw [hV]; simp
  have hl0 : V.heap[w.heap.size + 1]? = some (L .ready none) := by
    rw [hV]; have := World.alloc_heap_new (w.alloc (.deferred (some []))) (L .ready none); rwa [World.size_alloc] at this
  have hd0 : V.heap[w.heap.size]? = some (.deferred (some [])) := by
    rw [hV]; exact (Below.heap_alloc _ _ _ (by simp)).trans (World.alloc_heap_new w _)
  have hwV : Below w.heap.size w V := by rw [hV]; exact ((Below.refl _ w).alloc (Nat.le_refl _) _).alloc (by simp) _
  have hi0 : I [] V := hI _ _ _ h0 (Mod.of_below hwV)
  have hput : ∀ {s : List α} {A : World} {l : Nat} {o0 : Obj} (o : Obj), I s A → A.heap[l]? = some o0 → o0.isCells = false → notMap o0 = true → w.heap.size ≤ l → I s (A.putObj l o) := fun {s A l o0} o hi h0 h1 h1' hl =>
    hI s A _ hi ⟨rfl, rfl, rfl, by simp, fun k hk hn => World.putObj_heap_other (fun e => hn (.inr (by subst e; exact ⟨hl, o0, h0, h1, h1'⟩)))⟩
  have hputx : ∀ {c : Code} {s : List α} {A : World} {l : Nat} {o0 : Obj} (o : Obj), Ix c s A → A.heap[l]? = some o0 → o0.isCells = false → notMap o0 = true → w.heap.size ≤ l → Ix c s (A.putObj l o) := fun {c s A l o0} o hi h0 h1 h1' hl =>
    hIx c s A _ hi ⟨rfl, rfl, rfl, by simp, fun k hk hn => World.putObj_heap_other (fun e => hn (.inr (by subst e; exact ⟨hl, o0, h0, h1, h1'⟩)))⟩
  refine ⟨w.heap.size + 1, [{ target := .collected w.heap.size, args := #[] }], V, { target := .fn (.func gf) lb, args := #[.func (.yield (w.heap.size + 1)) #[] #[]] }, V, gf,
    #[.func (.yield (w.heap.size + 1)) #[] #[]] ++ lb, V, by rw [hV]; exact run_enterLoop_outer _ _ _ _ _, by simp only [resolve, hg]; simp [go_sem], fun f' hf' => by simp [Target.leads] at hf'; subst hf'; exact hFg, by simp [invoke, go_sem, eg], fun _ => h1, ?_⟩
  let J : List α → World → Prop := fun pre W => I pre W ∧ W.heap[w.heap.size + 1]? = some (L .ready none) ∧ W.heap[w.heap.size]? = some (.deferred (some []))
  let Jx : List α → World → Prop := fun pre W => ∃ c, Ix c pre W ∧ W.heap[w.heap.size + 1]? = some (L .done (some c)) ∧ W.heap[w.heap.size]? = some (.deferred (some []))
  have hkeep : ∀ {A B : World} {k : Nat} {o : Obj}, Mod (fun k => X k ∨ (V.heap.size ≤ k ∧ nk A k)) A B → A.heap[k]? = some o → w.heap.size ≤ k → k < w.heap.size + 2 → B.heap[k]? = some o := fun hm ho h1 h2 =>
    hm.keep ho (fun e => by
      rcases e with e | e
      · have := hX _ e; omega
      · omega)
  have hsub : ∀ {A B : World}, Mod (fun k => X k ∨ (V.heap.size ≤ k ∧ nk A k)) A B → Mod (fun k => X k ∨ (w.heap.size ≤ k ∧ nk A k)) A B := fun hm => hm.mono (fun k _ hk => by
    rcases hk with hk | hk
    · exact .inl hk
    · exact .inr ⟨by omega, hk.2⟩)
  have hJ : ∀ s A B, J s A → Mod (fun k => X k ∨ (V.heap.size ≤ k ∧ nk A k)) A B → J s B := fun s A B hs hm =>
    ⟨hI s A B hs.1 (hsub hm), hkeep hm hs.2.1 (by omega) (by omega), hkeep hm hs.2.2 (by omega) (by omega)⟩
  have hJx : ∀ s A B, Jx s A → Mod (fun k => X k ∨ (V.heap.size ≤ k ∧ nk A k)) A B → Jx s B := fun s A B ⟨c, h1, h2, h3⟩ hm =>
    ⟨c, hIx c s A B h1 (hsub hm), hkeep hm h2 (by omega) (by omega), hkeep hm h3 (by omega) (by omega)⟩
  refine (hseq (w.heap.size + 1) J Jx V (hb0.trans (hwV.mono hb0.size)) hJ hJx ?_ ⟨hi0, hl0, hd0⟩).mono ?_
  · rintro pre x W0 ⟨hi0, hl0, hk0⟩ hok
    have hlt0 : w.heap.size + 1 < W0.heap.size := (Array.getElem?_eq_some_iff.1 hl0).1
    refine ⟨fn, _, assign, body, run_yield (P := P) (args := encs x) hl0 (hps x), roundIn_of_wpIn hfn (hassign _ x W0 _ fun a' W hba hra => ?_)⟩
    have hl := heap_below hba hl0 hlt0
    have hk := heap_below hba hk0 (by omega)
    have hi : I pre W := hI _ _ _ hi0 (Mod.of_below hba)
    refine ⟨_, run_beginRound hl rfl, ?_⟩
    have hlt : w.heap.size + 1 < W.heap.size := (Array.getElem?_eq_some_iff.1 hl).1
    have hl2 : (W.putObj (w.heap.size + 1) (L .busy none)).heap[w.heap.size + 1]? = some (L .busy none) := World.putObj_heap_same hlt
    have hk2 : (W.putObj (w.heap.size + 1) (L .busy none)).heap[w.heap.size]? = some (.deferred (some [])) := (World.putObj_heap_other (by omega)).trans hk
    refine wpIn_mono (hbody _ pre x _ _ (hput _ hi hl rfl rfl (by omega)) hok (hRw _ _ _ _ _ _ hl rfl hra)) ?_
    have fin : ∀ {W3 : World}, KeepsM w.heap.size (W.putObj (w.heap.size + 1) (L .busy none)) W3 → W3.heap[w.heap.size + 1]? = some (L .busy none) ∧ W3.heap[w.heap.size]? = some (.deferred (some [])) := fun hk3 =>
      ⟨hk3.same _ _ (by omega) hl2 rfl rfl, hk3.same _ _ (Nat.le_refl _) hk2 rfl rfl⟩
    rintro e a3 W3 hp
    have out : ∀ (c : Code), KeepsM w.heap.size (W.putObj (w.heap.size + 1) (L .busy none)) W3 → Ix c (pre ++ [x]) W3 → Jx (pre ++ [x]) (W3.putObj (w.heap.size + 1) (L .done (some c))) := fun c h1 h2 => by
      obtain ⟨hl3, hk3⟩ := fin h1
      exact ⟨c, hputx _ h2 hl3 rfl rfl (by omega), World.putObj_heap_same (Array.getElem?_eq_some_iff.1 hl3).1, (World.putObj_heap_other (by omega)).trans hk3⟩
    cases e with
    | normal =>
      obtain ⟨hk3, hkp, hi3⟩ := hp
      obtain ⟨hl3, hd3⟩ := fin hk3
      refine ⟨_, _, run_endRound (P := P) none hl3, .inl ⟨rfl, ⟨hput _ hi3 hl3 rfl rfl (by omega), World.putObj_heap_same (Array.getElem?_eq_some_iff.1 hl3).1, (World.putObj_heap_other (by omega)).trans hd3⟩, ?_⟩⟩
      exact hKt (hKa hba) <| hKt (hKt (hKb _ _ _ _ (by omega) hl rfl rfl) hkp) (hKb _ _ _ _ (by omega) hl3 rfl rfl)
    | ret => exact ⟨_, _, run_endRound (P := P) (some .ret) (fin hp.1).1, .inr ⟨rfl, out _ hp.1 hp.2⟩⟩
    | exit id => exact ⟨_, _, run_endRound (P := P) (some (.exit id)) (fin hp.1).1, .inr ⟨rfl, out _ hp.1 hp.2⟩⟩
    | goto t => exact ⟨_, _, run_endRound (P := P) (some (.goto t)) (fin hp.1).1, .inr ⟨rfl, out _ hp.1 hp.2⟩⟩
    | panic ch => exact hp.elim
    | outgrown => exact hp.elim
  · rintro e W2 ⟨⟨v, rfl⟩, (⟨xs, hS, hi, hl, hk⟩ | ⟨pre, hSp, c, hi, hl, hk⟩)⟩
    · exact ⟨none, _, run_endLoop (P := P) hl (by simp), hdone _ xs _ (Nat.le_refl _) hS (hput _ hi hl rfl rfl (by omega)) ((World.putObj_heap_other (by omega)).trans hk)⟩
    · exact ⟨some c, _, run_endLoop (P := P) hl (by simp), hstop _ c pre _ (Nat.le_refl _) hSp (hputx _ hi hl rfl rfl (by omega)) ((World.putObj_heap_other (by omega)).trans hk)⟩
end Go.Proofs.YtlboejdhmggjpaaGreat

/- Sto -/
namespace Go.Proofs.YtlboejdhmggjpaaGreat
open Go

section
variable {P : Program} {ops : Array Oper} {md : Region.Mode} {E : Nat → Oper → Act → Value → Prop}

def YldE (ops : Array Oper) (E : Nat → Oper → Act → Value → Prop) (i : Nat) (o : Oper) (v : Value) (a : Act) : Prop :=
 (Region.wanted o (yielded ops a.tmps) = true ∧ E i o a v) ∨ (Region.wanted o (yielded ops a.tmps) = false ∧ v = undef)
def eOp (ops : Array Oper) (E : Nat → Oper → Act → Value → Prop) (i : Nat) (K : Act → Prop) (a : Act) : Prop :=
 ∀ o, ops[i]? = some o → ∃ v, YldE ops E i o v a ∧ K (a.put o.dst v)
def anyE (md : Region.Mode) (ops : Array Oper) (E : Nat → Oper → Act → Value → Prop) (Q : Act → Prop) : Nat → Array Bool → Act → Prop
 | 0, listed, a => Region.ready md ops listed = [] ∧ Q a
 | fuel + 1, listed, a => (Region.ready md ops listed = [] → Q a) ∧ ∀ i ∈ Region.ready md ops listed, eOp ops E i (anyE md ops E Q fuel (listed.setIfInBounds i true)) a
def seqE (ops : Array Oper) (E : Nat → Oper → Act → Value → Prop) (Q : Act → Prop) : Nat → List Oper → Act → Prop
 | _, [], a => Q a
 | i, o :: rest, a => ∃ v, YldE ops E i o v a ∧ seqE ops E Q (i + 1) rest (a.put o.dst v)

theorem eOp_mono {i : Nat} {K K' : Act → Prop} {a : Act} (h : ∀ a, K a → K' a) (hh : eOp ops E i K a) : eOp ops E i K' a :=
 fun o ho => let ⟨v, h1, h2⟩ := hh o ho; ⟨v, h1, h _ h2⟩

theorem YldE.same (hE : ∀ i o a a' v, execOp a'.eval o = execOp a.eval o → E i o a v → E i o a' v) {i : Nat} {o : Oper} {v : Value} {a a' : Act} (h : YldE ops E i o v a) (he : execOp a'.eval o = execOp a.eval o)
  (hw : Region.wanted o (yielded ops a'.tmps) = Region.wanted o (yielded ops a.tmps)) : YldE ops E i o v a' := by
 rcases h with ⟨h1, h2⟩ | ⟨h1, h2⟩
 ·exact .inl ⟨by rw [hw]; exact h1, hE _ _ _ _ _ he h2⟩
 ·exact .inr ⟨by rw [hw]; exact h1, h2⟩

theorem eOp_put (hE : ∀ i o a a' v, execOp a'.eval o = execOp a.eval o → E i o a v → E i o a' v) {i j : Nat} {oi oj : Oper} {v : Value} (hj : ops[j]? = some oj) (hap : oi.apart ops oj = true)
  (hsi : ∀ cs b, oi.op ≠ .select cs b) (hsj : ∀ cs b, oj.op ≠ .select cs b) {K : Act → Prop} {a : Act} (hy : YldE ops E i oi v a) (h : eOp ops E j K (a.put oi.dst v)) :
  eOp ops E j (fun a' => YldE ops E i oi v a' ∧ K (a'.put oi.dst v)) a := by
 obtain ⟨h1, h2, h3⟩ := Oper.apart_spec hap
 intro o ho
 obtain rfl : oj = o := Option.some.inj (hj.symm.trans ho)
 obtain ⟨u, hu, hK⟩ := h oj hj
 refine ⟨u, hu.same hE (execOp_put oj hsj a oi.dst v h1).symm (wanted_put oj a oi.dst v h1).symm, hy.same hE (execOp_put oi hsi a oj.dst u h3) (wanted_put oi a oj.dst u h3), ?_⟩
 rw [← Act.put_comm a v u h2]; exact hK

theorem anyE_first (hE : ∀ i o a a' v, execOp a'.eval o = execOp a.eval o → E i o a v → E i o a' v) {Q : Act → Prop} {i : Nat} {oi : Oper} {v : Value} (hi : ops[i]? = some oi) (hsel : ∀ (j : Nat) (o : Oper) cs b, ops[j]? = some o → o.op ≠ .select cs b) :
  ∀ (fuel : Nat) (listed : Array Bool) (a : Act),
   (∀ j oj, ops[j]? = some oj → j ≠ i → listed.getD j true = false → (∀ e ∈ oj.after, Region.binds md e = true → e.on ≠ i) → oi.apart ops oj = true) →
   i ∈ Region.ready md ops listed → YldE ops E i oi v a →
   anyE md ops E Q fuel (listed.setIfInBounds i true) (a.put oi.dst v) → anyE md ops E Q (fuel + 1) listed a := by
 have self : ∀ {K : Act → Prop} {a : Act}, YldE ops E i oi v a → K (a.put oi.dst v) → eOp ops E i K a := fun hy hK o ho => by
  obtain rfl : oi = o := Option.some.inj (hi.symm.trans ho)
  exact ⟨v, hy, hK⟩
 intro fuel
 induction fuel with
 | zero =>
  intro listed a _ hr hy H
  refine ⟨fun h => (by rw [h] at hr; cases hr), fun j hj => ?_⟩
  by_cases hji : j = i
  ·subst hji; exact self hy H
  ·have := ready_mono hj hji
   rw [H.1] at this
   cases this
 | succ fuel ih =>
  intro listed a hfree hr hy H
  refine ⟨fun h => (by rw [h] at hr; cases hr), fun j hj => ?_⟩
  by_cases hji : j = i
  ·subst hji; exact self hy H
  ·have h1 := H.2 j (ready_mono hj hji)
   obtain ⟨hjun, oj, hoj, hall⟩ := mem_ready.1 hj
   have hnot : ∀ e ∈ oj.after, Region.binds md e = true → e.on ≠ i := fun e he hb heq => by
    have h1 := hall e he hb
    have h0 := (mem_ready.1 hr).1
    rw [heq] at h1
    rcases Nat.lt_or_ge i listed.size with h' | h'
    ·simp [h'] at h0 h1; rw [h0] at h1; cases h1
    ·simp [Array.getElem?_eq_none h'] at h1
   have h2 := eOp_put hE hoj (hfree j oj hoj hji hjun hnot) (fun cs b => hsel i oi cs b hi) (fun cs b => hsel j oj cs b hoj) hy h1
   refine eOp_mono (fun a' h3 => ih (listed.setIfInBounds j true) a' (fun k ok hk hki hun hno => hfree k ok hk hki ?_ hno) (ready_mono hr (Ne.symm hji)) h3.1 ?_) h2
   ·by_cases hjk : j = k
    ·subst hjk; exact hjun
    ·rw [getD_set_ne true hjk] at hun; exact hun
   ·rw [Array.setIfInBounds_comm _ _ hji]
    exact h3.2

theorem anyE_lex (hE : ∀ i o a a' v, execOp a'.eval o = execOp a.eval o → E i o a v → E i o a' v) {Q : Act → Prop} (hs : Region.noSelect ops = true) : ∀ (l : List Oper) (k : Nat) (listed : Array Bool) (a : Act), (∀ j, l[j]? = ops[k + j]?) →
  Region.lexFrom md ops l.length k listed = true → seqE ops E Q k l a → anyE md ops E Q l.length listed a
 | [], _, _, _, _, hB, h => ⟨by simpa [Region.lexFrom] using hB, h⟩
 | o :: l, k, listed, a, hl, hB, h => by
  have h0 : ops[k]? = some o := by simpa using (hl 0).symm
  simp only [List.length_cons, Region.lexFrom, Bool.and_eq_true] at hB
  obtain ⟨⟨hr, hf⟩, hB'⟩ := hB
  obtain ⟨v, hy, hK⟩ := h
  exact anyE_first hE h0 (Region.noSelect_spec hs) l.length listed a (Region.free_spec h0 hf) (by simpa using hr) hy
   (anyE_lex hE hs l (k + 1) _ _ (fun j => by have := hl (j + 1); simpa [Nat.add_assoc, Nat.add_comm 1 j] using this) hB' hK)

def plainB (o : Oper) : Bool := match o.op with
 | .move _ | .assign _ | .load _ _ | .nilCheck _ | .binOp _ _ _ _ _ | .unOp _ _ _ | .fieldAddr _ _ _ | .indexAddr _ _ _ => true
 | _ => false
theorem bind_ok {α β : Type} {x : Sem α} {f : α → Sem β} {w w' : World} {n : β} (h : (x >>= f).run P w = .ok n w') : ∃ v w1, (f v).run P w1 = .ok n w' := by
 rw [Sem.run_bind] at h
 cases hx : x.run P w with
 | ok v w1 => rw [hx] at h; exact ⟨v, w1, h⟩
 | halt e w1 => rw [hx] at h; cases h
theorem value_run {x : Sem Value} {w w' : World} {n : Next} (h : (do pure (Next.value (← x)) : Sem Next).run P w = .ok n w') : ∃ v, n = .value v := by
 rw [Sem.run_bind] at h
 cases hx : x.run P w with
 | ok v w1 =>
  rw [hx] at h
  simp only [Result.andThen_ok, Sem.run_pure] at h
  cases h
  exact ⟨_, rfl⟩
 | halt e w1 => rw [hx] at h; cases h
theorem plain_value {o : Oper} (hp : plainB o = true) {a : Act} {w w' : World} {n : Next} (h : (execOp a.eval o).run P w = .ok n w') : ∃ v, n = .value v := by
 unfold plainB at hp
 unfold execOp at h
 split at hp <;> rename_i hop <;> simp only [hop] at h
 ·rw [Sem.run_pure] at h; cases h; exact ⟨_, rfl⟩
 ·rw [Sem.run_pure] at h; cases h; exact ⟨_, rfl⟩
 ·exact value_run h
 ·have hpan : (runtimePanic .nilDeref : Sem Next).run P w = .ok n w' → ∃ v, n = .value v := fun hh => by simp [runtimePanic, goPanic] at hh
  split at h
  ·exact hpan h
  ·exact hpan h
  ·exact hpan h
  ·split at h
   ·exact hpan h
   ·obtain ⟨v1, w1, h⟩ := bind_ok h
    obtain ⟨v2, w2, h⟩ := bind_ok h
    split at h
    ·obtain ⟨v3, w3, h⟩ := bind_ok h
     rw [Sem.run_pure] at h; cases h; exact ⟨_, rfl⟩
    ·rw [Sem.run_pure] at h; cases h; exact ⟨_, rfl⟩
   ·rw [Sem.run_pure] at h; cases h; exact ⟨_, rfl⟩
  ·rw [Sem.run_pure] at h; cases h; exact ⟨_, rfl⟩
 ·exact value_run h
 ·exact value_run h
 ·exact value_run h
 ·exact value_run h
 ·cases hp

end
end Go.Proofs.YtlboejdhmggjpaaGreat

/- Chn -/
namespace Go.Proofs.YtlboejdhmggjpaaGreat
open Go

section
variable {P : Program} {md : Region.Mode}

def chE (P : Program) (W : Nat → World) (ch : List Nat) (i : Nat) (o : Oper) (a : Act) (v : Value) : Prop :=
 match ch.idxOf? i with
 | some j => (execOp a.eval o).run P (W j) = .ok (.value v) (W (j + 1)) ∨ (execOp a.eval o).run P (W j) = .ok .skip (W (j + 1)) ∧ v = undef
 | none => ∀ j, j ≤ ch.length → (execOp a.eval o).run P (W j) = .ok (.value v) (W j)
theorem chE_same {W : Nat → World} {ch : List Nat} : ∀ i o (a a' : Act) v, execOp a'.eval o = execOp a.eval o → chE P W ch i o a v → chE P W ch i o a' v := fun i o a a' v he h => by
 unfold chE at *; rw [he]; exact h

def chainOkB (md : Region.Mode) (l : List Oper) (ch : List Nat) : Bool :=
 decide ch.Nodup && (List.range ch.length).all fun j => match ch[j]? with
  | none => false
  | some c => decide (c < l.length) && (match l[c]? with
   | none => false
   | some o => (match o.guard with | none => true | _ => false) && (decide (j = 0) || o.after.any fun e => Region.binds md e && decide (ch[j - 1]? = some e.on)))
theorem chainOk_spec {l : List Oper} {ch : List Nat} (h : chainOkB md l ch = true) (j : Nat) (hj : j < ch.length) :
  ∃ o, l[ch[j]]? = some o ∧ ch[j] < l.length ∧ o.guard = none ∧ (0 < j → ∃ e ∈ o.after, Region.binds md e = true ∧ ch[j - 1]? = some e.on) := by
 simp only [chainOkB, Bool.and_eq_true, List.all_eq_true] at h
 have h1 := h.2 j (List.mem_range.2 hj)
 rw [List.getElem?_eq_getElem hj] at h1
 simp only [Bool.and_eq_true, decide_eq_true_eq] at h1
 obtain ⟨h2, h3⟩ := h1
 cases ho : l[ch[j]]? with
 | none => rw [ho] at h3; cases h3
 | some o =>
  rw [ho] at h3
  simp only [Bool.and_eq_true, Bool.or_eq_true, decide_eq_true_eq] at h3
  refine ⟨o, rfl, h2, ?_, fun h0 => ?_⟩
  ·have := h3.1
   split at this
   ·assumption
   ·cases this
  ·rcases h3.2 with h4 | h4
   ·omega
   ·obtain ⟨i, hi, he⟩ := Array.any_eq_true.1 h4
    simp only [Bool.and_eq_true, decide_eq_true_eq] at he
    exact ⟨_, Array.getElem_mem hi, he.1, he.2⟩

theorem idx_some {ch : List Nat} {i j : Nat} (hn : ch.Nodup) (h : ch[j]? = some i) : ch.idxOf? i = some j := by
 obtain ⟨hj, rfl⟩ := List.getElem?_eq_some_iff.1 h
 rw [List.idxOf?_eq_some_iff]
 refine ⟨hj, rfl, fun k hk => ?_⟩
 intro he
 exact List.pairwise_iff_getElem.1 hn k j (by omega) hj hk he
theorem idx_spec {ch : List Nat} {i j : Nat} (h : ch.idxOf? i = some j) : ∃ hj : j < ch.length, ch[j] = i := by
 rw [List.idxOf?_eq_some_iff] at h
 obtain ⟨hj, he, _⟩ := h
 exact ⟨hj, he⟩

theorem wpAny_of_ch {W : Nat → World} {ch : List Nat} {l : List Oper} {Q : Act → Prop} {Q' : Exit → Act → World → Prop} (hB : headB md l l.length = true) (hc : chainOkB md l ch = true) (hQ : ∀ a, Q a → Q' .normal a (W ch.length)) :
  ∀ (fuel : Nat) (listed : Array Bool) (a : Act) (w : World), listed.size = l.length → (∃ j, j ≤ ch.length ∧ w = W j ∧ ∀ k (hk : k < ch.length), (listed.getD ch[k] true = true ↔ k < j)) →
   anyE md l.toArray (chE P W ch) Q fuel listed a → wpAny P md l.toArray Q' fuel listed a w := by
 have hnd : ch.Nodup := by
  simp only [chainOkB, Bool.and_eq_true, decide_eq_true_eq] at hc
  exact hc.1
 have hend : ∀ (listed : Array Bool) (w : World), listed.size = l.length → (∃ j, j ≤ ch.length ∧ w = W j ∧ ∀ k (hk : k < ch.length), (listed.getD ch[k] true = true ↔ k < j)) → Region.ready md l.toArray listed = [] → w = W ch.length := fun listed w hs ⟨j, hj, hw, hk⟩ hr => by
  have hall := head_done (n := l.length) (lh := listed) hB hs (by rw [List.take_length]; exact hr)
  by_cases hlt : j < ch.length
  ·obtain ⟨o, _, hcl, _⟩ := chainOk_spec hc j hlt
   have := (hk j hlt).1 (by rw [getD_tf (by omega)]; exact hall _ hcl)
   omega
  ·rw [hw]; congr 1; omega
 intro fuel
 induction fuel with
 | zero => exact fun listed a w hs hw h => ⟨h.1, by rw [hend listed w hs hw h.1]; exact hQ _ h.2⟩
 | succ fuel ih =>
  intro listed a w hs hw h
  refine ⟨fun h0 => by rw [hend listed w hs hw h0]; exact hQ _ (h.1 h0), fun i hi => ?_⟩
  obtain ⟨hun, o, ho, hall⟩ := mem_ready.1 hi
  obtain ⟨v, hy, hK⟩ := h.2 i hi o ho
  have hil : i < l.length := by simpa using (Array.getElem?_eq_some_iff.1 ho).1
  obtain ⟨j, hj, rfl, hk⟩ := hw
  unfold wpOp
  simp only [ho]
  cases hix : ch.idxOf? i with
  | some k =>
   obtain ⟨hkl, hki⟩ := idx_spec hix
   obtain ⟨o', ho', hcl, hgd, hprev⟩ := chainOk_spec hc k hkl
   have hoo : o' = o := by
    rw [hki] at ho'
    have : l[i]? = some o := by simpa using ho
    exact Option.some.inj (ho'.symm.trans this)
   subst hoo
   have hjk : j = k := by
    have h1 : ¬ k < j := fun hlt => by
     have := (hk k hkl).2 hlt
     rw [hki, hun] at this; cases this
    by_cases h0 : 0 < k
    ·obtain ⟨e, he, hb, hp⟩ := hprev h0
     have h2 := hall e he hb
     have hlt : k - 1 < ch.length := by omega
     have h3 : ch[k - 1] = e.on := by
      rw [List.getElem?_eq_getElem hlt] at hp; exact Option.some.inj hp
     obtain ⟨_, _, hcl2, _⟩ := chainOk_spec hc (k - 1) hlt
     have h4 := (hk (k - 1) hlt).1 (by rw [getD_tf (by omega), h3]; exact h2)
     omega
    ·omega
   subst hjk
   have hwt : Region.wanted o' (yielded l.toArray a.tmps) = true := by unfold Region.wanted; rw [hgd]
   have hinv : ∃ j', j' ≤ ch.length ∧ W (j + 1) = W j' ∧ ∀ k (hk : k < ch.length), ((listed.setIfInBounds i true).getD ch[k] true = true ↔ k < j') := by
    refine ⟨j + 1, by omega, rfl, fun k' hk' => ?_⟩
    by_cases hkk : k' = j
    ·subst hkk
     rw [hki]
     have : i < listed.size := by omega
     simp [this]
    ·have hne : i ≠ ch[k'] := by
      rw [← hki]
      intro he
      rcases Nat.lt_or_ge j k' with hlt | hge
      ·exact List.pairwise_iff_getElem.1 hnd j k' hkl hk' hlt he
      ·exact List.pairwise_iff_getElem.1 hnd k' j hk' hkl (by omega) he.symm
     rw [getD_set_ne true hne, hk k' hk']
     omega
   rcases hy with ⟨_, hE⟩ | ⟨hw1, _⟩
   ·rw [if_pos hwt]
    left
    unfold chE at hE
    rw [hix] at hE
    unfold Oper.wp
    rcases hE with hE | ⟨hE, rfl⟩
    ·rw [hE]
     exact ih _ _ _ (by simp [hs]) hinv hK
    ·rw [hE]
     exact ih _ _ _ (by simp [hs]) hinv hK
   ·rw [hwt] at hw1; cases hw1
  | none =>
   have hinv : ∃ j', j' ≤ ch.length ∧ W j = W j' ∧ ∀ k (hk : k < ch.length), ((listed.setIfInBounds i true).getD ch[k] true = true ↔ k < j') := by
    refine ⟨j, hj, rfl, fun k' hk' => ?_⟩
    have hne : i ≠ ch[k'] := fun he => by
     have := idx_some hnd (j := k') (i := i) (by rw [List.getElem?_eq_getElem hk', he])
     rw [hix] at this; cases this
    rw [getD_set_ne true hne]
    exact hk k' hk'
   rcases hy with ⟨hw1, hE⟩ | ⟨hw1, rfl⟩
   ·rw [if_pos hw1]
    left
    unfold chE at hE
    rw [hix] at hE
    unfold Oper.wp
    rw [hE j hj]
    exact ih _ _ _ (by simp [hs]) hinv hK
   ·rw [if_neg (by rw [hw1]; simp)]
    exact ih _ _ _ (by simp [hs]) hinv hK

def plain2B (o : Oper) : Bool := plainB o || match o.op with
 | .build _ _ | .slice _ _ _ _ _ | .extract _ _ | .lookup _ _ _ _ => true
 | .call c => (match c.callee with | .builtin .len => true | _ => false)
 | _ => false
theorem plain2_value {o : Oper} (hp : plain2B o = true) {a : Act} {w w' : World} {n : Next} (h : (execOp a.eval o).run P w = .ok n w') : ∃ v, n = .value v := by
 unfold plain2B at hp
 rw [Bool.or_eq_true] at hp
 rcases hp with hp | hp
 ·exact plain_value hp h
 ·unfold execOp at h
  split at hp <;> rename_i hop <;> simp only [hop] at h
  ·exact value_run h
  ·exact value_run h
  ·exact value_run h
  ·exact value_run h
  ·rename_i c
   split at hp
   ·rename_i hc
    unfold resolve at h
    simp only [hc, Sem.run_bind, Sem.run_pure, Result.andThen_ok, invoke, builtin] at h
    exact value_run (by rw [Sem.run_bind]; exact h)
   ·cases hp
  ·cases hp
theorem plain2_quiet {C : World → Prop} {o : Oper} (hp : plain2B o = true) {a : Act} {w : World} {v : Value} (h : o.quietAt P a C w v) : (execOp a.eval o).run P w = .ok (.value v) w := by
 unfold Oper.quietAt at h
 cases hr : (execOp a.eval o).run P w with
 | ok n w' =>
  obtain ⟨u, rfl⟩ := plain2_value hp hr
  rw [hr] at h
  obtain ⟨rfl, rfl⟩ := h
  rfl
 | halt e w' => rw [hr] at h; exact h.elim

theorem chain_reads {ops : Array Oper} {W : Nat → World} {ch : List Nat} {Q Q' : Act → Prop} : ∀ (l rest : List Oper) (i : Nat) (a : Act), ((List.range l.length).all fun j => (ch.idxOf? (i + j)).isNone) = true → l.all plain2B = true →
  (∀ a, Q a → seqE ops (chE P W ch) Q' (i + l.length) rest a) → wpQuiet P ops (fun w' => ∃ j, w' = W j) Q l a → seqE ops (chE P W ch) Q' i (l ++ rest) a
 | [], rest, i, a, _, _, hQ, h => hQ a h
 | o :: l, rest, i, a, hk, hp, hQ, h => by
  simp only [List.all_cons, Bool.and_eq_true] at hp
  rw [List.all_eq_true] at hk
  have hik : ch.idxOf? i = none := by
   have := hk 0 (by simp)
   simpa using this
  have hrest : ∀ a', wpQuiet P ops (fun w' => ∃ j, w' = W j) Q l a' → seqE ops (chE P W ch) Q' (i + 1) (l ++ rest) a' := fun a' h' =>
   chain_reads l rest (i + 1) a' (by
    rw [List.all_eq_true]
    intro j hj
    have := hk (j + 1) (by simp at hj ⊢; omega)
    rwa [show i + (j + 1) = i + 1 + j from by omega] at this) hp.2 (fun a'' hq => by have := hQ a'' hq; simpa [Nat.add_assoc, Nat.add_comm 1] using this) h'
  unfold wpQuiet at h
  by_cases hw : Region.wanted o (yielded ops a.tmps) = true
  ·rw [if_pos hw] at h
   obtain ⟨v, h1, h2⟩ := h
   refine ⟨v, .inl ⟨hw, ?_⟩, hrest _ h2⟩
   unfold chE
   rw [hik]
   intro j hj
   exact plain2_quiet hp.1 (h1 _ ⟨j, rfl⟩)
  ·rw [if_neg hw] at h
   exact ⟨undef, .inr ⟨by simpa using hw, rfl⟩, hrest _ h⟩
theorem chain_reads_at {ops : Array Oper} {W : Nat → World} {ch : List Nat} {Q' : Act → Prop} {l : List Oper} {i : Nat} {a : Act} (n : Nat) (hn : ((l.take n).length == n && ((List.range (l.take n).length).all fun j => (ch.idxOf? (i + j)).isNone) && (l.take n).all plain2B) = true)
  (h : wpQuiet P ops (fun w' => ∃ j, w' = W j) (fun a => seqE ops (chE P W ch) Q' (i + n) (l.drop n) a) (l.take n) a) : seqE ops (chE P W ch) Q' i l a := by
 simp only [Bool.and_eq_true, beq_iff_eq] at hn
 have := chain_reads (Q' := Q') (l.take n) (l.drop n) i a hn.1.2 hn.2 (fun a' hq => by rw [hn.1.1]; exact hq) h
 rwa [List.take_append_drop] at this
theorem exec_append {o : Oper} {a : Act} {w w' : World} {s x : Operand} {t : TypeId} {v u v' : Value} (ho : o.op = .call { callee := .builtin .append, args := #[s, x], argTypes := #[t, t] }) (hs : a.eval s = v) (hx : a.eval x = u)
  (hr : (Builtin.append_ #[t, t] o.type #[v, u]).run P w = .ok v' w') : (execOp a.eval o).run P w = .ok (.value v') w' := by
 unfold execOp
 simp only [ho, resolve, invoke, builtin, Sem.run_bind, Sem.run_pure, Result.andThen_ok, List.map_toArray, List.map_cons, List.map_nil, hs, hx, hr]
theorem exec_mapUpdate {o : Oper} {a : Act} {w w' : World} {m x v : Operand} {t : TypeId} {vm vx vv : Value} (ho : o.op = .mapUpdate t m x v) (hm : a.eval m = vm) (hx : a.eval x = vx) (hv : a.eval v = vv)
  (hr : (Instr.mapUpdate t vm vx vv).run P w = .ok () w') : (execOp a.eval o).run P w = .ok .skip w' := by
 unfold execOp
 simp only [ho, hm, hx, hv, Sem.run_bind, hr, Result.andThen_ok, Sem.run_pure]
theorem chain_op {ops : Array Oper} {W : Nat → World} {ch : List Nat} {Q' : Act → Prop} {o : Oper} {rest : List Oper} {i : Nat} {a : Act} (j : Nat) (v : Value) (hi : ch.idxOf? i = some j) (hg : o.guard = none)
  (hr : (execOp a.eval o).run P (W j) = .ok (.value v) (W (j + 1)) ∨ (execOp a.eval o).run P (W j) = .ok .skip (W (j + 1)) ∧ v = undef) (h : seqE ops (chE P W ch) Q' (i + 1) rest (a.put o.dst v)) : seqE ops (chE P W ch) Q' i (o :: rest) a :=
 ⟨v, .inl ⟨by unfold Region.wanted; rw [hg], by unfold chE; rw [hi]; exact hr⟩, h⟩

theorem chain_end {ops : Array Oper} {W : Nat → World} {ch : List Nat} {Q' : Act → Prop} {i : Nat} {a : Act} (h : Q' a) : seqE ops (chE P W ch) Q' i [] a := h
def chainB (l : List Oper) (ch : List Nat) : Bool := headB .any l l.length && Region.lexB .any l.toArray && chainOkB .any l ch
theorem wp_region_chain {Q : Exit → Act → World → Prop} {id : Nat} {a : Act} {w : World} {l : List Oper} (W : Nat → World) (ch : List Nat) (hW : W 0 = World.drew w) (hm : P.follows .mixedOrders = true) (hB : chainB l ch = true)
  (h : seqE l.toArray (chE P W ch) (fun a' => Q .normal a' (W ch.length)) 0 l a) : (Code.region id l.toArray true).wp P Q a w := by
 refine wp_region_any hm ?_
 simp only [chainB, Bool.and_eq_true] at hB
 obtain ⟨⟨h1, h2⟩, h3⟩ := hB
 have hlex := h2
 simp only [Region.lexB, Bool.and_eq_true] at hlex
 have hany := anyE_lex (md := .any) chE_same hlex.1 l 0 (Array.replicate l.toArray.size false) a (by simp) (by simpa using hlex.2) h
 have := wpAny_of_ch (P := P) (md := .any) (W := W) (ch := ch) (l := l) (Q' := Q) h1 h3 (fun a' h' => h') _ (Array.replicate l.toArray.size false) a (World.drew w) (by simp) ⟨0, Nat.zero_le _, hW.symm, fun k hk => by
  obtain ⟨o, _, hcl, _⟩ := chainOk_spec h3 k hk
  simp [hcl]⟩ hany
 simpa using this

theorem wp_region_chain_tail {Q : Exit → Act → World → Prop} {id : Nat} {a : Act} {w : World} {l : List Oper} (W : Nat → World) (ch : List Nat) (n : Nat) (hW : W 0 = World.drew w) (hm : P.follows .mixedOrders = true) (hB : (headTailB l n && chainB (l.take n) ch) = true)
  (h : seqE (l.take n).toArray (chE P W ch) (fun a' => wpList P l.toArray Q (l.drop n) a' (W ch.length)) 0 (l.take n) a) : (Code.region id l.toArray true).wp P Q a w := by
 refine wp_region_any hm ?_
 show wpAny P .any l.toArray Q l.toArray.size (Array.replicate l.toArray.size false) a (World.drew w)
 simp only [headTailB, chainB, Bool.and_eq_true, decide_eq_true_eq] at hB
 obtain ⟨⟨⟨⟨⟨h1, h2⟩, h3⟩, h4⟩, h6⟩, ⟨hb, hlex⟩, hch⟩ := hB
 have hln : (l.take n).length = n := by simp; omega
 have hlex2 := hlex
 simp only [Region.lexB, Bool.and_eq_true] at hlex2
 have hany := anyE_lex (md := .any) chE_same hlex2.1 (l.take n) 0 (Array.replicate (l.take n).toArray.size false) a (by simp) (by simpa using hlex2.2) h
 have hany2 := wpAny_of_ch (P := P) (md := .any) (W := W) (ch := ch) (l := l.take n) (Q' := fun e a' w' => e = .normal ∧ wpList P l.toArray Q (l.drop n) a' w') hb hch (fun a' h' => ⟨rfl, h'⟩) _ (Array.replicate (l.take n).toArray.size false) a (World.drew w) (by simp)
  ⟨0, Nat.zero_le _, hW.symm, fun k hk => by
   obtain ⟨o, _, hcl, _⟩ := chainOk_spec hch k hk
   rw [hln] at hcl
   simp [hln, hcl]⟩ hany
 have := wpAny_split (P := P) (md := .any) (Q := Q) (g := l.length - n) h1 h2 h3 h4 (Qh := fun e a' w' => e = .normal ∧ wpList P l.toArray Q (l.drop n) a' w') (fun e a w he hh => absurd hh.1 he)
  (fun a' w' hh => by
   have := wpAny_of_seq (md := .any) (P := P) (Q' := Q) (l.drop n) n (fullB l n) a' w' (fun j => by simp [List.getElem?_drop]) (by simpa using h6) hh.2
   simpa using this)
  _ (Array.replicate l.length false) (Array.replicate (l.take n).toArray.size false) a _
  ⟨by simp, by simpa using hln, fun i hi => by rw [getD_replicate_false, getD_replicate_false],
   ⟨by simp, fun j oj _ hl => (by rw [getD_replicate_false] at hl; cases hl), fun t _ ht => getD_in (by simpa using ht) (getD_replicate_false _ _)⟩⟩ hany2
 rw [hln] at this
 rw [show n + (l.length - n) = l.length from by omega] at this
 simpa using this
end
end Go.Proofs.YtlboejdhmggjpaaGreat

/- WsA -/
namespace Go.Proofs.YtlboejdhmggjpaaGreat.Sp
set_option maxRecDepth 100000
set_option maxHeartbeats 16000000
open Go.RowKit Go.BigFrame Go.ChangeMaps Go.WideMaps Go.Proofs.YtlboejdhmggjpaaGreat

abbrev Frm := List (ByteArray × Bool)
def look : Frm → ByteArray → Option Bool
 | [], _ => none
 | p :: f, x => if p.1 = x then some p.2 else look f x
def stkFrom (x : ByteArray) : Nat → List Frm → List (Nat × Bool)
 | _, [] => []
 | i, f :: F => (match look f x with | some t => [(i, t)] | none => []) ++ stkFrom x (i + 1) F
def stk (F : List Frm) (x : ByteArray) : List (Nat × Bool) := stkFrom x 1 F
def isTy (F : List Frm) (x : ByteArray) : Bool := match (stk F x).getLast? with | some p => p.2 | none => false
def mcell (p : Nat × Bool) : List Value := [.int .i64 p.1, .bool p.2]
abbrev nilS : Value := .slice none 0 0
def rawR (v : Value) : Option (DataW Value × List MemPlace) := some (.held v, [])
def names (f : Frm) : List Value := f.map fun p => .string p.1

theorem stkFrom_cons (x : ByteArray) (i : Nat) (f : Frm) (F : List Frm) : stkFrom x i (f :: F) = (match look f x with | some t => [(i, t)] | none => []) ++ stkFrom x (i + 1) F := rfl
theorem stkFrom_append (x : ByteArray) : ∀ (i : Nat) (F G : List Frm), stkFrom x i (F ++ G) = stkFrom x i F ++ stkFrom x (i + F.length) G
 | i, [], G => by simp [stkFrom]
 | i, f :: F, G => by
  rw [List.cons_append, stkFrom_cons, stkFrom_cons]
  rw [stkFrom_append x (i + 1) F G, List.append_assoc, show i + 1 + F.length = i + (f :: F).length from by simp; omega]
theorem stk_snoc (F : List Frm) (f : Frm) (x : ByteArray) : stk (F ++ [f]) x = stk F x ++ (match look f x with | some t => [(F.length + 1, t)] | none => []) := by
 unfold stk
 rw [stkFrom_append]
 simp [stkFrom, Nat.add_comm]
theorem stkFrom_lt (x : ByteArray) : ∀ (i : Nat) (F : List Frm), ∀ p ∈ stkFrom x i F, i ≤ p.1 ∧ p.1 < i + F.length
 | i, [], p, h => by simp [stkFrom] at h
 | i, f :: F, p, h => by
  rw [stkFrom_cons, List.mem_append] at h
  rcases h with h | h
  ·cases hl : look f x with
   | none => rw [hl] at h; simp at h
   | some t => rw [hl] at h; simp at h; subst h; simp
  ·have := stkFrom_lt x (i + 1) F p h
   simp only [List.length_cons]; omega
theorem stkFrom_len (x : ByteArray) : ∀ (i : Nat) (F : List Frm), (stkFrom x i F).length ≤ F.length
 | i, [] => by simp [stkFrom]
 | i, f :: F => by
  rw [stkFrom_cons]
  have := stkFrom_len x (i + 1) F
  cases look f x <;> simp <;> omega

structure ScAt (w : World) (A M n : Nat) (vB : Value) (vs : List Value) (mv : ByteArray → Value) (D : DataW Value) (F : List Frm) : Prop where
 hd : w.heap[A]? = some (.cells #[.pointer (some ⟨A, 0, none⟩), .map (some M), vB] 66 (0, 0))
 mp : w.ownsMap Tryz.prog 9 rawR M n D
 key : ∀ x : ByteArray, x.size ≤ maxLen → D.atKey (.string x.data.toList) (.held nilS) = .held (mv x)
 mrow : ∀ x, w.ownsRow 0 89 2 (mv x) (stk F x).length ((stk F x).flatMap mcell)
 brow : w.ownsRow 0 90 1 vB F.length vs
 vrow : ∀ i (h : i < F.length), w.ownsRow 0 9 1 (vs.getD i nilS) F[i].length (names F[i])
 dm : ∀ x y, x ≠ y → (mv x).ownBlock = none ∨ (mv x).ownBlock ≠ (mv y).ownBlock
 dv : ∀ i j, i < F.length → j < F.length → i ≠ j → (vs.getD i nilS).ownBlock = none ∨ (vs.getD i nilS).ownBlock ≠ (vs.getD j nilS).ownBlock
 pos : 0 < F.length
def foot (A M : Nat) (vB : Value) (vs : List Value) (mv : ByteArray → Value) (k : Nat) : Prop :=
 k = A ∨ k = M ∨ vB.ownBlock = some k ∨ (∃ i, (vs.getD i nilS).ownBlock = some k) ∨ ∃ x, (mv x).ownBlock = some k
def Sco (w : World) (A n : Nat) (S : Nat → Prop) (F : List Frm) : Prop :=
 ∃ M vB vs mv D, ScAt w A M n vB vs mv D F ∧ (∀ k, foot A M vB vs mv k → S k) ∧ ∀ k, S k → k < w.heap.size

theorem ownsRow_mod {w w' : World} {base e size : Nat} {v : Value} {n : Nat} {xs : List Value} {S : Nat → Prop} (h : w.ownsRow base e size v n xs) (hm : Mod S w w') (hs : ∀ k, v.ownBlock = some k → ¬ S k) : w'.ownsRow base e size v n xs := by
 refine ⟨h.1, ?_⟩
 rcases h.2 with hn | ⟨g, cap, cur, rfl, hb, hg, rest⟩
 ·exact .inl hn
 ·exact .inr ⟨g, cap, cur, rfl, hb, hm.keep hg (hs g rfl), rest⟩
theorem ScAt.vs_len {w : World} {A M n : Nat} {vB : Value} {vs : List Value} {mv : ByteArray → Value} {D : DataW Value} {F : List Frm} (h : ScAt w A M n vB vs mv D F) : vs.length = F.length := by
 have := h.brow.1; omega
theorem ScAt.keep {w w' : World} {A M n : Nat} {vB : Value} {vs : List Value} {mv : ByteArray → Value} {D : DataW Value} {F : List Frm} {T : Nat → Prop} (h : ScAt w A M n vB vs mv D F) (hm : Mod T w w') (hT : ∀ k, foot A M vB vs mv k → ¬ T k) : ScAt w' A M n vB vs mv D F := by
 refine ⟨hm.keep h.hd (hT A (.inl rfl)), ?_, h.key, fun x => ownsRow_mod (h.mrow x) hm (fun k hk => hT k (.inr (.inr (.inr (.inr ⟨x, hk⟩))))), ownsRow_mod h.brow hm (fun k hk => hT k (.inr (.inr (.inl hk)))),
  fun i hi => ownsRow_mod (h.vrow i hi) hm (fun k hk => hT k (.inr (.inr (.inr (.inl ⟨i, hk⟩))))), h.dm, h.dv, h.pos⟩
 obtain ⟨es, clock, hb, rest⟩ := h.mp
 exact ⟨es, clock, hm.keep hb (hT M (.inr (.inl rfl))), rest⟩
theorem Sco.keep {w w' : World} {A n : Nat} {S T : Nat → Prop} {F : List Frm} (h : Sco w A n S F) (hm : Mod T w w') (hd : ∀ k, S k → ¬ T k) : Sco w' A n S F := by
 obtain ⟨M, vB, vs, mv, D, h1, h2, h3⟩ := h
 exact ⟨M, vB, vs, mv, D, h1.keep hm (fun k hk => hd k (h2 k hk)), h2, fun k hk => Nat.lt_of_lt_of_le (h3 k hk) hm.size⟩
theorem Sco.pos {w : World} {A n : Nat} {S : Nat → Prop} {F : List Frm} (h : Sco w A n S F) : 0 < F.length := by
 obtain ⟨M, vB, vs, mv, D, h1, -⟩ := h; exact h1.pos

theorem row_shape {w : World} {base e size : Nat} {v : Value} {n : Nat} {xs : List Value} (h : w.ownsRow base e size v n xs) : ∃ a cap, v = .slice a n cap := by
 rcases h.2 with ⟨rfl, rfl⟩ | ⟨g, cap, cur, rfl, _⟩
 ·exact ⟨none, 0, rfl⟩
 ·exact ⟨_, cap, rfl⟩
theorem ScAt.cells {w : World} {A M n : Nat} {vB : Value} {vs : List Value} {mv : ByteArray → Value} {D : DataW Value} {F : List Frm} (h : ScAt w A M n vB vs mv D F) :
  w.cell? ⟨A, 0, none⟩ = some (.pointer (some ⟨A, 0, none⟩)) ∧ w.cell? ⟨A, 1, none⟩ = some (.map (some M)) ∧ w.cell? ⟨A, 2, none⟩ = some vB := by
 refine ⟨?_, ?_, ?_⟩ <;> simp [World.cell?, h.hd]

theorem info66 : (Tryz.prog.info? 66).map (·.size) = some 3 := by kernel_rfl
theorem ptr_same (A : Nat) (w : World) : (binOp .eql 39 (.pointer (some ⟨A, 0, none⟩)) (.pointer (some ⟨A, 0, none⟩))).run Tryz.prog w = .ok (.bool true) w := by
 have hi := info66
 cases hq : Tryz.prog.info? 66 with
 | none => rw [hq] at hi; cases hi
 | some i => exact run_eql_ptr_same w _ Tryz.underlying39 hq

theorem Sc.made (A : Nat) (w : World) (x y : Value) (h : w.heap[A]? = some (.cells #[.pointer (some ⟨A, 0, none⟩), x, y] 66 (0, 0))) : Calls Tryz.prog 39 #[.pointer (some ⟨A, 0, none⟩)] w fun e w' => e = .returned (.bool true) ∧ w' = w := by
 have c0 : w.cell? ⟨A, 0, none⟩ = some (.pointer (some ⟨A, 0, none⟩)) := by simp [World.cell?, h]
 clear h
 go_enter Tryz.func39, Tryz.ntmps39
 have hp := ptr_same A w
 go_wp2
 go_ret
 exact ⟨rfl, rfl⟩

set_option maxRecDepth 100000 in
theorem Sc.blocks (A n : Nat) (S : Nat → Prop) (F : List Frm) (w : World) (h : Sco w A n S F) : Calls Tryz.prog 23 #[.pointer (some ⟨A, 0, none⟩)] w fun e w' => e = .returned (.int .i64 F.length) ∧ w' = w := by
  obtain ⟨M, vB, vs, mv, D, h, h2, h3⟩ := h
  obtain ⟨c0, c1, c2⟩ := h.cells
  obtain ⟨a, cap, rfl⟩ := row_shape h.brow
  have HD := Lib.hid h.hd
  clear h h2 h3
  go_enter Tryz.func23, Tryz.ntmps23
  go_wp2_with fail
  refine (Sc.made A w _ _ HD.out).mono ?_
  rintro e w1 ⟨rfl, rfl⟩
  go_wp2_with fail
  go_ret
  exact ⟨rfl, rfl⟩
theorem law9 : Maps.Keyed Tryz.prog 9 := Maps.string_keyed Tryz.underlying9
theorem zero88 (w : World) : (zeroValue 87).run Tryz.prog w = .ok nilS w := by kernel_rfl
theorem ScAt.lookup {w : World} {A M n : Nat} {vB : Value} {vs : List Value} {mv : ByteArray → Value} {D : DataW Value} {F : List Frm} (h : ScAt w A M n vB vs mv D F) (x : ByteArray) (hx : x.size ≤ maxLen) :
  (Instr.lookup 63 (.map (some M)) (.string x) false).run Tryz.prog w = .ok (mv x) w := by
 obtain ⟨v, ps, hrun, hv⟩ := h.mp.lookup law9 Tryz.underlying63 (zero88 w) (zd := .held nilS) (zp := []) rfl (keyOf_string_mk Tryz.underlying9 hx)
 rw [h.key x hx] at hv
 have : v = mv x := by
  unfold rawR at hv
  simp only [Option.some.injEq, Prod.mk.injEq, DataW.held.injEq] at hv
  exact hv.1
 rw [hrun, this]

theorem flat2 (l : List (Nat × Bool)) (i : Nat) (h : i < l.length) : (l.flatMap mcell)[i * 2]? = some (.int .i64 l[i].1) ∧ (l.flatMap mcell)[i * 2 + 1]? = some (.bool l[i].2) := by
 induction l generalizing i with
 | nil => simp at h
 | cons p l ih =>
  cases i with
  | zero => simp [mcell]
  | succ i =>
   have := ih i (by simpa using h)
   have e1 : (p :: l).flatMap mcell = (.int .i64 p.1) :: (.bool p.2) :: l.flatMap mcell := by simp [mcell]
   rw [e1, show (i + 1) * 2 = i * 2 + 1 + 1 from by omega]
   simpa using this
theorem row_top {w : World} {base e : Nat} {v : Value} {l : List (Nat × Bool)} (h : w.ownsRow base e 2 v l.length (l.flatMap mcell)) (h0 : 0 < l.length) :
  ∃ g cap, v = .slice (some ⟨g, 0, none⟩) l.length cap ∧ g < w.heap.size ∧ w.cell? ⟨g, (l.length - 1) * 2, none⟩ = some (.int .i64 (l[l.length - 1]'(by omega)).1) ∧ w.cell? ⟨g, (l.length - 1) * 2 + 1, none⟩ = some (.bool (l[l.length - 1]'(by omega)).2) := by
 obtain ⟨h1, h2⟩ := flat2 l (l.length - 1) (by omega)
 rcases h.2 with ⟨rfl, hz⟩ | ⟨g, cap, cur, rfl, hb, hg, hn, hm, hc, ht⟩
 ·omega
 ·refine ⟨g, cap, rfl, (Array.getElem?_eq_some_iff.1 hg).1, ?_, ?_⟩
  ·rw [h.cellAt _ (by omega)]; exact h1
  ·rw [h.cellAt _ (by omega)]; exact h2

theorem Sc.isType (A n : Nat) (S : Nat → Prop) (F : List Frm) (x : ByteArray) (w : World) (h : Sco w A n S F) (hx : x.size ≤ maxLen) (hF : F.length ≤ 9223372036854775807) :
  Calls Tryz.prog 21 #[.pointer (some ⟨A, 0, none⟩), .string x] w fun e w' => e = .returned (.bool (isTy F x)) ∧ w' = w := by
 obtain ⟨M, vB, vs, mv, D, h, h2, h3⟩ := h
 obtain ⟨c0, c1, c2⟩ := h.cells
 have HD := Lib.hid h.hd
 have hlk := h.lookup x hx
 have hrow := h.mrow x
 have hsl : (stk F x).length ≤ F.length := stkFrom_len x 1 F
 have hty : isTy F x = match (stk F x).getLast? with | some p => p.2 | none => false := rfl
 clear h h2 h3
 generalize stk F x = l at *
 generalize isTy F x = r at *
 generalize mv x = v at *
 by_cases h0 : 0 < l.length
 ·obtain ⟨g, cap, rfl, hg, k0, k1⟩ := row_top hrow h0
  have hr : r = (l[l.length - 1]'(by omega)).2 := by
   rw [hty, List.getLast?_eq_getElem?, List.getElem?_eq_getElem (by omega)]
  rw [← hr] at k1
  have i0 : ((l.length : Int) - 1).toNat = l.length - 1 := by omega
  have i1 : (0 : Int) ≤ (l.length : Int) - 1 := by omega
  have i2 : ((l.length : Int) - 1) < (l.length : Int) := by omega
  have i3 : (l.length : Int) ≤ 9223372036854775807 := by omega
  clear hr hty hrow k0
  go_enter Tryz.func21, Tryz.ntmps21
  go_wp2_with fail
  refine (Sc.made A w _ _ HD.out).mono ?_
  rintro e w1 ⟨rfl, rfl⟩
  go_wp2_with fail
  go_ret
  exact ⟨rfl, rfl⟩
 ·have hl0 : l = [] := List.length_eq_zero_iff.1 (by omega)
  subst hl0
  obtain rfl : r = false := by rw [hty]; rfl
  obtain ⟨a, cap, rfl⟩ := row_shape hrow
  clear hrow hty h0
  go_enter Tryz.func21, Tryz.ntmps21
  go_wp2_with fail
  refine (Sc.made A w _ _ HD.out).mono ?_
  rintro e w1 ⟨rfl, rfl⟩
  go_wp2_with fail
  go_ret
  exact ⟨rfl, rfl⟩
end Go.Proofs.YtlboejdhmggjpaaGreat.Sp

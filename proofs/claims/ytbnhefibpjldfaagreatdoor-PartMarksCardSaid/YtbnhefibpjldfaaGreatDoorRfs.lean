/- A range over a function whose iterator has cells of its own (X), and whose body knows how the value at hand stands to those ahead of it (Ok). -/
import Derived.Test.YtbnhefibpjldfaaGreatDoorMon
import Derived.RangeFuncWrites
import Derived.RangeFuncNested
namespace Go.Proofs.YtbnhefibpjldfaaGreatDoor
open Go.RowKit
set_option linter.unusedVariables false
variable {F : Fence} {n : Nat} {P : Program}

/-- No cells. -/
def nc (w : World) (k : Nat) : Prop := ∃ o, w.heap[k]? = some o ∧ o.isCells = false
def SeqG {α : Type} (F : Fence) (n : Nat) (P : Program) (g : Nat) (lb : Array Value) (encs : α → Array Value) (Kp : World → World → Prop) (Ok : List α → α → Prop) (X : Nat → Prop) (S Sp : List α → Prop) (w : World) : Prop :=
  ∀ (l : Nat) (J Jx : List α → World → Prop) (W : World), Below w.heap.size w W → (∀ s A B, J s A → Mod (fun k => X k ∨ (W.heap.size ≤ k ∧ nc A k)) A B → J s B) → (∀ s A B, Jx s A → Mod (fun k => X k ∨ (W.heap.size ≤ k ∧ nc A k)) A B → Jx s B) →
    (∀ pre x W1, J pre W1 → Ok pre x → YieldAt F (n - 1) P l (encs x) W1 fun e W' => (e = .returned (.bool true) ∧ J (pre ++ [x]) W' ∧ Kp W1 W') ∨ (e = .returned (.bool false) ∧ Jx (pre ++ [x]) W')) → J [] W →
    CallsIn F n P g (#[.func (.yield l) #[] #[]] ++ lb) W fun e W' => (∃ v, e = .returned v) ∧ ((∃ xs, S xs ∧ J xs W') ∨ (∃ pre, Sp pre ∧ Jx pre W'))

theorem wpIn_rangeFunc_gen {α : Type} {g : Operand} {ps : Array Tmp} {assign body : Code} {Q : Exit → Act → World → Prop} {a : Act} {w : World}
    (hro : F.round = none) (h1 : 1 ≤ n) {gf : Nat} {lb : Array Value} (hg : a.eval g = .func (.func gf) #[] lb) (hFg : F.fn gf) (eg : ∀ args w, (callFunc gf args).run P w = .ok (.enter gf args) w)
    {encs : α → Array Value} {Kp : World → World → Prop} {Ok : List α → α → Prop} {X : Nat → Prop} {S Sp : List α → Prop} {w0 : World} (hseq : SeqG F (n - 1) P gf lb encs Kp Ok X S Sp w0) (hX : ∀ k, X k → k < w.heap.size)
    (hKt : ∀ {A B C : World}, Kp A B → Kp B C → Kp A C) (hKb : ∀ (W : World) (l : Nat) (o o' : Obj), w.heap.size ≤ l → W.heap[l]? = some o → o.isCells = false → o.isWalk = false → Kp W (W.putObj l o')) (hb0 : Below w0.heap.size w0 w) (hps : ∀ x, (encs x).size = ps.size)
    (I : List α → World → Prop) (Ix : Code → List α → World → Prop) (hI : ∀ s A B, I s A → Mod (fun k => X k ∨ (w.heap.size ≤ k ∧ nc A k)) A B → I s B) (hIx : ∀ c s A B, Ix c s A → Mod (fun k => X k ∨ (w.heap.size ≤ k ∧ nc A k)) A B → Ix c s B) (h0 : I [] w) (a₁ : α → Act)
    (hassign : ∀ (l : Nat) (x : α) (W : World) (K : Act → World → Prop), K (a₁ x) W →
      assign.wpIn (F.inRound l) (n - 1 - 1) P (Exit.then K (fun _ _ _ => False)) { tmps := (ps.zip (encs x)).foldl (fun t (p, v) => t.setIfInBounds p v) a.tmps, defers := [] } W)
    (hbody : ∀ (l : Nat) (pre : List α) (x : α) (W : World), I pre W → Ok pre x → body.wpIn (F.inRound l) (n - 1 - 1) P (ownPostG w.heap.size Kp I Ix (pre ++ [x]) W) (a₁ x) W)
    (hdone : ∀ (D : Nat) (xs : List α) (W : World), w.heap.size ≤ D → S xs → I xs W → W.heap[D]? = some (.deferred (some [])) → Q .normal { a with defers := { target := .collected D, args := #[] } :: a.defers } W)
    (hstop : ∀ (D : Nat) (c : Code) (pre : List α) (W : World), w.heap.size ≤ D → Sp pre → Ix c pre W → W.heap[D]? = some (.deferred (some [])) → c.wpIn F n P Q { a with defers := { target := .collected D, args := #[] } :: a.defers } W) :
    (Code.rangeFunc g ps assign body).wpIn F n P Q a w := by
  refine wpIn_rangeFunc fun fn hfn => ?_
  rw [hro]
  let L : LoopState → Option Code → Obj := fun st c => .loop { state := st, pending := c, fn, tmps := a.tmps, params := ps, assign, body, defers := w.heap.size }
  obtain ⟨V, hV⟩ : ∃ V, V = (w.alloc (.deferred (some []))).alloc (L .ready none) := ⟨_, rfl⟩
  have hVs : V.heap.size = w.heap.size + 2 := by rw [hV]; simp
  have hl0 : V.heap[w.heap.size + 1]? = some (L .ready none) := by
    rw [hV]; have := World.alloc_heap_new (w.alloc (.deferred (some []))) (L .ready none); rwa [World.size_alloc] at this
  have hd0 : V.heap[w.heap.size]? = some (.deferred (some [])) := by
    rw [hV]; exact (Below.heap_alloc _ _ _ (by simp)).trans (World.alloc_heap_new w _)
  have hwV : Below w.heap.size w V := by rw [hV]; exact ((Below.refl _ w).alloc (Nat.le_refl _) _).alloc (by simp) _
  have hi0 : I [] V := hI _ _ _ h0 (Mod.of_below hwV)
  have hput : ∀ {s : List α} {A : World} {l : Nat} {o0 : Obj} (o : Obj), I s A → A.heap[l]? = some o0 → o0.isCells = false → w.heap.size ≤ l → I s (A.putObj l o) := fun {s A l o0} o hi h0 h1 hl =>
    hI s A _ hi ⟨rfl, rfl, rfl, by simp, fun k hk hn => World.putObj_heap_other (fun e => hn (.inr (by subst e; exact ⟨hl, o0, h0, h1⟩)))⟩
  have hputx : ∀ {c : Code} {s : List α} {A : World} {l : Nat} {o0 : Obj} (o : Obj), Ix c s A → A.heap[l]? = some o0 → o0.isCells = false → w.heap.size ≤ l → Ix c s (A.putObj l o) := fun {c s A l o0} o hi h0 h1 hl =>
    hIx c s A _ hi ⟨rfl, rfl, rfl, by simp, fun k hk hn => World.putObj_heap_other (fun e => hn (.inr (by subst e; exact ⟨hl, o0, h0, h1⟩)))⟩
  refine ⟨w.heap.size + 1, [{ target := .collected w.heap.size, args := #[] }], V, { target := .fn (.func gf) lb, args := #[.func (.yield (w.heap.size + 1)) #[] #[]] }, V, gf,
    #[.func (.yield (w.heap.size + 1)) #[] #[]] ++ lb, V, by rw [hV]; exact run_enterLoop_outer _ _ _ _ _, by simp only [resolve, hg]; simp [go_sem], fun f' hf' => by simp [Target.leads] at hf'; subst hf'; exact hFg, by simp [invoke, go_sem, eg], fun _ => h1, ?_⟩
  let J : List α → World → Prop := fun pre W => I pre W ∧ W.heap[w.heap.size + 1]? = some (L .ready none) ∧ W.heap[w.heap.size]? = some (.deferred (some []))
  let Jx : List α → World → Prop := fun pre W => ∃ c, Ix c pre W ∧ W.heap[w.heap.size + 1]? = some (L .done (some c)) ∧ W.heap[w.heap.size]? = some (.deferred (some []))
  have hkeep : ∀ {A B : World} {k : Nat} {o : Obj}, Mod (fun k => X k ∨ (V.heap.size ≤ k ∧ nc A k)) A B → A.heap[k]? = some o → w.heap.size ≤ k → k < w.heap.size + 2 → B.heap[k]? = some o := fun hm ho h1 h2 =>
    hm.keep ho (fun e => by
      rcases e with e | e
      · have := hX _ e; omega
      · omega)
  have hsub : ∀ {A B : World}, Mod (fun k => X k ∨ (V.heap.size ≤ k ∧ nc A k)) A B → Mod (fun k => X k ∨ (w.heap.size ≤ k ∧ nc A k)) A B := fun hm => hm.mono (fun k _ hk => by
    rcases hk with hk | hk
    · exact .inl hk
    · exact .inr ⟨by omega, hk.2⟩)
  have hJ : ∀ s A B, J s A → Mod (fun k => X k ∨ (V.heap.size ≤ k ∧ nc A k)) A B → J s B := fun s A B hs hm =>
    ⟨hI s A B hs.1 (hsub hm), hkeep hm hs.2.1 (by omega) (by omega), hkeep hm hs.2.2 (by omega) (by omega)⟩
  have hJx : ∀ s A B, Jx s A → Mod (fun k => X k ∨ (V.heap.size ≤ k ∧ nc A k)) A B → Jx s B := fun s A B ⟨c, h1, h2, h3⟩ hm =>
    ⟨c, hIx c s A B h1 (hsub hm), hkeep hm h2 (by omega) (by omega), hkeep hm h3 (by omega) (by omega)⟩
  refine (hseq (w.heap.size + 1) J Jx V (hb0.trans (hwV.mono hb0.size)) hJ hJx ?_ ⟨hi0, hl0, hd0⟩).mono ?_
  · rintro pre x W ⟨hi, hl, hk⟩ hok
    have hlt : w.heap.size + 1 < W.heap.size := (Array.getElem?_eq_some_iff.1 hl).1
    refine ⟨fn, _, assign, body, run_yield (P := P) (args := encs x) hl (hps x), roundIn_of_wpIn hfn (hassign _ x W _ ⟨_, run_beginRound hl rfl, ?_⟩)⟩
    have hl2 : (W.putObj (w.heap.size + 1) (L .busy none)).heap[w.heap.size + 1]? = some (L .busy none) := World.putObj_heap_same hlt
    have hk2 : (W.putObj (w.heap.size + 1) (L .busy none)).heap[w.heap.size]? = some (.deferred (some [])) := (World.putObj_heap_other (by omega)).trans hk
    refine wpIn_mono (hbody _ pre x _ (hput _ hi hl rfl (by omega)) hok) ?_
    have fin : ∀ {W3 : World}, KeepsFrom w.heap.size (W.putObj (w.heap.size + 1) (L .busy none)) W3 → W3.heap[w.heap.size + 1]? = some (L .busy none) ∧ W3.heap[w.heap.size]? = some (.deferred (some [])) := fun hk3 =>
      ⟨hk3.same _ _ (by omega) hl2 rfl, hk3.same _ _ (Nat.le_refl _) hk2 rfl⟩
    rintro e a3 W3 hp
    have out : ∀ (c : Code), KeepsFrom w.heap.size (W.putObj (w.heap.size + 1) (L .busy none)) W3 → Ix c (pre ++ [x]) W3 → Jx (pre ++ [x]) (W3.putObj (w.heap.size + 1) (L .done (some c))) := fun c h1 h2 => by
      obtain ⟨hl3, hk3⟩ := fin h1
      exact ⟨c, hputx _ h2 hl3 rfl (by omega), World.putObj_heap_same (Array.getElem?_eq_some_iff.1 hl3).1, (World.putObj_heap_other (by omega)).trans hk3⟩
    cases e with
    | normal =>
      obtain ⟨hk3, hkp, hi3⟩ := hp
      obtain ⟨hl3, hd3⟩ := fin hk3
      refine ⟨_, _, run_endRound (P := P) none hl3, .inl ⟨rfl, ⟨hput _ hi3 hl3 rfl (by omega), World.putObj_heap_same (Array.getElem?_eq_some_iff.1 hl3).1, (World.putObj_heap_other (by omega)).trans hd3⟩, ?_⟩⟩
      exact hKt (hKt (hKb _ _ _ _ (by omega) hl rfl rfl) hkp) (hKb _ _ _ _ (by omega) hl3 rfl rfl)
    | ret => exact ⟨_, _, run_endRound (P := P) (some .ret) (fin hp.1).1, .inr ⟨rfl, out _ hp.1 hp.2⟩⟩
    | exit id => exact ⟨_, _, run_endRound (P := P) (some (.exit id)) (fin hp.1).1, .inr ⟨rfl, out _ hp.1 hp.2⟩⟩
    | goto t => exact ⟨_, _, run_endRound (P := P) (some (.goto t)) (fin hp.1).1, .inr ⟨rfl, out _ hp.1 hp.2⟩⟩
    | panic ch => exact hp.elim
    | outgrown => exact hp.elim
  · rintro e W2 ⟨⟨v, rfl⟩, (⟨xs, hS, hi, hl, hk⟩ | ⟨pre, hSp, c, hi, hl, hk⟩)⟩
    · exact ⟨none, _, run_endLoop (P := P) hl (by simp), hdone _ xs _ (Nat.le_refl _) hS (hput _ hi hl rfl (by omega)) ((World.putObj_heap_other (by omega)).trans hk)⟩
    · exact ⟨some c, _, run_endLoop (P := P) hl (by simp), hstop _ c pre _ (Nat.le_refl _) hSp (hputx _ hi hl rfl (by omega)) ((World.putObj_heap_other (by omega)).trans hk)⟩
end Go.Proofs.YtbnhefibpjldfaaGreatDoor

/- Rfa -/
namespace Go.Proofs.YtbnhefibpjldfaaGreatDoor
open Go.RowKit
set_option linter.unusedVariables false
variable {F : Fence} {n : Nat} {P : Program}

theorem wpIn_rangeFunc_asg {α : Type} {g : Operand} {ps : Array Tmp} {assign body : Code} {Q : Exit → Act → World → Prop} {a : Act} {w : World}
    (hro : F.round = none) (h1 : 1 ≤ n) {gf : Nat} {lb : Array Value} (hg : a.eval g = .func (.func gf) #[] lb) (hFg : F.fn gf) (eg : ∀ args w, (callFunc gf args).run P w = .ok (.enter gf args) w)
    {encs : α → Array Value} {Kp : World → World → Prop} {Ok : List α → α → Prop} {X : Nat → Prop} {S Sp : List α → Prop} {w0 : World} (hseq : SeqG F (n - 1) P gf lb encs Kp Ok X S Sp w0) (hX : ∀ k, X k → k < w.heap.size)
    (hKt : ∀ {A B C : World}, Kp A B → Kp B C → Kp A C) (hKb : ∀ (W : World) (l : Nat) (o o' : Obj), w.heap.size ≤ l → W.heap[l]? = some o → o.isCells = false → o.isWalk = false → Kp W (W.putObj l o')) (hb0 : Below w0.heap.size w0 w) (hps : ∀ x, (encs x).size = ps.size)
    (I : List α → World → Prop) (Ix : Code → List α → World → Prop) (hI : ∀ s A B, I s A → Mod (fun k => X k ∨ (w.heap.size ≤ k ∧ nc A k)) A B → I s B) (hIx : ∀ c s A B, Ix c s A → Mod (fun k => X k ∨ (w.heap.size ≤ k ∧ nc A k)) A B → Ix c s B) (h0 : I [] w) (Rw : α → Act → World → Prop) (hKa : ∀ {A B : World}, Below A.heap.size A B → Kp A B) (hRw : ∀ (x : α) (a' : Act) (W : World) (l : Nat) (o o' : Obj), W.heap[l]? = some o → o.isCells = false → Rw x a' W → Rw x a' (W.putObj l o'))
    (hassign : ∀ (l : Nat) (x : α) (W : World) (K : Act → World → Prop), (∀ a' W', Below W.heap.size W W' → Rw x a' W' → K a' W') →
      assign.wpIn (F.inRound l) (n - 1 - 1) P (Exit.then K (fun _ _ _ => False)) { tmps := (ps.zip (encs x)).foldl (fun t (p, v) => t.setIfInBounds p v) a.tmps, defers := [] } W)
    (hbody : ∀ (l : Nat) (pre : List α) (x : α) (a' : Act) (W : World), I pre W → Ok pre x → Rw x a' W → body.wpIn (F.inRound l) (n - 1 - 1) P (ownPostG w.heap.size Kp I Ix (pre ++ [x]) W) a' W)
    (hdone : ∀ (D : Nat) (xs : List α) (W : World), w.heap.size ≤ D → S xs → I xs W → W.heap[D]? = some (.deferred (some [])) → Q .normal { a with defers := { target := .collected D, args := #[] } :: a.defers } W)
    (hstop : ∀ (D : Nat) (c : Code) (pre : List α) (W : World), w.heap.size ≤ D → Sp pre → Ix c pre W → W.heap[D]? = some (.deferred (some [])) → c.wpIn F n P Q { a with defers := { target := .collected D, args := #[] } :: a.defers } W) :
    (Code.rangeFunc g ps assign body).wpIn F n P Q a w := by
  refine wpIn_rangeFunc fun fn hfn => ?_
  rw [hro]
  let L : LoopState → Option Code → Obj := fun st c => .loop { state := st, pending := c, fn, tmps := a.tmps, params := ps, assign, body, defers := w.heap.size }
  obtain ⟨V, hV⟩ : ∃ V, V = (w.alloc (.deferred (some []))).alloc (L .ready none) := ⟨_, rfl⟩
  have hVs : V.heap.size = w.heap.size + 2 := by rw [hV]; simp
  have hl0 : V.heap[w.heap.size + 1]? = some (L .ready none) := by
    rw [hV]; have := World.alloc_heap_new (w.alloc (.deferred (some []))) (L .ready none); rwa [World.size_alloc] at this
  have hd0 : V.heap[w.heap.size]? = some (.deferred (some [])) := by
    rw [hV]; exact (Below.heap_alloc _ _ _ (by simp)).trans (World.alloc_heap_new w _)
  have hwV : Below w.heap.size w V := by rw [hV]; exact ((Below.refl _ w).alloc (Nat.le_refl _) _).alloc (by simp) _
  have hi0 : I [] V := hI _ _ _ h0 (Mod.of_below hwV)
  have hput : ∀ {s : List α} {A : World} {l : Nat} {o0 : Obj} (o : Obj), I s A → A.heap[l]? = some o0 → o0.isCells = false → w.heap.size ≤ l → I s (A.putObj l o) := fun {s A l o0} o hi h0 h1 hl =>
    hI s A _ hi ⟨rfl, rfl, rfl, by simp, fun k hk hn => World.putObj_heap_other (fun e => hn (.inr (by subst e; exact ⟨hl, o0, h0, h1⟩)))⟩
  have hputx : ∀ {c : Code} {s : List α} {A : World} {l : Nat} {o0 : Obj} (o : Obj), Ix c s A → A.heap[l]? = some o0 → o0.isCells = false → w.heap.size ≤ l → Ix c s (A.putObj l o) := fun {c s A l o0} o hi h0 h1 hl =>
    hIx c s A _ hi ⟨rfl, rfl, rfl, by simp, fun k hk hn => World.putObj_heap_other (fun e => hn (.inr (by subst e; exact ⟨hl, o0, h0, h1⟩)))⟩
  refine ⟨w.heap.size + 1, [{ target := .collected w.heap.size, args := #[] }], V, { target := .fn (.func gf) lb, args := #[.func (.yield (w.heap.size + 1)) #[] #[]] }, V, gf,
    #[.func (.yield (w.heap.size + 1)) #[] #[]] ++ lb, V, by rw [hV]; exact run_enterLoop_outer _ _ _ _ _, by simp only [resolve, hg]; simp [go_sem], fun f' hf' => by simp [Target.leads] at hf'; subst hf'; exact hFg, by simp [invoke, go_sem, eg], fun _ => h1, ?_⟩
  let J : List α → World → Prop := fun pre W => I pre W ∧ W.heap[w.heap.size + 1]? = some (L .ready none) ∧ W.heap[w.heap.size]? = some (.deferred (some []))
  let Jx : List α → World → Prop := fun pre W => ∃ c, Ix c pre W ∧ W.heap[w.heap.size + 1]? = some (L .done (some c)) ∧ W.heap[w.heap.size]? = some (.deferred (some []))
  have hkeep : ∀ {A B : World} {k : Nat} {o : Obj}, Mod (fun k => X k ∨ (V.heap.size ≤ k ∧ nc A k)) A B → A.heap[k]? = some o → w.heap.size ≤ k → k < w.heap.size + 2 → B.heap[k]? = some o := fun hm ho h1 h2 =>
    hm.keep ho (fun e => by
      rcases e with e | e
      · have := hX _ e; omega
      · omega)
  have hsub : ∀ {A B : World}, Mod (fun k => X k ∨ (V.heap.size ≤ k ∧ nc A k)) A B → Mod (fun k => X k ∨ (w.heap.size ≤ k ∧ nc A k)) A B := fun hm => hm.mono (fun k _ hk => by
    rcases hk with hk | hk
    · exact .inl hk
    · exact .inr ⟨by omega, hk.2⟩)
  have hJ : ∀ s A B, J s A → Mod (fun k => X k ∨ (V.heap.size ≤ k ∧ nc A k)) A B → J s B := fun s A B hs hm =>
    ⟨hI s A B hs.1 (hsub hm), hkeep hm hs.2.1 (by omega) (by omega), hkeep hm hs.2.2 (by omega) (by omega)⟩
  have hJx : ∀ s A B, Jx s A → Mod (fun k => X k ∨ (V.heap.size ≤ k ∧ nc A k)) A B → Jx s B := fun s A B ⟨c, h1, h2, h3⟩ hm =>
    ⟨c, hIx c s A B h1 (hsub hm), hkeep hm h2 (by omega) (by omega), hkeep hm h3 (by omega) (by omega)⟩
  refine (hseq (w.heap.size + 1) J Jx V (hb0.trans (hwV.mono hb0.size)) hJ hJx ?_ ⟨hi0, hl0, hd0⟩).mono ?_
  · rintro pre x W0 ⟨hi0, hl0, hk0⟩ hok
    have hlt0 : w.heap.size + 1 < W0.heap.size := (Array.getElem?_eq_some_iff.1 hl0).1
    refine ⟨fn, _, assign, body, run_yield (P := P) (args := encs x) hl0 (hps x), roundIn_of_wpIn hfn (hassign _ x W0 _ fun a' W hba hra => ?_)⟩
    have hl := heap_below hba hl0 hlt0
    have hk := heap_below hba hk0 (by omega)
    have hi : I pre W := hI _ _ _ hi0 (Mod.of_below hba)
    refine ⟨_, run_beginRound hl rfl, ?_⟩
    have hlt : w.heap.size + 1 < W.heap.size := (Array.getElem?_eq_some_iff.1 hl).1
    have hl2 : (W.putObj (w.heap.size + 1) (L .busy none)).heap[w.heap.size + 1]? = some (L .busy none) := World.putObj_heap_same hlt
    have hk2 : (W.putObj (w.heap.size + 1) (L .busy none)).heap[w.heap.size]? = some (.deferred (some [])) := (World.putObj_heap_other (by omega)).trans hk
    refine wpIn_mono (hbody _ pre x _ _ (hput _ hi hl rfl (by omega)) hok (hRw _ _ _ _ _ _ hl rfl hra)) ?_
    have fin : ∀ {W3 : World}, KeepsFrom w.heap.size (W.putObj (w.heap.size + 1) (L .busy none)) W3 → W3.heap[w.heap.size + 1]? = some (L .busy none) ∧ W3.heap[w.heap.size]? = some (.deferred (some [])) := fun hk3 =>
      ⟨hk3.same _ _ (by omega) hl2 rfl, hk3.same _ _ (Nat.le_refl _) hk2 rfl⟩
    rintro e a3 W3 hp
    have out : ∀ (c : Code), KeepsFrom w.heap.size (W.putObj (w.heap.size + 1) (L .busy none)) W3 → Ix c (pre ++ [x]) W3 → Jx (pre ++ [x]) (W3.putObj (w.heap.size + 1) (L .done (some c))) := fun c h1 h2 => by
      obtain ⟨hl3, hk3⟩ := fin h1
      exact ⟨c, hputx _ h2 hl3 rfl (by omega), World.putObj_heap_same (Array.getElem?_eq_some_iff.1 hl3).1, (World.putObj_heap_other (by omega)).trans hk3⟩
    cases e with
    | normal =>
      obtain ⟨hk3, hkp, hi3⟩ := hp
      obtain ⟨hl3, hd3⟩ := fin hk3
      refine ⟨_, _, run_endRound (P := P) none hl3, .inl ⟨rfl, ⟨hput _ hi3 hl3 rfl (by omega), World.putObj_heap_same (Array.getElem?_eq_some_iff.1 hl3).1, (World.putObj_heap_other (by omega)).trans hd3⟩, ?_⟩⟩
      exact hKt (hKa hba) <| hKt (hKt (hKb _ _ _ _ (by omega) hl rfl rfl) hkp) (hKb _ _ _ _ (by omega) hl3 rfl rfl)
    | ret => exact ⟨_, _, run_endRound (P := P) (some .ret) (fin hp.1).1, .inr ⟨rfl, out _ hp.1 hp.2⟩⟩
    | exit id => exact ⟨_, _, run_endRound (P := P) (some (.exit id)) (fin hp.1).1, .inr ⟨rfl, out _ hp.1 hp.2⟩⟩
    | goto t => exact ⟨_, _, run_endRound (P := P) (some (.goto t)) (fin hp.1).1, .inr ⟨rfl, out _ hp.1 hp.2⟩⟩
    | panic ch => exact hp.elim
    | outgrown => exact hp.elim
  · rintro e W2 ⟨⟨v, rfl⟩, (⟨xs, hS, hi, hl, hk⟩ | ⟨pre, hSp, c, hi, hl, hk⟩)⟩
    · exact ⟨none, _, run_endLoop (P := P) hl (by simp), hdone _ xs _ (Nat.le_refl _) hS (hput _ hi hl rfl (by omega)) ((World.putObj_heap_other (by omega)).trans hk)⟩
    · exact ⟨some c, _, run_endLoop (P := P) hl (by simp), hstop _ c pre _ (Nat.le_refl _) hSp (hputx _ hi hl rfl (by omega)) ((World.putObj_heap_other (by omega)).trans hk)⟩
end Go.Proofs.YtbnhefibpjldfaaGreatDoor

/- Rfs -/
namespace Go.Proofs.YtbnhefibpjldfaaGreatDoor
open Go.RowKit
set_option linter.unusedVariables false
variable {F : Fence} {n : Nat} {P : Program}

/-- The contract of an iterator that is called in a world of just that size. -/
def SeqGN {α : Type} (F : Fence) (n : Nat) (P : Program) (g : Nat) (lb : Array Value) (encs : α → Array Value) (Kp : World → World → Prop) (Ok : List α → α → Prop) (X : Nat → Prop) (S Sp : List α → Prop) (N : Nat) (w : World) : Prop :=
  ∀ (l : Nat) (J Jx : List α → World → Prop) (W : World), W.heap.size = N → Below w.heap.size w W → (∀ s A B, J s A → Mod (fun k => X k ∨ (W.heap.size ≤ k ∧ nc A k)) A B → J s B) → (∀ s A B, Jx s A → Mod (fun k => X k ∨ (W.heap.size ≤ k ∧ nc A k)) A B → Jx s B) →
    (∀ pre x W1, J pre W1 → Ok pre x → YieldAt F (n - 1) P l (encs x) W1 fun e W' => (e = .returned (.bool true) ∧ J (pre ++ [x]) W' ∧ Kp W1 W') ∨ (e = .returned (.bool false) ∧ Jx (pre ++ [x]) W')) → J [] W →
    CallsIn F n P g (#[.func (.yield l) #[] #[]] ++ lb) W fun e W' => (∃ v, e = .returned v) ∧ ((∃ xs, S xs ∧ J xs W') ∨ (∃ pre, Sp pre ∧ Jx pre W'))
theorem wpIn_rangeFunc_asgH {α : Type} {g : Operand} {ps : Array Tmp} {assign body : Code} {Q : Exit → Act → World → Prop} {a : Act} {w : World}
    (hro : F.round = none) (h1 : 1 ≤ n) {gf : Nat} {lb : Array Value} (hg : a.eval g = .func (.func gf) #[] lb) (hFg : F.fn gf) (eg : ∀ args w, (callFunc gf args).run P w = .ok (.enter gf args) w)
    {encs : α → Array Value} {Kp : World → World → Prop} {Ok : List α → α → Prop} {X : Nat → Prop} {S Sp : List α → Prop} {w0 : World} (hseq : SeqGN F (n - 1) P gf lb encs Kp Ok X S Sp (w.heap.size + 2) w0) (hX : ∀ k, X k → k < w.heap.size)
    (hKt : ∀ {A B C : World}, Kp A B → Kp B C → Kp A C) (hKb : ∀ (W : World) (l : Nat) (o o' : Obj), w.heap.size ≤ l → W.heap[l]? = some o → o.isCells = false → o.isWalk = false → Kp W (W.putObj l o')) (hb0 : Below w0.heap.size w0 w) (hps : ∀ x, (encs x).size = ps.size)
    (I : List α → World → Prop) (Ix : Code → List α → World → Prop) (hI : ∀ s A B, I s A → Mod (fun k => X k ∨ (w.heap.size ≤ k ∧ nc A k)) A B → I s B) (hIx : ∀ c s A B, Ix c s A → Mod (fun k => X k ∨ (w.heap.size ≤ k ∧ nc A k)) A B → Ix c s B) (h0 : I [] w) (Rw : α → Act → World → Prop) (hKa : ∀ {A B : World}, Below A.heap.size A B → Kp A B) (hRw : ∀ (x : α) (a' : Act) (W : World) (l : Nat) (o o' : Obj), W.heap[l]? = some o → o.isCells = false → Rw x a' W → Rw x a' (W.putObj l o'))
    (hassign : ∀ (l : Nat) (x : α) (W : World) (K : Act → World → Prop), (∀ a' W', Below W.heap.size W W' → Rw x a' W' → K a' W') →
      assign.wpIn (F.inRound l) (n - 1 - 1) P (Exit.then K (fun _ _ _ => False)) { tmps := (ps.zip (encs x)).foldl (fun t (p, v) => t.setIfInBounds p v) a.tmps, defers := [] } W)
    (hbody : ∀ (l : Nat) (pre : List α) (x : α) (a' : Act) (W : World), w.heap.size + 1 ≤ l → (∃ r, W.heap[l]? = some (.loop r)) → I pre W → Ok pre x → Rw x a' W → body.wpIn (F.inRound l) (n - 1 - 1) P (ownPostG w.heap.size Kp I Ix (pre ++ [x]) W) a' W)
    (hdone : ∀ (D : Nat) (xs : List α) (W : World), w.heap.size ≤ D → S xs → I xs W → W.heap[D]? = some (.deferred (some [])) → Q .normal { a with defers := { target := .collected D, args := #[] } :: a.defers } W)
    (hstop : ∀ (D : Nat) (c : Code) (pre : List α) (W : World), w.heap.size ≤ D → Sp pre → Ix c pre W → W.heap[D]? = some (.deferred (some [])) → c.wpIn F n P Q { a with defers := { target := .collected D, args := #[] } :: a.defers } W) :
    (Code.rangeFunc g ps assign body).wpIn F n P Q a w := by
  refine wpIn_rangeFunc fun fn hfn => ?_
  rw [hro]
  let L : LoopState → Option Code → Obj := fun st c => .loop { state := st, pending := c, fn, tmps := a.tmps, params := ps, assign, body, defers := w.heap.size }
  obtain ⟨V, hV⟩ : ∃ V, V = (w.alloc (.deferred (some []))).alloc (L .ready none) := ⟨_, rfl⟩
  have hVs : V.heap.size = w.heap.size + 2 := by rw [hV]; simp
  have hl0 : V.heap[w.heap.size + 1]? = some (L .ready none) := by
    rw [hV]; have := World.alloc_heap_new (w.alloc (.deferred (some []))) (L .ready none); rwa [World.size_alloc] at this
  have hd0 : V.heap[w.heap.size]? = some (.deferred (some [])) := by
    rw [hV]; exact (Below.heap_alloc _ _ _ (by simp)).trans (World.alloc_heap_new w _)
  have hwV : Below w.heap.size w V := by rw [hV]; exact ((Below.refl _ w).alloc (Nat.le_refl _) _).alloc (by simp) _
  have hi0 : I [] V := hI _ _ _ h0 (Mod.of_below hwV)
  have hput : ∀ {s : List α} {A : World} {l : Nat} {o0 : Obj} (o : Obj), I s A → A.heap[l]? = some o0 → o0.isCells = false → w.heap.size ≤ l → I s (A.putObj l o) := fun {s A l o0} o hi h0 h1 hl =>
    hI s A _ hi ⟨rfl, rfl, rfl, by simp, fun k hk hn => World.putObj_heap_other (fun e => hn (.inr (by subst e; exact ⟨hl, o0, h0, h1⟩)))⟩
  have hputx : ∀ {c : Code} {s : List α} {A : World} {l : Nat} {o0 : Obj} (o : Obj), Ix c s A → A.heap[l]? = some o0 → o0.isCells = false → w.heap.size ≤ l → Ix c s (A.putObj l o) := fun {c s A l o0} o hi h0 h1 hl =>
    hIx c s A _ hi ⟨rfl, rfl, rfl, by simp, fun k hk hn => World.putObj_heap_other (fun e => hn (.inr (by subst e; exact ⟨hl, o0, h0, h1⟩)))⟩
  refine ⟨w.heap.size + 1, [{ target := .collected w.heap.size, args := #[] }], V, { target := .fn (.func gf) lb, args := #[.func (.yield (w.heap.size + 1)) #[] #[]] }, V, gf,
    #[.func (.yield (w.heap.size + 1)) #[] #[]] ++ lb, V, by rw [hV]; exact run_enterLoop_outer _ _ _ _ _, by simp only [resolve, hg]; simp [go_sem], fun f' hf' => by simp [Target.leads] at hf'; subst hf'; exact hFg, by simp [invoke, go_sem, eg], fun _ => h1, ?_⟩
  let J : List α → World → Prop := fun pre W => I pre W ∧ W.heap[w.heap.size + 1]? = some (L .ready none) ∧ W.heap[w.heap.size]? = some (.deferred (some []))
  let Jx : List α → World → Prop := fun pre W => ∃ c, Ix c pre W ∧ W.heap[w.heap.size + 1]? = some (L .done (some c)) ∧ W.heap[w.heap.size]? = some (.deferred (some []))
  have hkeep : ∀ {A B : World} {k : Nat} {o : Obj}, Mod (fun k => X k ∨ (V.heap.size ≤ k ∧ nc A k)) A B → A.heap[k]? = some o → w.heap.size ≤ k → k < w.heap.size + 2 → B.heap[k]? = some o := fun hm ho h1 h2 =>
    hm.keep ho (fun e => by
      rcases e with e | e
      · have := hX _ e; omega
      · omega)
  have hsub : ∀ {A B : World}, Mod (fun k => X k ∨ (V.heap.size ≤ k ∧ nc A k)) A B → Mod (fun k => X k ∨ (w.heap.size ≤ k ∧ nc A k)) A B := fun hm => hm.mono (fun k _ hk => by
    rcases hk with hk | hk
    · exact .inl hk
    · exact .inr ⟨by omega, hk.2⟩)
  have hJ : ∀ s A B, J s A → Mod (fun k => X k ∨ (V.heap.size ≤ k ∧ nc A k)) A B → J s B := fun s A B hs hm =>
    ⟨hI s A B hs.1 (hsub hm), hkeep hm hs.2.1 (by omega) (by omega), hkeep hm hs.2.2 (by omega) (by omega)⟩
  have hJx : ∀ s A B, Jx s A → Mod (fun k => X k ∨ (V.heap.size ≤ k ∧ nc A k)) A B → Jx s B := fun s A B ⟨c, h1, h2, h3⟩ hm =>
    ⟨c, hIx c s A B h1 (hsub hm), hkeep hm h2 (by omega) (by omega), hkeep hm h3 (by omega) (by omega)⟩
  refine (hseq (w.heap.size + 1) J Jx V hVs (hb0.trans (hwV.mono hb0.size)) hJ hJx ?_ ⟨hi0, hl0, hd0⟩).mono ?_
  · rintro pre x W0 ⟨hi0, hl0, hk0⟩ hok
    have hlt0 : w.heap.size + 1 < W0.heap.size := (Array.getElem?_eq_some_iff.1 hl0).1
    refine ⟨fn, _, assign, body, run_yield (P := P) (args := encs x) hl0 (hps x), roundIn_of_wpIn hfn (hassign _ x W0 _ fun a' W hba hra => ?_)⟩
    have hl := heap_below hba hl0 hlt0
    have hk := heap_below hba hk0 (by omega)
    have hi : I pre W := hI _ _ _ hi0 (Mod.of_below hba)
    refine ⟨_, run_beginRound hl rfl, ?_⟩
    have hlt : w.heap.size + 1 < W.heap.size := (Array.getElem?_eq_some_iff.1 hl).1
    have hl2 : (W.putObj (w.heap.size + 1) (L .busy none)).heap[w.heap.size + 1]? = some (L .busy none) := World.putObj_heap_same hlt
    have hk2 : (W.putObj (w.heap.size + 1) (L .busy none)).heap[w.heap.size]? = some (.deferred (some [])) := (World.putObj_heap_other (by omega)).trans hk
    refine wpIn_mono (hbody _ pre x _ _ (by omega) ⟨_, hl2⟩ (hput _ hi hl rfl (by omega)) hok (hRw _ _ _ _ _ _ hl rfl hra)) ?_
    have fin : ∀ {W3 : World}, KeepsFrom w.heap.size (W.putObj (w.heap.size + 1) (L .busy none)) W3 → W3.heap[w.heap.size + 1]? = some (L .busy none) ∧ W3.heap[w.heap.size]? = some (.deferred (some [])) := fun hk3 =>
      ⟨hk3.same _ _ (by omega) hl2 rfl, hk3.same _ _ (Nat.le_refl _) hk2 rfl⟩
    rintro e a3 W3 hp
    have out : ∀ (c : Code), KeepsFrom w.heap.size (W.putObj (w.heap.size + 1) (L .busy none)) W3 → Ix c (pre ++ [x]) W3 → Jx (pre ++ [x]) (W3.putObj (w.heap.size + 1) (L .done (some c))) := fun c h1 h2 => by
      obtain ⟨hl3, hk3⟩ := fin h1
      exact ⟨c, hputx _ h2 hl3 rfl (by omega), World.putObj_heap_same (Array.getElem?_eq_some_iff.1 hl3).1, (World.putObj_heap_other (by omega)).trans hk3⟩
    cases e with
    | normal =>
      obtain ⟨hk3, hkp, hi3⟩ := hp
      obtain ⟨hl3, hd3⟩ := fin hk3
      refine ⟨_, _, run_endRound (P := P) none hl3, .inl ⟨rfl, ⟨hput _ hi3 hl3 rfl (by omega), World.putObj_heap_same (Array.getElem?_eq_some_iff.1 hl3).1, (World.putObj_heap_other (by omega)).trans hd3⟩, ?_⟩⟩
      exact hKt (hKa hba) <| hKt (hKt (hKb _ _ _ _ (by omega) hl rfl rfl) hkp) (hKb _ _ _ _ (by omega) hl3 rfl rfl)
    | ret => exact ⟨_, _, run_endRound (P := P) (some .ret) (fin hp.1).1, .inr ⟨rfl, out _ hp.1 hp.2⟩⟩
    | exit id => exact ⟨_, _, run_endRound (P := P) (some (.exit id)) (fin hp.1).1, .inr ⟨rfl, out _ hp.1 hp.2⟩⟩
    | goto t => exact ⟨_, _, run_endRound (P := P) (some (.goto t)) (fin hp.1).1, .inr ⟨rfl, out _ hp.1 hp.2⟩⟩
    | panic ch => exact hp.elim
    | outgrown => exact hp.elim
  · rintro e W2 ⟨⟨v, rfl⟩, (⟨xs, hS, hi, hl, hk⟩ | ⟨pre, hSp, c, hi, hl, hk⟩)⟩
    · exact ⟨none, _, run_endLoop (P := P) hl (by simp), hdone _ xs _ (Nat.le_refl _) hS (hput _ hi hl rfl (by omega)) ((World.putObj_heap_other (by omega)).trans hk)⟩
    · exact ⟨some c, _, run_endLoop (P := P) hl (by simp), hstop _ c pre _ (Nat.le_refl _) hSp (hputx _ hi hl rfl (by omega)) ((World.putObj_heap_other (by omega)).trans hk)⟩
theorem wpIn_rangeFunc_asgN {α : Type} {g : Operand} {ps : Array Tmp} {assign body : Code} {Q : Exit → Act → World → Prop} {a : Act} {w : World}
    {l₀ : Nat} {r₀ : Loop} (hro : F.round = some l₀) (hl₀ : w.heap[l₀]? = some (.loop r₀)) (h1 : 1 ≤ n) {gf : Nat} {lb : Array Value} (hg : a.eval g = .func (.func gf) #[] lb) (hFg : F.fn gf) (eg : ∀ args w, (callFunc gf args).run P w = .ok (.enter gf args) w)
    {encs : α → Array Value} {Kp : World → World → Prop} {Ok : List α → α → Prop} {X : Nat → Prop} {S Sp : List α → Prop} {w0 : World} (hseq : SeqG F (n - 1) P gf lb encs Kp Ok X S Sp w0) (hX : ∀ k, X k → k < w.heap.size)
    (hKt : ∀ {A B C : World}, Kp A B → Kp B C → Kp A C) (hKb : ∀ (W : World) (l : Nat) (o o' : Obj), w.heap.size ≤ l → W.heap[l]? = some o → o.isCells = false → o.isWalk = false → Kp W (W.putObj l o')) (hb0 : Below w0.heap.size w0 w) (hps : ∀ x, (encs x).size = ps.size)
    (I : List α → World → Prop) (Ix : Code → List α → World → Prop) (hI : ∀ s A B, I s A → Mod (fun k => X k ∨ (w.heap.size ≤ k ∧ nc A k)) A B → I s B) (hIx : ∀ c s A B, Ix c s A → Mod (fun k => X k ∨ (w.heap.size ≤ k ∧ nc A k)) A B → Ix c s B) (h0 : I [] w) (Rw : α → Act → World → Prop) (hKa : ∀ {A B : World}, Below A.heap.size A B → Kp A B) (hRw : ∀ (x : α) (a' : Act) (W : World) (l : Nat) (o o' : Obj), W.heap[l]? = some o → o.isCells = false → Rw x a' W → Rw x a' (W.putObj l o'))
    (hassign : ∀ (l : Nat) (x : α) (W : World) (K : Act → World → Prop), (∀ a' W', Below W.heap.size W W' → Rw x a' W' → K a' W') →
      assign.wpIn (F.inRound l) (n - 1 - 1) P (Exit.then K (fun _ _ _ => False)) { tmps := (ps.zip (encs x)).foldl (fun t (p, v) => t.setIfInBounds p v) a.tmps, defers := [] } W)
    (hbody : ∀ (l : Nat) (pre : List α) (x : α) (a' : Act) (W : World), w.heap.size ≤ l → (∃ r, W.heap[l]? = some (.loop r)) → I pre W → Ok pre x → Rw x a' W → body.wpIn (F.inRound l) (n - 1 - 1) P (ownPostG w.heap.size Kp I Ix (pre ++ [x]) W) a' W)
    (hdone : ∀ (xs : List α) (W : World), S xs → I xs W → Q .normal a W)
    (hstop : ∀ (c : Code) (pre : List α) (W : World), Sp pre → Ix c pre W → c.wpIn F n P Q a W) :
    (Code.rangeFunc g ps assign body).wpIn F n P Q a w := by
  refine wpIn_rangeFunc fun fn hfn => ?_
  rw [hro]
  let L : LoopState → Option Code → Obj := fun st c => .loop { state := st, pending := c, fn, tmps := a.tmps, params := ps, assign, body, defers := r₀.defers }
  obtain ⟨V, hV⟩ : ∃ V, V = w.alloc (L .ready none) := ⟨_, rfl⟩
  have hVs : V.heap.size = w.heap.size + 1 := by rw [hV]; simp
  have hl0 : V.heap[w.heap.size]? = some (L .ready none) := by rw [hV]; exact World.alloc_heap_new w _
  have hwV : Below w.heap.size w V := by rw [hV]; exact (Below.refl _ w).alloc (Nat.le_refl _) _
  have hi0 : I [] V := hI _ _ _ h0 (Mod.of_below hwV)
  have hput : ∀ {s : List α} {A : World} {l : Nat} {o0 : Obj} (o : Obj), I s A → A.heap[l]? = some o0 → o0.isCells = false → w.heap.size ≤ l → I s (A.putObj l o) := fun {s A l o0} o hi h0 h1 hl =>
    hI s A _ hi ⟨rfl, rfl, rfl, by simp, fun k hk hn => World.putObj_heap_other (fun e => hn (.inr (by subst e; exact ⟨hl, o0, h0, h1⟩)))⟩
  have hputx : ∀ {c : Code} {s : List α} {A : World} {l : Nat} {o0 : Obj} (o : Obj), Ix c s A → A.heap[l]? = some o0 → o0.isCells = false → w.heap.size ≤ l → Ix c s (A.putObj l o) := fun {c s A l o0} o hi h0 h1 hl =>
    hIx c s A _ hi ⟨rfl, rfl, rfl, by simp, fun k hk hn => World.putObj_heap_other (fun e => hn (.inr (by subst e; exact ⟨hl, o0, h0, h1⟩)))⟩
  refine ⟨w.heap.size, [], V, { target := .fn (.func gf) lb, args := #[.func (.yield w.heap.size) #[] #[]] }, V, gf,
    #[.func (.yield w.heap.size) #[] #[]] ++ lb, V, by rw [hV]; exact run_enterLoop_inner hl₀ _ _ _ _ _, by simp only [resolve, hg]; simp [go_sem], fun f' hf' => by simp [Target.leads] at hf'; subst hf'; exact hFg, by simp [invoke, go_sem, eg], fun _ => h1, ?_⟩
  let J : List α → World → Prop := fun pre W => I pre W ∧ W.heap[w.heap.size]? = some (L .ready none)
  let Jx : List α → World → Prop := fun pre W => ∃ c, Ix c pre W ∧ W.heap[w.heap.size]? = some (L .done (some c))
  have hkeep : ∀ {A B : World} {k : Nat} {o : Obj}, Mod (fun k => X k ∨ (V.heap.size ≤ k ∧ nc A k)) A B → A.heap[k]? = some o → w.heap.size ≤ k → k < w.heap.size + 1 → B.heap[k]? = some o := fun hm ho h1 h2 =>
    hm.keep ho (fun e => by
      rcases e with e | e
      · have := hX _ e; omega
      · omega)
  have hsub : ∀ {A B : World}, Mod (fun k => X k ∨ (V.heap.size ≤ k ∧ nc A k)) A B → Mod (fun k => X k ∨ (w.heap.size ≤ k ∧ nc A k)) A B := fun hm => hm.mono (fun k _ hk => by
    rcases hk with hk | hk
    · exact .inl hk
    · exact .inr ⟨by omega, hk.2⟩)
  have hJ : ∀ s A B, J s A → Mod (fun k => X k ∨ (V.heap.size ≤ k ∧ nc A k)) A B → J s B := fun s A B hs hm =>
    ⟨hI s A B hs.1 (hsub hm), hkeep hm hs.2 (by omega) (by omega)⟩
  have hJx : ∀ s A B, Jx s A → Mod (fun k => X k ∨ (V.heap.size ≤ k ∧ nc A k)) A B → Jx s B := fun s A B ⟨c, h1, h2⟩ hm =>
    ⟨c, hIx c s A B h1 (hsub hm), hkeep hm h2 (by omega) (by omega)⟩
  refine (hseq w.heap.size J Jx V (hb0.trans (hwV.mono hb0.size)) hJ hJx ?_ ⟨hi0, hl0⟩).mono ?_
  · rintro pre x W0 ⟨hi0, hl0⟩ hok
    have hlt0 : w.heap.size < W0.heap.size := (Array.getElem?_eq_some_iff.1 hl0).1
    refine ⟨fn, _, assign, body, run_yield (P := P) (args := encs x) hl0 (hps x), roundIn_of_wpIn hfn (hassign _ x W0 _ fun a' W hba hra => ?_)⟩
    have hl := heap_below hba hl0 hlt0
    have hi : I pre W := hI _ _ _ hi0 (Mod.of_below hba)
    refine ⟨_, run_beginRound hl rfl, ?_⟩
    have hlt : w.heap.size < W.heap.size := (Array.getElem?_eq_some_iff.1 hl).1
    have hl2 : (W.putObj w.heap.size (L .busy none)).heap[w.heap.size]? = some (L .busy none) := World.putObj_heap_same hlt
    refine wpIn_mono (hbody _ pre x _ _ (Nat.le_refl _) ⟨_, hl2⟩ (hput _ hi hl rfl (by omega)) hok (hRw _ _ _ _ _ _ hl rfl hra)) ?_
    have fin : ∀ {W3 : World}, KeepsFrom w.heap.size (W.putObj w.heap.size (L .busy none)) W3 → W3.heap[w.heap.size]? = some (L .busy none) := fun hk3 =>
      hk3.same _ _ (by omega) hl2 rfl
    rintro e a3 W3 hp
    have out : ∀ (c : Code), KeepsFrom w.heap.size (W.putObj w.heap.size (L .busy none)) W3 → Ix c (pre ++ [x]) W3 → Jx (pre ++ [x]) (W3.putObj w.heap.size (L .done (some c))) := fun c h1 h2 => by
      have hl3 := fin h1
      exact ⟨c, hputx _ h2 hl3 rfl (by omega), World.putObj_heap_same (Array.getElem?_eq_some_iff.1 hl3).1⟩
    cases e with
    | normal =>
      obtain ⟨hk3, hkp, hi3⟩ := hp
      have hl3 := fin hk3
      refine ⟨_, _, run_endRound (P := P) none hl3, .inl ⟨rfl, ⟨hput _ hi3 hl3 rfl (by omega), World.putObj_heap_same (Array.getElem?_eq_some_iff.1 hl3).1⟩, ?_⟩⟩
      exact hKt (hKa hba) <| hKt (hKt (hKb _ _ _ _ (by omega) hl rfl rfl) hkp) (hKb _ _ _ _ (by omega) hl3 rfl rfl)
    | ret => exact ⟨_, _, run_endRound (P := P) (some .ret) (fin hp.1), .inr ⟨rfl, out _ hp.1 hp.2⟩⟩
    | exit id => exact ⟨_, _, run_endRound (P := P) (some (.exit id)) (fin hp.1), .inr ⟨rfl, out _ hp.1 hp.2⟩⟩
    | goto t => exact ⟨_, _, run_endRound (P := P) (some (.goto t)) (fin hp.1), .inr ⟨rfl, out _ hp.1 hp.2⟩⟩
    | panic ch => exact hp.elim
    | outgrown => exact hp.elim
  · rintro e W2 ⟨⟨v, rfl⟩, (⟨xs, hS, hi, hl⟩ | ⟨pre, hSp, c, hi, hl⟩)⟩
    · exact ⟨none, _, run_endLoop (P := P) hl (by simp), hdone xs _ hS (hput _ hi hl rfl (by omega))⟩
    · exact ⟨some c, _, run_endLoop (P := P) hl (by simp), hstop c pre _ hSp (hputx _ hi hl rfl (by omega))⟩
theorem SeqG.inRound {α : Type} {g : Nat} {lb : Array Value} {encs : α → Array Value} {Kp : World → World → Prop} {Ok : List α → α → Prop} {X : Nat → Prop} {S Sp : List α → Prop} {w : World} (l : Nat)
    (h : SeqG F n P g lb encs Kp Ok X S Sp w) : SeqG (F.inRound l) n P g lb encs Kp Ok X S Sp w := h
end Go.Proofs.YtbnhefibpjldfaaGreatDoor

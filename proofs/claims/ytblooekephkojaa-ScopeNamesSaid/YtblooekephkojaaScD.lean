/- scope: one row written, and what is kept. -/
import Derived.Test.YtblooekephkojaaScC
namespace Go.Proofs.Ytblooekephkojaa
open Go.RowKit Go.BigFrame Go.ChangeMaps Go.WideMaps
set_option linter.unusedVariables false

/-- What lies at a scope amid a call: what each name is, and each block's names, each for itself. -/
structure ScG (w : World) (A M n : Nat) (vB : Value) (vs : List Value) (mv : ByteArray → Value) (D : DataW Value) (st : ByteArray → List (Nat × Bool)) (ns : List (List Value)) : Prop where
  hd : w.heap[A]? = some (.cells #[.pointer (some ⟨A, 0, none⟩), .map (some M), vB] 57 (0, 0))
  mp : w.ownsMap Try.prog 9 rawR M n D
  key : ∀ x : ByteArray, x.size ≤ maxLen → D.atKey (.string x.data.toList) (.held nilS) = .held (mv x)
  mrow : ∀ x, w.ownsRow 0 90 2 (mv x) (st x).length ((st x).flatMap mcell)
  brow : w.ownsRow 0 91 1 vB ns.length vs
  vrow : ∀ i (h : i < ns.length), w.ownsRow 0 9 1 (vs.getD i nilS) ns[i].length ns[i]
  dm : ∀ x y, x ≠ y → (mv x).ownBlock = none ∨ (mv x).ownBlock ≠ (mv y).ownBlock
  dv : ∀ i j, i < ns.length → j < ns.length → i ≠ j → (vs.getD i nilS).ownBlock = none ∨ (vs.getD i nilS).ownBlock ≠ (vs.getD j nilS).ownBlock

section
variable {w : World} {A M n : Nat} {vB : Value} {vs : List Value} {mv : ByteArray → Value} {D : DataW Value} {F : List Frm} {st : ByteArray → List (Nat × Bool)} {ns : List (List Value)}
theorem ScAt.toG (h : ScAt w A M n vB vs mv D F) : ScG w A M n vB vs mv D (stk F) (F.map names) :=
  ⟨h.hd, h.mp, h.key, h.mrow, by simpa using h.brow, fun i hi => by
    have := h.vrow i (by simpa using hi)
    simpa [names_len] using this, h.dm, fun i j hi hj => h.dv i j (by simpa using hi) (by simpa using hj)⟩
theorem ScG.toAt (h : ScG w A M n vB vs mv D st ns) (h1 : ∀ x, st x = stk F x) (h2 : ns = F.map names) (h0 : 0 < F.length) : ScAt w A M n vB vs mv D F := by
  subst h2
  exact ⟨h.hd, h.mp, h.key, fun x => by rw [← h1 x]; exact h.mrow x, by simpa using h.brow, fun i hi => by
    have := h.vrow i (by simpa using hi)
    simpa [names_len] using this, h.dm, fun i j hi hj => h.dv i j (by simpa using hi) (by simpa using hj), h0⟩
theorem ScG.AM (h : ScG w A M n vB vs mv D st ns) : A ≠ M := by
  rintro rfl
  obtain ⟨es, c, hb⟩ := ownsMap_heap h.mp
  rw [h.hd] at hb; cases hb
theorem ScG.vs_len (h : ScG w A M n vB vs mv D st ns) : vs.length = ns.length := by
  have := h.brow.1; omega
theorem ScG.mv_ne (h : ScG w A M n vB vs mv D st ns) (x : ByteArray) (k : Nat) (hk : (mv x).ownBlock = some k) : k ≠ A ∧ k ≠ M ∧ vB.ownBlock ≠ some k ∧ ∀ i, (vs.getD i nilS).ownBlock ≠ some k := by
  refine ⟨fun e => row_ne_hd (h.mrow x) h.hd (by decide) (by rw [← e]; exact hk), fun e => ?_, row_ne (h.mrow x) h.brow (by decide) k hk, fun i => ?_⟩
  · obtain ⟨es, c, hb⟩ := ownsMap_heap h.mp
    exact row_ne_map (h.mrow x) hb (by rw [← e]; exact hk)
  · by_cases hi : i < ns.length
    · exact row_ne (h.mrow x) (h.vrow i hi) (by decide) k hk
    · rw [List.getD_eq_getElem?_getD, List.getElem?_eq_none (by rw [h.vs_len]; omega)]
      simp [Value.ownBlock]
theorem ScG.v_ne (h : ScG w A M n vB vs mv D st ns) (i : Nat) (hi : i < ns.length) (k : Nat) (hk : (vs.getD i nilS).ownBlock = some k) : k ≠ A ∧ k ≠ M ∧ vB.ownBlock ≠ some k ∧ ∀ x, (mv x).ownBlock ≠ some k := by
  refine ⟨fun e => row_ne_hd (h.vrow i hi) h.hd (by decide) (by rw [← e]; exact hk), fun e => ?_, row_ne (h.vrow i hi) h.brow (by decide) k hk, fun x => row_ne (h.vrow i hi) (h.mrow x) (by decide) k hk⟩
  obtain ⟨es, c, hb⟩ := ownsMap_heap h.mp
  exact row_ne_map (h.vrow i hi) hb (by rw [← e]; exact hk)
theorem ScG.B_ne (h : ScG w A M n vB vs mv D st ns) (k : Nat) (hk : vB.ownBlock = some k) : k ≠ A ∧ k ≠ M := by
  refine ⟨fun e => row_ne_hd h.brow h.hd (by decide) (by rw [← e]; exact hk), fun e => ?_⟩
  obtain ⟨es, c, hb⟩ := ownsMap_heap h.mp
  exact row_ne_map h.brow hb (by rw [← e]; exact hk)
theorem ScG.lt (h : ScG w A M n vB vs mv D st ns) : ∀ k, foot A M vB vs mv k → k < w.heap.size := by
  intro k hk
  rcases hk with rfl | rfl | hk | ⟨i, hk⟩ | ⟨x, hk⟩
  · exact (Array.getElem?_eq_some_iff.1 h.hd).1
  · exact h.mp.lt
  · exact (h.brow.lt k hk).2
  · by_cases hi : i < ns.length
    · exact ((h.vrow i hi).lt k hk).2
    · rw [List.getD_eq_getElem?_getD, List.getElem?_eq_none (by rw [h.vs_len]; omega)] at hk
      simp [Value.ownBlock] at hk
  · exact ((h.mrow x).lt k hk).2

def updV (mv : ByteArray → Value) (x : ByteArray) (v : Value) : ByteArray → Value := fun y => if y = x then v else mv y
def updS (st : ByteArray → List (Nat × Bool)) (x : ByteArray) (l : List (Nat × Bool)) : ByteArray → List (Nat × Bool) := fun y => if y = x then l else st y
theorem lit_ne {x y : ByteArray} (h : y ≠ x) : Lit.string y.data.toList ≠ Lit.string x.data.toList := by
  intro e
  simp only [Lit.string.injEq] at e
  exact h (ByteArray.ext (Array.toList_inj.1 e))

/-- A name's row is another one: the old one written on, or a new one. The map's world turns last. -/
theorem ScG.turn (h : ScG w A M n vB vs mv D st ns) {w2 w3 : World} {x : ByteArray} {v' : Value} {l' : List (Nat × Bool)} {D' : DataW Value} {n' : Nat} (hown : w2.ownsRow 0 90 2 v' l'.length (l'.flatMap mcell)) (hg : w.grownBy w2 (mv x).ownBlock)
    (hat : v'.ownBlock = (mv x).ownBlock ∨ v'.ownBlock = none ∨ ∃ g, v'.ownBlock = some g ∧ w.heap.size ≤ g) (hu : w3.ownsMap Try.prog 9 rawR M n' D') (hgu : w2.grownBy w3 (some M))
    (hk1 : x.size ≤ maxLen → D'.atKey (.string x.data.toList) (.held nilS) = .held v') (hk2 : ∀ y, y ≠ x → D'.atKey (.string y.data.toList) (.held nilS) = D.atKey (.string y.data.toList) (.held nilS)) :
    ScG w3 A M n' vB vs (updV mv x v') D' (updS st x l') ns ∧ Mod (fun k => (mv x).ownBlock = some k ∨ k = M) w w3 := by
  have hm2 : Mod (fun k => (mv x).ownBlock = some k ∨ k = M) w w2 := (Mod.of_grown hg).mono (fun k _ hk => .inl hk)
  have hm3 : Mod (fun k => k = M) w2 w3 := (Mod.of_grown hgu).mono (fun k _ hk => (Option.some.inj hk).symm)
  have hm : Mod (fun k => (mv x).ownBlock = some k ∨ k = M) w w3 := hm2.trans (hm3.mono (fun k _ hk => .inr hk))
  have hMlt := h.mp.lt
  have hvM : v'.ownBlock ≠ some M := by
    rcases hat with hat | hat | ⟨g, hat, hgs⟩
    · rw [hat]; intro e; exact (h.mv_ne x M e).2.1 rfl
    · rw [hat]; simp
    · rw [hat]; intro e; simp only [Option.some.injEq] at e; omega
  refine ⟨⟨hm.keep h.hd ?_, hu, fun y hy => ?_, fun y => ?_, ownsRow_mod h.brow hm ?_, fun i hi => ownsRow_mod (h.vrow i hi) hm ?_, fun y z hyz => ?_, h.dv⟩, hm⟩
  · rintro (e | e)
    · exact (h.mv_ne x A e).1 rfl
    · exact h.AM e
  · unfold updV
    by_cases hyx : y = x
    · rw [if_pos hyx, hyx]; exact hk1 (by rw [← hyx]; exact hy)
    · rw [if_neg hyx, hk2 y hyx]; exact h.key y hy
  · unfold updV updS
    by_cases hyx : y = x
    · rw [if_pos hyx, if_pos hyx]
      exact ownsRow_mod hown hm3 (fun k hk e => hvM (by rw [← e]; exact hk))
    · rw [if_neg hyx, if_neg hyx]
      refine ownsRow_mod (h.mrow y) hm (fun k hk => ?_)
      rintro (e | e)
      · rcases h.dm y x hyx with hd | hd
        · rw [hd] at hk; cases hk
        · exact hd (by rw [hk, e])
      · exact (h.mv_ne y k hk).2.1 e
  · intro k hk
    rintro (e | e)
    · exact (h.mv_ne x k e).2.2.1 hk
    · exact (h.B_ne k hk).2 e
  · intro k hk
    rintro (e | e)
    · exact (h.v_ne i hi k hk).2.2.2 x e
    · exact (h.v_ne i hi k hk).2.1 e
  · have hfresh : ∀ z, z ≠ x → v'.ownBlock = none ∨ v'.ownBlock ≠ (mv z).ownBlock := fun z hz => by
      rcases hat with hat | hat | ⟨g, hat, hgs⟩
      · rw [hat]; exact h.dm x z (Ne.symm hz)
      · exact .inl hat
      · refine .inr (fun e => ?_)
        have := h.lt g (.inr (.inr (.inr (.inr ⟨z, by rw [← e, hat]⟩))))
        omega
    unfold updV
    by_cases hyx : y = x
    · rw [if_pos hyx, if_neg (fun e => hyz (by rw [hyx, e]))]
      exact hfresh z (fun e => hyz (by rw [hyx, e]))
    · rw [if_neg hyx]
      by_cases hzx : z = x
      · rw [if_pos hzx]
        rcases hfresh y hyx with hf | hf
        · cases hq : (mv y).ownBlock with
          | none => exact .inl rfl
          | some k => exact .inr (by rw [hf]; simp)
        · exact .inr (Ne.symm hf)
      · rw [if_neg hzx]; exact h.dm y z hyz

/-- A block's row of names is another one, and the row of blocks bears it. -/
theorem ScG.turnV (h : ScG w A M n vB vs mv D st ns) {w2 : World} {i gB cap : Nat} {v' : Value} {l' : List Value} (hi : i < ns.length) (hvB : vB = .slice (some ⟨gB, 0, none⟩) ns.length cap) (hown : w2.ownsRow 0 9 1 v' l'.length l') (hg : w.grownBy w2 (vs.getD i nilS).ownBlock)
    (hat : v'.ownBlock = (vs.getD i nilS).ownBlock ∨ v'.ownBlock = none ∨ ∃ g, v'.ownBlock = some g ∧ w.heap.size ≤ g) :
    ScG (w2.setCell ⟨gB, i, none⟩ v') A M n vB (vs.set i v') mv D st (ns.set i l') ∧ Mod (fun k => (vs.getD i nilS).ownBlock = some k ∨ k = gB) w (w2.setCell ⟨gB, i, none⟩ v') := by
  have hBg : vB.ownBlock = some gB := by rw [hvB]; rfl
  have hm2 : Mod (fun k => (vs.getD i nilS).ownBlock = some k ∨ k = gB) w w2 := (Mod.of_grown hg).mono (fun k _ hk => .inl hk)
  have hm3 : Mod (fun k => k = gB) w2 (w2.setCell ⟨gB, i, none⟩ v') := Mod.setCell (Mod.refl (fun k => k = gB) w2) _ (.inr rfl) _
  have hm : Mod (fun k => (vs.getD i nilS).ownBlock = some k ∨ k = gB) w (w2.setCell ⟨gB, i, none⟩ v') := hm2.trans (hm3.mono (fun k _ hk => .inr hk))
  have hBlt := (h.brow.lt gB hBg).2
  have hB2 : w2.ownsRow 0 91 1 vB ns.length vs := ownsRow_mod h.brow (Mod.of_grown hg) (fun k hk e => (h.v_ne i hi k e).2.2.1 hk)
  have hil : i < vs.length := by rw [h.vs_len]; exact hi
  have hgetS : ∀ j, (vs.set i v').getD j nilS = if j = i then v' else vs.getD j nilS := fun j => by
    rw [List.getD_eq_getElem?_getD, List.getElem?_set]
    by_cases hj : i = j
    · subst hj; simp [hil]
    · rw [if_neg hj, if_neg (Ne.symm hj), List.getD_eq_getElem?_getD]
  have hvB' : v'.ownBlock ≠ some gB := by
    rcases hat with hat | hat | ⟨g, hat, hgs⟩
    · rw [hat]; intro e; exact (h.v_ne i hi gB e).2.2.1 hBg
    · rw [hat]; simp
    · rw [hat]; intro e; simp only [Option.some.injEq] at e; omega
  refine ⟨⟨hm.keep h.hd ?_, ownsMap_mod h.mp hm ?_, h.key, fun y => ownsRow_mod (h.mrow y) hm ?_, ?_, fun j hj => ?_, h.dm, fun a b ha hb hab => ?_⟩, hm⟩
  · rintro (e | e)
    · exact (h.v_ne i hi A e).1 rfl
    · exact (h.B_ne gB hBg).1 e.symm
  · rintro (e | e)
    · exact (h.v_ne i hi M e).2.1 rfl
    · exact (h.B_ne gB hBg).2 e.symm
  · intro k hk
    rintro (e | e)
    · exact (h.mv_ne y k hk).2.2.2 i e
    · exact (h.mv_ne y k hk).2.2.1 (by rw [e]; exact hBg)
  · rw [List.length_set]
    rw [hvB] at hB2 ⊢
    exact (hB2.stored i v').1
  · rw [List.length_set] at hj
    rw [hgetS]
    by_cases hji : j = i
    · subst hji
      rw [if_pos rfl, List.getElem_set_self]
      exact ownsRow_mod hown hm3 (fun k hk e => hvB' (by rw [← e]; exact hk))
    · rw [if_neg hji, List.getElem_set_ne (Ne.symm hji)]
      refine ownsRow_mod (h.vrow j hj) hm (fun k hk => ?_)
      rintro (e | e)
      · rcases h.dv j i hj hi hji with hd | hd
        · rw [hd] at hk; cases hk
        · exact hd (by rw [hk, e])
      · exact (h.v_ne j hj k hk).2.2.1 (by rw [e]; exact hBg)
  · rw [List.length_set] at ha hb
    have hfresh : ∀ z, z < ns.length → z ≠ i → v'.ownBlock = none ∨ v'.ownBlock ≠ (vs.getD z nilS).ownBlock := fun z hz hzi => by
      rcases hat with hat | hat | ⟨g, hat, hgs⟩
      · rw [hat]; exact h.dv i z hi hz (Ne.symm hzi)
      · exact .inl hat
      · refine .inr (fun e => ?_)
        have := h.lt g (.inr (.inr (.inr (.inl ⟨z, by rw [← e, hat]⟩))))
        omega
    rw [hgetS, hgetS]
    by_cases hai : a = i
    · rw [if_pos hai, if_neg (fun e => hab (by rw [hai, e]))]
      exact hfresh b hb (fun e => hab (by rw [hai, e]))
    · rw [if_neg hai]
      by_cases hbi : b = i
      · rw [if_pos hbi]
        rcases hfresh a ha hai with hf | hf
        · cases hq : (vs.getD a nilS).ownBlock with
          | none => exact .inl rfl
          | some k => exact .inr (by rw [hf]; simp)
        · exact .inr (Ne.symm hf)
      · rw [if_neg hbi]; exact h.dv a b ha hb hab
end
end Go.Proofs.Ytblooekephkojaa

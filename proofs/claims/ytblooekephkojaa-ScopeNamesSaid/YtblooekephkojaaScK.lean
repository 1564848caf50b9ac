/- scope: Copy's second loop, what it keeps; what Copy leaves. -/
import Derived.Test.YtblooekephkojaaScJ
import Derived.Test.YtblooekephkojaaMoe
namespace Go.Proofs.Ytblooekephkojaa
open Go.RowKit Go.BigFrame Go.ChangeMaps Go.WideMaps
set_option linter.unusedVariables false

structure CP2 (W wr : World) (a m g N nc : Nat) (F : List Frm) (Dc : DataW Value) (mc : ByteArray → Value) (i : Nat) (vc : List Value) : Prop where
  len : vc.length = i
  hi : i ≤ F.length
  hN : N = F.length
  hd : wr.heap[a]? = some (.cells #[.pointer none, .map (some m), .slice (some ⟨g, 0, none⟩) i N] 57 (0, 0))
  mp : wr.ownsMap Try.prog 9 rawR m nc Dc
  key : ∀ x : ByteArray, x.size ≤ maxLen → Dc.atKey (lit x) (.held nilS) = .held (mc x)
  row : ∀ x, wr.ownsRow 0 90 2 (mc x) (stk F x).length ((stk F x).flatMap mcell)
  dm : ∀ x y, x ≠ y → (mc x).ownBlock = none ∨ (mc x).ownBlock ≠ (mc y).ownBlock
  new : ∀ x k, (mc x).ownBlock = some k → W.heap.size ≤ k
  gr : wr.ownsRow 0 91 1 (.slice (some ⟨g, 0, none⟩) i N) i vc
  vr : ∀ j (h : j < F.length), j < i → wr.ownsRow 0 9 1 (vc.getD j nilS) F[j].length (names F[j])
  dv : ∀ j k, j < i → k < i → j ≠ k → (vc.getD j nilS).ownBlock = none ∨ (vc.getD j nilS).ownBlock ≠ (vc.getD k nilS).ownBlock
  vnew : ∀ j k, (vc.getD j nilS).ownBlock = some k → W.heap.size ≤ k
  below : Below W.heap.size W wr
  la : W.heap.size ≤ a
  lm : W.heap.size ≤ m
  lg : W.heap.size ≤ g

section
variable {W wr : World} {a m g n N M r nc : Nat} {D : DataW Value} {F : List Frm} {left : Lit → Bool} {cnt i : Nat} {Dc : DataW Value} {mc : ByteArray → Value} {vc : List Value}
theorem CP2.start (h : CP1 W wr a m g r n N M D F left cnt nc Dc mc) (hl : ∀ kl, left kl = false) (hN : N = F.length) : CP2 W wr a m g N nc F Dc mc 0 [] :=
  ⟨rfl, Nat.zero_le _, hN, h.hd, h.mp, h.key, fun x => by have := h.row x; rw [hl] at this; simpa using this, h.dm, h.new, h.gr, fun j _ h0 => by omega, fun j k h0 => by omega, fun j k hk => by simp [Value.ownBlock] at hk, h.below, h.la, h.lm, h.lg⟩
theorem CP2.ga (h : CP2 W wr a m g N nc F Dc mc i vc) : g ≠ a := fun e => row_ne_hd h.gr h.hd (by decide) (by rw [← e]; rfl)

theorem CP2.step (h : CP2 W wr a m g N nc F Dc mc i vc) (hi : i < F.length) {w4 : World} {u : Value} {B : Nat} (hm : Mod (fun x => x = g) wr w4) (hgr : w4.ownsRow 0 91 1 (.slice (some ⟨g, 0, none⟩) (i + 1) N) (i + 1) (vc ++ [u]))
    (hu : w4.ownsRow B 9 1 u F[i].length (names F[i])) (hB : wr.heap.size ≤ B) : CP2 W (w4.setCell ⟨a, 2, none⟩ (.slice (some ⟨g, 0, none⟩) (i + 1) N)) a m g N nc F Dc mc (i + 1) (vc ++ [u]) := by
  have hga := h.ga
  have hm5 : Mod (fun k => k = a) w4 (w4.setCell ⟨a, 2, none⟩ (.slice (some ⟨g, 0, none⟩) (i + 1) N)) := Mod.setCell (Mod.refl (fun k => k = a) w4) _ (.inr rfl) _
  have hmm : Mod (fun k => k = g ∨ k = a) wr (w4.setCell ⟨a, 2, none⟩ (.slice (some ⟨g, 0, none⟩) (i + 1) N)) := (hm.mono (fun k _ hk => .inl hk)).trans (hm5.mono (fun k _ hk => .inr hk))
  have hd4 : w4.heap[a]? = some (.cells #[.pointer none, .map (some m), .slice (some ⟨g, 0, none⟩) i N] 57 (0, 0)) := hm.keep h.hd (fun e => hga e.symm)
  have hunew : ∀ k, u.ownBlock = some k → wr.heap.size ≤ k := fun k hk => Nat.le_trans hB (hu.lt k hk).1
  have hwW := h.below.size
  have hvc : ∀ j, j < i → (vc ++ [u]).getD j nilS = vc.getD j nilS := fun j hj => getD_snoc vc u j (by rw [h.len]; exact hj)
  have hvl : (vc ++ [u]).getD i nilS = u := by have := getD_last vc u; rwa [h.len] at this
  have hold : ∀ j, j < i → ∀ k, (vc.getD j nilS).ownBlock = some k → k < wr.heap.size := fun j hj k hk => ((h.vr j (by omega) hj).lt k hk).2
  have hu0 : w4.ownsRow 0 9 1 u F[i].length (names F[i]) := by
    refine ⟨hu.1, ?_⟩
    rcases hu.2 with hn | ⟨g', cap, cur, e, hb, rest⟩
    · exact .inl hn
    · exact .inr ⟨g', cap, cur, e, Nat.zero_le _, rest⟩
  refine ⟨by simp [h.len], hi, h.hN, ?_, ownsMap_mod h.mp hmm ?_, h.key, fun x => ownsRow_mod (h.row x) hmm (fun k hk => ?_), h.dm, h.new, ownsRow_mod hgr hm5 (fun k hk => ?_), fun j hj hji => ?_, fun j k hj hk hjk => ?_, fun j k hk => ?_, h.below.trans (hmm.below (B := W.heap.size) hwW (fun k hk => by have := h.la; have := h.lg; rcases hk with rfl | rfl <;> omega)), h.la, h.lm, h.lg⟩
  · have := heap_setCell_same w4 a 2 _ _ (.slice (some ⟨g, 0, none⟩) (i + 1) N) hd4
    simpa using this
  · obtain ⟨es, c, hb⟩ := ownsMap_heap h.mp
    rintro (e | e)
    · exact row_ne_map h.gr hb (by rw [e]; rfl)
    · rw [e, h.hd] at hb; cases hb
  · rintro (e | e)
    · exact row_ne (h.row x) h.gr (by decide) k hk (by rw [e]; rfl)
    · exact row_ne_hd (h.row x) h.hd (by decide) (by rw [← e]; exact hk)
  · simp only [Value.ownBlock, Option.some.injEq] at hk
    subst hk
    exact hga
  · by_cases hj2 : j < i
    · rw [hvc j hj2]
      refine ownsRow_mod (h.vr j hj hj2) hmm (fun k hk => ?_)
      rintro (e | e)
      · exact row_ne (h.vr j hj hj2) h.gr (by decide) k hk (by rw [e]; rfl)
      · exact row_ne_hd (h.vr j hj hj2) h.hd (by decide) (by rw [← e]; exact hk)
    · obtain rfl : j = i := by omega
      rw [hvl]
      exact ownsRow_mod hu0 hm5 (fun k hk e => row_ne_hd hu0 hd4 (by decide) (by rw [← e]; exact hk))
  · by_cases hj2 : j < i
    · rw [hvc j hj2]
      by_cases hk2 : k < i
      · rw [hvc k hk2]; exact h.dv j k hj2 hk2 hjk
      · obtain rfl : k = i := by omega
        rw [hvl]
        cases hq : (vc.getD j nilS).ownBlock with
        | none => exact .inl rfl
        | some b => exact .inr (fun e => by have := hold j hj2 b hq; have := hunew b e.symm; omega)
    · obtain rfl : j = i := by omega
      rw [hvl, hvc k (by omega)]
      cases hq : u.ownBlock with
      | none => exact .inl rfl
      | some b => exact .inr (fun e => by have := hold k (by omega) b e.symm; have := hunew b hq; omega)
  · by_cases hj2 : j < i
    · rw [hvc j hj2] at hk; exact h.vnew j k hk
    · by_cases hj3 : j = i
      · rw [hj3, hvl] at hk
        have := hunew k hk; omega
      · rw [List.getD_eq_getElem?_getD, List.getElem?_eq_none (by simp [h.len]; omega)] at hk
        simp [Value.ownBlock] at hk

theorem CP2.fin (h : CP2 W wr a m g N nc F Dc mc F.length vc) (hpos : 0 < F.length) {n : Nat} (hn : nc ≤ n) : Sco (wr.setCell ⟨a, 0, none⟩ (.pointer (some ⟨a, 0, none⟩))) a n (fun k => W.heap.size ≤ k ∧ k < (wr.setCell ⟨a, 0, none⟩ (.pointer (some ⟨a, 0, none⟩))).heap.size) F ∧
    Below W.heap.size W (wr.setCell ⟨a, 0, none⟩ (.pointer (some ⟨a, 0, none⟩))) := by
  have hm5 : Mod (fun k => k = a) wr (wr.setCell ⟨a, 0, none⟩ (.pointer (some ⟨a, 0, none⟩))) := Mod.setCell (Mod.refl (fun k => k = a) wr) _ (.inr rfl) _
  have hN := h.hN
  have hb5 := h.below.trans (hm5.below (B := W.heap.size) h.below.size (fun k hk => by have := h.la; omega))
  have hAt : ScAt (wr.setCell ⟨a, 0, none⟩ (.pointer (some ⟨a, 0, none⟩))) a m nc (.slice (some ⟨g, 0, none⟩) F.length N) vc mc Dc F := by
    refine ⟨?_, ownsMap_mod h.mp hm5 ?_, h.key, fun x => ownsRow_mod (h.row x) hm5 (fun k hk e => row_ne_hd (h.row x) h.hd (by decide) (by rw [← e]; exact hk)), ownsRow_mod h.gr hm5 (fun k hk => ?_), fun j hj => ownsRow_mod (h.vr j hj hj) hm5 (fun k hk e => row_ne_hd (h.vr j hj hj) h.hd (by decide) (by rw [← e]; exact hk)), h.dm, h.dv, hpos⟩
    · have := heap_setCell_same wr a 0 _ _ (.pointer (some ⟨a, 0, none⟩)) h.hd
      simpa using this
    · obtain ⟨es, c, hb⟩ := ownsMap_heap h.mp
      intro e
      rw [e, h.hd] at hb; cases hb
    · simp only [Value.ownBlock, Option.some.injEq] at hk
      subst hk
      exact h.ga
  refine ⟨Sco.mono ⟨m, _, vc, mc, Dc, hAt, fun k hk => ⟨?_, hAt.own_lt k hk⟩, fun k hk => hk.2⟩ hn, hb5⟩
  rcases hk with rfl | rfl | hk | ⟨i, hk⟩ | ⟨x, hk⟩
  · exact h.la
  · exact h.lm
  · simp only [Value.ownBlock, Option.some.injEq] at hk
    have := h.lg; omega
  · exact h.vnew i k hk
  · exact h.new x k hk
end
end Go.Proofs.Ytblooekephkojaa

/- scope: Copy's first loop, what it keeps. -/
import Derived.Test.YtblooekephkojaaScH
import Derived.Maps.RangeWalk
import Derived.Maps.Ext
namespace Go.Proofs.Ytblooekephkojaa
open Go.RowKit Go.BigFrame Go.ChangeMaps Go.WideMaps
set_option linter.unusedVariables false

theorem nil_row {w : World} {b e s n : Nat} {xs : List Value} (h : w.ownsRow b e s nilS n xs) : n = 0 := by
  rcases h.2 with ⟨_, h0⟩ | ⟨g, cap, cur, hv, _⟩
  · exact h0
  · cases hv
theorem row_ne_iter {w : World} {b e s n r M : Nat} {v : Value} {x : List Value} {left : Lit → Bool} {cnt k : Nat} {D : DataW Value} (h : w.ownsRow b e s v n x) (hr : w.ranges Try.prog 9 rawR M r k D left cnt) : v.ownBlock ≠ some r := by
  obtain ⟨es, clock, since, seen, c0, _, _, _, _, hi, _⟩ := hr
  intro hk
  rcases h.2 with ⟨rfl, _⟩ | ⟨g, cap, cur, rfl, _, hg, _⟩
  · simp [Value.ownBlock] at hk
  · simp only [Value.ownBlock, Option.some.injEq] at hk
    subst hk
    rw [hg] at hi
    cases hi
def lit (x : ByteArray) : Lit := .string x.data.toList
theorem lit_self (x : ByteArray) : (lit x).sameKey (lit x) = true := WideAt.sameKey_self (by simp [WideAt.IsKeyLit, lit])
theorem lit_other {x y : ByteArray} (h : y ≠ x) : (lit y).sameKey (lit x) = false := Maps.sameKey_ne (lit_ne h)

structure CP1 (W wr : World) (a m g r n N M : Nat) (D : DataW Value) (F : List Frm) (left : Lit → Bool) (cnt nc : Nat) (Dc : DataW Value) (mc : ByteArray → Value) : Prop where
  rg : wr.ranges Try.prog 9 rawR M r n D left cnt
  cn : nc + cnt ≤ Maps.size D
  mp : wr.ownsMap Try.prog 9 rawR m nc Dc
  key : ∀ x : ByteArray, x.size ≤ maxLen → Dc.atKey (lit x) (.held nilS) = .held (mc x)
  row : ∀ x, wr.ownsRow 0 90 2 (mc x) (if left (lit x) = true then [] else stk F x).length ((if left (lit x) = true then [] else stk F x).flatMap mcell)
  dm : ∀ x y, x ≠ y → (mc x).ownBlock = none ∨ (mc x).ownBlock ≠ (mc y).ownBlock
  new : ∀ x k, (mc x).ownBlock = some k → W.heap.size ≤ k
  hd : wr.heap[a]? = some (.cells #[.pointer none, .map (some m), .slice (some ⟨g, 0, none⟩) 0 N] 57 (0, 0))
  gr : wr.ownsRow 0 91 1 (.slice (some ⟨g, 0, none⟩) 0 N) 0 []
  below : Below W.heap.size W wr
  la : W.heap.size ≤ a
  lm : W.heap.size ≤ m
  lg : W.heap.size ≤ g
  lr : W.heap.size ≤ r
  lM : M < W.heap.size

section
variable {W wr : World} {a m g r n N M : Nat} {D : DataW Value} {F : List Frm} {left : Lit → Bool} {cnt nc : Nat} {Dc : DataW Value} {mc : ByteArray → Value}
theorem CP1.ne (h : CP1 W wr a m g r n N M D F left cnt nc Dc mc) : a ≠ r ∧ a ≠ m ∧ r ≠ m ∧ g ≠ r ∧ g ≠ m := by
  obtain ⟨es, c, hb⟩ := ownsMap_heap h.mp
  obtain ⟨es', clock, since, seen, c0, _, _, _, _, hi, _⟩ := h.rg
  refine ⟨?_, ?_, ?_, fun e => row_ne_iter h.gr h.rg (by rw [← e]; rfl), fun e => row_ne_map h.gr hb (by rw [← e]; rfl)⟩
  · rintro rfl; rw [h.hd] at hi; cases hi
  · rintro rfl; rw [h.hd] at hb; cases hb
  · rintro rfl; rw [hi] at hb; cases hb

theorem CP1.step (h : CP1 W wr a m g r n N M D F left cnt nc Dc mc) {w1 w2 w3 : World} {x : ByteArray} {v' : Value} {cnt' : Nat} (hx : x.size ≤ maxLen) (hl : left (lit x) = true) (hrg1 : w1.ranges Try.prog 9 rawR M r n D (fun z => left z && !z.sameKey (lit x)) cnt') (hlt : cnt' < cnt)
    (hg1 : wr.grownBy w1 (some r)) (b2 : Below w1.heap.size w1 w2) (hv : w2.ownsRow w1.heap.size 90 2 v' (stk F x).length ((stk F x).flatMap mcell)) (hu : w3.ownsMap Try.prog 9 rawR m (nc + 1) (Dc.put (lit x) (.held v'))) (hgu : w2.grownBy w3 (some m)) :
    CP1 W w3 a m g r n N M D F (fun z => left z && !z.sameKey (lit x)) cnt' (nc + 1) (Dc.put (lit x) (.held v')) (updV mc x v') := by
  obtain ⟨n1, n2, n3, n4, n5⟩ := h.ne
  have hw1 : W.heap.size ≤ w1.heap.size := Nat.le_trans h.below.size hg1.size
  have hm1 : Mod (fun k => k = r ∨ k = m) wr w1 := (Mod.of_grown hg1).mono (fun k _ hk => .inl (Option.some.inj hk).symm)
  have hm2 : Mod (fun k => k = r ∨ k = m) wr w2 := hm1.trans (Mod.of_below b2)
  have hm3' : Mod (fun k => k = m) w2 w3 := (Mod.of_grown hgu).mono (fun k _ hk => (Option.some.inj hk).symm)
  have hm3 : Mod (fun k => k = r ∨ k = m) wr w3 := hm2.trans (hm3'.mono (fun k _ hk => .inr hk))
  have hrowne : ∀ y k, (mc y).ownBlock = some k → ¬ (k = r ∨ k = m) := fun y k hk hh => by
    rcases hh with rfl | rfl
    · exact row_ne_iter (h.row y) h.rg hk
    · obtain ⟨es, c, hb⟩ := ownsMap_heap h.mp
      exact row_ne_map (h.row y) hb hk
  have hv'm : v'.ownBlock ≠ some m := fun e => by
    have := (hv.lt m e).1
    have hmlt := h.mp.lt
    have := hg1.size
    omega
  have hvnew : ∀ k, v'.ownBlock = some k → w1.heap.size ≤ k := fun k hk => (hv.lt k hk).1
  have hold : ∀ y k, (mc y).ownBlock = some k → k < wr.heap.size := fun y k hk => ((h.row y).lt k hk).2
  have hfresh : ∀ y k, (mc y).ownBlock = some k → v'.ownBlock ≠ some k := fun y k hk e => by
    have := hold y k hk; have := hvnew k e; have := hg1.size; omega
  have hrg3 : w3.ranges Try.prog 9 rawR M r n D (fun z => left z && !z.sameKey (lit x)) cnt' := by
    have hg2 : w1.grownBy w2 none := ⟨b2.os, b2.tape, b2.output, b2.size, fun k hk _ => b2.block k hk⟩
    refine (hrg1.kept hg2 (by simp) (by simp)).kept hgu (fun e => ?_) (fun e => n3 (Option.some.inj e))
    have := Option.some.inj e; have := h.lm; have := h.lM; omega
  refine ⟨hrg3, by have := h.cn; omega, hu, fun y hy => ?_, fun y => ?_, fun y z hyz => ?_, fun y k hk => ?_, hm3.keep h.hd (by rintro (e | e); exact n1 e; exact n2 e),
    ownsRow_mod h.gr hm3 (fun k hk => by
      simp only [Value.ownBlock, Option.some.injEq] at hk
      subst hk
      rintro (e | e)
      · exact n4 e
      · exact n5 e), h.below.trans ((hm3.below (B := W.heap.size) h.below.size (fun k hk => by have := h.lr; have := h.lm; rcases hk with rfl | rfl <;> omega))), h.la, h.lm, h.lg, h.lr, h.lM⟩
  · unfold updV
    by_cases hyx : y = x
    · rw [if_pos hyx, hyx]; exact Maps.atKey_put_same h.mp.isMap (by simp [WideAt.IsKeyLit, lit]) _ _
    · rw [if_neg hyx]
      have e1 : (Dc.put (lit x) (.held v')).atKey (lit y) (.held nilS) = Dc.atKey (lit y) (.held nilS) := Maps.atKey_put_other (lit_ne hyx) _ _
      rw [e1]; exact h.key y hy
  · unfold updV
    by_cases hyx : y = x
    · subst hyx
      rw [if_pos rfl]
      have hf : (left (lit y) && !(lit y).sameKey (lit y)) = false := by rw [lit_self]; simp
      rw [hf]
      simp only [Bool.false_eq_true, if_false]
      have hv0 : w2.ownsRow 0 90 2 v' (stk F y).length ((stk F y).flatMap mcell) := by
        refine ⟨hv.1, ?_⟩
        rcases hv.2 with hn | ⟨g', cap, cur, e, hb, rest⟩
        · exact .inl hn
        · exact .inr ⟨g', cap, cur, e, Nat.zero_le _, rest⟩
      exact ownsRow_mod hv0 hm3' (fun k hk e => hv'm (by rw [← e]; exact hk))
    · rw [if_neg hyx]
      have hf : (left (lit y) && !(lit y).sameKey (lit x)) = left (lit y) := by rw [lit_other hyx]; simp
      rw [hf]
      exact ownsRow_mod (h.row y) hm3 (fun k hk => hrowne y k hk)
  · unfold updV
    by_cases hyx : y = x
    · rw [if_pos hyx, if_neg (fun e => hyz (by rw [hyx, e]))]
      cases hq : (mc z).ownBlock with
      | none =>
        cases hq2 : v'.ownBlock with
        | none => exact .inl rfl
        | some k => exact .inr (by simp)
      | some k => exact .inr (hfresh z k hq)
    · rw [if_neg hyx]
      by_cases hzx : z = x
      · rw [if_pos hzx]
        cases hq : (mc y).ownBlock with
        | none => exact .inl rfl
        | some k => exact .inr (fun e => hfresh y k hq e.symm)
      · rw [if_neg hzx]; exact h.dm y z hyz
  · unfold updV at hk
    split at hk
    · have := hvnew k hk; omega
    · exact h.new y k hk

theorem CP1.start {w : World} {A : Nat} {vB : Value} {vs : List Value} {mv : ByteArray → Value} (h : ScAt W A M n vB vs mv D F) (hbig : ∀ x : ByteArray, ¬ x.size ≤ maxLen → stk F x = []) (hb : Below W.heap.size W w)
    (rg : w.ranges Try.prog 9 rawR M r n D (Maps.has D) (Maps.size D)) (mp : w.ownsMap Try.prog 9 rawR m 0 (.map []))
    (hd : w.heap[a]? = some (.cells #[.pointer none, .map (some m), .slice (some ⟨g, 0, none⟩) 0 N] 57 (0, 0))) (gr : w.ownsRow 0 91 1 (.slice (some ⟨g, 0, none⟩) 0 N) 0 []) (la : W.heap.size ≤ a) (lm : W.heap.size ≤ m) (lg : W.heap.size ≤ g) (lr : W.heap.size ≤ r) :
    CP1 W w a m g r n N M D F (Maps.has D) (Maps.size D) 0 (.map []) (fun _ => nilS) := by
  refine ⟨rg, by omega, mp, fun x _ => rfl, fun x => ?_, fun x y _ => .inl rfl, fun x k hk => by simp [Value.ownBlock] at hk, hd, gr, hb, la, lm, lg, lr, h.mp.lt⟩
  have h0 : (if Maps.has D (lit x) = true then [] else stk F x) = [] := by
    by_cases hh : Maps.has D (lit x) = true
    · rw [if_pos hh]
    · rw [if_neg hh]
      by_cases hx : x.size ≤ maxLen
      · have hk := h.key x hx
        have hn := Maps.atKey_of_not_has (D := D) (k := lit x) (by simpa using hh) (.held nilS)
        unfold lit at hn
        rw [hn] at hk
        have hmv : mv x = nilS := by simpa using hk.symm
        have hr := h.mrow x
        rw [hmv] at hr
        exact List.length_eq_zero_iff.1 (nil_row hr)
      · exact hbig x hx
  rw [h0]
  exact World.ownsRow_nil _ _ _ _
theorem mcells_one (l : List (Nat × Bool)) : ∀ u ∈ l.flatMap mcell, u.oneCell' = true := by
  intro u hu
  obtain ⟨p, _, hp⟩ := List.mem_flatMap.1 hu
  simp [mcell] at hp
  rcases hp with rfl | rfl <;> rfl
theorem names_one (f : Frm) : ∀ u ∈ names f, u.oneCell' = true := by
  intro u hu
  obtain ⟨p, _, rfl⟩ := List.mem_map.1 hu
  rfl
end
end Go.Proofs.Ytblooekephkojaa

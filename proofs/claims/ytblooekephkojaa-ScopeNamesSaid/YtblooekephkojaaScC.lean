/- scope: Declare, what it comes to. -/
import Derived.Test.YtblooekephkojaaScB
import Derived.Test.YtblooekephkojaaChn
namespace Go.Proofs.Ytblooekephkojaa
open Go.RowKit Go.BigFrame Go.ChangeMaps Go.WideMaps
set_option linter.unusedVariables false

def setF : Frm → ByteArray → Bool → Frm
  | [], x, t => [(x, t)]
  | p :: f, x, t => if p.1 = x then (p.1, t) :: f else p :: setF f x t
/-- Declare, in the innermost block. -/
def declare (F : List Frm) (x : ByteArray) (t : Bool) : List Frm := F.dropLast ++ [setF (F.getLastD []) x t]
theorem declare_snoc (G : List Frm) (f : Frm) (x : ByteArray) (t : Bool) : declare (G ++ [f]) x t = G ++ [setF f x t] := by simp [declare]

theorem look_setF_same : ∀ (f : Frm) (x : ByteArray) (t : Bool), look (setF f x t) x = some t
  | [], x, t => by simp [setF, look]
  | p :: f, x, t => by
    unfold setF
    split
    · rename_i h; simp [look, h]
    · rename_i h; simp [look, h, look_setF_same f x t]
theorem look_setF_other : ∀ (f : Frm) (x y : ByteArray) (t : Bool), y ≠ x → look (setF f x t) y = look f y
  | [], x, y, t, h => by simp [setF, look, Ne.symm h]
  | p :: f, x, y, t, h => by
    unfold setF
    split
    · rename_i hp
      unfold look
      simp only
      split
      · rename_i h2; exact absurd (h2.symm.trans hp) h
      · rfl
    · simp only [look]
      split
      · rfl
      · exact look_setF_other f x y t h
theorem names_setF_old : ∀ (f : Frm) (x : ByteArray) (t t0 : Bool), look f x = some t0 → names (setF f x t) = names f
  | [], x, t, t0, h => by simp [look] at h
  | p :: f, x, t, t0, h => by
    unfold setF
    split
    · rfl
    · rename_i hp
      unfold look at h
      rw [if_neg hp] at h
      have := names_setF_old f x t t0 h
      unfold names at *
      simpa using this
theorem setF_new : ∀ (f : Frm) (x : ByteArray) (t : Bool), look f x = none → setF f x t = f ++ [(x, t)]
  | [], x, t, _ => rfl
  | p :: f, x, t, h => by
    unfold look at h
    split at h
    · cases h
    · rename_i hp
      unfold setF
      rw [if_neg hp, setF_new f x t h]; rfl
theorem names_len (f : Frm) : (names f).length = f.length := by simp [names]
theorem setF_old_len (f : Frm) (x : ByteArray) (t t0 : Bool) (h : look f x = some t0) : (setF f x t).length = f.length := by
  rw [← names_len, names_setF_old f x t t0 h, names_len]

theorem flat2_len (l : List (Nat × Bool)) : (l.flatMap mcell).length = l.length * 2 := by
  induction l with
  | nil => rfl
  | cons p l ih => rw [List.flatMap_cons, List.length_append, ih]; simp [mcell]; omega
theorem flat2_set (l : List (Nat × Bool)) (p : Nat × Bool) (t : Bool) : ((l ++ [p]).flatMap mcell).set (((l ++ [p]).length - 1) * 2 + 1) (.bool t) = (l ++ [(p.1, t)]).flatMap mcell := by
  rw [List.flatMap_append, List.flatMap_append, List.length_append, List.length_singleton, Nat.add_sub_cancel, List.set_append_right _ _ (by rw [flat2_len]; omega), flat2_len, Nat.add_sub_cancel_left]
  rfl

theorem snoc_of_pos {α : Type} (l : List α) (h : 0 < l.length) : ∃ a b, l = a ++ [b] := by
  have hne : l ≠ [] := by intro e; rw [e] at h; simp at h
  exact ⟨l.dropLast, l.getLast hne, (List.dropLast_concat_getLast hne).symm⟩

theorem ScAt.AM {w : World} {A M n : Nat} {vB : Value} {vs : List Value} {mv : ByteArray → Value} {D : DataW Value} {F : List Frm} (h : ScAt w A M n vB vs mv D F) : A ≠ M := by
  rintro rfl
  obtain ⟨es, c, hb⟩ := ownsMap_heap h.mp
  rw [h.hd] at hb; cases hb

/-- The name is there: its last cell is set. -/
theorem decl_old_done {w : World} {A M n g cap : Nat} {vB : Value} {vs : List Value} {mv : ByteArray → Value} {D : DataW Value} {G : List Frm} {f : Frm} {S : Nat → Prop} {x : ByteArray} {t t0 : Bool} (h : ScAt w A M n vB vs mv D (G ++ [f])) (hS : ∀ k, foot A M vB vs mv k → S k) (hS2 : ∀ k, S k → k < w.heap.size)
    (hl : look f x = some t0) (hv : mv x = .slice (some ⟨g, 0, none⟩) (stk (G ++ [f]) x).length cap) :
    Leaves A (n + 1) S (G ++ [setF f x t]) w (w.setCell ⟨g, ((stk (G ++ [f]) x).length - 1) * 2 + 1, none⟩ (.bool t)) := by
  have hrow := h.mrow x
  have hgo : (mv x).ownBlock = some g := by rw [hv]; rfl
  have hgA : g ≠ A := fun e => row_ne_hd hrow h.hd (by decide) (by rw [hgo, e])
  have hgM : g ≠ M := fun e => by
    obtain ⟨es, c, hb⟩ := ownsMap_heap h.mp
    exact row_ne_map hrow hb (by rw [hgo, e])
  have hm : Mod (fun k => k = g) w (w.setCell ⟨g, ((stk (G ++ [f]) x).length - 1) * 2 + 1, none⟩ (.bool t)) := Mod.setCell (Mod.refl (fun k => k = g) w) _ (.inr rfl) _
  have hst : stk (G ++ [f]) x = stk G x ++ [(G.length + 1, t0)] := by rw [stk_snoc, hl]
  have hst' : stk (G ++ [setF f x t]) x = stk G x ++ [(G.length + 1, t)] := by rw [stk_snoc, look_setF_same]
  have hlen : (stk (G ++ [setF f x t]) x).length = (stk (G ++ [f]) x).length := by rw [hst, hst']; simp
  refine ⟨S, ⟨M, vB, vs, mv, D, ⟨hm.keep h.hd (fun e => hgA e.symm), (ownsMap_mod h.mp hm (fun e => hgM e.symm)).mono (by omega), h.key, fun y => ?_, ?_, fun i hi => ?_, h.dm, fun i j hi hj => ?_, by simp⟩, hS, fun k hk => by simpa using hS2 k hk⟩, fun k hk => .inl hk, hm.mono (fun k _ hk => by
    subst hk; exact hS _ (.inr (.inr (.inr (.inr ⟨x, hgo⟩)))))⟩
  · by_cases hyx : y = x
    · subst hyx
      rw [hv] at hrow ⊢
      have hs := hrow.stored (((stk (G ++ [f]) y).length - 1) * 2 + 1) (.bool t)
      rw [hlen]
      have e1 : ((stk (G ++ [f]) y).flatMap mcell).set (((stk (G ++ [f]) y).length - 1) * 2 + 1) (.bool t) = (stk (G ++ [setF f y t]) y).flatMap mcell := by
        rw [hst, hst']
        exact flat2_set _ _ _
      rw [e1] at hs
      exact hs.1
    · have hsame : stk (G ++ [setF f x t]) y = stk (G ++ [f]) y := by rw [stk_snoc, stk_snoc, look_setF_other _ _ _ _ hyx]
      rw [hsame]
      refine ownsRow_mod (h.mrow y) hm (fun k hk e => ?_)
      subst e
      rcases h.dm y x hyx with hd | hd
      · rw [hd] at hk; cases hk
      · exact hd (by rw [hk, hgo])
  · have := ownsRow_mod h.brow hm (fun k hk e => by subst e; exact row_ne hrow h.brow (by decide) _ hgo hk)
    simpa using this
  · have hi' : i < (G ++ [f]).length := by simpa using hi
    have hr := h.vrow i hi'
    have hn : names (G ++ [setF f x t])[i] = names (G ++ [f])[i] ∧ (G ++ [setF f x t])[i].length = (G ++ [f])[i].length := by
      by_cases hiG : i < G.length
      · rw [List.getElem_append_left hiG, List.getElem_append_left hiG]; exact ⟨rfl, rfl⟩
      · obtain rfl : i = G.length := by simp at hi; omega
        simp only [List.getElem_append_right (Nat.le_refl _), Nat.sub_self, List.getElem_cons_zero]
        exact ⟨names_setF_old f x t t0 hl, setF_old_len f x t t0 hl⟩
    rw [hn.1, hn.2]
    exact ownsRow_mod hr hm (fun k hk e => by subst e; exact row_ne hrow hr (by decide) _ hgo hk)
  · exact h.dv i j (by simpa using hi) (by simpa using hj)
end Go.Proofs.Ytblooekephkojaa

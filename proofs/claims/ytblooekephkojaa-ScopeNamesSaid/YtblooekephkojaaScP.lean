/- scope: a name popped, a block ended: the plain part of Close. -/
import Derived.Test.YtblooekephkojaaScM
namespace Go.Proofs.Ytblooekephkojaa
open Go.RowKit Go.BigFrame Go.ChangeMaps Go.WideMaps
set_option linter.unusedVariables false

theorem row_pop {w : World} {base e size g n cap : Nat} {xs : List Value} (h : w.ownsRow base e size (.slice (some ⟨g, 0, none⟩) (n + 1) cap) (n + 1) xs) : w.ownsRow base e size (.slice (some ⟨g, 0, none⟩) n cap) n (xs.take (n * size)) := by
  refine ⟨?_, ?_⟩
  · rw [List.length_take, h.1, Nat.add_mul]; omega
  · rcases h.2 with ⟨hv, hz⟩ | ⟨g', cap', cur, hv, hb, hg, hn, hm, hc, ht⟩
    · omega
    · simp only [Value.slice.injEq, Option.some.injEq, Addr.mk.injEq] at hv
      obtain ⟨⟨rfl, _⟩, _, rfl⟩ := hv
      refine .inr ⟨g, cap, cur, rfl, hb, hg, by omega, hm, hc, ?_⟩
      rw [← ht, List.take_take, Nat.min_eq_left]
      exact Nat.mul_le_mul_right _ (by omega)

def nms (f : Frm) : List ByteArray := f.map (·.1)
/-- What the names are when some of a block were popped. -/
def hasN (pre : List ByteArray) (x : ByteArray) : Bool := pre.any fun y => decide (y = x)
theorem hasN_iff (pre : List ByteArray) (x : ByteArray) : hasN pre x = true ↔ x ∈ pre := by simp [hasN]
def stP (G : List Frm) (f : Frm) (pre : List ByteArray) (x : ByteArray) : List (Nat × Bool) := if hasN pre x = true then stk G x else stk (G ++ [f]) x
theorem stP_pos (G : List Frm) (f : Frm) (pre : List ByteArray) (x : ByteArray) (h : x ∈ pre) : stP G f pre x = stk G x := if_pos ((hasN_iff _ _).2 h)
theorem stP_neg (G : List Frm) (f : Frm) (pre : List ByteArray) (x : ByteArray) (h : x ∉ pre) : stP G f pre x = stk (G ++ [f]) x := if_neg (fun e => h ((hasN_iff _ _).1 e))
theorem stP_nil (G : List Frm) (f : Frm) : stP G f [] = stk (G ++ [f]) := by funext x; exact stP_neg _ _ _ _ (by simp)
theorem stP_snoc (G : List Frm) (f : Frm) (pre : List ByteArray) (x : ByteArray) : updS (stP G f pre) x (stk G x) = stP G f (pre ++ [x]) := by
  funext y
  unfold updS
  by_cases hy : y = x
  · subst hy; rw [if_pos rfl, stP_pos _ _ _ _ (by simp)]
  · rw [if_neg hy]
    by_cases hp : y ∈ pre
    · rw [stP_pos _ _ _ _ hp, stP_pos _ _ _ _ (by simp [hp])]
    · rw [stP_neg _ _ _ _ hp, stP_neg _ _ _ _ (by simp [hp, hy])]
theorem look_none : ∀ (f : Frm) (x : ByteArray), x ∉ nms f → look f x = none
  | [], x, _ => rfl
  | p :: f, x, h => by
    unfold look
    have h1 : x ≠ p.1 ∧ x ∉ nms f := by simpa [nms] using h
    rw [if_neg (fun e => h1.1 e.symm)]
    exact look_none f x h1.2
theorem look_some : ∀ (f : Frm) (x : ByteArray), x ∈ nms f → ∃ t, look f x = some t
  | [], x, h => by simp [nms] at h
  | p :: f, x, h => by
    unfold look
    by_cases hx : p.1 = x
    · rw [if_pos hx]; exact ⟨_, rfl⟩
    · rw [if_neg hx]
      have h1 : x = p.1 ∨ x ∈ nms f := by simpa [nms] using h
      exact look_some f x (h1.resolve_left (fun e => hx e.symm))
theorem stP_all (G : List Frm) (f : Frm) (x : ByteArray) : stP G f (nms f) x = stk G x := by
  by_cases hx : x ∈ nms f
  · rw [stP_pos _ _ _ _ hx]
  · rw [stP_neg _ _ _ _ hx, stk_snoc, look_none f x hx]; simp
theorem stP_next (G : List Frm) (f : Frm) (pre : List ByteArray) (x : ByteArray) (hp : x ∉ pre) (hx : x ∈ nms f) : ∃ t, stP G f pre x = stk G x ++ [(G.length + 1, t)] := by
  obtain ⟨t, ht⟩ := look_some f x hx
  exact ⟨t, by rw [stP_neg _ _ _ _ hp, stk_snoc, ht]⟩

section
variable {w : World} {A M n : Nat} {vB : Value} {vs : List Value} {mv : ByteArray → Value} {D : DataW Value} {F : List Frm} {st : ByteArray → List (Nat × Bool)} {ns : List (List Value)}
theorem ScG.keep {w' : World} {T : Nat → Prop} (h : ScG w A M n vB vs mv D st ns) (hm : Mod T w w') (hT : ∀ k, foot A M vB vs mv k → ¬ T k) : ScG w' A M n vB vs mv D st ns :=
  ⟨hm.keep h.hd (hT A (.inl rfl)), ownsMap_mod h.mp hm (hT M (.inr (.inl rfl))), h.key, fun x => ownsRow_mod (h.mrow x) hm (fun k hk => hT k (.inr (.inr (.inr (.inr ⟨x, hk⟩))))), ownsRow_mod h.brow hm (fun k hk => hT k (.inr (.inr (.inl hk)))),
    fun i hi => ownsRow_mod (h.vrow i hi) hm (fun k hk => hT k (.inr (.inr (.inr (.inl ⟨i, hk⟩))))), h.dm, h.dv⟩
theorem foot_upd {x : ByteArray} {v' : Value} {S : Nat → Prop} (hS : ∀ k, foot A M vB vs mv k → S k) (hat : v'.ownBlock = (mv x).ownBlock ∨ v'.ownBlock = none) : ∀ k, foot A M vB vs (updV mv x v') k → S k := by
  intro k hk
  rcases hk with hk | hk | hk | hk | ⟨y, hk⟩
  · exact hS _ (.inl hk)
  · exact hS _ (.inr (.inl hk))
  · exact hS _ (.inr (.inr (.inl hk)))
  · exact hS _ (.inr (.inr (.inr (.inl hk))))
  · unfold updV at hk
    split at hk
    · rcases hat with e | e
      · exact hS _ (.inr (.inr (.inr (.inr ⟨x, by rw [← e]; exact hk⟩))))
      · rw [e] at hk; cases hk
    · exact hS _ (.inr (.inr (.inr (.inr ⟨y, hk⟩))))
/-- A name's only meaning goes. -/
theorem ScG.popDel (h : ScG w A M n vB vs mv D st ns) {x : ByteArray} {w3 : World} (hx : x.size ≤ maxLen) (hu : w3.ownsMap Try.prog 9 rawR M n (D.del (.string x.data.toList))) (hgu : w.grownBy w3 (some M)) :
    ScG w3 A M n vB vs (updV mv x nilS) (D.del (.string x.data.toList)) (updS st x []) ns ∧ Mod (fun k => (mv x).ownBlock = some k ∨ k = M) w w3 :=
  h.turn (v' := nilS) (l' := []) (by exact World.ownsRow_nil _ _ _ _) ⟨rfl, rfl, rfl, Nat.le_refl _, fun _ _ _ => rfl⟩ (.inr (.inl rfl)) hu hgu (fun _ => Maps.atKey_del_same _) (fun y hy => Maps.atKey_del_other (lit_ne hy) _)
/-- A name's last meaning goes, others stay. -/
theorem ScG.popPut (h : ScG w A M n vB vs mv D st ns) {x : ByteArray} {w3 : World} {l : List (Nat × Bool)} {p : Nat × Bool} {g cap : Nat} (hst : st x = l ++ [p]) (hv : mv x = .slice (some ⟨g, 0, none⟩) (l.length + 1) cap) (hu : w3.ownsMap Try.prog 9 rawR M (n + 1) (D.put (.string x.data.toList) (.held (.slice (some ⟨g, 0, none⟩) l.length cap)))) (hgu : w.grownBy w3 (some M)) :
    ScG w3 A M (n + 1) vB vs (updV mv x (.slice (some ⟨g, 0, none⟩) l.length cap)) (D.put (.string x.data.toList) (.held (.slice (some ⟨g, 0, none⟩) l.length cap))) (updS st x l) ns ∧ Mod (fun k => (mv x).ownBlock = some k ∨ k = M) w w3 := by
  have hr := h.mrow x
  rw [hst, hv, List.length_append, List.length_singleton] at hr
  have hr2 := row_pop hr
  rw [List.flatMap_append, List.take_append_of_le_length (by rw [flat2_len]; exact Nat.le_refl _), List.take_of_length_le (by rw [flat2_len]; exact Nat.le_refl _)] at hr2
  refine h.turn (v' := .slice (some ⟨g, 0, none⟩) l.length cap) (l' := l) hr2 ⟨rfl, rfl, rfl, Nat.le_refl _, fun _ _ _ => rfl⟩ (.inl (by rw [hv]; rfl)) hu hgu (fun _ => Maps.atKey_put_same h.mp.isMap (str_key x) _ _) (fun y hy => Maps.atKey_put_other (lit_ne hy) _ _)
end

/-- The row of blocks is cut: the block is ended. -/
theorem close_done {w : World} {A M n gB cap : Nat} {vs : List Value} {mv : ByteArray → Value} {D : DataW Value} {G : List Frm} {f : Frm} {S : Nat → Prop} (h : ScG w A M n (.slice (some ⟨gB, 0, none⟩) (G.length + 1) cap) vs mv D (stP G f (nms f)) ((G ++ [f]).map names)) (hG : 0 < G.length)
    (hS : ∀ k, foot A M (.slice (some ⟨gB, 0, none⟩) (G.length + 1) cap) vs mv k → S k) (hS2 : ∀ k, S k → k < w.heap.size) :
    Leaves A n S G w (w.setCell ⟨A, 2, none⟩ (.slice (some ⟨gB, 0, none⟩) G.length cap)) := by
  have hm : Mod (fun k => k = A) w (w.setCell ⟨A, 2, none⟩ (.slice (some ⟨gB, 0, none⟩) G.length cap)) := Mod.setCell (Mod.refl (fun k => k = A) w) _ (.inr rfl) _
  have hbr : w.ownsRow 0 91 1 (.slice (some ⟨gB, 0, none⟩) (G.length + 1) cap) (G.length + 1) vs := by
    have := h.brow
    rwa [List.length_map, List.length_append, List.length_singleton] at this
  have hpop := row_pop hbr
  rw [Nat.mul_one] at hpop
  have hlen : vs.length = G.length + 1 := by have := hbr.1; omega
  have hget : ∀ i, i < G.length → (vs.take G.length).getD i nilS = vs.getD i nilS := fun i hi => by
    rw [List.getD_eq_getElem?_getD, List.getD_eq_getElem?_getD, List.getElem?_take_of_lt hi]
  have hgA : gB ≠ A := fun e => (h.B_ne gB rfl).1 e
  refine ⟨S, ⟨M, _, vs.take G.length, mv, D, ⟨?_, ownsMap_mod h.mp hm (fun e => h.AM e.symm), h.key, fun x => ?_, ownsRow_mod hpop hm (fun k hk e => ?_), fun i hi => ?_, h.dm, fun i j hi hj hij => ?_, hG⟩, ?_, fun k hk => by simpa using hS2 k hk⟩, fun k hk => .inl hk, hm.mono (fun k _ hk => by subst hk; exact hS _ (.inl rfl))⟩
  · have := heap_setCell_same w A 2 _ _ (.slice (some ⟨gB, 0, none⟩) G.length cap) h.hd
    simpa using this
  · have := ownsRow_mod (h.mrow x) hm (fun k hk e => by subst e; exact (h.mv_ne x k hk).1 rfl)
    rwa [stP_all] at this
  · simp only [Value.ownBlock, Option.some.injEq] at hk
    exact hgA (hk.trans e)
  · have hi2 : i < ((G ++ [f]).map names).length := by simp; omega
    have := ownsRow_mod (h.vrow i hi2) hm (fun k hk e => by subst e; exact (h.v_ne i hi2 k hk).1 rfl)
    have e : ((G ++ [f]).map names)[i] = names G[i] := by rw [List.getElem_map, List.getElem_append_left hi]
    rw [e, names_len] at this
    rw [hget i hi]
    exact this
  · rw [hget i hi, hget j hj]
    exact h.dv i j (by simp; omega) (by simp; omega) hij
  · intro k hk
    rcases hk with hk | hk | hk | ⟨i, hk⟩ | hk
    · exact hS _ (.inl hk)
    · exact hS _ (.inr (.inl hk))
    · exact hS _ (.inr (.inr (.inl hk)))
    · by_cases hi : i < G.length
      · rw [hget i hi] at hk
        exact hS _ (.inr (.inr (.inr (.inl ⟨i, hk⟩))))
      · exfalso
        rw [List.getD_eq_getElem?_getD, List.getElem?_eq_none (by rw [List.length_take]; omega)] at hk
        simp [Value.ownBlock] at hk
    · exact hS _ (.inr (.inr (.inr (.inr hk))))
end Go.Proofs.Ytblooekephkojaa

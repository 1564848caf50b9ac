/- scope: the program's scope and the document's beside each other. -/
import Derived.Test.YtblooekephkojaaScY
namespace Go.Proofs.Ytblooekephkojaa
open Go.RowKit Go.BigFrame Go.ChangeMaps Go.WideMaps
set_option linter.unusedVariables false

/-- Cells of a type that no scope of the program has. -/
def isNs (w : World) (k : Nat) : Prop := ∃ c t fz, w.heap[k]? = some (.cells c t fz) ∧ t ≠ 57 ∧ t ≠ 91 ∧ t ≠ 9 ∧ t ≠ 90
theorem isRf.ns {base k : Nat} {w : World} (h : isRf base w k) : isNs w k := by
  obtain ⟨_, c, t, fz, h, ht⟩ := h
  refine ⟨c, t, fz, h, ?_⟩
  rcases ht with rfl | rfl <;> decide
theorem row_ty {w : World} {b e s n k : Nat} {v : Value} {x : List Value} (h : w.ownsRow b e s v n x) (hk : v.ownBlock = some k) : ∃ cur, w.heap[k]? = some (.cells cur e (0, 0)) := by
  rcases h.2 with ⟨rfl, _⟩ | ⟨g, cap, cur, rfl, _, hg, _⟩
  · simp [Value.ownBlock] at hk
  · simp only [Value.ownBlock, Option.some.injEq] at hk
    subst hk
    exact ⟨cur, hg⟩
theorem ns_ty {w : World} {k t : Nat} {c : Array Value} (h : w.heap[k]? = some (.cells c t (0, 0))) (ht : t = 57 ∨ t = 91 ∨ t = 9 ∨ t = 90) : ¬ isNs w k := by
  rintro ⟨c', t', fz, h', h1, h2, h3, h4⟩
  rw [h] at h'
  simp only [Option.some.injEq, Obj.cells.injEq] at h'
  obtain ⟨_, rfl, _⟩ := h'
  rcases ht with e | e | e | e
  · exact h1 e
  · exact h2 e
  · exact h3 e
  · exact h4 e
theorem ScAt.foot_ns {w : World} {A M n : Nat} {vB : Value} {vs : List Value} {mv : ByteArray → Value} {D : DataW Value} {F : List Frm} (h : ScAt w A M n vB vs mv D F) : ∀ k, foot A M vB vs mv k → ¬ isNs w k := by
  intro k hk
  rcases hk with rfl | rfl | hk | ⟨i, hk⟩ | ⟨x, hk⟩
  · exact ns_ty h.hd (.inl rfl)
  · obtain ⟨es, c, hb⟩ := ownsMap_heap h.mp
    rintro ⟨c', t', fz, h', _⟩
    rw [hb] at h'; cases h'
  · obtain ⟨cur, hg⟩ := row_ty h.brow hk
    exact ns_ty hg (.inr (.inl rfl))
  · by_cases hi : i < F.length
    · obtain ⟨cur, hg⟩ := row_ty (h.vrow i hi) hk
      exact ns_ty hg (.inr (.inr (.inl rfl)))
    · rw [List.getD_eq_getElem?_getD, List.getElem?_eq_none (by rw [h.vs_len]; omega)] at hk
      simp [Value.ownBlock] at hk
  · obtain ⟨cur, hg⟩ := row_ty (h.mrow x) hk
    exact ns_ty hg (.inr (.inr (.inr rfl)))

section
variable {N : Nat → Prop} {W w : World} {A m : Nat} {F : List Frm}
theorem SO.tight (h : SO N W A m F w) : ∃ N', SO N' w A m F w ∧ (∀ k, N' k → ¬ isNs w k) ∧ ∀ {A' m' : Nat} {G : List Frm} {w' : World}, SO N' w A' m' G w' → SO N W A' m' G w' := by
  obtain ⟨h1, h2, n, S, h3, ⟨M, vB, vs, mv, D, h4, h5, h6⟩, h7, h8⟩ := h
  refine ⟨fun k => foot A M vB vs mv k ∨ w.heap.size ≤ k, ⟨h1, fun k hk => .inr hk, n, foot A M vB vs mv, h3, ⟨M, vB, vs, mv, D, h4, fun k hk => hk, fun k hk => h6 k (h5 k hk)⟩, fun k hk => .inl hk, Mod.refl _ _⟩, fun k hk => ?_, ?_⟩
  · rcases hk with hk | hk
    · exact h4.foot_ns k hk
    · rintro ⟨c, t, fz, hh, _⟩
      have := (Array.getElem?_eq_some_iff.1 hh).1
      omega
  · intro A' m' G w' ⟨q1, q2, n', S', q3, q4, q5, q6⟩
    have hN : ∀ k, (foot A M vB vs mv k ∨ w.heap.size ≤ k) → N k := fun k hk => by
      rcases hk with hk | hk
      · exact h7 k (h5 k hk)
      · exact h2 k (by have := h8.size; omega)
    exact ⟨q1, h2, n', S', q3, q4, fun k hk => hN k (q5 k hk), h8.trans (q6.mono (fun k _ hk => hN k hk))⟩
/-- What only the document's blocks turn in leaves the scope as it is. -/
theorem SO.keepRf {w' : World} (h : SO N W A m F w) (hm : Mod (isRf W.heap.size w) w w') : SO N W A m F w' := by
  obtain ⟨h1, h2, n, S, h3, ⟨M, vB, vs, mv, D, h4, h5, h6⟩, h7, h8⟩ := h
  exact ⟨h1, h2, n, S, h3, ⟨M, vB, vs, mv, D, h4.keep hm (fun k hk hr => h4.foot_ns k hk hr.ns), h5, fun k hk => Nat.lt_of_lt_of_le (h6 k hk) hm.size⟩, h7, h8.trans (hm.mono (fun k _ hk => h2 k hk.1))⟩
theorem Rf.keepNs {base B many : Nat} {L : List Sd} {w' : World} {T : Nat → Prop} (h : Rf base B many L w) (hm : Mod T w w') (hT : ∀ k, T k → ¬ isNs w k) : Rf base B many L w' := by
  obtain ⟨v, h⟩ := h
  exact ⟨v, h.keep hm (fun k hk hr => hT k hk hr.ns)⟩
/-- A call of the scope leaves the document's as it is, and all cells of other types. -/
theorem SO.call {f : Nat} {args : Array Value} {P : Ending → Prop} {A' m' : Nat} {G : List Frm} (h : SO N W A m F w) (C : ∀ N' W', SO N' W' A m F w → Calls Try.prog f args w fun e w' => P e ∧ SO N' W' A' m' G w') :
    Calls Try.prog f args w fun e w' => P e ∧ SO N W A' m' G w' ∧ ∃ T, Mod T w w' ∧ ∀ k, T k → ¬ isNs w k := by
  obtain ⟨N', h', hns, back⟩ := h.tight
  exact (C N' w h').mono fun e w' ⟨he, h1⟩ => ⟨he, back h1, N', h1.mod, hns⟩
end
/-- A box of a type that no scope has reads as before. -/
theorem box_keep {w w' : World} {T : Nat → Prop} {X : Nat} {c : Array Value} {t : TypeId} {fz : Nat × Nat} (hm : Mod T w w') (hT : ∀ k, T k → ¬ isNs w k) (h : w.heap[X]? = some (.cells c t fz)) (ht : t ≠ 57 ∧ t ≠ 91 ∧ t ≠ 9 ∧ t ≠ 90) : w'.heap[X]? = some (.cells c t fz) :=
  hm.keep h (fun e => hT X e ⟨c, t, fz, h, ht⟩)
theorem box_keepRf {base : Nat} {w w' : World} {X : Nat} {c : Array Value} {t : TypeId} {fz : Nat × Nat} (hm : Mod (isRf base w) w w') (h : w.heap[X]? = some (.cells c t fz)) (ht : t ≠ 49 ∧ t ≠ 99) : w'.heap[X]? = some (.cells c t fz) :=
  hm.keep h (fun e => by
    obtain ⟨_, c', t', fz', h', hh⟩ := e
    rw [h] at h'
    simp only [Option.some.injEq, Obj.cells.injEq] at h'
    obtain ⟨_, rfl, _⟩ := h'
    rcases hh with hh | hh
    · exact ht.1 hh
    · exact ht.2 hh)
end Go.Proofs.Ytblooekephkojaa

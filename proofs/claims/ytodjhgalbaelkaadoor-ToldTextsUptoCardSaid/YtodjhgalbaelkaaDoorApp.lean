/- append of a whole slice that reads as a list, onto a slice of the call's own. -/
import Derived.Test.YtodjhgalbaelkaaDoorBas
import Derived.Laws.AppendOwnNone
namespace Go.Proofs.YtodjhgalbaelkaaDoor
open Go.RowKit Go.BigFrame
set_option linter.unusedVariables false

theorem addr_add' (b o j : Nat) : (⟨b, o, none⟩ : Addr).add j = ⟨b, o + j, none⟩ := by unfold Addr.add; split <;> simp_all

theorem flat_at {α : Type} (n : Nat) (f : α → List Value) (hf : ∀ g, (f g).length = n) (w : World) (b : Nat) : ∀ (l : List α) (off : Nat), (∀ i (h : i < l.length), CellsAt w b (off + i * n) (f l[i])) →
    ∀ (j : Nat) (u : Value), (l.flatMap f)[j]? = some u → w.cell? ⟨b, off + j, none⟩ = some u
  | [], off, _, j, u, h => by simp at h
  | g :: l, off, hc, j, u, h => by
    rw [List.flatMap_cons, List.getElem?_append] at h
    split at h
    · have := hc 0 (by simp) j u (by simpa using h)
      simpa using this
    · rename_i hj
      rw [hf] at hj h
      have := flat_at n f hf w b l (off + n) (fun i hi => by
        have := hc (i + 1) (by simpa using hi)
        rw [show off + n + i * n = off + (i + 1) * n from by rw [Nat.add_mul]; omega]
        simpa using this) (j - n) u h
      rwa [show off + n + (j - n) = off + j from by omega] at this

theorem flat_len {α : Type} (n : Nat) (f : α → List Value) (hf : ∀ g, (f g).length = n) : ∀ l : List α, (l.flatMap f).length = l.length * n
  | [] => by simp
  | g :: l => by rw [List.flatMap_cons, List.length_append, hf, flat_len n f hf l, List.length_cons, Nat.add_mul]; omega

theorem wpList_append_rows {P : Program} {w : World} {ops : Array Oper} {rest : List Oper} {o : Oper} {a : Act} {Q : Exit → Act → World → Prop} {α : Type} (f : α → List Value) (hgd : o.guard = none) (s x : Operand) (t : TypeId)
    (ho : o.op = .call { callee := .builtin .append, args := #[s, x], argTypes := #[t, t] })
    (base : Nat) (e : TypeId) (i : TypeInfo) (z : Value) (size bytes : Nat) (ht : P.underlying t = some (.slice e)) (hi : P.info? e = some i) (hz : i.zero = some z)
    (hsize : i.size = size) (hby : i.bytes = bytes) (hzs : z.cells.size = size) (hsz : 0 < size) (hf : ∀ g, (f g).length = size) (hf1 : ∀ g, ∀ u ∈ f g, u.oneCell' = true)
    (v : Value) (n : Nat) (xs : List Value) (hs : a.eval s = v) (hown : w.ownsRow base e size v n xs)
    (ao : Option Addr) (l : List α) (c : Nat) (hx : a.eval x = .slice ao l.length c) (hnil : ao = none → l = [] ∧ c = 0) (hr : RowAt size f w ao l)
    (h63 : n + l.length ≤ maxLen) (hbytes : (n + l.length) * bytes ≤ 140737488355328) (hbase : base ≤ w.heap.size)
    (h : ∀ v' w', w'.ownsRow base e size v' (n + l.length) (xs ++ l.flatMap f) → w.grownBy w' v.ownBlock → wpList P ops Q rest (a.put o.dst v') w') : wpList P ops Q (o :: rest) a w := by
  cases ao with
  | none =>
    obtain ⟨rfl, rfl⟩ := hnil rfl
    refine wpList_append_own_none hgd s x t ho base e i size ht hi v n xs hs hown (by simpa using hx) ?_
    have := h v w (by simpa using hown) ?_
    · exact this
    · exact ⟨rfl, rfl, rfl, Nat.le_refl _, fun k hk _ => rfl⟩
  | some ad =>
    refine wpList_append_own _ hgd s x t ho base e i z size bytes ht hi hz hsize hby hzs hsz v n xs hs hown ad l.length c (l.flatMap f) hx (flat_len size f hf l) (fun j u hj => ?_) (fun u hu => ?_) h63 hbytes hbase (fun v' w' h1 h2 _ => h v' w' h1 h2)
    · rcases hr with rfl | ⟨b, off, hab, _, hc⟩
      · simp at hj
      · cases hab
        rw [addr_add']
        exact flat_at size f hf w b l off hc j u hj
    · obtain ⟨g, hg, hu⟩ := List.mem_flatMap.1 hu
      exact hf1 g u hu
end Go.Proofs.YtodjhgalbaelkaaDoor

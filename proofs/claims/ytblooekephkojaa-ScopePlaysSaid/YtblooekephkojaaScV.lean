/- scope: the document's list of what was declared, and how it stands to the blocks; plain. -/
import Derived.Test.YtblooekephkojaaScS
namespace Go.Proofs.Ytblooekephkojaa
set_option linter.unusedVariables false

structure Sd where
  b : Nat
  x : ByteArray
  t : Bool
/-- What the last entry of a block says of a name. -/
def lst (b : Nat) (x : ByteArray) (L : List Sd) : Option Bool := L.foldl (fun o e => if e.b = b ∧ e.x = x then some e.t else o) none
theorem lst_snoc (b : Nat) (x : ByteArray) (L : List Sd) (e : Sd) : lst b x (L ++ [e]) = if e.b = b ∧ e.x = x then some e.t else lst b x L := by simp [lst]
def rstep (x : ByteArray) (p : Int × Bool) (e : Sd) : Int × Bool := if e.x = x ∧ p.1 ≤ (e.b : Int) then ((e.b : Int), e.t) else p
def rIs (L : List Sd) (x : ByteArray) : Int × Bool := L.foldl (rstep x) (-1, false)
theorem rIs_snoc (L : List Sd) (x : ByteArray) (e : Sd) : rIs (L ++ [e]) x = rstep x (rIs L x) e := by simp [rIs]
theorem snoc_ind {α : Type} {P : List α → Prop} (h0 : P []) (h1 : ∀ l a, P l → P (l ++ [a])) (l : List α) : P l := by
  rw [← List.reverse_reverse l]
  induction l.reverse with
  | nil => exact h0
  | cons a r ih => rw [List.reverse_cons]; exact h1 _ _ ih
theorem lst_none_of (b : Nat) (x : ByteArray) (L : List Sd) (h : ∀ e ∈ L, ¬ (e.b = b ∧ e.x = x)) : lst b x L = none := by
  induction L using snoc_ind with
  | h0 => rfl
  | h1 l a ih =>
    rw [lst_snoc, if_neg (h a (by simp))]
    exact ih (fun e he => h e (List.mem_append_left _ he))
theorem rIs_spec (x : ByteArray) (L : List Sd) : (rIs L x = (-1, false) ∧ ∀ b, lst b x L = none) ∨ ∃ (b : Nat) (t : Bool), rIs L x = ((b : Int), t) ∧ lst b x L = some t ∧ ∀ b', b < b' → lst b' x L = none := by
  induction L using snoc_ind with
  | h0 => exact .inl ⟨rfl, fun b => rfl⟩
  | h1 l e ih =>
    rw [rIs_snoc]
    by_cases hx : e.x = x
    · rcases ih with ⟨h1, h2⟩ | ⟨b, t, h1, h2, h3⟩
      · refine .inr ⟨e.b, e.t, by rw [h1]; unfold rstep; rw [if_pos ⟨hx, by show (-1 : Int) ≤ _; omega⟩], by rw [lst_snoc, if_pos ⟨rfl, hx⟩], fun b' hb => ?_⟩
        rw [lst_snoc, if_neg (by omega)]; exact h2 b'
      · by_cases hb : b ≤ e.b
        · refine .inr ⟨e.b, e.t, by rw [h1]; unfold rstep; rw [if_pos ⟨hx, by show (b : Int) ≤ _; omega⟩], by rw [lst_snoc, if_pos ⟨rfl, hx⟩], fun b' hb' => ?_⟩
          rw [lst_snoc, if_neg (by omega)]; exact h3 b' (by omega)
        · refine .inr ⟨b, t, by rw [h1]; unfold rstep; rw [if_neg (by show ¬ (_ ∧ (b : Int) ≤ _); omega)], by rw [lst_snoc, if_neg (by omega)]; exact h2, fun b' hb' => ?_⟩
          rw [lst_snoc, if_neg (by omega)]; exact h3 b' hb'
    · have hr : rstep x (rIs l x) e = rIs l x := by unfold rstep; rw [if_neg (fun h => hx h.1)]
      have hl : ∀ b, lst b x (l ++ [e]) = lst b x l := fun b => by rw [lst_snoc, if_neg (fun h => hx h.2)]
      rw [hr]
      rcases ih with ⟨h1, h2⟩ | ⟨b, t, h1, h2, h3⟩
      · exact .inl ⟨h1, fun b => by rw [hl]; exact h2 b⟩
      · exact .inr ⟨b, t, h1, by rw [hl]; exact h2, fun b' hb => by rw [hl]; exact h3 b' hb⟩

theorem isTy_snoc (G : List Frm) (f : Frm) (x : ByteArray) : isTy (G ++ [f]) x = match look f x with | some t => t | none => isTy G x := by
  unfold isTy
  rw [stk_snoc]
  cases look f x <;> simp
def lookAt (F : List Frm) (b : Nat) (x : ByteArray) : Option Bool := look (F.getD b []) x
theorem lookAt_out (F : List Frm) (b : Nat) (x : ByteArray) (h : F.length ≤ b) : lookAt F b x = none := by
  unfold lookAt
  rw [List.getD_eq_getElem?_getD, List.getElem?_eq_none h]; rfl
theorem lookAt_old (G : List Frm) (f : Frm) (b : Nat) (x : ByteArray) (h : b < G.length) : lookAt (G ++ [f]) b x = lookAt G b x := by
  unfold lookAt
  rw [List.getD_eq_getElem?_getD, List.getD_eq_getElem?_getD, List.getElem?_append_left h]
theorem lookAt_last (G : List Frm) (f : Frm) (x : ByteArray) : lookAt (G ++ [f]) G.length x = look f x := by
  unfold lookAt
  rw [List.getD_eq_getElem?_getD, List.getElem?_append_right (Nat.le_refl _)]; simp
theorem isTy_none (x : ByteArray) (F : List Frm) (h : ∀ b, lookAt F b x = none) : isTy F x = false := by
  induction F using snoc_ind with
  | h0 => rfl
  | h1 G f ih =>
    rw [isTy_snoc]
    have h1 := h G.length
    rw [lookAt_last] at h1
    rw [h1]
    refine ih (fun b => ?_)
    by_cases hb : b < G.length
    · have := h b; rwa [lookAt_old _ _ _ _ hb] at this
    · exact lookAt_out _ _ _ (by omega)
theorem isTy_some (x : ByteArray) (F : List Frm) (b : Nat) (t : Bool) (h : lookAt F b x = some t) (h2 : ∀ b', b < b' → lookAt F b' x = none) : isTy F x = t := by
  induction F using snoc_ind with
  | h0 => simp [lookAt, look] at h
  | h1 G f ih =>
    rw [isTy_snoc]
    by_cases hb : b < G.length
    · have h3 := h2 G.length hb
      rw [lookAt_last] at h3
      rw [h3]
      refine ih ?_ (fun b' hb' => ?_)
      · rwa [lookAt_old _ _ _ _ hb] at h
      · by_cases hb2 : b' < G.length
        · have := h2 b' hb'; rwa [lookAt_old _ _ _ _ hb2] at this
        · exact lookAt_out _ _ _ (by omega)
    · have hbe : b = G.length := by
        by_cases hb2 : b = G.length
        · exact hb2
        · rw [lookAt_out _ _ _ (by simp; omega)] at h; cases h
      subst hbe
      rw [lookAt_last] at h
      rw [h]

/-- The list says what the blocks have. -/
structure Rel (F : List Frm) (L : List Sd) : Prop where
  lt : ∀ e ∈ L, e.b < F.length
  eq : ∀ b x, lookAt F b x = lst b x L
theorem Rel.isTy {F : List Frm} {L : List Sd} (h : Rel F L) (x : ByteArray) : isTy F x = (rIs L x).2 := by
  rcases rIs_spec x L with ⟨h1, h2⟩ | ⟨b, t, h1, h2, h3⟩
  · rw [h1]; exact isTy_none x F (fun b => by rw [h.eq]; exact h2 b)
  · rw [h1]; exact isTy_some x F b t (by rw [h.eq]; exact h2) (fun b' hb => by rw [h.eq]; exact h3 b' hb)
theorem Rel.one : Rel [[]] [] := ⟨by simp, fun b x => by
  cases b with
  | zero => rfl
  | succ b => exact lookAt_out _ _ _ (by simp)⟩
theorem Rel.opens {F : List Frm} {L : List Sd} (h : Rel F L) : Rel (opens F) L := by
  unfold Ytblooekephkojaa.opens
  split
  · exact h
  · refine ⟨fun e he => by have := h.lt e he; simp; omega, fun b x => ?_⟩
    by_cases hb : b < F.length
    · rw [lookAt_old _ _ _ _ hb]; exact h.eq b x
    · rw [← h.eq, lookAt_out F b x (by omega)]
      by_cases hb2 : b = F.length
      · subst hb2; rw [lookAt_last]; rfl
      · exact lookAt_out _ _ _ (by simp; omega)
theorem lst_filter (n : Nat) (b : Nat) (hb : b < n) (x : ByteArray) (L : List Sd) : lst b x (L.filter fun e => decide (e.b < n)) = lst b x L := by
  induction L using snoc_ind with
  | h0 => rfl
  | h1 l e ih =>
    rw [List.filter_append]
    by_cases he : e.b < n
    · rw [List.filter_cons_of_pos (by simpa using he), List.filter_nil, lst_snoc, lst_snoc, ih]
    · rw [List.filter_cons_of_neg (by simpa using he), List.filter_nil, List.append_nil, lst_snoc, if_neg (by omega), ih]
theorem Rel.closed {G : List Frm} {f : Frm} {L : List Sd} (h : Rel (G ++ [f]) L) : Rel G (L.filter fun e => decide (e.b < G.length)) := by
  refine ⟨fun e he => by simpa using (List.mem_filter.1 he).2, fun b x => ?_⟩
  by_cases hb : b < G.length
  · rw [lst_filter _ _ hb, ← h.eq, lookAt_old _ _ _ _ hb]
  · rw [lookAt_out _ _ _ (by omega), lst_none_of]
    intro e he
    have := (List.mem_filter.1 he).2
    simp at this; omega
theorem Rel.declare {F : List Frm} {L : List Sd} (h : Rel F L) (h0 : 0 < F.length) (x : ByteArray) (t : Bool) : Rel (declare F x t) (L ++ [⟨F.length - 1, x, t⟩]) := by
  obtain ⟨G, f, rfl⟩ := snoc_of_pos F h0
  rw [declare_snoc]
  refine ⟨fun e he => ?_, fun b y => ?_⟩
  · rcases List.mem_append.1 he with he | he
    · have := h.lt e he; simpa using this
    · simp at he; subst he; simp
  · rw [lst_snoc]
    simp only [List.length_append, List.length_singleton, Nat.add_sub_cancel]
    by_cases hb : b < G.length
    · rw [lookAt_old _ _ _ _ hb, if_neg (by omega), ← h.eq, lookAt_old _ _ _ _ hb]
    · by_cases hb2 : b = G.length
      · subst hb2
        rw [lookAt_last]
        by_cases hy : x = y
        · subst hy; rw [if_pos ⟨rfl, rfl⟩, look_setF_same]
        · rw [if_neg (fun h => hy h.2), look_setF_other _ _ _ _ (Ne.symm hy), ← h.eq, lookAt_last]
      · rw [lookAt_out _ _ _ (by simp; omega), if_neg (by omega), ← h.eq, lookAt_out _ _ _ (by simp; omega)]
end Go.Proofs.Ytblooekephkojaa

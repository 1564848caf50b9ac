/- scope: steps that are played without a Close, and what they come to. -/
import Derived.Test.YtblooekephkojaaScL
namespace Go.Proofs.Ytblooekephkojaa
open Go.RowKit Go.BigFrame Go.ChangeMaps Go.WideMaps
set_option linter.unusedVariables false

structure Stp where
  k : Int
  x : ByteArray
  t : Bool
def Stp.f (s : Stp) : List Value := [.int .i64 s.k, .string s.x, .bool s.t]
theorem Stp.at {w : World} {b o : Nat} {s : Stp} (h : ∀ j v, (Stp.f s)[j]? = some v → w.cell? ⟨b, o + j, none⟩ = some v) :
    w.cell? ⟨b, o, none⟩ = some (.int .i64 s.k) ∧ w.cell? ⟨b, o + 1, none⟩ = some (.string s.x) ∧ w.cell? ⟨b, o + 2, none⟩ = some (.bool s.t) :=
  ⟨h 0 _ rfl, h 1 _ rfl, h 2 _ rfl⟩
def opens (F : List Frm) : List Frm := if 65536 ≤ F.length then F else F ++ [[]]
def decl (F : List Frm) (x : ByteArray) (t : Bool) : List Frm := if x.size = 0 then F else declare F x t
def pst (F : List Frm) (s : Stp) : List Frm := if s.k = 0 then opens F else if 1 < s.k then decl F s.x s.t else F
def rung (l : List Stp) (i : Nat) : List Frm := (l.take i).foldl pst [[]]
theorem rung_succ (l : List Stp) (i : Nat) (h : i < l.length) : rung l (i + 1) = pst (rung l i) l[i] := by
  unfold rung
  rw [List.take_succ_eq_append_getElem h, List.foldl_append]; rfl

/-- No more than m names or blocks were put, and each name is short. -/
structure Sml (m : Nat) (F : List Frm) : Prop where
  pos : 0 < F.length
  len : F.length ≤ m + 1
  fr : ∀ f ∈ F, f.length ≤ m
  nm : ∀ f ∈ F, ∀ p ∈ f, p.1.size ≤ maxLen
theorem Sml.one : Sml 0 [[]] := ⟨by simp, by simp, by simp, by simp⟩
theorem Sml.mono {m k : Nat} {F : List Frm} (h : Sml m F) (hk : m ≤ k) : Sml k F := ⟨h.pos, by have := h.len; omega, fun f hf => Nat.le_trans (h.fr f hf) hk, h.nm⟩
theorem Sml.opens {m : Nat} {F : List Frm} (h : Sml m F) : Sml (m + 1) (opens F) := by
  unfold Ytblooekephkojaa.opens
  split
  · exact h.mono (by omega)
  · refine ⟨by simp, by have := h.len; simp; omega, fun f hf => ?_, fun f hf => ?_⟩
    · rcases List.mem_append.1 hf with hf | hf
      · have := h.fr f hf; omega
      · simp at hf; subst hf; simp
    · rcases List.mem_append.1 hf with hf | hf
      · exact h.nm f hf
      · simp at hf; subst hf; simp
theorem setF_len (x : ByteArray) (t : Bool) : ∀ f : Frm, (setF f x t).length ≤ f.length + 1
  | [] => by simp [setF]
  | p :: f => by
    unfold setF
    split
    · simp
    · have := setF_len x t f
      simp only [List.length_cons]; omega
theorem setF_mem (x : ByteArray) (t : Bool) : ∀ (f : Frm) (p : ByteArray × Bool), p ∈ setF f x t → p.1 = x ∨ ∃ q ∈ f, q.1 = p.1
  | [], p, h => by simp [setF] at h; subst h; exact .inl rfl
  | q :: f, p, h => by
    unfold setF at h
    split at h
    · rcases List.mem_cons.1 h with rfl | h
      · exact .inr ⟨q, List.mem_cons_self, rfl⟩
      · exact .inr ⟨p, List.mem_cons_of_mem _ h, rfl⟩
    · rcases List.mem_cons.1 h with rfl | h
      · exact .inr ⟨p, List.mem_cons_self, rfl⟩
      · rcases setF_mem x t f p h with h | ⟨r, hr, e⟩
        · exact .inl h
        · exact .inr ⟨r, List.mem_cons_of_mem _ hr, e⟩
theorem Sml.declare {m : Nat} {F : List Frm} (h : Sml m F) (x : ByteArray) (t : Bool) (hx : x.size ≤ maxLen) : Sml (m + 1) (declare F x t) := by
  obtain ⟨G, f, rfl⟩ := snoc_of_pos F h.pos
  rw [declare_snoc]
  refine ⟨by simp, by have := h.len; simp at this ⊢; omega, fun g hg => ?_, fun g hg p hp => ?_⟩
  · rcases List.mem_append.1 hg with hg | hg
    · have := h.fr g (List.mem_append_left _ hg); omega
    · simp at hg; subst hg
      have := h.fr f (by simp)
      have := setF_len x t f
      omega
  · rcases List.mem_append.1 hg with hg | hg
    · exact h.nm g (List.mem_append_left _ hg) p hp
    · simp at hg; subst hg
      rcases setF_mem x t f p hp with e | ⟨q, hq, e⟩
      · rw [e]; exact hx
      · rw [← e]; exact h.nm f (by simp) q hq
theorem Sml.decl {m : Nat} {F : List Frm} (h : Sml m F) (x : ByteArray) (t : Bool) (hx : x.size ≤ maxLen) : Sml (m + 1) (decl F x t) := by
  unfold Ytblooekephkojaa.decl
  split
  · exact h.mono (by omega)
  · exact h.declare x t hx
theorem Sml.pst {m : Nat} {F : List Frm} (h : Sml m F) (s : Stp) (hx : s.x.size ≤ maxLen) : Sml (m + 1) (pst F s) := by
  unfold Ytblooekephkojaa.pst
  split
  · exact h.opens
  split
  · exact h.decl _ _ hx
  · exact h.mono (by omega)
theorem look_big (x : ByteArray) (hx : ¬ x.size ≤ maxLen) : ∀ f : Frm, (∀ p ∈ f, p.1.size ≤ maxLen) → look f x = none
  | [], _ => rfl
  | p :: f, h => by
    unfold look
    rw [if_neg (fun e => hx (by rw [← e]; exact h p List.mem_cons_self))]
    exact look_big x hx f (fun q hq => h q (List.mem_cons_of_mem _ hq))
theorem stkFrom_big (x : ByteArray) (hx : ¬ x.size ≤ maxLen) : ∀ (i : Nat) (F : List Frm), (∀ f ∈ F, ∀ p ∈ f, p.1.size ≤ maxLen) → stkFrom x i F = []
  | i, [], _ => rfl
  | i, f :: F, h => by
    rw [stkFrom_cons, look_big x hx f (h f List.mem_cons_self), stkFrom_big x hx (i + 1) F (fun g hg => h g (List.mem_cons_of_mem _ hg))]; rfl
theorem Sml.big {m : Nat} {F : List Frm} (h : Sml m F) : ∀ x : ByteArray, ¬ x.size ≤ maxLen → stk F x = [] := fun x hx => stkFrom_big x hx 1 F h.nm
theorem isTy_same {F : List Frm} (h : 0 < F.length) (x : ByteArray) (t : Bool) : isTy (declare F x t) x = t := by
  obtain ⟨G, f, rfl⟩ := snoc_of_pos F h
  unfold isTy
  rw [declare_snoc, stk_snoc, look_setF_same]; simp
theorem isTy_other {F : List Frm} (h : 0 < F.length) (x y : ByteArray) (t : Bool) (hy : y ≠ x) : isTy (declare F x t) y = isTy F y := by
  obtain ⟨G, f, rfl⟩ := snoc_of_pos F h
  unfold isTy
  rw [declare_snoc, stk_snoc, stk_snoc, look_setF_other _ _ _ _ hy]
theorem Sml.rung {l : List Stp} (hl : ∀ s ∈ l, s.x.size ≤ maxLen) : ∀ i, i ≤ l.length → Sml i (rung l i)
  | 0, _ => Sml.one
  | i + 1, h => by
    rw [rung_succ l i (by omega)]
    exact (Sml.rung hl i (by omega)).pst _ (hl _ (List.getElem_mem _))

/-- Own, behind what only makes memory. -/
theorem Own.on {W w w' : World} {A n : Nat} {F : List Frm} (h : Own W A n F w) (hb : Below w.heap.size w w') : Own W A n F w' := by
  obtain ⟨S, h1, h2, h3⟩ := h
  exact ⟨S, h1.keep (T := fun _ => False) (Mod.of_below hb) (fun _ _ h => h), h2, h3.trans (hb.mono h3.size)⟩
theorem Own.drewN {W w : World} {A n : Nat} {F : List Frm} (h : Own W A n F w) (k : Nat) : Own W A n F (w.drewN k) := h.on (below_drewN _ _ _)
theorem Own.drew {W w : World} {A n : Nat} {F : List Frm} (h : Own W A n F w) : Own W A n F w.drew := h.on ((Below.refl _ _).drew)
end Go.Proofs.Ytblooekephkojaa

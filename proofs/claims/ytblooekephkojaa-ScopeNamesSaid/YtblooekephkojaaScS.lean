/- scope: a scope whose memory may be touched where N says so; all calls. -/
import Derived.Test.YtblooekephkojaaScR
import Derived.Test.YtblooekephkojaaScI
namespace Go.Proofs.Ytblooekephkojaa
open Go.RowKit Go.BigFrame Go.Shelf Go.ChangeMaps Go.WideMaps
set_option linter.unusedVariables false

def tot : List Frm → Nat
  | [] => 0
  | f :: F => f.length + tot F
theorem tot_append (F G : List Frm) : tot (F ++ G) = tot F + tot G := by
  induction F with
  | nil => simp [tot]
  | cons f F ih => simp [tot, ih]; omega
theorem tot_mem {F : List Frm} {f : Frm} (h : f ∈ F) : f.length ≤ tot F := by
  induction F with
  | nil => cases h
  | cons g F ih =>
    rcases List.mem_cons.1 h with rfl | h
    · simp [tot]
    · have := ih h; simp [tot]; omega
/-- What all blocks keep. -/
structure Wf (F : List Frm) : Prop where
  pos : 0 < F.length
  len : F.length ≤ 65536
  nm : ∀ f ∈ F, ∀ p ∈ f, p.1.size ≤ maxLen
  nd : ∀ f ∈ F, (nms f).Nodup
def closed (F : List Frm) : List Frm := if F.length = 1 then F else F.dropLast
theorem Wf.one : Wf [[]] := ⟨by simp, by simp, by simp, by simp [nms]⟩
theorem Wf.opens {F : List Frm} (h : Wf F) : Wf (opens F) := by
  unfold Ytblooekephkojaa.opens
  split
  · exact h
  · refine ⟨by simp, by simp; omega, fun f hf => ?_, fun f hf => ?_⟩
    · rcases List.mem_append.1 hf with hf | hf
      · exact h.nm f hf
      · simp at hf; subst hf; simp
    · rcases List.mem_append.1 hf with hf | hf
      · exact h.nd f hf
      · simp at hf; subst hf; simp [nms]
theorem setF_nodup (x : ByteArray) (t : Bool) (f : Frm) (h : (nms f).Nodup) : (nms (setF f x t)).Nodup := by
  by_cases hx : x ∈ nms f
  · obtain ⟨t0, h0⟩ := look_some f x hx
    have : nms (setF f x t) = nms f := by
      have e := names_setF_old f x t t0 h0
      have e2 : ∀ g : Frm, names g = (nms g).map Value.string := fun g => by simp [names, nms]
      rw [e2, e2] at e
      exact List.map_inj_right (fun a b h => by injection h) |>.1 e
    rw [this]; exact h
  · rw [setF_new f x t (look_none f x hx)]
    unfold nms at *
    rw [List.map_append, List.nodup_append]
    refine ⟨h, by simp, fun a ha b hb e => ?_⟩
    simp at hb
    subst hb e
    exact hx ha
theorem Wf.declare {F : List Frm} (h : Wf F) (x : ByteArray) (t : Bool) (hx : x.size ≤ maxLen) : Wf (declare F x t) := by
  obtain ⟨G, f, rfl⟩ := snoc_of_pos F h.pos
  rw [declare_snoc]
  refine ⟨by simp, by have := h.len; simp at this ⊢; omega, fun g hg p hp => ?_, fun g hg => ?_⟩
  · rcases List.mem_append.1 hg with hg | hg
    · exact h.nm g (List.mem_append_left _ hg) p hp
    · simp at hg; subst hg
      rcases setF_mem x t f p hp with e | ⟨q, hq, e⟩
      · rw [e]; exact hx
      · rw [← e]; exact h.nm f (by simp) q hq
  · rcases List.mem_append.1 hg with hg | hg
    · exact h.nd g (List.mem_append_left _ hg)
    · simp at hg; subst hg
      exact setF_nodup x t f (h.nd f (by simp))
theorem Wf.decl {F : List Frm} (h : Wf F) (x : ByteArray) (t : Bool) (hx : x.size ≤ maxLen) : Wf (decl F x t) := by
  unfold Ytblooekephkojaa.decl
  split
  · exact h
  · exact h.declare x t hx
theorem closed_snoc (G : List Frm) (f : Frm) (hG : 0 < G.length) : closed (G ++ [f]) = G := by
  unfold closed
  rw [if_neg (by intro e; rw [List.length_append, List.length_singleton] at e; omega)]; simp
theorem Wf.closed {F : List Frm} (h : Wf F) : Wf (closed F) := by
  unfold Ytblooekephkojaa.closed
  split
  · exact h
  · rename_i h1
    have := h.pos
    exact ⟨by simp; omega, by have := h.len; simp; omega, fun f hf => h.nm f ((List.dropLast_sublist F).subset hf), fun f hf => h.nd f ((List.dropLast_sublist F).subset hf)⟩
theorem Wf.big {F : List Frm} (h : Wf F) : ∀ x : ByteArray, ¬ x.size ≤ maxLen → stk F x = [] := fun x hx => stkFrom_big x hx 1 F h.nm
theorem tot_opens (F : List Frm) : tot (opens F) = tot F := by
  unfold opens; split
  · rfl
  · rw [tot_append]; simp [tot]
theorem tot_decl (F : List Frm) (h : 0 < F.length) (x : ByteArray) (t : Bool) : tot (decl F x t) ≤ tot F + 1 := by
  unfold decl
  split
  · omega
  · obtain ⟨G, f, rfl⟩ := snoc_of_pos F h
    rw [declare_snoc, tot_append, tot_append]
    have := setF_len x t f
    simp [tot]; omega

/-- A scope: what it is; the memory that may be touched since W is N's. -/
def SO (N : Nat → Prop) (W : World) (A m : Nat) (F : List Frm) (w : World) : Prop :=
  Wf F ∧ (∀ k, W.heap.size ≤ k → N k) ∧ ∃ n S, n + tot F ≤ m ∧ Sco w A n S F ∧ (∀ k, S k → N k) ∧ Mod N W w
section
variable {N : Nat → Prop} {W w : World} {A m : Nat} {F : List Frm}
theorem SO.wf (h : SO N W A m F w) : Wf F := h.1
theorem SO.mod (h : SO N W A m F w) : Mod N W w := by obtain ⟨_, _, n, S, _, _, _, h⟩ := h; exact h
theorem SO.mono {k : Nat} (h : SO N W A m F w) (hk : m ≤ k) : SO N W A k F w := by
  obtain ⟨h1, h2, n, S, h3, h4⟩ := h; exact ⟨h1, h2, n, S, by omega, h4⟩
theorem SO.on {w' : World} (h : SO N W A m F w) (hb : Below w.heap.size w w') : SO N W A m F w' := by
  obtain ⟨h1, h2, n, S, h3, h4, h5, h6⟩ := h
  exact ⟨h1, h2, n, S, h3, h4.keep (T := fun _ => False) (Mod.of_below hb) (fun _ _ h => h), h5, h6.trans (Mod.of_below hb)⟩
theorem SO.drewN (h : SO N W A m F w) (k : Nat) : SO N W A m F (w.drewN k) := h.on (below_drewN _ _ _)
theorem SO.leaves {w' : World} {n k : Nat} {S : Nat → Prop} {G : List Frm} (hl : Leaves A n S G w w') (hS : ∀ k, S k → N k) (hN : ∀ k, W.heap.size ≤ k → N k) (hm : Mod N W w) (hG : Wf G) (hn : n + tot G ≤ k) : SO N W A k G w' := by
  obtain ⟨S', h1, h2, h3⟩ := hl
  refine ⟨hG, hN, n, S', hn, h1, fun k hk => ?_, hm.trans (h3.mono (fun k _ hk => hS k hk))⟩
  rcases h2 k hk with h | h
  · exact hS k h
  · exact hN k (by have := hm.size; omega)
theorem So.new (W : World) : Calls Try.prog 21 #[] W fun e w' => ∃ A, e = .returned (.pointer (some ⟨A, 0, none⟩)) ∧ SO (fun k => W.heap.size ≤ k) W A 0 [[]] w' := by
  refine (Sc.new W).mono ?_
  rintro e w1 ⟨A, rfl, h1, h2⟩
  exact ⟨A, rfl, Wf.one, fun _ h => h, 0, _, by simp [tot], h1, fun k hk => hk.1, Mod.of_below h2⟩
theorem So.opens (h : SO N W A m F w) :
    Calls Try.prog 22 #[.pointer (some ⟨A, 0, none⟩)] w fun e w' => e = .returned (.int .i64 (if 65536 ≤ F.length then 4 else 0)) ∧ SO N W A m (opens F) w' := by
  obtain ⟨h1, h2, n, S, h3, h4, h5, h6⟩ := h
  exact (Sc.opens A n S F w h4).mono fun e w' ⟨he, hl⟩ => ⟨he, SO.leaves (G := Ytblooekephkojaa.opens F) hl h5 h2 h6 h1.opens (by rw [tot_opens]; exact h3)⟩
theorem So.declare (x : ByteArray) (t : Bool) (h : SO N W A m F w) (hx : x.size ≤ maxLen) (hm : m ≤ 1000000) :
    Calls Try.prog 23 #[.pointer (some ⟨A, 0, none⟩), .string x, .bool t] w fun e w' => e = .returned (.int .i64 (if x.size = 0 then 100 else 0)) ∧ SO N W A (m + 2) (decl F x t) w' := by
  obtain ⟨h1, h2, n, S, h3, h4, h5, h6⟩ := h
  exact (Sc.declare A n S F x t w h4 hx h1.len (fun f hf => by have := tot_mem hf; omega) (by omega)).mono fun e w' ⟨he, hl⟩ => ⟨he, SO.leaves (G := decl F x t) hl h5 h2 h6 (h1.decl x t hx) (by have := tot_decl F h1.pos x t; omega)⟩
theorem So.isType (x : ByteArray) (h : SO N W A m F w) (hx : x.size ≤ maxLen) : Calls Try.prog 25 #[.pointer (some ⟨A, 0, none⟩), .string x] w fun e w' => e = .returned (.bool (isTy F x)) ∧ w' = w := by
  obtain ⟨h1, h2, n, S, h3, h4, h5, h6⟩ := h
  exact Sc.isType A n S F x w h4 hx (by have := h1.len; omega)
theorem So.blocks (h : SO N W A m F w) : Calls Try.prog 31 #[.pointer (some ⟨A, 0, none⟩)] w fun e w' => e = .returned (.int .i64 F.length) ∧ w' = w := by
  obtain ⟨h1, h2, n, S, h3, h4, h5, h6⟩ := h
  exact Sc.blocks A n S F w h4

set_option maxRecDepth 100000 in
set_option maxHeartbeats 1000000 in
theorem Sc.close_one (A n : Nat) (S : Nat → Prop) (f : Frm) (w : World) (h : Sco w A n S [f]) : Calls Try.prog 28 #[.pointer (some ⟨A, 0, none⟩)] w fun e w' => e = .returned (.int .i64 100) ∧ Below w.heap.size w w' := by
  obtain ⟨M, vB, vs, mv, D, h, h2, h3⟩ := h
  obtain ⟨a, cap, rfl⟩ := row_shape h.brow
  obtain ⟨W0, hW0⟩ : ∃ W0, W0 = w.alloc (.cells #[.pointer (some ⟨A, 0, none⟩)] 42) := ⟨_, rfl⟩
  have hb0 : Below w.heap.size w W0 := by rw [hW0]; exact (Below.refl _ _).alloc (Nat.le_refl _) _
  have c0 : W0.cell? ⟨w.heap.size, 0, none⟩ = some (.pointer (some ⟨A, 0, none⟩)) := by rw [hW0]; simp [go_sem]
  have hG0 := h.keep (T := fun _ => False) (Mod.of_below hb0) (fun _ _ h => h)
  have HD0 := Lib.hid hG0.hd
  have c1 := hG0.cells.2.2
  have HB := Lib.hid hb0
  have HW0 := Lib.hid hW0
  clear h h2 h3 hG0 hb0 hW0
  refine (callsIn_wide (n := 5)).1 ?_
  refine callsIn_of_wp_marks Try.func28 rfl trivial ?_ rfl
  simp only [Try.ntmps28, List.size_toArray, List.length_cons, List.length_nil, Nat.reduceAdd, Nat.reduceSub, Array.replicate_succ, Array.replicate_zero, List.push_toArray, List.append_toArray, List.nil_append, List.cons_append]
  gi_wp2_with (fail)
  rw [← HW0.out]
  refine ⟨trivial, ?_⟩
  refine (callsIn_wide.2 (Sc.made A W0 _ _ HD0.out)).mono ?_
  rintro e w1 ⟨rfl, rfl⟩
  gi_wp2_with (fail)
  exact ⟨_, results_tmp rfl _ _ _, rfl, HB.out⟩
theorem So.close (h : SO N W A m F w) (hm : m ≤ 1000000) : Calls Try.prog 28 #[.pointer (some ⟨A, 0, none⟩)] w fun e w' => e = .returned (.int .i64 (if F.length = 1 then 100 else 0)) ∧ SO N W A m (closed F) w' := by
  by_cases h1 : F.length = 1
  · have hh := h
    obtain ⟨_, _, n, S, _, h4, _⟩ := h
    obtain ⟨G, f, rfl⟩ := snoc_of_pos F (by omega)
    have hG : G = [] := List.length_eq_zero_iff.1 (by simp at h1; exact h1 ▸ rfl)
    subst hG
    rw [if_pos h1]
    refine (Sc.close_one A n S f w h4).mono fun e w' ⟨he, hb⟩ => ⟨he, ?_⟩
    unfold closed
    rw [if_pos h1]
    exact hh.on hb
  · obtain ⟨q1, q2, n, S, q3, q4, q5, q6⟩ := h
    obtain ⟨G, f, rfl⟩ := snoc_of_pos F q1.pos
    have hG : 0 < G.length := by simp at h1; exact List.length_pos_iff.2 h1
    have ht := tot_append G [f]
    simp [tot] at ht
    rw [if_neg h1, closed_snoc G f hG]
    refine (Sc.close_more A n S G f w q4 hG (q1.nd f (by simp)) (fun x hx => ?_) q1.len (by omega) (by omega)).mono fun e w' ⟨he, hl⟩ => ⟨he, SO.leaves hl q5 q2 q6 ?_ (by omega)⟩
    · simp only [nms, List.mem_map] at hx
      obtain ⟨p, hp, rfl⟩ := hx
      exact q1.nm f (by simp) p hp
    · have := q1.closed
      rwa [closed_snoc G f hG] at this
/-- Copy: the new scope stands, whatever becomes of the old one. -/
theorem So.copy (h : SO N W A m F w) (hm : m ≤ 1000000) : Calls Try.prog 24 #[.pointer (some ⟨A, 0, none⟩)] w fun e w' => ∃ T, e = .returned (.pointer (some ⟨T, 0, none⟩)) ∧ ∃ N1, (∀ k, N1 k → N k) ∧ SO N1 w' A m F w' ∧ Mod N W w' ∧ ∀ w'', Mod N1 w' w'' → SO N W T m F w'' := by
  obtain ⟨h1, h2, n, S, h3, h4, h5, h6⟩ := h
  refine (Sc.copy A n S F w h4 h1.len (fun f hf => by have := tot_mem hf; omega) (by omega) h1.big).mono ?_
  rintro e w' ⟨T, rfl, t1, t2⟩
  have hlt : ∀ k, S k → k < w.heap.size := by obtain ⟨M, vB, vs, mv, D, _, _, h3⟩ := h4; exact h3
  have hN : ∀ k, (S k ∨ w'.heap.size ≤ k) → N k := fun k hk => by
    rcases hk with hk | hk
    · exact h5 k hk
    · exact h2 k (by have := h6.size; have := t2.size; omega)
  refine ⟨T, rfl, fun k => S k ∨ w'.heap.size ≤ k, hN, ⟨h1, fun k hk => .inr hk, n, S, h3, h4.keep (T := fun _ => False) (Mod.of_below t2) (fun _ _ h => h), fun k hk => .inl hk, Mod.refl _ _⟩, h6.trans (Mod.of_below t2), fun w'' hw => ?_⟩
  refine ⟨h1, h2, n, _, h3, t1.keep hw (fun k hk e => ?_), fun k hk => h2 k (by have := h6.size; omega), (h6.trans (Mod.of_below t2)).trans (hw.mono (fun k _ hk => hN k hk))⟩
  rcases e with e | e
  · have := hlt k e; omega
  · omega
end
end Go.Proofs.Ytblooekephkojaa

/- parse: names.declare. -/
import Derived.Test.YtlboejdhmggjpaaGreatWkS
set_option linter.all false
namespace Go.Proofs.YtlboejdhmggjpaaGreat.Pp
set_option maxRecDepth 100000
set_option maxHeartbeats 16000000
open Go.RowKit Go.BigFrame Go.Proofs.YtlboejdhmggjpaaGreat

theorem info132 : (Tryz.prog.info? 132).map (fun i => (i.zero, i.size, i.bytes)) = some (some (.agg #[.string ⟨#[]⟩, .int .i64 0, .int .i64 0]), 3, 32) := by kernel_rfl
theorem Nm.grown {w w3 : World} {X e sz n mb : Nat} {v : Value} {xs : List Value} {ch : List (Bs × Bool)} (ho : w.ownsRow X e sz v n xs) (hg : w.grownBy w3 v.ownBlock) (h : Nm w mb ch) : Nm w3 mb ch := by
 obtain ⟨n, D, h1, h2⟩ := h
 exact ⟨n, D, ownsMap_of h1 fun es c hq => grown_map ho hg hq, h2⟩
theorem PX.changed {E : En} {w w3 : World} {s : Ps} {vd vc vb vc' : Value} {mb : Nat} (h : PX E w s vd vc vb mb) (hE : E.ok) (x : Bs) (b : Bool) (hx : x.length ≤ maxLen) (hl : s.nm.ch.length ≤ 1000000) (hcb : s.nm.ch.length ≤ 2 * E.L.length) (hg : w.grownBy w3 vc.ownBlock)
  (ho : w3.ownsRow E.X 132 3 vc' (s.nm.ch.length + 1) (chC s.nm.ch.reverse ++ [.string (str x), .int .i64 (nwI (nowL s.nm.ch x)), .int .i64 (nwI (some b))])) :
  ∀ nd : Nat, ∃ w4, (Instr.mapUpdate 69 (.map (some mb)) (.string (str x)) (.int .i64 (nwI (some b)))).run Tryz.prog ((w3.setCell ⟨E.pb, 5, none⟩ vc').drewN nd) = .ok () w4 ∧ PX E w4 { s with nm := { s.nm with ch := s.nm.ch ++ [(x, b)] } } vd vc' vb mb ∧ KP w w4 := by
 have hb3 := grown_cells h.ch hg _ _ 75 (by decide) h.box
 intro nd
 have hm3 : Nm ((w3.setCell ⟨E.pb, 5, none⟩ vc').drewN nd) mb s.nm.ch := (Nm.set hb3 (h.mp.grown h.ch hg)).ext (below_drewN _ _ _)
 have hb4 := box_set (i := 5) (v := vc') hb3
 obtain ⟨w4, hrun, hm4, hg4⟩ := hm3.store (ch' := s.nm.ch ++ [(x, b)]) x b hx hl (fun y => nowL_snoc _ _ _)
 have hst : ∀ (k : Nat) (cs : Array Value) (t : TypeId) (fz : Nat × Nat), ((w3.setCell ⟨E.pb, 5, none⟩ vc').drewN nd).heap[k]? = some (.cells cs t fz) → w4.heap[k]? = some (.cells cs t fz) := fun k cs t fz hk => by
  obtain ⟨n, D, ⟨es, c, hm, _⟩, _⟩ := hm3
  rw [hg4.block k (Array.getElem?_eq_some_iff.1 hk).1 (fun q => by
   cases q
   rw [hm] at hk
   cases hk)]
  exact hk
 have hXm := h.mx
 refine ⟨w4, hrun, { bel := ?_, box := ?_, dn := ?_, ch := ?_, bl := ?_, mp := hm4, mx := hXm, le := h.le, tx := ?_, cb := ?_, bb := h.bb }, ?_⟩
 ·refine (((h.bel.trans (grown_bel h.ch hg (h.lift hE))).setCell hE.pb _).trans (below_drewN _ _ nd)).trans ⟨hg4.os, hg4.tape, hg4.output, hg4.size, fun k hk => hg4.block k ?_ (fun q => by cases q; omega)⟩
  have := h.lift hE
  have := hg.size
  show k < (w3.setCell ⟨E.pb, 5, none⟩ vc').heap.size
  simp
  omega
 ·refine hst _ _ _ _ ?_
  simpa using hb4
 ·exact ownsRow_of (own_other hb3 (by decide) (ownsRow_of h.dn fun g cur hq => grown_cells h.ch hg _ _ _ (by decide) hq)) fun g cur hq => hst _ _ _ _ hq
 ·have := ownsRow_of (own_other (x := vc') (i := 5) hb3 (by decide) ho) fun g cur hq => hst _ _ _ _ hq
  have e : chC (s.nm.ch ++ [(x, b)]).reverse = chC s.nm.ch.reverse ++ [.string (str x), .int .i64 (nwI (nowL s.nm.ch x)), .int .i64 (nwI (some b))] := by
   rw [List.reverse_append, List.reverse_singleton, List.singleton_append]; rfl
  rw [e]
  simpa using this
 ·exact ownsRow_of (own_other hb3 (by decide) (ownsRow_of h.bl fun g cur hq => grown_cells h.ch hg _ _ _ (by decide) hq)) fun g cur hq => hst _ _ _ _ hq
 ·intro p hp
  rcases List.mem_append.1 hp with hp | hp
  ·exact h.tx p hp
  ·rw [List.mem_singleton] at hp; rw [hp]; exact hx
 ·simp only [List.length_append, List.length_cons, List.length_nil]; omega
 ·exact ((grown_kp h.ch hg rfl).trans (KP.set hb3 rfl)).trans ⟨hg4.size, fun k cs t fz _ hk => hst _ _ _ _ hk, fun k x hk => by
   have hk : ((w3.setCell ⟨E.pb, 5, none⟩ vc').drewN nd).heap[k]? = some (.deferred x) := hk
   obtain ⟨n, D, ⟨es, c, hm, _⟩, _⟩ := hm3
   rw [hg4.block k (Array.getElem?_eq_some_iff.1 hk).1 (fun q => by
    cases q
    rw [hm] at hk
    cases hk)]
   exact hk⟩
theorem wk_declare {E : En} (hE : E.ok) (x : Bs) (b : Bool) (s : Ps) (w : World) (hx : x.length ≤ maxLen) (hp : PW E w s) (hne : declare E.L x b s ≠ .out) : Calls Tryz.prog 49 #[.pointer (some ⟨E.pb, 3, none⟩), .agg #[.string (str x), .bool b]] w (EndR E unV w (declare E.L x b s)) := by
 have hg : s.nm.ch.length ≤ 2 * E.L.length := by
  unfold declare at hne
  split at hne
  ·assumption
  ·exact absurd rfl hne
 have hr : declare E.L x b s = .ok () { s with nm := s.nm.declare x b } := by unfold declare; rw [if_pos hg]
 rw [hr]
 clear hne hr
 have hL := hE.len
 by_cases h0 : x = []
 ·have hn : s.nm.declare x b = s.nm := by unfold Ns.declare; rw [if_pos h0]
  rw [hn]
  have hs := str_is h0
  obtain ⟨st, hst⟩ : ∃ st : ByteArray, str x = st := ⟨_, rfl⟩
  rw [hst] at hs
  have HP := Hh hp
  rw [hst]
  clear hp hst hn h0 hx
  go_enter Tryz.func49, Tryz.ntmps49
  go_wp2_with fail
  exact ⟨rfl, .tuple #[], by simp [results, Tryz.results49, go_sem], rfl, HP.out.ext hE (below_alloc _ _), KP.of_below (below_alloc _ _)⟩
 have hn : s.nm.declare x b = { s.nm with ch := s.nm.ch ++ [(x, b)] } := by unfold Ns.declare; rw [if_neg h0]
 rw [hn]
 have hs := str_no h0
 obtain ⟨i0, hi0, hz0, hz1, hz2⟩ := info_parts3 info132
 obtain ⟨N, hN⟩ : ∃ N, nwI (some b) = N := ⟨_, rfl⟩
 obtain ⟨Z, hZ⟩ : ∃ Z, nwI (nowL s.nm.ch x) = Z := ⟨_, rfl⟩
 obtain ⟨W1, hW1⟩ : ∃ W1, W1 = w.alloc (.cells #[.string (str x), .bool b] 95) := ⟨_, rfl⟩
 have hb1 : Below w.heap.size w W1 := by rw [hW1]; exact below_alloc _ _
 have hr1 : W1.heap[w.heap.size]? = some (.cells #[.string (str x), .bool b] 95 (0, 0)) := by rw [hW1]; exact new_cells _ _ _
 obtain ⟨vd, vc, vb, mb, hx1⟩ := hp.ext hE hb1
 obtain ⟨ca, cc, rfl⟩ := row_shape hx1.ch
 obtain ⟨n, hnl⟩ : ∃ n, s.nm.ch.length = n := ⟨_, rfl⟩
 rw [hnl] at hg hx1
 have hch := hx1.ch
 have hbx := hx1.box
 rw [hnl] at hch
 obtain ⟨V1, hV1⟩ : ∃ V1, V1 = W1.drew.alloc (.cells #[.string (str x), .int .i64 Z, .int .i64 N] 132) := ⟨_, rfl⟩
 have hbV : Below W1.heap.size W1 V1 := by rw [hV1]; exact ((Below.refl _ W1).drew).alloc (Nat.le_refl _) _
 have hxV := hx1.ext hE hbV
 have hnr : V1.heap[W1.heap.size]? = some (.cells #[.string (str x), .int .i64 Z, .int .i64 N] 132 (0, 0)) := by rw [hV1]; exact new_cells W1.drew _ _
 have hchV := hxV.ch
 rw [hnl] at hchV
 obtain ⟨v', w3, hrun, hown3, hgrow3, -⟩ := run_append_own_at (P := Tryz.prog) (w := V1) E.X 70 70 132 i0 (.agg #[.string ⟨#[]⟩, .int .i64 0, .int .i64 0]) 3 32 Tryz.underlying70 hi0 hz0 hz1 hz2 rfl (by decide) (.slice ca n cc) n (chC s.nm.ch.reverse) hchV
  ⟨W1.heap.size, 0, none⟩ 1 1 [.string (str x), .int .i64 Z, .int .i64 N] rfl (fun j u hu => by
   match j, hu with
   | 0, hu => simp at hu; subst hu; simp [World.cell?, Addr.add, hnr]
   | 1, hu => simp at hu; subst hu; simp [World.cell?, Addr.add, hnr]
   | 2, hu => simp at hu; subst hu; simp [World.cell?, Addr.add, hnr]
   | j + 3, hu => simp at hu) (fun u hu => by simp at hu; rcases hu with rfl | rfl | rfl <;> rfl) (by unfold maxLen; omega) (by omega) (hxV.lift hE)
 obtain ⟨ca', cc', rfl⟩ := row_shape hown3
 have hup := hxV.changed hE x b hx (by rw [hnl]; omega) (by rw [hnl]; exact hg) hgrow3 (by rw [hnl, hZ, hN]; exact hown3)
 have hV : ∃ V : Nat → World, V 0 = W1.drew ∧ V 1 = V1 ∧ ∀ j, 2 ≤ j → V j = w3 := ⟨fun j => match j with | 0 => W1.drew | 1 => V1 | _ => w3, rfl, rfl, fun j hj => by
  match j, hj with
  | j + 2, _ => rfl⟩
 obtain ⟨V, hV0, hV1', hV2⟩ := hV
 have hst : ∀ (p : Nat) (cs : Array Value) (t : TypeId), ¬ t = 132 → W1.heap[p]? = some (.cells cs t (0, 0)) → ∀ j, (V j).heap[p]? = some (.cells cs t (0, 0)) := fun p cs t ht hq j => by
  have q1 := heap_below hbV hq (Array.getElem?_eq_some_iff.1 hq).1
  match j with
  | 0 => rw [hV0]; exact hq
  | 1 => rw [hV1']; exact q1
  | j + 2 => rw [hV2 _ (by omega)]; exact grown_cells hchV hgrow3 _ _ _ ht q1
 have hB := hst _ _ _ (by decide) hbx
 have hM := hst _ _ _ (by decide) hr1
 have hlk : ∀ j, (Instr.lookup 69 (.map (some mb)) (.string (str x)) false).run Tryz.prog (V j) = .ok (.int .i64 Z) (V j) := fun j => by
  rw [← hZ]
  match j with
  | 0 => rw [hV0]; exact Nm.look (w := W1.drew) hx1.mp x hx
  | 1 => rw [hV1']; exact hxV.mp.look x hx
  | j + 2 => rw [hV2 _ (by omega)]; exact (hxV.mp.grown hchV hgrow3).look x hx
 obtain ⟨m, hm⟩ : ∃ m, w.heap.size = m := ⟨_, rfl⟩
 rw [hm] at hM
 obtain ⟨st, hstx⟩ : ∃ st : ByteArray, str x = st := ⟨_, rfl⟩
 rw [hstx] at hs hM hlk
 have c4 : ∀ j, (V j).cell? ⟨E.pb, 4, none⟩ = some (.map (some mb)) := fun j => by simp [World.cell?, hB j]
 have c5 : ∀ j, (V j).cell? ⟨E.pb, 5, none⟩ = some (.slice ca n cc) := fun j => by simp [World.cell?, hB j]
 have d0 : ∀ j, (V j).cell? ⟨m, 0, none⟩ = some (.string st) := fun j => by simp [World.cell?, hM j]
 have e5 : w3.cell? ⟨E.pb, 5, none⟩ = some (.slice ca n cc) := by have := c5 2; rwa [hV2 2 (Nat.le_refl _)] at this
 have f5 : w3.frozen? ⟨E.pb, 5, none⟩ = false := by have := hB 2; rw [hV2 2 (Nat.le_refl _)] at this; exact Lib.frozen_of_heap this 5
 have hB3 := hB 2
 have hM3 := hM 2
 rw [hV2 2 (Nat.le_refl _)] at hB3 hM3
 -- behind the store of the row
 obtain ⟨W5, hW5⟩ : ∃ W5, W5 = w3.setCell ⟨E.pb, 5, none⟩ (.slice ca' (n + 1) cc') := ⟨_, rfl⟩
 have g4 : W5.cell? ⟨E.pb, 4, none⟩ = some (.map (some mb)) := by have q := box_set (i := 5) (v := .slice ca' (n + 1) cc') hB3; rw [← hW5] at q; simp [World.cell?, q]
 have gm : W5.cell? ⟨m, 0, none⟩ = some (.string st) := by
  have q : W5.heap[m]? = some (.cells #[.string st, .bool b] 95 (0, 0)) := by
   rw [hW5, heap_setCell_other _ _ _ _ (fun e => by
    have e2 : m = E.pb := e
    rw [e2, hB3] at hM3
    cases hM3)]
   exact hM3
  simp [World.cell?, q]
 rw [← hW5, hstx, hN] at hup
 have HUP := Hh hup
 have HW5 := Hh hW5
 have HRUN := Hh hrun
 have HV1 := Hh hV1
 have K0 := Hh hV0
 have K1 := Hh hV1'
 have K2 := Hh hV2
 have HB1 := Hh hb1
 have HBV := Hh hbV
 have HNN := Hh hN
 rw [hstx] at hW1 hV1 ⊢
 have HV1 := Hh hV1
 clear hp hx1 hxV hrun hV1 hV0 hV1' hV2 hb1 hbV hnr hchV hch hbx hown3 hgrow3 hst hB hM hB3 hM3 hnl hr1 hi0 hz0 hz1 hz2 hup hW5 hn h0 hx hZ hstx
 cases b
 all_goals
  simp only [nwI] at hN
  subst hN
  go_enter Tryz.func49, Tryz.ntmps49
  go_wp2_with fail
  rw [← hW1]
  refine wp_region_chain_tail V [16, 17] 20 K0.out (by kernel_rfl) (by kernel_rfl) ?_
  simp only [List.take_succ_cons, List.take_zero, List.drop_succ_cons, List.drop_zero]
  refine chain_reads_at 16 (by kernel_rfl) ?_
  simp only [List.take_succ_cons, List.take_zero, List.drop_succ_cons, List.drop_zero]
  repeat (go_big_quiet_step (fail))
  refine wpQuiet_nil ?_
  refine chain_op 0 (.slice (some ⟨W1.heap.size, 0, none⟩) 1 1) (by kernel_rfl) rfl (.inl ?_) ?_
  ·rw [K0.out, K1.out, HV1.out]
   kernel_rfl
  refine chain_op 1 (.slice ca' (n + 1) cc') (by kernel_rfl) rfl (.inl ?_) ?_
  ·rw [K1.out, K2.out _ (Nat.le_refl _)]
   exact exec_append rfl rfl rfl HRUN.out
  refine chain_reads_at 2 (by kernel_rfl) ?_
  simp only [List.take_succ_cons, List.take_zero, List.drop_succ_cons, List.drop_zero, Act.put, List.setIfInBounds_toArray, List.set_cons_succ, List.set_cons_zero]
  repeat (go_big_quiet_step (fail))
  refine wpQuiet_nil ?_
  refine chain_end ?_
  rw [show V ([16, 17] : List Nat).length = w3 from K2.out _ (Nat.le_refl _)]
  go_wp2_with fail
  rw [← HW5.out]
  refine wp_region_tail (C := fun w' => ∃ n, w' = W5.drewN n) 7 (by kernel_rfl) (by kernel_rfl) ⟨1, rfl⟩ ?_
  simp only [List.take_succ_cons, List.take_zero, List.drop_succ_cons, List.drop_zero]
  repeat (go_big_quiet_step (fail))
  refine wpQuiet_nil ?_
  rintro w' ⟨nr, rfl⟩
  obtain ⟨w4, hu, hpx4, hkp4⟩ := HUP.out nr
  have HPX := Hh hpx4
  have HKP := Hh hkp4
  clear hpx4 hkp4
  go_wp2_with fail
  exact ⟨rfl, .tuple #[], by simp [results, Tryz.results49, go_sem], rfl, ⟨_, _, _, _, HPX.out⟩, (KP.of_below HB1.out).trans ((KP.of_below HBV.out).trans HKP.out)⟩
end Go.Proofs.YtlboejdhmggjpaaGreat.Pp

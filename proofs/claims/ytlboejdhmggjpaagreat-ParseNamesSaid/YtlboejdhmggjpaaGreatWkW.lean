/- parse: names.open. -/
import Derived.Test.YtlboejdhmggjpaaGreatWkP
import Derived.Test.YtlboejdhmggjpaaGreatWkR
set_option linter.all false
namespace Go.Proofs.YtlboejdhmggjpaaGreat.Pp
set_option maxRecDepth 100000
set_option maxHeartbeats 16000000
open Go.RowKit Go.BigFrame Go.Proofs.YtlboejdhmggjpaaGreat

theorem info3 : (Tryz.prog.info? 3).map (fun i => (i.zero, i.size, i.bytes)) = some (some (.int .i64 0), 1, 8) := by kernel_rfl
theorem grown_cells {w w3 : World} {X e sz n : Nat} {v : Value} {xs : List Value} (ho : w.ownsRow X e sz v n xs) (hg : w.grownBy w3 v.ownBlock) (k : Nat) (cs : Array Value) (t : TypeId) (ht : ¬ t = e) (hk : w.heap[k]? = some (.cells cs t (0, 0))) : w3.heap[k]? = some (.cells cs t (0, 0)) := by
 rw [hg.block k (Array.getElem?_eq_some_iff.1 hk).1 (fun q => by
  obtain ⟨_, cur, hc⟩ := row_cells ho q.symm
  rw [hk] at hc
  cases hc
  exact ht rfl)]
 exact hk
theorem grown_map {w w3 : World} {X e sz n M : Nat} {v : Value} {xs : List Value} {es : Array MapEntry} {c : Nat} (ho : w.ownsRow X e sz v n xs) (hg : w.grownBy w3 v.ownBlock) (hk : w.heap[M]? = some (.map es c)) : w3.heap[M]? = some (.map es c) := by
 rw [hg.block M (Array.getElem?_eq_some_iff.1 hk).1 (fun q => by
  obtain ⟨_, cur, hc⟩ := row_cells ho q.symm
  rw [hk] at hc
  cases hc)]
 exact hk
theorem grown_bel {w w3 : World} {X e sz n : Nat} {v : Value} {xs : List Value} (ho : w.ownsRow X e sz v n xs) (hg : w.grownBy w3 v.ownBlock) (hX : X ≤ w.heap.size) : Below X w w3 :=
 ⟨hg.os, hg.tape, hg.output, hg.size, fun k hk => hg.block k (by omega) (fun q => by
  obtain ⟨hx, _⟩ := row_cells ho q.symm
  omega)⟩
theorem grown_kp {w w3 : World} {X e sz n : Nat} {v : Value} {xs : List Value} (ho : w.ownsRow X e sz v n xs) (hg : w.grownBy w3 v.ownBlock) (he : own4 e = true) : KP w w3 :=
 ⟨hg.size, fun k cs t fz ht hk => by
  rw [hg.block k (Array.getElem?_eq_some_iff.1 hk).1 (fun q => by
   obtain ⟨_, cur, hc⟩ := row_cells ho q.symm
   rw [hk] at hc
   cases hc
   rw [he] at ht
   cases ht)]
  exact hk, fun k x hk => by
  rw [hg.block k (Array.getElem?_eq_some_iff.1 hk).1 (fun q => by
   obtain ⟨_, cur, hc⟩ := row_cells ho q.symm
   rw [hk] at hc
   cases hc)]
  exact hk⟩
theorem PX.lift {E : En} {w : World} {s : Ps} {vd vc vb : Value} {mb : Nat} (h : PX E w s vd vc vb mb) (hE : E.ok) : E.X ≤ w.heap.size := by have := h.bel.size; rw [hE.X]; exact this
theorem PX.opened {E : En} {w w3 : World} {s : Ps} {vd vc vb vb' : Value} {mb : Nat} (h : PX E w s vd vc vb mb) (hE : E.ok) (hbg : s.nm.bl.length ≤ 2 * E.L.length + 1) (hg : w.grownBy w3 vb.ownBlock) (ho : w3.ownsRow E.X 3 1 vb' (s.nm.bl.length + 1) (s.nm.bl.flatMap inC ++ inC s.nm.ch.length)) :
  PX E (w3.setCell ⟨E.pb, 6, none⟩ vb') { s with nm := s.nm.opened } vd vc vb' mb ∧ KP w (w3.setCell ⟨E.pb, 6, none⟩ vb') := by
 have hb3 := grown_cells h.bl hg _ _ 75 (by decide) h.box
 refine ⟨{ bel := (h.bel.trans (grown_bel h.bl hg (h.lift hE))).setCell hE.pb _, box := ?_, dn := ?_, ch := ?_, bl := ?_, mp := ?_, mx := h.mx, le := h.le, tx := h.tx, cb := h.cb, bb := ?_ }, ?_⟩
 ·have := box_set (i := 6) (v := vb') hb3; simpa using this
 ·exact own_other hb3 (by decide) (ownsRow_of h.dn fun g cur hq => grown_cells h.bl hg _ _ _ (by decide) hq)
 ·exact own_other hb3 (by decide) (ownsRow_of h.ch fun g cur hq => grown_cells h.bl hg _ _ _ (by decide) hq)
 ·have := own_other (x := vb') (i := 6) hb3 (by decide) ho
  simpa [Ns.opened] using this
 ·refine Nm.set hb3 ?_
  obtain ⟨n, D, h1, h2⟩ := h.mp
  exact ⟨n, D, ownsMap_of h1 fun es c hq => grown_map h.bl hg hq, h2⟩
 ·simp only [Ns.opened, List.length_append, List.length_cons, List.length_nil]; omega
 ·exact (grown_kp h.bl hg rfl).trans (KP.set hb3 rfl)
theorem wk_open {E : En} (hE : E.ok) (s : Ps) (w : World) (hp : PW E w s) (hne : open' E.L s ≠ .out) : Calls Tryz.prog 86 #[.pointer (some ⟨E.pb, 3, none⟩)] w (EndR E unV w (open' E.L s)) := by
 have hg : s.nm.bl.length ≤ 2 * E.L.length + 1 := by
  unfold open' at hne
  split at hne
  ·assumption
  ·exact absurd rfl hne
 have hr : open' E.L s = .ok () { s with nm := s.nm.opened } := by unfold open'; rw [if_pos hg]
 rw [hr]
 clear hne hr
 have hL := hE.len
 obtain ⟨i0, hi0, hz0, hz1, hz2⟩ := info_parts3 info3
 obtain ⟨vd, vc, vb, mb, hx⟩ := hp
 obtain ⟨ba, bc, rfl⟩ := row_shape hx.bl
 obtain ⟨ca, cc, rfl⟩ := row_shape hx.ch
 obtain ⟨n, hn⟩ : ∃ n, s.nm.bl.length = n := ⟨_, rfl⟩
 obtain ⟨a, ha⟩ : ∃ a, s.nm.ch.length = a := ⟨_, rfl⟩
 rw [hn] at hg hx
 rw [ha] at hx
 have hbl := hx.bl
 have hbx := hx.box
 rw [hn] at hbl
 obtain ⟨V1, hV1⟩ : ∃ V1, V1 = w.drew.alloc (.cells #[.int .i64 a] 3) := ⟨_, rfl⟩
 have hbV : Below w.heap.size w V1 := by rw [hV1]; exact ((Below.refl _ w).drew).alloc (Nat.le_refl _) _
 have hxV := hx.ext hE hbV
 have hnr : V1.heap[w.heap.size]? = some (.cells #[.int .i64 a] 3 (0, 0)) := by rw [hV1]; exact new_cells w.drew _ _
 have hblV := hxV.bl
 rw [hn] at hblV
 obtain ⟨v', w3, hrun, hown3, hgrow3, -⟩ := run_append_own_at (P := Tryz.prog) (w := V1) E.X 61 61 3 i0 (.int .i64 0) 1 8 Tryz.underlying61 hi0 hz0 hz1 hz2 rfl (by decide) (.slice ba n bc) n (s.nm.bl.flatMap inC) hblV
  ⟨w.heap.size, 0, none⟩ 1 1 [.int .i64 a] rfl (fun j u hu => by
   match j, hu with
   | 0, hu => simp at hu; subst hu; simp [World.cell?, Addr.add, hnr]
   | j + 1, hu => simp at hu) (fun u hu => by simp at hu; subst hu; rfl) (by unfold maxLen; omega) (by omega) (hxV.lift hE)
 obtain ⟨ba', bc', rfl⟩ := row_shape hown3
 have hV : ∃ V : Nat → World, V 0 = w.drew ∧ V 1 = V1 ∧ ∀ j, 2 ≤ j → V j = w3 := ⟨fun j => match j with | 0 => w.drew | 1 => V1 | _ => w3, rfl, rfl, fun j hj => by
  match j, hj with
  | j + 2, _ => rfl⟩
 obtain ⟨V, hV0, hV1', hV2⟩ := hV
 have hB : ∀ j, (V j).heap[E.pb]? = some (.cells #[.slice E.la E.L.length E.lc, .int .i64 s.at', vd, E.sp, .map (some mb), .slice ca a cc, .slice ba n bc] 75 (0, 0)) := fun j => by
  have q1 := heap_below hbV hbx (Array.getElem?_eq_some_iff.1 hbx).1
  match j with
  | 0 => rw [hV0]; exact hbx
  | 1 => rw [hV1']; exact q1
  | j + 2 => rw [hV2 _ (by omega)]; exact grown_cells hblV hgrow3 _ _ _ (by decide) q1
 have c5 : ∀ j, (V j).cell? ⟨E.pb, 5, none⟩ = some (.slice ca a cc) := fun j => by simp [World.cell?, hB j]
 have c6 : ∀ j, (V j).cell? ⟨E.pb, 6, none⟩ = some (.slice ba n bc) := fun j => by simp [World.cell?, hB j]
 have e6 : w3.cell? ⟨E.pb, 6, none⟩ = some (.slice ba n bc) := by have := c6 2; rwa [hV2 2 (Nat.le_refl _)] at this
 have f6 : w3.frozen? ⟨E.pb, 6, none⟩ = false := by have := hB 2; rw [hV2 2 (Nat.le_refl _)] at this; exact Lib.frozen_of_heap this 6
 have hfin := hxV.opened hE (by rw [hn]; exact hg) hgrow3 (by rw [hn, ha]; exact hown3)
 have HFIN := Hh hfin
 have HRUN := Hh hrun
 have HV1 := Hh hV1
 have K0 := Hh hV0
 have K1 := Hh hV1'
 have K2 := Hh hV2
 have HBV := Hh hbV
 clear hx hxV hfin hrun hV1 hV0 hV1' hV2 hbV hnr hblV hbl hbx hown3 hgrow3 hB hn ha hi0 hz0 hz1 hz2
 go_enter Tryz.func86, Tryz.ntmps86
 refine wp_region_chain_tail V [10, 11] 14 K0.out (by kernel_rfl) (by kernel_rfl) ?_
 simp only [List.take_succ_cons, List.take_zero, List.drop_succ_cons, List.drop_zero]
 refine chain_reads_at 10 (by kernel_rfl) ?_
 simp only [List.take_succ_cons, List.take_zero, List.drop_succ_cons, List.drop_zero]
 repeat (go_big_quiet_step (fail))
 refine wpQuiet_nil ?_
 refine chain_op 0 (.slice (some ⟨w.heap.size, 0, none⟩) 1 1) (by kernel_rfl) rfl (.inl ?_) ?_
 ·rw [K0.out, K1.out, HV1.out]
  kernel_rfl
 refine chain_op 1 (.slice ba' (n + 1) bc') (by kernel_rfl) rfl (.inl ?_) ?_
 ·rw [K1.out, K2.out _ (Nat.le_refl _)]
  exact exec_append rfl rfl rfl HRUN.out
 refine chain_reads_at 2 (by kernel_rfl) ?_
 simp only [List.take_succ_cons, List.take_zero, List.drop_succ_cons, List.drop_zero, Act.put, List.setIfInBounds_toArray, List.set_cons_succ, List.set_cons_zero]
 repeat (go_big_quiet_step (fail))
 refine wpQuiet_nil ?_
 refine chain_end ?_
 rw [show V ([10, 11] : List Nat).length = w3 from K2.out _ (Nat.le_refl _)]
 go_wp2_with fail
 refine ⟨rfl, .tuple #[], by simp [results, Tryz.results86, go_sem], rfl, ⟨_, _, _, _, HFIN.out.1⟩, (KP.of_below HBV.out).trans HFIN.out.2⟩
end Go.Proofs.YtlboejdhmggjpaaGreat.Pp

/- WkU -/
namespace Go.Proofs.YtlboejdhmggjpaaGreat.Pp
set_option maxRecDepth 100000
set_option maxHeartbeats 16000000
open Go.RowKit Go.BigFrame Go.Proofs.YtlboejdhmggjpaaGreat

theorem info132 : (Tryz.prog.info? 132).map (fun i => (i.zero, i.size, i.bytes)) = some (some (.agg #[.string ⟨#[]⟩, .int .i64 0, .int .i64 0]), 3, 32) := by kernel_rfl
theorem Nm.grown {w w3 : World} {X e sz n mb : Nat} {v : Value} {xs : List Value} {ch : List (Bs × Bool)} (ho : w.ownsRow X e sz v n xs) (hg : w.grownBy w3 v.ownBlock) (h : Nm w mb ch) : Nm w3 mb ch := by
 obtain ⟨n, D, h1, h2⟩ := h
 exact ⟨n, D, ownsMap_of h1 fun es c hq => grown_map ho hg hq, h2⟩
theorem PX.changed {E : En} {w w3 : World} {s : Ps} {vd vc vb vc' : Value} {mb : Nat} (h : PX E w s vd vc vb mb) (hE : E.ok) (x : Bs) (b : Bool) (hx : x.length ≤ maxLen) (hl : s.nm.ch.length ≤ 1000000) (hcb : s.nm.ch.length ≤ 2 * E.L.length) (hg : w.grownBy w3 vc.ownBlock)
  (ho : w3.ownsRow E.X 132 3 vc' (s.nm.ch.length + 1) (chC s.nm.ch.reverse ++ [.string (str x), .int .i64 (nwI (nowL s.nm.ch x)), .int .i64 (nwI (some b))])) :
  ∀ nd : Nat, ∃ w4, (Instr.mapUpdate 69 (.map (some mb)) (.string (str x)) (.int .i64 (nwI (some b)))).run Tryz.prog ((w3.setCell ⟨E.pb, 5, none⟩ vc').drewN nd) = .ok () w4 ∧ PX E w4 { s with nm := { s.nm with ch := s.nm.ch ++ [(x, b)] } } vd vc' vb mb ∧ KP w w4 := by
 have hb3 := grown_cells h.ch hg _ _ 75 (by decide) h.box
 intro nd
 have hm3 : Nm ((w3.setCell ⟨E.pb, 5, none⟩ vc').drewN nd) mb s.nm.ch := (Nm.set hb3 (h.mp.grown h.ch hg)).ext (below_drewN _ _ _)
 have hb4 := box_set (i := 5) (v := vc') hb3
 obtain ⟨w4, hrun, hm4, hg4⟩ := hm3.store (ch' := s.nm.ch ++ [(x, b)]) x b hx hl (fun y => nowL_snoc _ _ _)
 have hst : ∀ (k : Nat) (cs : Array Value) (t : TypeId) (fz : Nat × Nat), ((w3.setCell ⟨E.pb, 5, none⟩ vc').drewN nd).heap[k]? = some (.cells cs t fz) → w4.heap[k]? = some (.cells cs t fz) := fun k cs t fz hk => by
  obtain ⟨n, D, ⟨es, c, hm, _⟩, _⟩ := hm3
  rw [hg4.block k (Array.getElem?_eq_some_iff.1 hk).1 (fun q => by
   cases q
   rw [hm] at hk
   cases hk)]
  exact hk
 have hXm := h.mx
 refine ⟨w4, hrun, { bel := ?_, box := ?_, dn := ?_, ch := ?_, bl := ?_, mp := hm4, mx := hXm, le := h.le, tx := ?_, cb := ?_, bb := h.bb }, ?_⟩
 ·refine (((h.bel.trans (grown_bel h.ch hg (h.lift hE))).setCell hE.pb _).trans (below_drewN _ _ nd)).trans ⟨hg4.os, hg4.tape, hg4.output, hg4.size, fun k hk => hg4.block k ?_ (fun q => by cases q; omega)⟩
  have := h.lift hE
  have := hg.size
  show k < (w3.setCell ⟨E.pb, 5, none⟩ vc').heap.size
  simp
  omega
 ·refine hst _ _ _ _ ?_
  simpa using hb4
 ·exact ownsRow_of (own_other hb3 (by decide) (ownsRow_of h.dn fun g cur hq => grown_cells h.ch hg _ _ _ (by decide) hq)) fun g cur hq => hst _ _ _ _ hq
 ·have := ownsRow_of (own_other (x := vc') (i := 5) hb3 (by decide) ho) fun g cur hq => hst _ _ _ _ hq
  have e : chC (s.nm.ch ++ [(x, b)]).reverse = chC s.nm.ch.reverse ++ [.string (str x), .int .i64 (nwI (nowL s.nm.ch x)), .int .i64 (nwI (some b))] := by
   rw [List.reverse_append, List.reverse_singleton, List.singleton_append]; rfl
  rw [e]
  simpa using this
 ·exact ownsRow_of (own_other hb3 (by decide) (ownsRow_of h.bl fun g cur hq => grown_cells h.ch hg _ _ _ (by decide) hq)) fun g cur hq => hst _ _ _ _ hq
 ·intro p hp
  rcases List.mem_append.1 hp with hp | hp
  ·exact h.tx p hp
  ·rw [List.mem_singleton] at hp; rw [hp]; exact hx
 ·simp only [List.length_append, List.length_cons, List.length_nil]; omega
 ·exact ((grown_kp h.ch hg rfl).trans (KP.set hb3 rfl)).trans ⟨hg4.size, fun k cs t fz _ hk => hst _ _ _ _ hk, fun k x hk => by
   have hk : ((w3.setCell ⟨E.pb, 5, none⟩ vc').drewN nd).heap[k]? = some (.deferred x) := hk
   obtain ⟨n, D, ⟨es, c, hm, _⟩, _⟩ := hm3
   rw [hg4.block k (Array.getElem?_eq_some_iff.1 hk).1 (fun q => by
    cases q
    rw [hm] at hk
    cases hk)]
   exact hk⟩
theorem wk_declare {E : En} (hE : E.ok) (x : Bs) (b : Bool) (s : Ps) (w : World) (hx : x.length ≤ maxLen) (hp : PW E w s) (hne : declare E.L x b s ≠ .out) : Calls Tryz.prog 49 #[.pointer (some ⟨E.pb, 3, none⟩), .agg #[.string (str x), .bool b]] w (EndR E unV w (declare E.L x b s)) := by
 have hg : s.nm.ch.length ≤ 2 * E.L.length := by
  unfold declare at hne
  split at hne
  ·assumption
  ·exact absurd rfl hne
 have hr : declare E.L x b s = .ok () { s with nm := s.nm.declare x b } := by unfold declare; rw [if_pos hg]
 rw [hr]
 clear hne hr
 have hL := hE.len
 by_cases h0 : x = []
 ·have hn : s.nm.declare x b = s.nm := by unfold Ns.declare; rw [if_pos h0]
  rw [hn]
  have hs := str_is h0
  obtain ⟨st, hst⟩ : ∃ st : ByteArray, str x = st := ⟨_, rfl⟩
  rw [hst] at hs
  have HP := Hh hp
  rw [hst]
  clear hp hst hn h0 hx
  go_enter Tryz.func49, Tryz.ntmps49
  go_wp2_with fail
  exact ⟨rfl, .tuple #[], by simp [results, Tryz.results49, go_sem], rfl, HP.out.ext hE (below_alloc _ _), KP.of_below (below_alloc _ _)⟩
 have hn : s.nm.declare x b = { s.nm with ch := s.nm.ch ++ [(x, b)] } := by unfold Ns.declare; rw [if_neg h0]
 rw [hn]
 have hs := str_no h0
 obtain ⟨i0, hi0, hz0, hz1, hz2⟩ := info_parts3 info132
 obtain ⟨N, hN⟩ : ∃ N, nwI (some b) = N := ⟨_, rfl⟩
 obtain ⟨Z, hZ⟩ : ∃ Z, nwI (nowL s.nm.ch x) = Z := ⟨_, rfl⟩
 obtain ⟨W1, hW1⟩ : ∃ W1, W1 = w.alloc (.cells #[.string (str x), .bool b] 95) := ⟨_, rfl⟩
 have hb1 : Below w.heap.size w W1 := by rw [hW1]; exact below_alloc _ _
 have hr1 : W1.heap[w.heap.size]? = some (.cells #[.string (str x), .bool b] 95 (0, 0)) := by rw [hW1]; exact new_cells _ _ _
 obtain ⟨vd, vc, vb, mb, hx1⟩ := hp.ext hE hb1
 obtain ⟨ca, cc, rfl⟩ := row_shape hx1.ch
 obtain ⟨n, hnl⟩ : ∃ n, s.nm.ch.length = n := ⟨_, rfl⟩
 rw [hnl] at hg hx1
 have hch := hx1.ch
 have hbx := hx1.box
 rw [hnl] at hch
 obtain ⟨V1, hV1⟩ : ∃ V1, V1 = W1.drew.alloc (.cells #[.string (str x), .int .i64 Z, .int .i64 N] 132) := ⟨_, rfl⟩
 have hbV : Below W1.heap.size W1 V1 := by rw [hV1]; exact ((Below.refl _ W1).drew).alloc (Nat.le_refl _) _
 have hxV := hx1.ext hE hbV
 have hnr : V1.heap[W1.heap.size]? = some (.cells #[.string (str x), .int .i64 Z, .int .i64 N] 132 (0, 0)) := by rw [hV1]; exact new_cells W1.drew _ _
 have hchV := hxV.ch
 rw [hnl] at hchV
 obtain ⟨v', w3, hrun, hown3, hgrow3, -⟩ := run_append_own_at (P := Tryz.prog) (w := V1) E.X 70 70 132 i0 (.agg #[.string ⟨#[]⟩, .int .i64 0, .int .i64 0]) 3 32 Tryz.underlying70 hi0 hz0 hz1 hz2 rfl (by decide) (.slice ca n cc) n (chC s.nm.ch.reverse) hchV
  ⟨W1.heap.size, 0, none⟩ 1 1 [.string (str x), .int .i64 Z, .int .i64 N] rfl (fun j u hu => by
   match j, hu with
   | 0, hu => simp at hu; subst hu; simp [World.cell?, Addr.add, hnr]
   | 1, hu => simp at hu; subst hu; simp [World.cell?, Addr.add, hnr]
   | 2, hu => simp at hu; subst hu; simp [World.cell?, Addr.add, hnr]
   | j + 3, hu => simp at hu) (fun u hu => by simp at hu; rcases hu with rfl | rfl | rfl <;> rfl) (by unfold maxLen; omega) (by omega) (hxV.lift hE)
 obtain ⟨ca', cc', rfl⟩ := row_shape hown3
 have hup := hxV.changed hE x b hx (by rw [hnl]; omega) (by rw [hnl]; exact hg) hgrow3 (by rw [hnl, hZ, hN]; exact hown3)
 have hV : ∃ V : Nat → World, V 0 = W1.drew ∧ V 1 = V1 ∧ ∀ j, 2 ≤ j → V j = w3 := ⟨fun j => match j with | 0 => W1.drew | 1 => V1 | _ => w3, rfl, rfl, fun j hj => by
  match j, hj with
  | j + 2, _ => rfl⟩
 obtain ⟨V, hV0, hV1', hV2⟩ := hV
 have hst : ∀ (p : Nat) (cs : Array Value) (t : TypeId), ¬ t = 132 → W1.heap[p]? = some (.cells cs t (0, 0)) → ∀ j, (V j).heap[p]? = some (.cells cs t (0, 0)) := fun p cs t ht hq j => by
  have q1 := heap_below hbV hq (Array.getElem?_eq_some_iff.1 hq).1
  match j with
  | 0 => rw [hV0]; exact hq
  | 1 => rw [hV1']; exact q1
  | j + 2 => rw [hV2 _ (by omega)]; exact grown_cells hchV hgrow3 _ _ _ ht q1
 have hB := hst _ _ _ (by decide) hbx
 have hM := hst _ _ _ (by decide) hr1
 have hlk : ∀ j, (Instr.lookup 69 (.map (some mb)) (.string (str x)) false).run Tryz.prog (V j) = .ok (.int .i64 Z) (V j) := fun j => by
  rw [← hZ]
  match j with
  | 0 => rw [hV0]; exact Nm.look (w := W1.drew) hx1.mp x hx
  | 1 => rw [hV1']; exact hxV.mp.look x hx
  | j + 2 => rw [hV2 _ (by omega)]; exact (hxV.mp.grown hchV hgrow3).look x hx
 obtain ⟨m, hm⟩ : ∃ m, w.heap.size = m := ⟨_, rfl⟩
 rw [hm] at hM
 obtain ⟨st, hstx⟩ : ∃ st : ByteArray, str x = st := ⟨_, rfl⟩
 rw [hstx] at hs hM hlk
 have c4 : ∀ j, (V j).cell? ⟨E.pb, 4, none⟩ = some (.map (some mb)) := fun j => by simp [World.cell?, hB j]
 have c5 : ∀ j, (V j).cell? ⟨E.pb, 5, none⟩ = some (.slice ca n cc) := fun j => by simp [World.cell?, hB j]
 have d0 : ∀ j, (V j).cell? ⟨m, 0, none⟩ = some (.string st) := fun j => by simp [World.cell?, hM j]
 have e5 : w3.cell? ⟨E.pb, 5, none⟩ = some (.slice ca n cc) := by have := c5 2; rwa [hV2 2 (Nat.le_refl _)] at this
 have f5 : w3.frozen? ⟨E.pb, 5, none⟩ = false := by have := hB 2; rw [hV2 2 (Nat.le_refl _)] at this; exact Lib.frozen_of_heap this 5
 have hB3 := hB 2
 have hM3 := hM 2
 rw [hV2 2 (Nat.le_refl _)] at hB3 hM3
 -- behind the store of the row
 obtain ⟨W5, hW5⟩ : ∃ W5, W5 = w3.setCell ⟨E.pb, 5, none⟩ (.slice ca' (n + 1) cc') := ⟨_, rfl⟩
 have g4 : W5.cell? ⟨E.pb, 4, none⟩ = some (.map (some mb)) := by have q := box_set (i := 5) (v := .slice ca' (n + 1) cc') hB3; rw [← hW5] at q; simp [World.cell?, q]
 have gm : W5.cell? ⟨m, 0, none⟩ = some (.string st) := by
  have q : W5.heap[m]? = some (.cells #[.string st, .bool b] 95 (0, 0)) := by
   rw [hW5, heap_setCell_other _ _ _ _ (fun e => by
    have e2 : m = E.pb := e
    rw [e2, hB3] at hM3
    cases hM3)]
   exact hM3
  simp [World.cell?, q]
 rw [← hW5, hstx, hN] at hup
 have HUP := Hh hup
 have HW5 := Hh hW5
 have HRUN := Hh hrun
 have HV1 := Hh hV1
 have K0 := Hh hV0
 have K1 := Hh hV1'
 have K2 := Hh hV2
 have HB1 := Hh hb1
 have HBV := Hh hbV
 have HNN := Hh hN
 rw [hstx] at hW1 hV1 ⊢
 have HV1 := Hh hV1
 clear hp hx1 hxV hrun hV1 hV0 hV1' hV2 hb1 hbV hnr hchV hch hbx hown3 hgrow3 hst hB hM hB3 hM3 hnl hr1 hi0 hz0 hz1 hz2 hup hW5 hn h0 hx hZ hstx
 cases b
 all_goals
  simp only [nwI] at hN
  subst hN
  go_enter Tryz.func49, Tryz.ntmps49
  go_wp2_with fail
  rw [← hW1]
  refine wp_region_chain_tail V [16, 17] 20 K0.out (by kernel_rfl) (by kernel_rfl) ?_
  simp only [List.take_succ_cons, List.take_zero, List.drop_succ_cons, List.drop_zero]
  refine chain_reads_at 16 (by kernel_rfl) ?_
  simp only [List.take_succ_cons, List.take_zero, List.drop_succ_cons, List.drop_zero]
  repeat (go_big_quiet_step (fail))
  refine wpQuiet_nil ?_
  refine chain_op 0 (.slice (some ⟨W1.heap.size, 0, none⟩) 1 1) (by kernel_rfl) rfl (.inl ?_) ?_
  ·rw [K0.out, K1.out, HV1.out]
   kernel_rfl
  refine chain_op 1 (.slice ca' (n + 1) cc') (by kernel_rfl) rfl (.inl ?_) ?_
  ·rw [K1.out, K2.out _ (Nat.le_refl _)]
   exact exec_append rfl rfl rfl HRUN.out
  refine chain_reads_at 2 (by kernel_rfl) ?_
  simp only [List.take_succ_cons, List.take_zero, List.drop_succ_cons, List.drop_zero, Act.put, List.setIfInBounds_toArray, List.set_cons_succ, List.set_cons_zero]
  repeat (go_big_quiet_step (fail))
  refine wpQuiet_nil ?_
  refine chain_end ?_
  rw [show V ([16, 17] : List Nat).length = w3 from K2.out _ (Nat.le_refl _)]
  go_wp2_with fail
  rw [← HW5.out]
  refine wp_region_tail (C := fun w' => ∃ n, w' = W5.drewN n) 7 (by kernel_rfl) (by kernel_rfl) ⟨1, rfl⟩ ?_
  simp only [List.take_succ_cons, List.take_zero, List.drop_succ_cons, List.drop_zero]
  repeat (go_big_quiet_step (fail))
  refine wpQuiet_nil ?_
  rintro w' ⟨nr, rfl⟩
  obtain ⟨w4, hu, hpx4, hkp4⟩ := HUP.out nr
  have HPX := Hh hpx4
  have HKP := Hh hkp4
  clear hpx4 hkp4
  go_wp2_with fail
  exact ⟨rfl, .tuple #[], by simp [results, Tryz.results49, go_sem], rfl, ⟨_, _, _, _, HPX.out⟩, (KP.of_below HB1.out).trans ((KP.of_below HBV.out).trans HKP.out)⟩
end Go.Proofs.YtlboejdhmggjpaaGreat.Pp

/- WkV -/
namespace Go.Proofs.YtlboejdhmggjpaaGreat.Pp
set_option maxRecDepth 100000
set_option maxHeartbeats 16000000
open Go.RowKit Go.BigFrame Go.Proofs.YtlboejdhmggjpaaGreat

theorem w_assert {E : En} (hE : E.ok) {n : Nat} (ih : ∀ m, m ≤ n → Wk E m)  (s : Ps) (w : World) (hp : PW E w s) (hne : run E.L E.base (n + 1) (.assert) s ≠ .out) : Calls Tryz.prog 45 #[.pointer (some ⟨E.pb, 0, none⟩)] w (EndQ E vaU w (run E.L E.base (n + 1) (.assert) s)) := by
 obtain ⟨r, hr⟩ : ∃ r, run E.L E.base (n + 1) (.assert) s = r := ⟨_, rfl⟩
 rw [hr] at hne ⊢
 rw [run] at hr
 have HN := Hh hne
 have HR0 := Hh hr
 have HP0 := Hh hp
 have HK0 := Hh (KP.refl w)
 have IH := Hh ih
 clear hne hr hp ih
 go_enter Tryz.func45, Tryz.ntmps45
 go_wp2_with fail
 refine mR (wk_here hE _ _ HP0.out) HR0 HN HK0 (fun _ _ h => ⟨rfl, h⟩) ?_
 rintro v1 s1 w1 HR1 HP1 - HK1
 have HBn := Hh (HdB.new w1 v1)
 have HPn := Hh (HP1.out.ext hE (below_alloc w1 (.cells #[.int .i64 v1.1, .int .i64 v1.2] 77)))
 have HKn := Hh (HK1.out.trans (KP.of_below (below_alloc w1 (.cells #[.int .i64 v1.1, .int .i64 v1.2] 77))))
 have HPo1 := Hh HP1.out
 have HKo1 := Hh HK1.out
 clear HP1 HK1
 have HP1 := Hh HPn.out
 have HK1 := Hh HKn.out
 clear HPn HKn
 simp only [hdV]
 obtain ⟨bh, hbh⟩ : ∃ b, w1.heap.size = b := ⟨_, rfl⟩
 have HBh1 := Hh (hbh ▸ HBn.out)
 clear HBn
 obtain ⟨hle2, hr2⟩ := q_step HR1.out HN.out
 obtain ⟨c1, f1, -⟩ := HPo1.out.at
 have hpb := HPo1.out.lt
 rw [hbh] at hpb
 obtain ⟨q21, q22⟩ := HPo1.out.on hE hle2
 have hLn := hE.len
 obtain ⟨a2, hat2⟩ : ∃ a, Ps.at' s1 = a := ⟨_, rfl⟩
 rw [hat2] at c1 hle2 hr2 q21 q22
 have hi : a2 < 100000 := by omega
 obtain ⟨s2, hs2⟩ : ∃ t : Ps, (⟨a2 + 1, s1.done, s1.nm⟩ : Ps) = t := ⟨_, rfl⟩
 rw [hs2] at hr2 q21
 clear hs2
 have HR2 := Hh hr2
 have HP2 := Hh (q21.ext hE (below_alloc _ (.cells #[.int .i64 v1.1, .int .i64 v1.2] 77)))
 have hkx := KP.of_below (below_alloc (World.setCell w1 ⟨E.pb, 1, none⟩ (.int .i64 ((a2 + 1 : Nat) : Int))) (.cells #[.int .i64 v1.1, .int .i64 v1.2] 77))
 have HK2 := Hh (HKo1.out.trans (q22.trans hkx))
 have HBh2 := Hh (hbh ▸ HdB.new' w1 ⟨E.pb, 1, none⟩ (.int .i64 ((a2 + 1 : Nat) : Int)) v1)
 have HAT2 := Hh hat2
 clear q21 q22 hr2 hle2 hLn hat2 hkx
 go_wp2_with fail
 try rw [hbh]
 try clear c1 f1 hpb hi
 refine mR (wk_need hE [40] _ _ HP2.out) HR2 HN HK2 (fun _ _ h => ⟨rfl, h⟩) ?_
 rintro v3 s3 w3 HR3 HP3 hkk HK3
 have HBh3 := Hh (HBh2.out.kp hkk)
 clear hkk
 go_wp2_with fail
 refine mQ ((IH.out n (Nat.le_refl _)).f_choice  _ _ HP3.out (qne HR3.out HN.out)) HR3 HN HK3 (fun _ _ h => ⟨rfl, h⟩) ?_
 rintro v4 s4 y4 w4 HR4 rfl HP4 hkk HK4
 have HBh4 := Hh (HBh3.out.kp hkk)
 clear hkk
 go_wp2_with fail
 refine mR (wk_need hE [44] _ _ HP4.out) HR4 HN HK4 (fun _ _ h => ⟨rfl, h⟩) ?_
 rintro v5 s5 w5 HR5 HP5 hkk HK5
 have HBh5 := Hh (HBh4.out.kp hkk)
 clear hkk
 go_wp2_with fail
 refine mR (wk_strings hE _ _ HP5.out) HR5 HN HK5 (fun _ _ h => ⟨rfl, h⟩) ?_
 rintro v6 s6 w6 HR6 HP6 hkk HK6
 have HBh6 := Hh (HBh5.out.kp hkk)
 clear hkk
 go_wp2_with fail
 refine mR (wk_need hE [41] _ _ HP6.out) HR6 HN HK6 (fun _ _ h => ⟨rfl, h⟩) ?_
 rintro v7 s7 w7 HR7 HP7 hkk HK7
 have HBh7 := Hh (HBh6.out.kp hkk)
 clear hkk
 go_wp2_with fail
 refine mR (wk_need hE [59] _ _ HP7.out) HR7 HN HK7 (fun _ _ h => ⟨rfl, h⟩) ?_
 rintro v8 s8 w8 HR8 HP8 hkk HK8
 have HBh8 := Hh (HBh7.out.kp hkk)
 clear hkk
 obtain ⟨d0, d1⟩ := HBh8.out.cells
 go_wp2_with fail
 refine mR (wk_node hE 4 v1 _ _ HP8.out (qne HR8.out HN.out)) HR8 HN HK8 (fun _ _ h => ⟨rfl, h⟩) ?_
 rintro v9 s9 w9 HR9 HP9 hkk HK9
 have HBh9 := Hh (HBh8.out.kp hkk)
 clear hkk
 try clear d0 d1
 skip
 go_wp2_with fail
 exact ⟨rfl, .tuple #[], by simp [results, Tryz.results45, go_sem], q_ok (q_pure HR9.out) rfl HP9.out HK9.out⟩
theorem w_items {E : En} (hE : E.ok) {n : Nat} (ih : ∀ m, m ≤ n → Wk E m)  (s : Ps) (w : World) (hp : PW E w s) (hne : run E.L E.base (n + 1) (.items) s ≠ .out) : Calls Tryz.prog 87 #[.pointer (some ⟨E.pb, 0, none⟩)] w (EndQ E vaU w (run E.L E.base (n + 1) (.items) s)) := by
 obtain ⟨r, hr⟩ : ∃ r, run E.L E.base (n + 1) (.items) s = r := ⟨_, rfl⟩
 rw [hr] at hne ⊢
 rw [run] at hr
 have HN := Hh hne
 have HR0 := Hh hr
 have HP0 := Hh hp
 have HK0 := Hh (KP.refl w)
 have IH := Hh ih
 clear hne hr hp ih
 go_enter Tryz.func87, Tryz.ntmps87
 go_wp2_with fail
 refine mR (wk_here hE _ _ HP0.out) HR0 HN HK0 (fun _ _ h => ⟨rfl, h⟩) ?_
 rintro v1 s1 w1 HR1 HP1 - HK1
 have HBn := Hh (HdB.new w1 v1)
 have HPn := Hh (HP1.out.ext hE (below_alloc w1 (.cells #[.int .i64 v1.1, .int .i64 v1.2] 77)))
 have HKn := Hh (HK1.out.trans (KP.of_below (below_alloc w1 (.cells #[.int .i64 v1.1, .int .i64 v1.2] 77))))
 have HPo1 := Hh HP1.out
 have HKo1 := Hh HK1.out
 clear HP1 HK1
 have HP1 := Hh HPn.out
 have HK1 := Hh HKn.out
 clear HPn HKn
 simp only [hdV]
 obtain ⟨bh, hbh⟩ : ∃ b, w1.heap.size = b := ⟨_, rfl⟩
 have HBh1 := Hh (hbh ▸ HBn.out)
 clear HBn
 go_wp2_with fail
 try rw [hbh]
 refine mR (wk_need hE [123] _ _ HP1.out) HR1 HN HK1 (fun _ _ h => ⟨rfl, h⟩) ?_
 rintro v2 s2 w2 HR2 HP2 hkk HK2
 have HBh2 := Hh (HBh1.out.kp hkk)
 clear hkk
 go_wp2_with fail
 go_loopg [] n (fun k wr => ∃ s', k ≤ n ∧ (run E.L E.base k (.itemsR) >>= fun _ => (do node E.L 22 v1; pure Va.un)) s' = r ∧ PW E wr s' ∧ KP w wr ∧ HdB wr bh v1)
 case atStart => exact ⟨_, Nat.le_refl _, HR2.out, HP2.out, HK2.out, HBh2.out⟩
 case round =>
  obtain ⟨s3, hgn3, hr3, hp3, hk3, hhh3⟩ := hrel
  cases gk with
  | zero => exact absurd (q_0 hr3) HN.out
  | succ g3 =>
   rw [run] at hr3
   have HR3 := Hh hr3
   have HP3 := Hh hp3
   have HK3 := Hh hk3
   have HBh3 := Hh hhh3
   clear hr3 hp3 hk3 hhh3
   with_reducible replace HR3 := Hh (q_assoc HR3.out)
   go_wp2_with fail
   refine mR (wk_took hE [125] _ _ HP3.out) HR3 HN HK3 (fun _ _ h => ⟨rfl, h⟩) ?_
   rintro v4 s4 w4 HR4 HP4 hkk HK4
   have HBh4 := Hh (HBh3.out.kp hkk)
   clear hkk
   obtain ⟨bb4, hbb4⟩ : ∃ bb, v4 = bb := ⟨_, rfl⟩
   rw [hbb4] at HR4 ⊢
   clear hbb4
   cases bb4
   ·have HQ := Hh (q_iffK HR4.out)
    clear HR4
    have HR4 := Hh HQ.out
    clear HQ
    with_reducible replace HR4 := Hh (q_assoc HR4.out)
    go_wp2_with fail
    refine mR (wk_labelled hE _ _ HP4.out) HR4 HN HK4 (fun _ _ h => ⟨rfl, h⟩) ?_
    rintro v5 s5 w5 HR5 HP5 hkk HK5
    have HBh5 := Hh (HBh4.out.kp hkk)
    clear hkk
    with_reducible replace HR5 := Hh (q_assoc HR5.out)
    obtain ⟨bb5, hbb5⟩ : ∃ bb, v5 = bb := ⟨_, rfl⟩
    rw [hbb5] at HR5 ⊢
    clear hbb5
    cases bb5
    ·have hq := HR5.out
     try simp only [Bool.not_false, Bool.true_and] at hq
     clear HR5
     have HR5 := Hh hq
     clear hq
     go_wp2_with fail
     refine mR (wk_declares hE _ _ HP5.out) HR5 HN HK5 (fun _ _ h => ⟨rfl, h⟩) ?_
     rintro v6 s6 w6 HR6 HP6 hkk HK6
     have HBh6 := Hh (HBh5.out.kp hkk)
     clear hkk
     obtain ⟨bb6, hbb6⟩ : ∃ bb, v6 = bb := ⟨_, rfl⟩
     rw [hbb6] at HR6 ⊢
     clear hbb6
     cases bb6
     ·have HQ := Hh (q_iffK HR6.out)
      clear HR6
      have HR6 := Hh HQ.out
      clear HQ
      with_reducible replace HR6 := Hh (q_assoc HR6.out)
      go_wp2_with fail
      refine mQ ((IH.out g3 (by omega)).f_statement  _ _ HP6.out (qne HR6.out HN.out)) HR6 HN HK6 (fun _ _ h => ⟨rfl, h⟩) ?_
      rintro v7 s7 y7 w7 HR7 rfl HP7 hkk HK7
      have HBh7 := Hh (HBh6.out.kp hkk)
      clear hkk
      go_wp2_with fail
      go_roundg g3
      case measure => omega
      case rel => exact ⟨_, by omega, HR7.out, HP7.out, HK7.out, HBh7.out⟩
     ·have HQ := Hh (q_iftK HR6.out)
      clear HR6
      have HR6 := Hh HQ.out
      clear HQ
      with_reducible replace HR6 := Hh (q_assoc HR6.out)
      go_wp2_with fail
      refine mQ ((IH.out g3 (by omega)).f_declaration  _ _ HP6.out (qne HR6.out HN.out)) HR6 HN HK6 (fun _ _ h => ⟨rfl, h⟩) ?_
      rintro v8 s8 y8 w8 HR8 rfl HP8 hkk HK8
      have HBh8 := Hh (HBh6.out.kp hkk)
      clear hkk
      go_wp2_with fail
      go_roundg g3
      case measure => omega
      case rel => exact ⟨_, by omega, HR8.out, HP8.out, HK8.out, HBh8.out⟩
    ·have hq := HR5.out
     (with_reducible replace hq := q_assoc hq)
     try simp only [Bool.not_true, Bool.false_and] at hq
     try (replace hq := qone (x := declares E.L E.base) hq rfl)
     first | replace hq := q_iffK hq | replace hq := q_iff hq | skip
     clear HR5
     have HR5 := Hh hq
     clear hq
     go_wp2_with fail
     refine mQ ((IH.out g3 (by omega)).f_statement  _ _ HP5.out (qne HR5.out HN.out)) HR5 HN HK5 (fun _ _ h => ⟨rfl, h⟩) ?_
     rintro v9 s9 y9 w9 HR9 rfl HP9 hkk HK9
     have HBh9 := Hh (HBh5.out.kp hkk)
     clear hkk
     go_wp2_with fail
     go_roundg g3
     case measure => omega
     case rel => exact ⟨_, by omega, HR9.out, HP9.out, HK9.out, HBh9.out⟩
   ·have HQ := Hh (q_iftK HR4.out)
    clear HR4
    have HR4 := Hh HQ.out
    clear HQ
    obtain ⟨d0, d1⟩ := HBh4.out.cells
    go_wp2_with fail
    with_reducible replace HR4 := Hh (q_pb HR4.out)
    refine mR (wk_node hE 22 v1 _ _ HP4.out (qne HR4.out HN.out)) HR4 HN HK4 (fun _ _ h => ⟨rfl, h⟩) ?_
    rintro v10 s10 w10 HR10 HP10 hkk HK10
    have HBh10 := Hh (HBh4.out.kp hkk)
    clear hkk
    try clear d0 d1
    skip
    go_wp2_with fail
    exact ⟨rfl, .tuple #[], by simp [results, Tryz.results87, go_sem], q_ok (q_pure HR10.out) rfl HP10.out HK10.out⟩
theorem w_field {E : En} (hE : E.ok) {n : Nat} (ih : ∀ m, m ≤ n → Wk E m)  (s : Ps) (w : World) (hp : PW E w s) (hne : run E.L E.base (n + 1) (.field) s ≠ .out) : Calls Tryz.prog 157 #[.pointer (some ⟨E.pb, 0, none⟩)] w (EndQ E vaU w (run E.L E.base (n + 1) (.field) s)) := by
 obtain ⟨r, hr⟩ : ∃ r, run E.L E.base (n + 1) (.field) s = r := ⟨_, rfl⟩
 rw [hr] at hne ⊢
 rw [run] at hr
 have HN := Hh hne
 have HR0 := Hh hr
 have HP0 := Hh hp
 have HK0 := Hh (KP.refl w)
 have IH := Hh ih
 clear hne hr hp ih
 go_enter Tryz.func157, Tryz.ntmps157
 go_wp2_with fail
 refine mR (wk_here hE _ _ HP0.out) HR0 HN HK0 (fun _ _ h => ⟨rfl, h⟩) ?_
 rintro v1 s1 w1 HR1 HP1 - HK1
 have HBn := Hh (HdB.new w1 v1)
 have HPn := Hh (HP1.out.ext hE (below_alloc w1 (.cells #[.int .i64 v1.1, .int .i64 v1.2] 77)))
 have HKn := Hh (HK1.out.trans (KP.of_below (below_alloc w1 (.cells #[.int .i64 v1.1, .int .i64 v1.2] 77))))
 have HPo1 := Hh HP1.out
 have HKo1 := Hh HK1.out
 clear HP1 HK1
 have HP1 := Hh HPn.out
 have HK1 := Hh HKn.out
 clear HPn HKn
 simp only [hdV]
 obtain ⟨bh, hbh⟩ : ∃ b, w1.heap.size = b := ⟨_, rfl⟩
 have HBh1 := Hh (hbh ▸ HBn.out)
 clear HBn
 go_wp2_with fail
 try rw [hbh]
 refine mR (wk_sign hE 0 [58] _ _ (by omega) HP1.out) HR1 HN HK1 (fun _ _ h => ⟨rfl, h⟩) ?_
 rintro v2 s2 w2 HR2 HP2 hkk HK2
 have HBh2 := Hh (HBh1.out.kp hkk)
 clear hkk
 obtain ⟨bb2, hbb2⟩ : ∃ bb, v2 = bb := ⟨_, rfl⟩
 rw [hbb2] at HR2 ⊢
 clear hbb2
 cases bb2
 focus
  have HQ := Hh (q_iff HR2.out)
  clear HR2
  have HR2 := Hh HQ.out
  clear HQ
  go_wp2_with fail
  refine ((IH.out n (Nat.le_refl _)).f_declarator 0 _ _ HP2.out (qne HR2.out HN.out)).mono ?_
  intro e w3 he
  rcases qstep (x := run E.L E.base n (.declarator 0)) HR2.out HN.out HK2.out he with ⟨v3, s3, y3, hr3, -, rfl, ⟨yf3, rfl, hdc3, hnl3⟩, hp3, hkk, hk3⟩ | ⟨hr3, ⟨z, rfl⟩, hb3, hk3⟩
  case' inr => exact ⟨rfl, q_no hr3 hb3 hk3⟩
  have HR3 := Hh hr3
  have HP3 := Hh hp3
  have HK3 := Hh hk3
  have HBh3 := Hh (HBh2.out.kp hkk)
  clear he hr3 hp3 hkk hk3
  go_wp2_with fail
  refine ?S1a
 rotate_left 1
 focus
  have HQ := Hh (q_ift HR2.out)
  clear HR2
  have HR2 := Hh HQ.out
  clear HQ
  go_wp2_with fail
  with_reducible replace HR2 := Hh (q_pb HR2.out)
  have HP3 := HP2
  have HR3 := HR2
  have HK3 := HK2
  have HBh3 := HBh2
  refine ?S1b
 case S1a | S1b =>
  refine mR (wk_took hE [58] _ _ HP3.out) HR3 HN HK3 (fun _ _ h => ⟨rfl, h⟩) ?_
  rintro v4 s4 w4 HR4 HP4 hkk HK4
  have HBh4 := Hh (HBh3.out.kp hkk)
  clear hkk
  obtain ⟨bb4, hbb4⟩ : ∃ bb, v4 = bb := ⟨_, rfl⟩
  rw [hbb4] at HR4 ⊢
  clear hbb4
  cases bb4
  ·have HQ := Hh (q_iff HR4.out)
   clear HR4
   have HR4 := Hh HQ.out
   clear HQ
   obtain ⟨d0, d1⟩ := HBh4.out.cells
   go_wp2_with fail
   with_reducible replace HR4 := Hh (q_pb HR4.out)
   refine mR (wk_node hE 8 v1 _ _ HP4.out (qne HR4.out HN.out)) HR4 HN HK4 (fun _ _ h => ⟨rfl, h⟩) ?_
   rintro v5 s5 w5 HR5 HP5 hkk HK5
   have HBh5 := Hh (HBh4.out.kp hkk)
   clear hkk
   try clear d0 d1
   skip
   go_wp2_with fail
   exact ⟨rfl, .tuple #[], by simp [results, Tryz.results157, go_sem], q_ok (q_pure HR5.out) rfl HP5.out HK5.out⟩
  ·have HQ := Hh (q_ift HR4.out)
   clear HR4
   have HR4 := Hh HQ.out
   clear HQ
   go_wp2_with fail
   refine mQ ((IH.out n (Nat.le_refl _)).f_choice  _ _ HP4.out (qne HR4.out HN.out)) HR4 HN HK4 (fun _ _ h => ⟨rfl, h⟩) ?_
   rintro v6 s6 y6 w6 HR6 rfl HP6 hkk HK6
   have HBh6 := Hh (HBh4.out.kp hkk)
   clear hkk
   obtain ⟨d0, d1⟩ := HBh6.out.cells
   go_wp2_with fail
   refine mR (wk_node hE 8 v1 _ _ HP6.out (qne HR6.out HN.out)) HR6 HN HK6 (fun _ _ h => ⟨rfl, h⟩) ?_
   rintro v7 s7 w7 HR7 HP7 hkk HK7
   have HBh7 := Hh (HBh6.out.kp hkk)
   clear hkk
   try clear d0 d1
   skip
   go_wp2_with fail
   exact ⟨rfl, .tuple #[], by simp [results, Tryz.results157, go_sem], q_ok (q_pure HR7.out) rfl HP7.out HK7.out⟩
theorem w_align {E : En} (hE : E.ok) {n : Nat} (ih : ∀ m, m ≤ n → Wk E m)  (s : Ps) (w : World) (hp : PW E w s) (hne : run E.L E.base (n + 1) (.align) s ≠ .out) : Calls Tryz.prog 76 #[.pointer (some ⟨E.pb, 0, none⟩)] w (EndQ E vaU w (run E.L E.base (n + 1) (.align) s)) := by
 obtain ⟨r, hr⟩ : ∃ r, run E.L E.base (n + 1) (.align) s = r := ⟨_, rfl⟩
 rw [hr] at hne ⊢
 rw [run] at hr
 have HN := Hh hne
 have HR0 := Hh hr
 have HP0 := Hh hp
 have HK0 := Hh (KP.refl w)
 have IH := Hh ih
 clear hne hr hp ih
 go_enter Tryz.func76, Tryz.ntmps76
 go_wp2_with fail
 refine mR (wk_here hE _ _ HP0.out) HR0 HN HK0 (fun _ _ h => ⟨rfl, h⟩) ?_
 rintro v1 s1 w1 HR1 HP1 - HK1
 have HBn := Hh (HdB.new w1 v1)
 have HPn := Hh (HP1.out.ext hE (below_alloc w1 (.cells #[.int .i64 v1.1, .int .i64 v1.2] 77)))
 have HKn := Hh (HK1.out.trans (KP.of_below (below_alloc w1 (.cells #[.int .i64 v1.1, .int .i64 v1.2] 77))))
 have HPo1 := Hh HP1.out
 have HKo1 := Hh HK1.out
 clear HP1 HK1
 have HP1 := Hh HPn.out
 have HK1 := Hh HKn.out
 clear HPn HKn
 simp only [hdV]
 obtain ⟨bh, hbh⟩ : ∃ b, w1.heap.size = b := ⟨_, rfl⟩
 have HBh1 := Hh (hbh ▸ HBn.out)
 clear HBn
 obtain ⟨hle2, hr2⟩ := q_step HR1.out HN.out
 obtain ⟨c1, f1, -⟩ := HPo1.out.at
 have hpb := HPo1.out.lt
 rw [hbh] at hpb
 obtain ⟨q21, q22⟩ := HPo1.out.on hE hle2
 have hLn := hE.len
 obtain ⟨a2, hat2⟩ : ∃ a, Ps.at' s1 = a := ⟨_, rfl⟩
 rw [hat2] at c1 hle2 hr2 q21 q22
 have hi : a2 < 100000 := by omega
 obtain ⟨s2, hs2⟩ : ∃ t : Ps, (⟨a2 + 1, s1.done, s1.nm⟩ : Ps) = t := ⟨_, rfl⟩
 rw [hs2] at hr2 q21
 clear hs2
 have HR2 := Hh hr2
 have HP2 := Hh (q21.ext hE (below_alloc _ (.cells #[.int .i64 v1.1, .int .i64 v1.2] 77)))
 have hkx := KP.of_below (below_alloc (World.setCell w1 ⟨E.pb, 1, none⟩ (.int .i64 ((a2 + 1 : Nat) : Int))) (.cells #[.int .i64 v1.1, .int .i64 v1.2] 77))
 have HK2 := Hh (HKo1.out.trans (q22.trans hkx))
 have HBh2 := Hh (hbh ▸ HdB.new' w1 ⟨E.pb, 1, none⟩ (.int .i64 ((a2 + 1 : Nat) : Int)) v1)
 have HAT2 := Hh hat2
 clear q21 q22 hr2 hle2 hLn hat2 hkx
 go_wp2_with fail
 try rw [hbh]
 try clear c1 f1 hpb hi
 refine mR (wk_need hE [40] _ _ HP2.out) HR2 HN HK2 (fun _ _ h => ⟨rfl, h⟩) ?_
 rintro v3 s3 w3 HR3 HP3 hkk HK3
 have HBh3 := Hh (HBh2.out.kp hkk)
 clear hkk
 go_wp2_with fail
 refine mR (wk_bLess hE 0 _ _ (by omega) HP3.out) HR3 HN HK3 (fun _ _ h => ⟨rfl, h⟩) ?_
 rintro v4 s4 w4 HR4 HP4 hkk HK4
 have HBh4 := Hh (HBh3.out.kp hkk)
 clear hkk
 obtain ⟨bb4, hbb4⟩ : ∃ bb, v4 = bb := ⟨_, rfl⟩
 rw [hbb4] at HR4 ⊢
 clear hbb4
 cases bb4
 focus
  have HQ := Hh (q_iff HR4.out)
  clear HR4
  have HR4 := Hh HQ.out
  clear HQ
  go_wp2_with fail
  refine mQ ((IH.out n (Nat.le_refl _)).f_choice  _ _ HP4.out (qne HR4.out HN.out)) HR4 HN HK4 (fun _ _ h => ⟨rfl, h⟩) ?_
  refine ?S2a
 rotate_left 1
 focus
  have HQ := Hh (q_ift HR4.out)
  clear HR4
  have HR4 := Hh HQ.out
  clear HQ
  go_wp2_with fail
  refine mQ ((IH.out n (Nat.le_refl _)).f_typeName  _ _ HP4.out (qne HR4.out HN.out)) HR4 HN HK4 (fun _ _ h => ⟨rfl, h⟩) ?_
  refine ?S2b
 case S2a | S2b =>
  rintro v5 s5 y5 w5 HR5 rfl HP5 hkk HK5
  have HBh5 := Hh (HBh4.out.kp hkk)
  clear hkk
  go_wp2_with fail
  refine mR (wk_need hE [41] _ _ HP5.out) HR5 HN HK5 (fun _ _ h => ⟨rfl, h⟩) ?_
  rintro v6 s6 w6 HR6 HP6 hkk HK6
  have HBh6 := Hh (HBh5.out.kp hkk)
  clear hkk
  obtain ⟨d0, d1⟩ := HBh6.out.cells
  go_wp2_with fail
  refine mR (wk_node hE 11 v1 _ _ HP6.out (qne HR6.out HN.out)) HR6 HN HK6 (fun _ _ h => ⟨rfl, h⟩) ?_
  rintro v7 s7 w7 HR7 HP7 hkk HK7
  have HBh7 := Hh (HBh6.out.kp hkk)
  clear hkk
  try clear d0 d1
  skip
  go_wp2_with fail
  exact ⟨rfl, .tuple #[], by simp [results, Tryz.results76, go_sem], q_ok (q_pure HR7.out) rfl HP7.out HK7.out⟩
end Go.Proofs.YtlboejdhmggjpaaGreat.Pp

/- WkW -/
namespace Go.Proofs.YtlboejdhmggjpaaGreat.Pp
set_option maxRecDepth 100000
set_option maxHeartbeats 16000000
open Go.RowKit Go.BigFrame Go.Proofs.YtlboejdhmggjpaaGreat

theorem w_typeName {E : En} (hE : E.ok) {n : Nat} (ih : ∀ m, m ≤ n → Wk E m)  (s : Ps) (w : World) (hp : PW E w s) (hne : run E.L E.base (n + 1) (.typeName) s ≠ .out) : Calls Tryz.prog 119 #[.pointer (some ⟨E.pb, 0, none⟩)] w (EndQ E vaU w (run E.L E.base (n + 1) (.typeName) s)) := by
 obtain ⟨r, hr⟩ : ∃ r, run E.L E.base (n + 1) (.typeName) s = r := ⟨_, rfl⟩
 rw [hr] at hne ⊢
 rw [run] at hr
 have HN := Hh hne
 have HR0 := Hh hr
 have HP0 := Hh hp
 have HK0 := Hh (KP.refl w)
 have IH := Hh ih
 clear hne hr hp ih
 go_enter Tryz.func119, Tryz.ntmps119
 go_wp2_with fail
 refine mR (wk_here hE _ _ HP0.out) HR0 HN HK0 (fun _ _ h => ⟨rfl, h⟩) ?_
 rintro v1 s1 w1 HR1 HP1 - HK1
 have HBn := Hh (HdB.new w1 v1)
 have HPn := Hh (HP1.out.ext hE (below_alloc w1 (.cells #[.int .i64 v1.1, .int .i64 v1.2] 77)))
 have HKn := Hh (HK1.out.trans (KP.of_below (below_alloc w1 (.cells #[.int .i64 v1.1, .int .i64 v1.2] 77))))
 have HPo1 := Hh HP1.out
 have HKo1 := Hh HK1.out
 clear HP1 HK1
 have HP1 := Hh HPn.out
 have HK1 := Hh HKn.out
 clear HPn HKn
 simp only [hdV]
 obtain ⟨bh, hbh⟩ : ∃ b, w1.heap.size = b := ⟨_, rfl⟩
 have HBh1 := Hh (hbh ▸ HBn.out)
 clear HBn
 go_wp2_with fail
 try rw [hbh]
 refine mQ ((IH.out n (Nat.le_refl _)).f_specs false _ _ HP1.out (qne HR1.out HN.out)) HR1 HN HK1 (fun _ _ h => ⟨rfl, h⟩) ?_
 rintro v2 s2 y2 w2 HR2 rfl HP2 hkk HK2
 have HBh2 := Hh (HBh1.out.kp hkk)
 clear hkk
 go_wp2_with fail
 refine mR (wk_sign hE 0 [42] _ _ (by omega) HP2.out) HR2 HN HK2 (fun _ _ h => ⟨rfl, h⟩) ?_
 rintro v3 s3 w3 HR3 HP3 hkk HK3
 have HBh3 := Hh (HBh2.out.kp hkk)
 clear hkk
 obtain ⟨bb3, hbb3⟩ : ∃ bb, v3 = bb := ⟨_, rfl⟩
 rw [hbb3] at HR3 ⊢
 clear hbb3
 cases bb3
 focus
  have hq := HR3.out
  try simp only [Bool.false_or] at hq
  clear HR3
  have HR3 := Hh hq
  clear hq
  go_wp2_with fail
  refine mR (wk_sign hE 0 [40] _ _ (by omega) HP3.out) HR3 HN HK3 (fun _ _ h => ⟨rfl, h⟩) ?_
  rintro v4 s4 w4 HR4 HP4 hkk HK4
  have HBh4 := Hh (HBh3.out.kp hkk)
  clear hkk
  obtain ⟨bb4, hbb4⟩ : ∃ bb, v4 = bb := ⟨_, rfl⟩
  rw [hbb4] at HR4 ⊢
  clear hbb4
  cases bb4
  focus
   have hq := HR4.out
   try simp only [Bool.false_or] at hq
   clear HR4
   have HR4 := Hh hq
   clear hq
   go_wp2_with fail
   refine mR (wk_sign hE 0 [91] _ _ (by omega) HP4.out) HR4 HN HK4 (fun _ _ h => ⟨rfl, h⟩) ?_
   rintro v5 s5 w5 HR5 HP5 hkk HK5
   have HBh5 := Hh (HBh4.out.kp hkk)
   clear hkk
   obtain ⟨bb5, hbb5⟩ : ∃ bb, v5 = bb := ⟨_, rfl⟩
   rw [hbb5] at HR5 ⊢
   clear hbb5
   cases bb5
   ·have hq := HR5.out
    try simp only [Bool.false_or] at hq
    first | replace hq := q_iffK hq | replace hq := q_iff hq | skip
    clear HR5
    have HR5 := Hh hq
    clear hq
    obtain ⟨d0, d1⟩ := HBh5.out.cells
    go_wp2_with fail
    with_reducible replace HR5 := Hh (q_pb HR5.out)
    refine mR (wk_node hE 18 v1 _ _ HP5.out (qne HR5.out HN.out)) HR5 HN HK5 (fun _ _ h => ⟨rfl, h⟩) ?_
    rintro v6 s6 w6 HR6 HP6 hkk HK6
    have HBh6 := Hh (HBh5.out.kp hkk)
    clear hkk
    try clear d0 d1
    skip
    go_wp2_with fail
    exact ⟨rfl, .tuple #[], by simp [results, Tryz.results119, go_sem], q_ok (q_pure HR6.out) rfl HP6.out HK6.out⟩
   focus
    have hq := HR5.out
    refine ?S1a
  rotate_left 1
  focus
   have hq := HR4.out
   replace hq := qone (x := sign E.L 0 [91]) hq rfl
   have HR5 := HR4
   have HP5 := HP4
   have HK5 := HK4
   have HBh5 := HBh4
   refine ?S1b
 rotate_left 2
 focus
  have hq := HR3.out
  replace hq := qone (x := sign E.L 0 [40]) hq rfl
  replace hq := qone (x := sign E.L 0 [91]) hq rfl
  have HR5 := HR3
  have HP5 := HP3
  have HK5 := HK3
  have HBh5 := HBh3
  refine ?S1c
 case S1a | S1b | S1c =>
  try simp only [Bool.true_or, Bool.or_true] at hq
  first | replace hq := q_iftK hq | replace hq := q_ift hq | skip
  clear HR5
  have HR5 := Hh hq
  clear hq
  go_wp2_with fail
  refine ((IH.out n (Nat.le_refl _)).f_declarator 2 _ _ HP5.out (qne HR5.out HN.out)).mono ?_
  intro e w7 he
  rcases qstep (x := run E.L E.base n (.declarator 2)) HR5.out HN.out HK5.out he with ⟨v7, s7, y7, hr7, -, rfl, ⟨yf7, rfl, hdc7, hnl7⟩, hp7, hkk, hk7⟩ | ⟨hr7, ⟨z, rfl⟩, hb7, hk7⟩
  case' inr => exact ⟨rfl, q_no hr7 hb7 hk7⟩
  have HR7 := Hh hr7
  have HP7 := Hh hp7
  have HK7 := Hh hk7
  have HBh7 := Hh (HBh5.out.kp hkk)
  clear he hr7 hp7 hkk hk7
  obtain ⟨d0, d1⟩ := HBh7.out.cells
  go_wp2_with fail
  refine mR (wk_node hE 18 v1 _ _ HP7.out (qne HR7.out HN.out)) HR7 HN HK7 (fun _ _ h => ⟨rfl, h⟩) ?_
  rintro v8 s8 w8 HR8 HP8 hkk HK8
  have HBh8 := Hh (HBh7.out.kp hkk)
  clear hkk
  try clear d0 d1
  skip
  go_wp2_with fail
  exact ⟨rfl, .tuple #[], by simp [results, Tryz.results119, go_sem], q_ok (q_pure HR8.out) rfl HP8.out HK8.out⟩
end Go.Proofs.YtlboejdhmggjpaaGreat.Pp

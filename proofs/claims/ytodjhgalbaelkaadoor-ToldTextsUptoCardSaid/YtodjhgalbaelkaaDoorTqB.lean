/- told.Parse, the walk. -/
import Derived.Test.YtodjhgalbaelkaaDoorTqA
namespace Go.Proofs.YtodjhgalbaelkaaDoor
open Go.RowKit Go.BigFrame Go.Shelf
set_option linter.unusedVariables false
attribute [local go_sem] Oper.semAt_some

theorem own_nc {w w' : World} {X e size n : Nat} {v : Value} {xs : List Value} {S : Nat → Prop} (h : w.ownsRow X e size v n xs) (hm : Mod (fun k => S k ∧ nc w k) w w') : w'.ownsRow X e size v n xs :=
  ownsRow_mod h hm (fun k hk hs => by obtain ⟨_, cur, hc⟩ := row_cells h hk; exact not_nc hc hs.2)
theorem RdC.nc {B K r : Nat} {lv tv : Value} {l : List Chg} {last want : Int} {text : Bs} {opn : Bool} {w w' : World} {S : Nat → Prop} (h : RdC B K r lv tv l last want text opn w) (hm : Mod (fun k => S k ∧ YtodjhgalbaelkaaDoor.nc w k) w w') : RdC B K r lv tv l last want text opn w' :=
  ⟨hm.keep h.hd (fun hs => not_nc h.hd hs.2), own_nc h.row hm, own_nc h.txt hm, fun c hc => ⟨own_nc (h.old c hc).1 hm, (h.old c hc).2⟩, fun c hc => own_nc (h.new c hc) hm, h.leB, Nat.le_trans h.leK hm.size, h.leR⟩
def lensP (pre : List (Nat × ByteArray)) : Nat := (pre.map (fun p => p.2.size)).sum
def PrI (w : World) (pre : List (Nat × ByteArray)) (W : World) : Prop :=
  ∃ st l, runL st0 (pre.map fun p => dl p.2) = some st ∧ pcs l = st.l ∧ RdA w.heap.size w.heap.size l st.last st.want st.text st.opn W ∧ W.heap[w.heap.size + 1]? = some (.cells #[.int .i64 0] 3 (0, 0)) ∧ Good st ∧ Sz st (lensP pre) ∧ Below w.heap.size w W ∧ w.heap.size + 3 ≤ W.heap.size
def PrX (w : World) (c : Code) (pre : List (Nat × ByteArray)) (W : World) : Prop :=
  c = .exit 0 ∧ (∃ m x st, pre = m ++ [x] ∧ x.1 = m.length ∧ runL st0 (m.map fun p => dl p.2) = some st ∧ stepL st (dl x.2) = none) ∧ W.heap[w.heap.size + 1]? = some (.cells #[.int .i64 pre.length] 3 (0, 0)) ∧ Below w.heap.size w W ∧ w.heap.size + 3 ≤ W.heap.size
theorem len_flat_map (pre : List (Nat × ByteArray)) : ((pre.map fun p => dl p.2).flatten).length = lensP pre := by
  unfold lensP
  rw [List.length_flatten, List.map_map]
  congr 1
theorem lens_at {s : ByteArray} {pre : List (Nat × ByteArray)} {x : Nat × ByteArray} {r : List Bs} (h : lines (dl s) = pre.map (fun p => dl p.2) ++ dl x.2 :: r) : lensP pre + x.2.size ≤ s.size := by
  have h1 := congrArg (fun l : List Bs => l.flatten.length) h
  simp only [lines_flat, List.flatten_append, List.length_append, List.flatten_cons] at h1
  rw [len_flat_map] at h1
  rw [size_dl s, h1, size_dl x.2]
  omega
theorem lens_snoc (pre : List (Nat × ByteArray)) (x : Nat × ByteArray) : lensP (pre ++ [x]) = lensP pre + (dl x.2).length := by
  unfold lensP
  rw [List.map_append, List.sum_append, List.map_singleton, List.sum_singleton, size_dl]
def ParsePost (s : ByteArray) (w : World) (e : Ending) (w' : World) : Prop :=
  Below w.heap.size w w' ∧ (match parseB (dl s) with
    | .inl n => e = .returned (.tuple #[.slice none 0 0, .int .i64 n, .int .i64 240])
    | .inr st => ∃ K lv tv l, pcs l = st.l ∧ e = .returned (.tuple #[lv, .int .i64 0, .int .i64 0]) ∧ RdC w.heap.size K w.heap.size lv tv l st.last st.want st.text st.opn w')

set_option maxRecDepth 100000 in
set_option maxHeartbeats 8000000 in
theorem Td.parse (s : ByteArray) (w : World) (hs : s.size ≤ 4000000) : Calls Tryd.prog 13 #[.string s] w (ParsePost s w) := by
  obtain ⟨W0, hW0⟩ : ∃ W0, W0 = ((w.alloc (.cells #[.slice none 0 0, .int .i64 0, .int .i64 0, .slice none 0 0, .bool false] 74)).alloc (.cells #[.int .i64 0] 3)).alloc (.cells #[.string s] 9) := ⟨_, rfl⟩
  have hs0 : W0.heap.size = w.heap.size + 3 := by rw [hW0]; simp
  have hb0 : Below w.heap.size w W0 := by rw [hW0]; exact (((Below.refl _ _).alloc (Nat.le_refl _) _).alloc (by simp) _).alloc (by simp; omega) _
  have e0 : W0.heap[w.heap.size]? = some (.cells #[.slice none 0 0, .int .i64 0, .int .i64 0, .slice none 0 0, .bool false] 74 (0, 0)) := by
    rw [hW0, Lib.alloc_old _ _ _ (by simp; omega), Lib.alloc_old _ _ _ (by simp)]
    exact heap_alloc_new _ _
  have e1 : W0.heap[w.heap.size + 1]? = some (.cells #[.int .i64 0] 3 (0, 0)) := by
    rw [hW0, Lib.alloc_old _ _ _ (by simp)]
    have := heap_alloc_new (w.alloc (.cells #[.slice none 0 0, .int .i64 0, .int .i64 0, .slice none 0 0, .bool false] 74)) (.cells #[.int .i64 0] 3)
    simpa using this
  have e2 : W0.heap[w.heap.size + 2]? = some (.cells #[.string s] 9 (0, 0)) := by
    rw [hW0]
    have := heap_alloc_new ((w.alloc (.cells #[.slice none 0 0, .int .i64 0, .int .i64 0, .slice none 0 0, .bool false] 74)).alloc (.cells #[.int .i64 0] 3)) (.cells #[.string s] 9)
    simpa using this
  have hseq := Nm.seq 4 (w.heap.size + 2) s W0 e2 (by omega)
  have hI0 : PrI w [] W0 := ⟨st0, [], rfl, rfl, ⟨w.heap.size, _, _, e0, World.ownsRow_nil _ _ _ _, World.ownsRow_nil _ _ _ _, (fun c hc => by cases hc), (fun c hc => by cases hc), Nat.le_refl _, by omega, Nat.le_refl _⟩, e1,
    ⟨by rintro (h | h) <;> simp [st0] at h, by simp [st0]⟩, ⟨by simp [st0], by simp [st0], by simp [st0], by simp [st0]⟩, hb0, by omega⟩
  have HSEQ := Lib.hid hseq
  have HS0 := Lib.hid hs0
  have HI0 := Lib.hid hI0
  have HW0 := Lib.hid hW0
  clear hW0 hs0 hb0 e0 e1 e2 hseq hI0
  refine (callsIn_wide (n := 5)).1 ?_
  refine callsIn_of_wp_marks Tryd.func13 rfl trivial ?_ rfl
  simp only [Tryd.ntmps13, List.size_toArray, List.length_cons, List.length_nil, Nat.reduceAdd, Nat.reduceSub, Array.replicate_succ, Array.replicate_zero, List.push_toArray, List.append_toArray, List.nil_append, List.cons_append]
  gi_wp2_with (fail)
  refine wpIn_wide.2 (wp_scope_straight ((wpIn_wide (n := 5)).1 ?_))
  gi_wp2_with (fail)
  refine wpIn_label ?_
  gi_wp2_with (fail)
  refine ⟨trivial, ?_⟩
  refine (callsIn_wide.2 (Nm.make s _)).mono ?_
  rintro e w2 ⟨rfl, rfl⟩
  rw [← HW0.out]
  gi_wp2_with (fail)
  refine wpIn_rangeFunc_gen rfl (by omega) (gf := 42) (lb := #[.pointer (some ⟨w.heap.size + 1 + 1, 0, none⟩)]) rfl trivial (enters_of Tryd.func42 (by kernel_rfl) rfl)
    HSEQ.out (fun k hk => hk.elim) (fun h k => h.trans k) (fun W l o o' hl hW ho _ => KC.putObj hW ho) (Below.refl _ _) (fun _ => rfl)
    (PrI w) (PrX w)
    (fun t A B h hm => by
      have hs0 := HS0.out
      obtain ⟨st, l, h1, h2, ⟨K, lv, tv, h3⟩, h4, h5, h6, h7, h8⟩ := h
      have hm' : Mod (fun k => W0.heap.size ≤ k ∧ nc A k) A B := hm.mono (fun k _ hk => hk.elim (fun h => h.elim) id)
      exact ⟨st, l, h1, h2, ⟨K, lv, tv, h3.nc hm'⟩, hm'.keep h4 (fun hk => by have := hk.1; omega), h5, h6, h7.trans (hm'.below (by have := h7.size; omega) (fun k hk => by have := hk.1; omega)), Nat.le_trans h8 hm.size⟩)
    (fun c t A B h hm => by
      have hs0 := HS0.out
      obtain ⟨h1, h2, h3, h4, h5⟩ := h
      have hm' : Mod (fun k => W0.heap.size ≤ k ∧ nc A k) A B := hm.mono (fun k _ hk => hk.elim (fun h => h.elim) id)
      exact ⟨h1, h2, hm'.keep h3 (fun hk => by have := hk.1; omega), h4.trans (hm'.below (by have := h4.size; omega) (fun k hk => by have := hk.1; omega)), Nat.le_trans h5 hm.size⟩)
    HI0.out
    (fun x : Nat × ByteArray => { tmps := #[.string s, undef, .slice none 0 0, .int .i64 0, .int .i64 0, .pointer (some ⟨w.heap.size, 0, none⟩), .pointer (some ⟨w.heap.size + 1, 0, none⟩), .int .i64 ((x.1 : Int) + 1), .string x.2, .string s, .func (.func 42) #[] #[.pointer (some ⟨w.heap.size + 2, 0, none⟩)], .int .i64 ((x.1 : Int) + 1), .string x.2, undef, undef, undef, undef, undef, undef, undef, undef, undef, undef, undef, undef, undef, undef, undef, undef, undef, undef], defers := [] })
    ?assign ?body ?done ?stop
  case assign =>
    intro l z W K hK
    gi_wp2
    exact hK
  case body =>
    rintro l pre x W ⟨⟨sl, slast, swant, stext, sopn⟩, lc, hrun, hpcs, hrd, hbox, hgood, hsz, hb, hsize⟩ ⟨hx1, r, hr⟩
    simp only at hpcs hrd
    subst hpcs
    have hlen := lens_at hr
    have hszx := hsz
    obtain ⟨z1, z2, z3, z4⟩ := hsz
    simp only at z1 z2 z3 z4
    have q1 : lc.length ≤ 4000000 := by simp [pcs] at z1; omega
    have q2 : x.2.size ≤ 4000000 := by omega
    have q3 : ∀ c ∈ lc, c.es.length ≤ 4000000 := fun c hc => by have := z2 (c.n, c.es) (List.mem_map.2 ⟨c, hc, rfl⟩); simp only at this; omega
    have hline := Rd.line x.2 hrd hgood q1 q2 q3 (by omega) (by omega)
    have HL := Lib.hid hline
    have HRUN := Lib.hid hrun
    have HBOX := Lib.hid hbox
    have HGOOD := Lib.hid hgood
    have HSZ := Lib.hid hszx
    have HB := Lib.hid hb
    have HSIZE := Lib.hid hsize
    have HX1 := Lib.hid hx1
    clear hline hrun hbox hgood hszx hb hsize hx1 hrd hr z1 z2 z3 z4 q1 q3 hlen
    gi_wp2_with (fail)
    refine ⟨trivial, ?_⟩
    refine (CallsIn.inRound l (callsIn_wide.2 HL.out)).mono ?_
    rintro e W2 ⟨b2, hm, k9⟩
    have hbox2 := k9.kc _ _ _ (.inr rfl) HBOX.out
    have c1 : W2.cell? ⟨w.heap.size + 1, 0, none⟩ = some (.int .i64 0) := by simp [World.cell?, hbox2]
    have f1 : W2.frozen? ⟨w.heap.size + 1, 0, none⟩ = false := Lib.frozen_of_heap hbox2 0
    have HBOX2 := Lib.hid hbox2
    have K9' := Lib.hid k9
    have B2 := Lib.hid b2
    clear hbox2 k9 b2
    cases hst : stepL ⟨pcs lc, slast, swant, stext, sopn⟩ (dl x.2) with
    | none =>
      rw [hst] at hm
      simp only at hm
      subst hm
      have HST := Lib.hid hst
      clear hst
      gi_wp2
      refine ⟨⟨by simpa using B2.out.size, fun k o hk ho hc => ?_⟩, rfl, ⟨pre, x, _, rfl, HX1.out, HRUN.out, HST.out⟩, ?_, (HB.out.trans B2.out).setCell (p := ⟨w.heap.size + 1, 0, none⟩) (by simp) _, ?_⟩
      · rw [Below.heap_setCell _ _ _ _ (by have := HS0.out; simp; omega)]
        exact K9'.out k o ho (fun cs t fz _ e => by subst e; cases hc)
      · have := heap_setCell_same W2 (w.heap.size + 1) 0 _ _ (.int .i64 ((x.1 : Int) + 1)) HBOX2.out
        have hx : ((pre ++ [x]).length : Int) = (x.1 : Int) + 1 := by rw [HX1.out]; simp
        rw [hx]
        simpa using this
      · have := B2.out.size
        have := HSIZE.out
        simp; omega
    | some st' =>
      rw [hst] at hm
      simp only at hm
      obtain ⟨rfl, l', hl', hrd'⟩ := hm
      have HST := Lib.hid hst
      have HRD' := Lib.hid hrd'
      have HL' := Lib.hid hl'
      clear hst hl' hrd'
      gi_wp2
      refine ⟨⟨B2.out.size, fun k o hk ho hc => K9'.out k o ho (fun cs t fz _ e => by subst e; cases hc)⟩, K9'.out.kc, st', l', ?_, HL'.out, HRD'.out, HBOX2.out, good_step HGOOD.out HST.out, ?_, HB.out.trans B2.out, Nat.le_trans HSIZE.out B2.out.size⟩
      · rw [List.map_append, List.map_singleton, runL_snoc, HRUN.out]; exact HST.out
      · rw [lens_snoc]; exact sz_step HSZ.out HST.out
  case done =>
    rintro Dd zs W hD hzs ⟨⟨sl, slast, swant, stext, sopn⟩, lc, hrun, hpcs, ⟨K, lv, tv, hrd⟩, hbox, hgood, hsz, hb, hsize⟩ hK
    simp only at hpcs hrd
    subst hpcs
    rw [hzs] at hrun
    have c1 : W.cell? ⟨w.heap.size + 1, 0, none⟩ = some (.int .i64 0) := by simp [World.cell?, hbox]
    have f1 : W.frozen? ⟨w.heap.size + 1, 0, none⟩ = false := Lib.frozen_of_heap hbox 0
    have hl : lc.length ≤ 4000000 := by
      have := hsz.l
      have h2 : lensP zs ≤ s.size := by rw [← len_flat_map, hzs, lines_flat, size_dl s]; exact Nat.le_refl _
      simp [pcs] at this
      omega
    have hdone := Rd.done ⟨K, lv, tv, hrd⟩ hl
    rw [doneOk_pcs lc swant slast stext sopn] at hdone
    have hc0 : W.cell? ⟨w.heap.size, 0, none⟩ = some lv := by simp [World.cell?, hrd.hd]
    obtain ⟨ga, gc, rfl⟩ := row_shape hrd.row
    have hcnt : ((lines (dl s)).length : Int) ≤ 4000000 := by have := lines_le (dl s); rw [← size_dl] at this; omega
    have HD := Lib.hid hdone
    have HRUN := Lib.hid hrun
    have HBOX := Lib.hid hbox
    have HB := Lib.hid hb
    have HK := Lib.hid hK
    have HRD := Lib.hid hrd
    clear hdone hrun hbox hb hK hrd hgood hsz hsize hl hzs
    cases hdn : doneP ⟨pcs lc, slast, swant, stext, sopn⟩
    · rw [hdn] at HD
      have HDN := Lib.hid hdn
      clear hdn
      gi_wp2_with (fail)
      refine ⟨trivial, ?_⟩
      refine (callsIn_wide.2 HD.out).mono ?_
      rintro e w2 ⟨rfl, rfl⟩
      gi_wp2_with (fail)
      refine ⟨trivial, ?_⟩
      refine (callsIn_wide.2 (Td.count s _ (by omega))).mono ?_
      rintro e w2 ⟨rfl, rfl⟩
      rw [show s.data.toList = dl s from rfl]
      gi_wp2_with (fail)
      have hq : ∀ n : Nat, ((w2.setCell ⟨w.heap.size + 1, 0, none⟩ (.int .i64 ((lines (dl s)).length + 1))).drewN n).cell? ⟨w.heap.size + 1, 0, none⟩ = some (.int .i64 ((lines (dl s)).length + 1)) := fun n => by
        have := heap_setCell_same w2 (w.heap.size + 1) 0 _ _ (.int .i64 ((lines (dl s)).length + 1)) HBOX.out
        simp [World.cell?, World.drewN, this]
      refine (wpIn_wide (n := 5)).2 ?_
      go_quiet (fail)
      gi_wp2
      rw [Exit.noGoto_ret]
      have hd2 : ((w2.setCell ⟨w.heap.size + 1, 0, none⟩ (.int .i64 ((lines (dl s)).length + 1))).drewN nq).heap[Dd]? = some (.deferred (some [])) := by
        show (w2.setCell ⟨w.heap.size + 1, 0, none⟩ (.int .i64 ((lines (dl s)).length + 1))).heap[Dd]? = _
        rw [Below.heap_setCell _ _ _ _ (by have := HS0.out; simp; omega)]
        exact HK.out
      refine ⟨by simp, .inl ⟨_, _, rfl, run_takeDeferred hd2, ?_⟩⟩
      refine ⟨.tuple #[.slice none 0 0, .int .i64 ((lines (dl s)).length + 1), .int .i64 240], by simp [results, Tryd.results13, go_sem], ?_⟩
      have hp : parseB (dl s) = .inl ((lines (dl s)).length + 1) := by unfold parseB; rw [HRUN.out]; simp only; rw [if_neg (by rw [HDN.out]; decide)]
      refine ⟨((HB.out.setCell (p := ⟨w.heap.size + 1, 0, none⟩) (by simp) (.int .i64 ((lines (dl s)).length + 1))).trans (c := (w2.setCell ⟨w.heap.size + 1, 0, none⟩ (.int .i64 ((lines (dl s)).length + 1))).drewN nq) ⟨rfl, rfl, rfl, Nat.le_refl _, fun _ _ => rfl⟩).trans (belowK_b (w := w) (Nat.le_refl _) _ Dd _ _ (by have := HS0.out; omega) hd2 rfl rfl), ?_⟩
      rw [hp]
      simp
    · rw [hdn] at HD
      have HDN := Lib.hid hdn
      clear hdn
      gi_wp2_with (fail)
      refine ⟨trivial, ?_⟩
      refine (callsIn_wide.2 HD.out).mono ?_
      rintro e w2 ⟨rfl, rfl⟩
      gi_wp2_with (fail)
      rw [Exit.noGoto_ret]
      refine ⟨by simp, .inl ⟨_, _, rfl, run_takeDeferred HK.out, ?_⟩⟩
      refine ⟨.tuple #[.slice ga lc.length gc, .int .i64 0, .int .i64 0], by simp [results, Tryd.results13, go_sem], ?_⟩
      have hp : parseB (dl s) = .inr ⟨pcs lc, slast, swant, stext, sopn⟩ := by unfold parseB; rw [HRUN.out]; simp only; rw [if_pos HDN.out]
      refine ⟨HB.out.trans (belowK_b (w := w) (Nat.le_refl _) w2 Dd _ _ (by have := HS0.out; omega) HK.out rfl rfl), ?_⟩
      rw [hp]
      refine ⟨K, _, tv, lc, rfl, rfl, HRD.out.nc (S := fun _ => True) ⟨rfl, rfl, rfl, by simp, fun k hk hn => World.putObj_heap_other (fun e => hn (by subst e; exact ⟨trivial, _, HK.out, rfl⟩))⟩⟩
  case stop =>
    rintro Dd c pre W hD ⟨r, hr⟩ ⟨rfl, ⟨m, x, st, rfl, hx1, hrun, hst⟩, hbox, hb, hsize⟩ hK
    have c1 : W.cell? ⟨w.heap.size + 1, 0, none⟩ = some (.int .i64 ((m ++ [x]).length : Nat)) := by simp [World.cell?, hbox]
    have f1 : W.frozen? ⟨w.heap.size + 1, 0, none⟩ = false := Lib.frozen_of_heap hbox 0
    have hw := wrong_at (m.map fun p => dl p.2) (dl x.2) r st0 st 0 hrun hst
    have hr' : lines (dl s) = m.map (fun p => dl p.2) ++ dl x.2 :: r := by rw [hr]; simp
    rw [← hr'] at hw
    have HW := Lib.hid hw
    have HB := Lib.hid hb
    have HK := Lib.hid hK
    obtain ⟨N, hN⟩ : ∃ N, N = (m ++ [x]).length := ⟨_, rfl⟩
    rw [← hN] at c1
    have hpos : (0 : Int) < (N : Int) := by rw [hN]; simp
    have hne : ((N : Int) == 0) = false := by rw [beq_eq_false_iff_ne]; omega
    have hbig : (N : Int) ≤ 4000000 := by
      have h2 := lines_le (dl s)
      rw [hr', List.length_append, List.length_cons, List.length_map, ← size_dl] at h2
      rw [hN]; simp; omega
    have HN := Lib.hid hN
    clear hw hb hK hr hr' hrun hst hbox hsize hN hx1
    gi_wp2_with (fail)
    refine ⟨trivial, ?_⟩
    gi_wp2_with (fail)
    refine (wpIn_wide (n := 5)).2 ?_
    go_quiet (fail)
    gi_wp2
    rw [Exit.noGoto_ret]
    have hd2 : (W.drewN nq).heap[Dd]? = some (.deferred (some [])) := HK.out
    refine ⟨by simp, .inl ⟨_, _, rfl, run_takeDeferred hd2, ?_⟩⟩
    refine ⟨.tuple #[.slice none 0 0, .int .i64 N, .int .i64 240], by simp [results, Tryd.results13, go_sem], ?_⟩
    have hp : parseB (dl s) = .inl N := by
      unfold parseB
      rw [HW.out.1]
      simp only
      rw [HW.out.2, HN.out]
      simp
    refine ⟨(HB.out.trans (c := W.drewN nq) ⟨rfl, rfl, rfl, Nat.le_refl _, fun _ _ => rfl⟩).trans (belowK_b (w := w) (Nat.le_refl _) _ Dd _ _ (by have := HS0.out; omega) hd2 rfl rfl), ?_⟩
    rw [hp]
end Go.Proofs.YtodjhgalbaelkaaDoor

/- The document's answer for told: Parse, the walk. Printed by wip/refparse_gen.py. -/
import Derived.Test.YtodjhgalbaelkaaDoorTrO
namespace Go.Proofs.YtodjhgalbaelkaaDoor
open Go.RowKit Go.BigFrame Go.Shelf
set_option linter.unusedVariables false

set_option maxRecDepth 100000 in
set_option maxHeartbeats 32000000 in
theorem Rf.parse (s : ByteArray) (w : World) (hs : s.size ≤ 4000000) : Calls Tryd.prog 14 #[.string s] w (RefPost s w) := by
  obtain ⟨i0, hi, hz0, hz1, hz2⟩ := info_parts info69
  obtain ⟨j0, hj, hy0, hy1, hy2⟩ := info_parts infoEdi
  have HI := Lib.hid hi
  have HZ0 := Lib.hid hz0
  have HZ1 := Lib.hid hz1
  have HZ2 := Lib.hid hz2
  have HJ := Lib.hid hj
  have HY0 := Lib.hid hy0
  have HY1 := Lib.hid hy1
  have HY2 := Lib.hid hy2
  clear hi hz0 hz1 hz2 hj hy0 hy1 hy2
  go_enter Tryd.func14, Tryd.ntmps14
  go_wp2_with fail
  refine (Rf.getL s w (by omega)).mono ?_
  rintro e w0 ⟨v, xs, rfl, hxs, hown, b0⟩
  obtain ⟨xa, xc, rfl⟩ := row_shape hown
  have hxl : xs.length ≤ 4000000 := by
    have h1 := lines_le (dl s)
    rw [← hxs, List.length_map, ← size_dl] at h1
    omega
  have HXS := Lib.hid hxs
  have HST : Hid (Rnd s w.heap.size 0 0 w.heap.size (.slice none 0 0) [] xs (.slice xa xs.length xc) w w0) := Lib.hid ⟨Sim.start s, RfC.start _ _ b0.size, hown, b0⟩
  clear hxs hown b0
  go_wp2_with fail
  go_loopw [6, 7, 8] (fun s6 s7 s8 wr => ∃ (lc : List Chg) (K i left : Nat), s7 = .int .i64 i ∧ s8 = .int .i64 left ∧ i ≤ xs.length ∧ Rnd s w.heap.size i left K s6 lc xs (.slice xa xs.length xc) w wr) (fun _ s7 _ _ => xs.length - (intOf s7).toNat)
  case atStart => exact ⟨[], w.heap.size, 0, 0, rfl, rfl, by omega, HST.out⟩
  case round =>
    obtain ⟨lc, K, i, left, rfl, rfl, hi, hrnd⟩ := hrel
    obtain ⟨ga, gc, rfl⟩ := row_shape hrnd.rf.row
    have hbd := hrnd.sim.bd
    have hll : lc.length ≤ 4000000 := by have := hbd.1; simp [pcs] at this; omega
    have hlf : left ≤ 65536 := hbd.2.2
    by_cases hlt : i < xs.length
    · as_aux_lemma =>
        obtain ⟨b, rfl, hcell⟩ : ∃ b, xa = some ⟨b, 0, none⟩ ∧ wr.cell? ⟨b, i, none⟩ = some (.string xs[i]) := by
          rcases hrnd.row.2 with ⟨_, h2⟩ | ⟨g, cap, cur, he, hb, hG, _⟩
          · omega
          · simp only [Value.slice.injEq] at he
            obtain ⟨rfl, -, rfl⟩ := he
            refine ⟨g, rfl, ?_⟩
            have h1 := hrnd.row
            rw [h1.cellAt i (by omega), List.getElem?_map, List.getElem?_eq_getElem hlt]; rfl
        have hil : i < (lines (dl s)).length := by rw [← HXS.out, List.length_map]; exact hlt
        have hti : (lines (dl s))[i] = dl xs[i] := by simp [← HXS.out]
        have hmem : dl xs[i] ∈ lines (dl s) := by rw [← hti]; exact List.getElem_mem hil
        have ht1 : 1 ≤ xs[i].size := by
          have h1 := line_ne hmem
          have h2 := List.length_pos_iff.2 h1
          rw [size_dl]; omega
        have ht2 : xs[i].size ≤ 4000000 := by have h1 := line_in hmem; rw [← size_dl, ← size_dl] at h1; omega
        have HTI : Hid (∃ h : i < (lines (dl s)).length, (lines (dl s))[i] = dl xs[i]) := Lib.hid ⟨hil, hti⟩
        have HR := Lib.hid hrnd
        clear hil hti hmem hrnd hbd
        generalize xs[i] = t at *
        have w1' : IntKind.i64.wrap ((t.size : Int) - 1) = (t.size : Int) - 1 := IntWalk.i64_in _ (by omega)
        have w2' : (0 : Int) ≤ (t.size : Int) - 1 := by omega
        have w3' : (t.size : Int) - 1 < (t.size : Int) := by omega
        have w4' : ((t.size : Int) - 1).toNat = t.size - 1 := by omega
        have w5' : t.size - 1 < t.size := by omega
        by_cases h10 : (t[t.size - 1]'w5').toNat = 10
        · have hdt := end_of ht1 w5' h10
          have h10' : (((t[t.size - 1]'w5').toNat : Int) == 10) = true := by rw [beq_iff_eq]; omega
          have hus := ext_size (t := t)
          obtain ⟨u, hu⟩ : ∃ u, u = t.extract 0 (t.size - 1) := ⟨_, rfl⟩
          rw [← hu] at hdt hus
          have HU := Lib.hid hu
          have HDT := Lib.hid hdt
          have HUS := Lib.hid hus
          have hu4 : u.size ≤ 4000000 := by omega
          clear hu hdt hus h10
          rcases last_cases lc with rfl | ⟨d, c, rfl⟩
          · as_aux_lemma =>
              go_upto_if 56 with fail
              rw [← HU.out]
              go_cut [9, 10, 11, 12, 13] (fun s9 s10 s11 s12 s13 wx => s9 = .string u ∧ s10 = .int .i64 u.size ∧ s11 = .int .i64 (-1) ∧ s12 = .int .i64 (-1) ∧ s13 = .int .u8 (fst8 u) ∧ wx = wr)
              case first =>
                as_aux_lemma =>
                  by_cases hu0 : 0 < u.size
                  · have k0 : (0 : Int) < (t.size : Int) - 1 := by have := HUS.out; omega
                    have k0' : (0 : Int) < (u.size : Int) := by omega
                    have k1 : decide ((0 : Int) < (t.size : Int) - 1) = true := decide_eq_true k0
                    go_wp2_with fail
                    go_meet
                    exact ⟨rfl, by rw [congrArg (Value.int .i64) (show ((t.size : Int) - 1) = (u.size : Int) by have := HUS.out; omega)], by go_num, by go_num, by rw [fst8_pos hu0], rfl⟩
                  · have k0 : ¬ (0 : Int) < (t.size : Int) - 1 := by have := HUS.out; omega
                    have k1 : decide ((0 : Int) < (t.size : Int) - 1) = false := decide_eq_false k0
                    go_wp2_with fail
                    go_meet
                    exact ⟨rfl, by rw [congrArg (Value.int .i64) (show ((t.size : Int) - 1) = (u.size : Int) by have := HUS.out; omega)], by go_num, by go_num, by rw [fst8_nil hu0]; rfl, rfl⟩
              case rest =>
                as_aux_lemma =>
                  obtain ⟨rfl, rfl, rfl, rfl, rfl, hwx⟩ := hcut
                  subst wc
                  obtain ⟨f, hf⟩ : ∃ f, f = fst8 u := ⟨_, rfl⟩
                  rw [← hf]
                  have HF := Lib.hid hf
                  clear hf
                  have HL0 : Hid (left = 0) := Lib.hid (sim_zero HR.out.sim (by intro d c h; simp [pcs] at h))
                  have hl0 : ¬ (0 : Int) < (left : Int) := by have := HL0.out; omega
                  have hl0d : decide (0 < left) = false := decide_eq_false (by have := HL0.out; omega)
                  by_cases c61 : f = 61
                  · as_aux_lemma =>
                      have h0 : (dl u)[0]? = some 61 := (fst8_is (b := 61) (by decide)).1 (by rw [← HF.out]; exact c61)
                      have d61 : ((f : Int) == 61) = true := by rw [beq_iff_eq]; omega
                      have H0 := Lib.hid h0
                      clear h0 c61
                      by_cases c3 : u.size < 3
                      · have d3 : (u.size : Int) < 3 := by omega
                        as_aux_lemma =>
                          go_wp2_with fail
                          refine bodyPost_ret (v := .tuple #[.slice none 0 0, .int .i64 ((i : Int) + 1), .int .i64 240]) (by simp [results, Tryd.results14, go_sem]) rfl ?_
                          exact sim_bad HR.out.sim HTI.out (by rw [HDT.out]; exact (rStep_zero HL0.out).trans (rz_short H0.out (by rw [← size_dl]; exact c3))) (HR.out.bel)
                      · have d3 : ¬ (u.size : Int) < 3 := by omega
                        have d3d : decide (u.size < 3) = false := decide_eq_false c3
                        have d3e : decide ((u.size : Int) < 3) = false := decide_eq_false d3
                        have hu1 : 1 < u.size := by omega
                        by_cases c32 : (u[1]'hu1).toNat = 32
                        · as_aux_lemma =>
                            have d32 : (((u[1]'hu1).toNat : Int) == 32) = true := by rw [beq_iff_eq]; omega
                            have H1 : Hid ((dl u)[1]? = some 32) := Lib.hid (by rw [dl_one hu1, Option.some.injEq]; exact UInt8.toNat_inj.1 c32)
                            obtain ⟨v, hv⟩ : ∃ v, v = u.extract 2 u.size := ⟨_, rfl⟩
                            have hvs : v.size ≤ 4000000 := by rw [hv]; simp; omega
                            have HDV := Lib.hid (drop_dl hv)
                            have HV := Lib.hid hv
                            clear hv c32
                            go_wp2_with fail
                            rw [← HV.out]
                            refine (Rf.names v wr (by omega)).mono ?_
                            rintro e w1 ⟨⟨x, rfl⟩, b1⟩
                            have B1 := Lib.hid b1
                            clear b1
                            cases hp : isPath (dl v)
                            · have HP := Lib.hid hp
                              clear hp
                              go_wp2_with fail
                              refine wp_region_quiet (C := fun w' => ∃ eu : Ext w1, w' = eu.w) (by kernel_rfl) (by kernel_rfl) (Ext.drew w1) ?_
                              dsimp only []
                              repeat (go_big_quiet_step (fail))
                              refine wpQuiet_nil ?_
                              rintro w' ⟨eu, rfl⟩
                              have HEU := Lib.hid eu.below
                              generalize eu.w = uw at *
                              clear eu
                              as_aux_lemma =>
                                go_wp2_with fail
                                refine bodyPost_ret (v := .tuple #[.slice none 0 0, .int .i64 ((i : Int) + 1), .int .i64 240]) (by simp [results, Tryd.results14, go_sem]) rfl ?_
                                exact sim_bad HR.out.sim HTI.out (by rw [HDT.out]; exact (rStep_zero HL0.out).trans (rz_head H0.out H1.out (by rw [← HDV.out]; unfold headOkP; rw [HP.out, Bool.and_false]))) ((HR.out.bel.trans (B1.out.mono HR.out.bel.size)).trans (HEU.out.mono (HR.out.bel.trans (B1.out.mono HR.out.bel.size)).size))
                            · have HOK : Hid (headOkP (pcs ([] : List Chg)) (dl v) = true) := Lib.hid (by unfold headOkP; rw [hp]; rfl)
                              clear hp
                              go_wp2_with fail
                              refine wp_region_quiet (C := fun w' => ∃ eu : Ext w1, w' = eu.w) (by kernel_rfl) (by kernel_rfl) (Ext.drew w1) ?_
                              dsimp only []
                              repeat (go_big_quiet_step (fail))
                              refine wpQuiet_nil ?_
                              rintro w' ⟨eu, rfl⟩
                              have HEU := Lib.hid eu.below
                              generalize eu.w = uw at *
                              clear eu
                              as_aux_lemma =>
                                obtain ⟨W, hW⟩ : ∃ W, W = uw.alloc (.cells #[.string v, .slice none 0 0] 69) := ⟨_, rfl⟩
                                have hbW : Below uw.heap.size uw W := by rw [hW]; exact below_alloc _ _
                                have hlit : W.heap[uw.heap.size]? = some (.cells #[.string v, .slice none 0 0] 69 (0, 0)) := by rw [hW]; exact heap_alloc_new _ _
                                have hbel : Below wr.heap.size wr W := (B1.out.trans (HEU.out.mono B1.out.size)).trans (hbW.mono (B1.out.trans (HEU.out.mono B1.out.size)).size)
                                have hown1 : W.ownsRow w.heap.size 69 2 (.slice ga 0 gc) 0 (([] : List Chg).flatMap Chg.f) := by simpa using (HR.out.rf.on hbel).row
                                have hWs : w.heap.size ≤ W.heap.size := by have := HR.out.bel.size; have := hbel.size; omega
                                have HW := Lib.hid hW
                                have HLIT := Lib.hid hlit
                                have HOWN1 := Lib.hid hown1
                                have HBEL := Lib.hid hbel
                                clear hW hbW hlit hbel hown1
                                go_wp2_with (at_builtin; rw [← HV.out, ← HW.out]; refine wpList_append_own _ rfl _ _ 36 rfl w.heap.size 69 i0 (.agg #[.string ⟨#[]⟩, .slice none 0 0]) 2 40 Tryd.underlying36 HI.out HZ0.out HZ1.out HZ2.out rfl (by decide) _ (0) _ rfl HOWN1.out ⟨uw.heap.size, 0, none⟩ 1 1 [.string v, .slice none 0 0] rfl rfl ?c1 ?c2 ?c3 ?c4 ?c5 ?_)
                                case c1 => intro k x hx; rw [addr_add]; exact (CellsAt.of_heap HLIT.out) k x (by simpa using hx)
                                case c2 => intro x hx; simp at hx; rcases hx with rfl | rfl <;> rfl
                                case c3 => unfold maxLen; omega
                                case c4 => omega
                                case c5 => exact hWs
                                intro v' w6 hown' hgrow _
                                obtain ⟨a', c', rfl⟩ := row_shape hown'
                                have HRN : Hid (Rnd s w.heap.size (i + 1) left w6.heap.size (.slice a' (0 + 1) c') (([] : List Chg) ++ [(⟨v, none, 0, []⟩ : Chg)]) xs (.slice (some ⟨b, 0, none⟩) xs.length xc) w w6) := Lib.hid (HR.out.push HTI.out HDT.out HL0.out HDV.out (rz_push H0.out H1.out (HDV.out ▸ HOK.out)) HBEL.out hgrow (by simpa using hown'))
                                clear hown' hgrow
                                go_wp2_with fail
                                go_roundw
                                case rel => exact ⟨([] : List Chg) ++ [(⟨v, none, 0, []⟩ : Chg)], w6.heap.size, i + 1, left, by go_num, rfl, by omega, by simpa using HRN.out⟩
                                case measure => simp [intOf]; omega
                        · as_aux_lemma =>
                            have d32 : (((u[1]'hu1).toNat : Int) == 32) = false := by rw [beq_eq_false_iff_ne]; omega
                            have H1 : Hid ((dl u)[1]? ≠ some 32) := Lib.hid (by rw [dl_one hu1]; intro h; simp only [Option.some.injEq] at h; apply c32; rw [h]; rfl)
                            clear c32
                            as_aux_lemma =>
                              go_wp2_with fail
                              refine bodyPost_ret (v := .tuple #[.slice none 0 0, .int .i64 ((i : Int) + 1), .int .i64 240]) (by simp [results, Tryd.results14, go_sem]) rfl ?_
                              exact sim_bad HR.out.sim HTI.out (by rw [HDT.out]; exact (rStep_zero HL0.out).trans (rz_noblank (.inl H0.out) H1.out)) (HR.out.bel)
                  · as_aux_lemma =>
                      have d61 : ((f : Int) == 61) = false := by rw [beq_eq_false_iff_ne]; omega
                      by_cases c64 : f = 64
                      · as_aux_lemma =>
                          have H0 : Hid ((dl u)[0]? = some 64) := Lib.hid ((fst8_is (b := 64) (by decide)).1 (by rw [← HF.out]; exact c64))
                          have d64 : ((f : Int) == 64) = true := by rw [beq_iff_eq]; omega
                          clear c64 c61
                          have e45 : (u.toList == [45]) = false := by rw [beq_eq_false_iff_ne]; intro h; rw [Lib.toList_data] at h; have := H0.out; rw [show dl u = [45] from h] at this; simp at this
                          as_aux_lemma =>
                            go_wp2_with fail
                            refine bodyPost_ret (v := .tuple #[.slice none 0 0, .int .i64 ((i : Int) + 1), .int .i64 240]) (by simp [results, Tryd.results14, go_sem]) rfl ?_
                            exact sim_bad HR.out.sim HTI.out (by rw [HDT.out]; exact (rStep_zero HL0.out).trans (rz_at_none H0.out)) (HR.out.bel)
                      · as_aux_lemma =>
                          have N61 : Hid ((dl u)[0]? ≠ some 61) := Lib.hid (fun h => c61 (by rw [HF.out]; exact (fst8_is (b := 61) (by decide)).2 h))
                          have N64 : Hid ((dl u)[0]? ≠ some 64) := Lib.hid (fun h => c64 (by rw [HF.out]; exact (fst8_is (b := 64) (by decide)).2 h))
                          have d64 : ((f : Int) == 64) = false := by rw [beq_eq_false_iff_ne]; omega
                          clear c61 c64
                          by_cases cu : dl u = [45]
                          · as_aux_lemma =>
                              have e45 : (u.toList == [45]) = true := by rw [beq_iff_eq, Lib.toList_data]; exact cu
                              have NU := Lib.hid cu
                              clear cu
                              as_aux_lemma =>
                                go_wp2_with fail
                                refine bodyPost_ret (v := .tuple #[.slice none 0 0, .int .i64 ((i : Int) + 1), .int .i64 240]) (by simp [results, Tryd.results14, go_sem]) rfl ?_
                                exact sim_bad HR.out.sim HTI.out (by rw [HDT.out]; exact (rStep_zero HL0.out).trans (by rw [rz_other N61.out N64.out, if_neg (by rintro ⟨_, h, _⟩; simp [pcs, hasE] at h)])) (HR.out.bel)
                          · as_aux_lemma =>
                              have e45 : (u.toList == [45]) = false := by rw [beq_eq_false_iff_ne]; intro h; rw [Lib.toList_data] at h; exact cu h
                              have NU := Lib.hid cu
                              clear cu
                              as_aux_lemma =>
                                go_wp2_with fail
                                refine bodyPost_ret (v := .tuple #[.slice none 0 0, .int .i64 ((i : Int) + 1), .int .i64 240]) (by simp [results, Tryd.results14, go_sem]) rfl ?_
                                exact sim_bad HR.out.sim HTI.out (by rw [HDT.out]; exact (rStep_zero HL0.out).trans (by rw [rz_other N61.out N64.out, if_neg (by rintro ⟨h, _⟩; exact NU.out h)])) (HR.out.bel)
          · as_aux_lemma =>
              have hrf := HR.out.rf
              obtain ⟨G, cap, curG, hGs, hBG, hGh, hG0, hG1⟩ := hrf.last
              rw [show (d ++ [c]).length = d.length + 1 from by simp] at hGs
              simp only [Value.slice.injEq] at hGs
              obtain ⟨rfl, -, rfl⟩ := hGs
              have hdl : d.length ≤ 4000000 := by rw [List.length_append, List.length_singleton] at hll; omega
              have hdl0 : (0 : Int) ≤ (d.length : Int) := by omega
              have HGL : Hid (G < wr.heap.size) := Lib.hid (Array.getElem?_eq_some_iff.1 hGh).1
              have hel : c.es.length ≤ 4000000 := by
                have h1 := HR.out.sim.bd.2.1 (c.n, c.es) (by rw [pcs_push]; simp)
                simp only at h1
                omega
              have HR' : Hid (Rnd s w.heap.size i left K (.slice (some ⟨G, 0, none⟩) (d.length + 1) gc) (d ++ [c]) xs (.slice (some ⟨b, 0, none⟩) xs.length xc) w wr) := Lib.hid (by
                have h := HR.out
                rw [show (d ++ [c]).length = d.length + 1 from by simp] at h
                exact h)
              clear HR
              have HR := Lib.hid HR'.out
              clear HR'
              obtain ⟨n, ea, ec, es⟩ := c
              unfold Chg.ev at hG1
              simp only at hG0 hG1 hel
              rcases List.eq_nil_or_concat es with rfl | ⟨es0, y, rfl⟩
              · as_aux_lemma =>
                  have r0 : wr.cell? ⟨G, d.length * 2 + 1, none⟩ = some (.slice ea 0 ec) := hG1
                  have HG0 := Lib.hid hG0
                  have HGH := Lib.hid hGh
                  clear hrf hBG hGh hG0 hG1 hel hll
                  go_upto_if 56 with fail
                  rw [← HU.out]
                  go_cut [9, 10, 11, 12, 13] (fun s9 s10 s11 s12 s13 wx => s9 = .string u ∧ s10 = .int .i64 u.size ∧ s11 = .int .i64 ((d.length : Int)) ∧ s12 = .int .i64 (-1) ∧ s13 = .int .u8 (fst8 u) ∧ wx = wr)
                  case first =>
                    as_aux_lemma =>
                      by_cases hu0 : 0 < u.size
                      · have k0 : (0 : Int) < (t.size : Int) - 1 := by have := HUS.out; omega
                        have k0' : (0 : Int) < (u.size : Int) := by omega
                        have k1 : decide ((0 : Int) < (t.size : Int) - 1) = true := decide_eq_true k0
                        go_wp2_with fail
                        go_meet
                        exact ⟨rfl, by rw [congrArg (Value.int .i64) (show ((t.size : Int) - 1) = (u.size : Int) by have := HUS.out; omega)], by go_num, by go_num, by rw [fst8_pos hu0], rfl⟩
                      · have k0 : ¬ (0 : Int) < (t.size : Int) - 1 := by have := HUS.out; omega
                        have k1 : decide ((0 : Int) < (t.size : Int) - 1) = false := decide_eq_false k0
                        go_wp2_with fail
                        go_meet
                        exact ⟨rfl, by rw [congrArg (Value.int .i64) (show ((t.size : Int) - 1) = (u.size : Int) by have := HUS.out; omega)], by go_num, by go_num, by rw [fst8_nil hu0]; rfl, rfl⟩
                  case rest =>
                    as_aux_lemma =>
                      obtain ⟨rfl, rfl, rfl, rfl, rfl, hwx⟩ := hcut
                      subst wc
                      obtain ⟨f, hf⟩ : ∃ f, f = fst8 u := ⟨_, rfl⟩
                      rw [← hf]
                      have HF := Lib.hid hf
                      clear hf
                      have HL0 : Hid (left = 0) := Lib.hid (sim_zero HR.out.sim (by intro d' c' h; rw [pcs_push] at h; obtain ⟨_, h2⟩ := List.append_inj' h rfl; simp at h2; rw [← h2]))
                      have hl0 : ¬ (0 : Int) < (left : Int) := by have := HL0.out; omega
                      have hl0d : decide (0 < left) = false := decide_eq_false (by have := HL0.out; omega)
                      by_cases c61 : f = 61
                      · as_aux_lemma =>
                          have h0 : (dl u)[0]? = some 61 := (fst8_is (b := 61) (by decide)).1 (by rw [← HF.out]; exact c61)
                          have d61 : ((f : Int) == 61) = true := by rw [beq_iff_eq]; omega
                          have H0 := Lib.hid h0
                          clear h0 c61
                          as_aux_lemma =>
                            go_wp2_with fail
                            refine bodyPost_ret (v := .tuple #[.slice none 0 0, .int .i64 ((i : Int) + 1), .int .i64 240]) (by simp [results, Tryd.results14, go_sem]) rfl ?_
                            exact sim_bad HR.out.sim HTI.out (by rw [HDT.out]; exact (rStep_zero HL0.out).trans (by rw [pcs_push]; exact rz_noedits H0.out)) (HR.out.bel)
                      · as_aux_lemma =>
                          have d61 : ((f : Int) == 61) = false := by rw [beq_eq_false_iff_ne]; omega
                          by_cases c64 : f = 64
                          · as_aux_lemma =>
                              have H0 : Hid ((dl u)[0]? = some 64) := Lib.hid ((fst8_is (b := 64) (by decide)).1 (by rw [← HF.out]; exact c64))
                              have d64 : ((f : Int) == 64) = true := by rw [beq_iff_eq]; omega
                              clear c64 c61
                              have e45 : (u.toList == [45]) = false := by rw [beq_eq_false_iff_ne]; intro h; rw [Lib.toList_data] at h; have := H0.out; rw [show dl u = [45] from h] at this; simp at this
                              by_cases c2 : u.size ≤ 2
                              · have d2 : ¬ (2 : Int) < (u.size : Int) := by omega
                                have d2d : decide (2 < u.size) = false := decide_eq_false (by omega)
                                have d2e : decide ((2 : Int) < (u.size : Int)) = false := decide_eq_false d2
                                as_aux_lemma =>
                                  go_wp2_with fail
                                  refine bodyPost_ret (v := .tuple #[.slice none 0 0, .int .i64 ((i : Int) + 1), .int .i64 240]) (by simp [results, Tryd.results14, go_sem]) rfl ?_
                                  exact sim_bad HR.out.sim HTI.out (by rw [HDT.out]; exact (rStep_zero HL0.out).trans (rz_at_short H0.out (by rw [← size_dl]; exact c2))) (HR.out.bel)
                              · have d2 : (2 : Int) < (u.size : Int) := by omega
                                have hu1 : 1 < u.size := by omega
                                by_cases c32 : (u[1]'hu1).toNat = 32
                                · as_aux_lemma =>
                                    have d32 : (((u[1]'hu1).toNat : Int) == 32) = true := by rw [beq_iff_eq]; omega
                                    have H1 : Hid ((dl u)[1]? = some 32) := Lib.hid (by rw [dl_one hu1, Option.some.injEq]; exact UInt8.toNat_inj.1 c32)
                                    obtain ⟨v, hv⟩ : ∃ v, v = u.extract 2 u.size := ⟨_, rfl⟩
                                    have hvs : v.size ≤ 4000000 := by rw [hv]; simp; omega
                                    have HDV := Lib.hid (drop_dl hv)
                                    have HV := Lib.hid hv
                                    clear hv c32
                                    go_wp2_with fail
                                    rw [← HV.out]
                                    refine (Rf.three v wr (by omega)).mono ?_
                                    rintro e w1 ⟨qa, qb, qc, is, rfl, ⟨qa0, qa1⟩, ⟨qb0, qb1⟩, ⟨qc0, qc1⟩, hthr, b1⟩
                                    have B1 := Lib.hid b1
                                    have HTHR := Lib.hid hthr
                                    clear b1 hthr
                                    obtain ⟨WX, hWX⟩ : ∃ WX, WX = (w1.alloc (.cells #[.int .i64 qa, .int .i64 qb, .int .i64 qc] 82)).alloc (.cells #[.int .i64 (qa - 1), .int .i64 (qa - 1 + qb), .string ⟨#[]⟩] 50) := ⟨_, rfl⟩
                                    have hbx : Below wr.heap.size wr WX := by rw [hWX]; exact (B1.out.alloc B1.out.size _).alloc (by have := B1.out.size; simp; omega) _
                                    have hx82 : WX.heap[w1.heap.size]? = some (.cells #[.int .i64 qa, .int .i64 qb, .int .i64 qc] 82 (0, 0)) := by
                                      rw [hWX, Lib.alloc_old _ _ _ (by simp)]
                                      exact heap_alloc_new _ _
                                    have hx50 : WX.heap[w1.heap.size + 1]? = some (.cells #[.int .i64 (qa - 1), .int .i64 (qa - 1 + qb), .string ⟨#[]⟩] 50 (0, 0)) := by
                                      rw [hWX]
                                      have := heap_alloc_new (w1.alloc (.cells #[.int .i64 qa, .int .i64 qb, .int .i64 qc] 82)) (.cells #[.int .i64 (qa - 1), .int .i64 (qa - 1 + qb), .string ⟨#[]⟩] 50)
                                      simpa using this
                                    have e0 : ∀ eu : Ext WX, eu.w.cell? ⟨w1.heap.size, 0, none⟩ = some (.int .i64 qa) := fun eu => eu.cell (by simp [World.cell?, hx82])
                                    have e1 : ∀ eu : Ext WX, eu.w.cell? ⟨w1.heap.size, 1, none⟩ = some (.int .i64 qb) := fun eu => eu.cell (by simp [World.cell?, hx82])
                                    have e2 : ∀ eu : Ext WX, eu.w.cell? ⟨w1.heap.size, 2, none⟩ = some (.int .i64 qc) := fun eu => eu.cell (by simp [World.cell?, hx82])
                                    have m0 : ∀ eu : Ext WX, eu.w.cell? ⟨w1.heap.size + 1, 0, none⟩ = some (.int .i64 (qa - 1)) := fun eu => eu.cell (by simp [World.cell?, hx50])
                                    have m1 : ∀ eu : Ext WX, eu.w.cell? ⟨w1.heap.size + 1, 1, none⟩ = some (.int .i64 (qa - 1 + qb)) := fun eu => eu.cell (by simp [World.cell?, hx50])
                                    have r0x : ∀ eu : Ext WX, eu.w.cell? ⟨G, d.length * 2 + 1, none⟩ = some (.slice ea 0 ec) := fun eu => eu.cell (by rw [hbx.cell (by exact HGL.out)]; exact r0)
                                    have HBX := Lib.hid hbx
                                    have H82 := Lib.hid hx82
                                    have H50 := Lib.hid hx50
                                    have HWX := Lib.hid hWX
                                    clear hbx hx82 hx50 hWX r0
                                    go_wp2_with fail
                                    rw [← HWX.out]
                                    cases is
                                    · as_aux_lemma =>
                                        have HT : Hid (thrE 3 [] (dl v) = none) := Lib.hid (by rw [HTHR.out]; rfl)
                                        refine wp_region_quiet (C := fun w' => ∃ eu : Ext WX, w' = eu.w) (by kernel_rfl) (by kernel_rfl) (Ext.drew WX) ?_
                                        dsimp only []
                                        repeat (go_big_quiet_step (fail))
                                        refine wpQuiet_nil ?_
                                        rintro w' ⟨eu, rfl⟩
                                        have HEU := Lib.hid eu.below
                                        clear e0 e1 e2 m0 m1 r0x
                                        generalize eu.w = uw at *
                                        clear eu
                                        go_wp2_with fail
                                        refine bodyPost_ret (v := .tuple #[.slice none 0 0, .int .i64 ((i : Int) + 1), .int .i64 240]) (by simp [results, Tryd.results14, go_sem]) rfl ?_
                                        exact sim_bad HR.out.sim HTI.out (by rw [HDT.out]; exact (rStep_zero HL0.out).trans (by rw [pcs_edit, rz_at H0.out H1.out, ← HDV.out, HT.out]; exact ediR_none)) ((HR.out.bel.trans (HBX.out.mono HR.out.bel.size)).trans (HEU.out.mono (HR.out.bel.trans (HBX.out.mono HR.out.bel.size)).size))
                                    · have HT : Hid (thrE 3 [] (dl v) = some [qa, qb, qc]) := Lib.hid (by rw [HTHR.out]; rfl)
                                      obtain ⟨pa, pb, pc⟩ := thr_pos HT.out
                                      by_cases c1 : qa < 1
                                      · as_aux_lemma =>
                                          refine wp_region_quiet (C := fun w' => ∃ eu : Ext WX, w' = eu.w) (by kernel_rfl) (by kernel_rfl) (Ext.drew WX) ?_
                                          dsimp only []
                                          repeat (go_big_quiet_step (fail))
                                          refine wpQuiet_nil ?_
                                          rintro w' ⟨eu, rfl⟩
                                          have HEU := Lib.hid eu.below
                                          clear e0 e1 e2 m0 m1 r0x
                                          generalize eu.w = uw at *
                                          clear eu
                                          go_wp2_with fail
                                          refine bodyPost_ret (v := .tuple #[.slice none 0 0, .int .i64 ((i : Int) + 1), .int .i64 240]) (by simp [results, Tryd.results14, go_sem]) rfl ?_
                                          exact sim_bad HR.out.sim HTI.out (by rw [HDT.out]; exact (rStep_zero HL0.out).trans (by rw [pcs_edit, rz_at H0.out H1.out, ← HDV.out, HT.out]; exact ediR_no (.inl c1))) ((HR.out.bel.trans (HBX.out.mono HR.out.bel.size)).trans (HEU.out.mono (HR.out.bel.trans (HBX.out.mono HR.out.bel.size)).size))
                                      · have c1d : decide (qa < 1) = false := decide_eq_false c1
                                        by_cases c2' : 65536 < qa - 1 + qb
                                        · as_aux_lemma =>
                                            refine wp_region_quiet (C := fun w' => ∃ eu : Ext WX, w' = eu.w) (by kernel_rfl) (by kernel_rfl) (Ext.drew WX) ?_
                                            dsimp only []
                                            repeat (go_big_quiet_step (fail))
                                            refine wpQuiet_nil ?_
                                            rintro w' ⟨eu, rfl⟩
                                            have HEU := Lib.hid eu.below
                                            clear e0 e1 e2 m0 m1 r0x
                                            generalize eu.w = uw at *
                                            clear eu
                                            go_wp2_with fail
                                            refine bodyPost_ret (v := .tuple #[.slice none 0 0, .int .i64 ((i : Int) + 1), .int .i64 240]) (by simp [results, Tryd.results14, go_sem]) rfl ?_
                                            exact sim_bad HR.out.sim HTI.out (by rw [HDT.out]; exact (rStep_zero HL0.out).trans (by rw [pcs_edit, rz_at H0.out H1.out, ← HDV.out, HT.out]; exact ediR_no (.inr (.inl c2')))) ((HR.out.bel.trans (HBX.out.mono HR.out.bel.size)).trans (HEU.out.mono (HR.out.bel.trans (HBX.out.mono HR.out.bel.size)).size))
                                        · have c2d : decide (65536 < qa - 1 + qb) = false := decide_eq_false c2'
                                          by_cases c3 : 65536 < qc
                                          · as_aux_lemma =>
                                              refine wp_region_quiet (C := fun w' => ∃ eu : Ext WX, w' = eu.w) (by kernel_rfl) (by kernel_rfl) (Ext.drew WX) ?_
                                              dsimp only []
                                              repeat (go_big_quiet_step (fail))
                                              refine wpQuiet_nil ?_
                                              rintro w' ⟨eu, rfl⟩
                                              have HEU := Lib.hid eu.below
                                              clear e0 e1 e2 m0 m1 r0x
                                              generalize eu.w = uw at *
                                              clear eu
                                              go_wp2_with fail
                                              refine bodyPost_ret (v := .tuple #[.slice none 0 0, .int .i64 ((i : Int) + 1), .int .i64 240]) (by simp [results, Tryd.results14, go_sem]) rfl ?_
                                              exact sim_bad HR.out.sim HTI.out (by rw [HDT.out]; exact (rStep_zero HL0.out).trans (by rw [pcs_edit, rz_at H0.out H1.out, ← HDV.out, HT.out]; exact ediR_no (.inr (.inr (.inl c3))))) ((HR.out.bel.trans (HBX.out.mono HR.out.bel.size)).trans (HEU.out.mono (HR.out.bel.trans (HBX.out.mono HR.out.bel.size)).size))
                                          · have c3d : decide (65536 < qc) = false := decide_eq_false c3
                                            by_cases c4 : qb + qc = 0
                                            · have c4b : (qb + qc == 0) = true := by rw [beq_iff_eq]; exact c4
                                              have HC4 := Lib.hid c4
                                              clear c4
                                              as_aux_lemma =>
                                                refine wp_region_quiet (C := fun w' => ∃ eu : Ext WX, w' = eu.w) (by kernel_rfl) (by kernel_rfl) (Ext.drew WX) ?_
                                                dsimp only []
                                                repeat (go_big_quiet_step (fail))
                                                refine wpQuiet_nil ?_
                                                rintro w' ⟨eu, rfl⟩
                                                have HEU := Lib.hid eu.below
                                                clear e0 e1 e2 m0 m1 r0x
                                                generalize eu.w = uw at *
                                                clear eu
                                                go_wp2_with fail
                                                refine bodyPost_ret (v := .tuple #[.slice none 0 0, .int .i64 ((i : Int) + 1), .int .i64 240]) (by simp [results, Tryd.results14, go_sem]) rfl ?_
                                                exact sim_bad HR.out.sim HTI.out (by rw [HDT.out]; exact (rStep_zero HL0.out).trans (by rw [pcs_edit, rz_at H0.out H1.out, ← HDV.out, HT.out]; exact ediR_no (.inr (.inr (.inr (.inl HC4.out)))))) ((HR.out.bel.trans (HBX.out.mono HR.out.bel.size)).trans (HEU.out.mono (HR.out.bel.trans (HBX.out.mono HR.out.bel.size)).size))
                                            · have c4b : (qb + qc == 0) = false := by rw [beq_eq_false_iff_ne]; exact c4
                                              have HYES : Hid (ediR (pcs d ++ [(n, [])]) (some [qa, qb, qc]) = some (pcs d ++ [(n, [] ++ [⟨qa - 1, qa - 1 + qb, ⟨#[]⟩⟩])], qc.toNat)) := Lib.hid (ediR_yes (by omega) (by omega) (by omega) (by omega) (by intro x hx; simp at hx))
                                              as_aux_lemma =>
                                                refine wp_region_quiet (C := fun w' => ∃ eu : Ext WX, w' = eu.w) (by kernel_rfl) (by kernel_rfl) (Ext.drew WX) ?_
                                                dsimp only []
                                                repeat (go_big_quiet_step (fail))
                                                refine wpQuiet_nil ?_
                                                rintro w' ⟨eu, rfl⟩
                                                have HEU := Lib.hid eu.below
                                                clear e0 e1 e2 m0 m1 r0x
                                                have x82 := heap_below eu.below H82.out (Array.getElem?_eq_some_iff.1 H82.out).1
                                                have x50 := heap_below eu.below H50.out (Array.getElem?_eq_some_iff.1 H50.out).1
                                                generalize eu.w = uw at *
                                                clear eu
                                                have hbu : Below wr.heap.size wr uw := HBX.out.trans (HEU.out.mono HBX.out.size)
                                                have hru := HR.out.rf.on hbu
                                                have hnew := HR.out.rf.new ⟨n, ea, ec, []⟩ (by simp)
                                                have hqn : (⟨n, ea, ec, []⟩ : Chg).ev.ownBlock ≠ some (w1.heap.size + 1) := fun e => by have := ev_block hnew _ e; have := B1.out.size; omega
                                                obtain ⟨V, w2, a', c', hV0, hV1, hV2, hrun, k0, k1, k2, k3, kz, hg, hown⟩ := edit_worlds (q := w1.heap.size + 1) (x := ⟨qa - 1, qa - 1 + qb, ⟨#[]⟩⟩) hru (by simp) x50 hqn
                                                have hGne : G ≠ w1.heap.size := by have := HGL.out; have := B1.out.size; omega
                                                have hGne' : w1.heap.size ≠ G := fun e => hGne e.symm
                                                have hbV : Below uw.heap.size uw (V 1) := by rw [hV1]; exact (Below.drew (Below.refl _ _)).alloc (Nat.le_refl _) _
                                                have x82' : w2.heap[w1.heap.size]? = some (.cells #[.int .i64 qa, .int .i64 qb, .int .i64 qc] 82 (0, 0)) := by
                                                  have hs := (Array.getElem?_eq_some_iff.1 x82).1
                                                  rw [hg.block _ (by have := hbV.size; omega) (fun e => by have := ev_block hnew _ e.symm; have := B1.out.size; omega)]
                                                  exact heap_below hbV x82 hs
                                                have z2 : w2.cell? ⟨w1.heap.size, 2, none⟩ = some (.int .i64 qc) := by simp [World.cell?, x82']
                                                have k9 : w2.cell? ⟨G, d.length * 2 + 1, none⟩ = some (.slice ea 0 ec) := by have := k0 2; rw [hV2 2 (Nat.le_refl _)] at this; exact this
                                                have k0' : ∀ j, (V j).cell? ⟨G, d.length * 2 + 1, none⟩ = some (.slice ea 0 ec) := k0
                                                have hc0 : qc = ((qc.toNat : Nat) : Int) := (Int.toNat_of_nonneg (by omega)).symm
                                                have HRN : Hid (Rnd s w.heap.size (i + 1) qc.toNat K (.slice (some ⟨G, 0, none⟩) (d.length + 1) gc) (d ++ [⟨n, a', c', [] ++ [⟨qa - 1, qa - 1 + qb, ⟨#[]⟩⟩]⟩]) xs (.slice (some ⟨b, 0, none⟩) xs.length xc) w (w2.setCell ⟨G, d.length * 2 + 1, none⟩ (.slice a' (0 + 1) c'))) := Lib.hid (HR.out.edit (c := ⟨n, ea, ec, []⟩) HTI.out HDT.out HL0.out (by rw [pcs_edit, rz_at H0.out H1.out, ← HDV.out, HT.out]; exact HYES.out) (hbu.trans (hbV.mono hbu.size)) hg hown)
                                                have HV0 := Lib.hid hV0
                                                have HV1 := Lib.hid hV1
                                                have HV2 := Lib.hid hV2
                                                have HRUN := Lib.hid hrun
                                                have HC0 := Lib.hid hc0
                                                clear hbu hru hnew hqn hV0 hV1 hV2 hrun k0 hg hown hbV x82 x82' x50 hc0
                                                go_wp2_with fail
                                                refine wp_region_chain_tail V [8, 9] 12 HV0.out (by kernel_rfl) (by kernel_rfl) ?_
                                                simp only [List.take_succ_cons, List.take_zero, List.drop_succ_cons, List.drop_zero]
                                                refine chain_reads_at 8 (by kernel_rfl) ?_
                                                simp only [List.take_succ_cons, List.take_zero, List.drop_succ_cons, List.drop_zero]
                                                repeat (go_big_quiet_step (fail))
                                                refine wpQuiet_nil ?_
                                                refine chain_op 0 (.slice (some ⟨uw.heap.size, 0, none⟩) 1 1) (by kernel_rfl) rfl (.inl ?_) ?_
                                                · rw [HV0.out, HV1.out]
                                                  kernel_rfl
                                                refine chain_op 1 (.slice a' (0 + 1) c') (by kernel_rfl) rfl (.inl ?_) ?_
                                                · rw [HV2.out 2 (Nat.le_refl _)]
                                                  exact exec_append rfl rfl rfl HRUN.out
                                                refine chain_reads_at 2 (by kernel_rfl) ?_
                                                simp only [List.take_succ_cons, List.take_zero, List.drop_succ_cons, List.drop_zero, Act.put, List.setIfInBounds_toArray, List.set_cons_succ, List.set_cons_zero]
                                                repeat (go_big_quiet_step (fail))
                                                refine wpQuiet_nil ?_
                                                refine chain_end ?_
                                                rw [show V ([8, 9] : List Nat).length = w2 from HV2.out _ (Nat.le_refl _)]
                                                clear k0' k1 k2 k3
                                                go_wp2_with fail
                                                go_roundw
                                                case rel => exact ⟨_, K, i + 1, qc.toNat, by go_num, congrArg (Value.int .i64) HC0.out, by omega, HRN.out⟩
                                                case measure => simp [intOf]; omega
                                · as_aux_lemma =>
                                    have d32 : (((u[1]'hu1).toNat : Int) == 32) = false := by rw [beq_eq_false_iff_ne]; omega
                                    have H1 : Hid ((dl u)[1]? ≠ some 32) := Lib.hid (by rw [dl_one hu1]; intro h; simp only [Option.some.injEq] at h; apply c32; rw [h]; rfl)
                                    clear c32
                                    as_aux_lemma =>
                                      go_wp2_with fail
                                      refine bodyPost_ret (v := .tuple #[.slice none 0 0, .int .i64 ((i : Int) + 1), .int .i64 240]) (by simp [results, Tryd.results14, go_sem]) rfl ?_
                                      exact sim_bad HR.out.sim HTI.out (by rw [HDT.out]; exact (rStep_zero HL0.out).trans (rz_noblank (.inr H0.out) H1.out)) (HR.out.bel)
                          · as_aux_lemma =>
                              have N61 : Hid ((dl u)[0]? ≠ some 61) := Lib.hid (fun h => c61 (by rw [HF.out]; exact (fst8_is (b := 61) (by decide)).2 h))
                              have N64 : Hid ((dl u)[0]? ≠ some 64) := Lib.hid (fun h => c64 (by rw [HF.out]; exact (fst8_is (b := 64) (by decide)).2 h))
                              have d64 : ((f : Int) == 64) = false := by rw [beq_eq_false_iff_ne]; omega
                              clear c61 c64
                              by_cases cu : dl u = [45]
                              · as_aux_lemma =>
                                  have e45 : (u.toList == [45]) = true := by rw [beq_iff_eq, Lib.toList_data]; exact cu
                                  have NU := Lib.hid cu
                                  clear cu
                                  as_aux_lemma =>
                                    go_wp2_with fail
                                    refine bodyPost_ret (v := .tuple #[.slice none 0 0, .int .i64 ((i : Int) + 1), .int .i64 240]) (by simp [results, Tryd.results14, go_sem]) rfl ?_
                                    exact sim_bad HR.out.sim HTI.out (by rw [HDT.out]; exact (rStep_zero HL0.out).trans (by rw [rz_other N61.out N64.out, if_neg (by rintro ⟨_, h, _⟩; rw [pcs_push] at h; simp [hasE] at h)])) (HR.out.bel)
                              · as_aux_lemma =>
                                  have e45 : (u.toList == [45]) = false := by rw [beq_eq_false_iff_ne]; intro h; rw [Lib.toList_data] at h; exact cu h
                                  have NU := Lib.hid cu
                                  clear cu
                                  as_aux_lemma =>
                                    go_wp2_with fail
                                    refine bodyPost_ret (v := .tuple #[.slice none 0 0, .int .i64 ((i : Int) + 1), .int .i64 240]) (by simp [results, Tryd.results14, go_sem]) rfl ?_
                                    exact sim_bad HR.out.sim HTI.out (by rw [HDT.out]; exact (rStep_zero HL0.out).trans (by rw [rz_other N61.out N64.out, if_neg (by rintro ⟨h, _⟩; exact NU.out h)])) (HR.out.bel)
              · as_aux_lemma =>
                  rw [List.concat_eq_append] at *
                  obtain ⟨g, curg, rfl, hKg, hgh, hg1, hg2⟩ := hrf.lastE
                  rw [List.length_append, List.length_singleton] at hG1 hel
                  have hel' : es0.length ≤ 4000000 := by omega
                  have hel3 : es0.length + 1 ≤ 4000000 := hel
                  have hel0 : (0 : Int) ≤ (es0.length : Int) := by omega
                  have hel1 : ¬ (es0.length : Int) < 0 := by omega
                  have hel2 : decide ((es0.length : Int) < 0) = false := decide_eq_false hel1
                  have r0 : wr.cell? ⟨G, d.length * 2 + 1, none⟩ = some (.slice (some ⟨g, 0, none⟩) (es0.length + 1) ec) := hG1
                  have HG0 := Lib.hid hG0
                  have HG1 := Lib.hid hG1
                  have HGH := Lib.hid hGh
                  have Hgh := Lib.hid hgh
                  have Hg1 := Lib.hid hg1
                  have Hg2 := Lib.hid hg2
                  have HKg := Lib.hid hKg
                  clear hrf hBG hGh hG0 hG1 hel hll hgh hg1 hg2 hKg
                  go_upto_if 56 with fail
                  rw [← HU.out]
                  go_cut [9, 10, 11, 12, 13] (fun s9 s10 s11 s12 s13 wx => s9 = .string u ∧ s10 = .int .i64 u.size ∧ s11 = .int .i64 ((d.length : Int)) ∧ s12 = .int .i64 ((es0.length : Int)) ∧ s13 = .int .u8 (fst8 u) ∧ wx = wr)
                  case first =>
                    as_aux_lemma =>
                      by_cases hu0 : 0 < u.size
                      · have k0 : (0 : Int) < (t.size : Int) - 1 := by have := HUS.out; omega
                        have k0' : (0 : Int) < (u.size : Int) := by omega
                        have k1 : decide ((0 : Int) < (t.size : Int) - 1) = true := decide_eq_true k0
                        go_wp2_with fail
                        go_meet
                        exact ⟨rfl, by rw [congrArg (Value.int .i64) (show ((t.size : Int) - 1) = (u.size : Int) by have := HUS.out; omega)], by go_num, by go_num, by rw [fst8_pos hu0], rfl⟩
                      · have k0 : ¬ (0 : Int) < (t.size : Int) - 1 := by have := HUS.out; omega
                        have k1 : decide ((0 : Int) < (t.size : Int) - 1) = false := decide_eq_false k0
                        go_wp2_with fail
                        go_meet
                        exact ⟨rfl, by rw [congrArg (Value.int .i64) (show ((t.size : Int) - 1) = (u.size : Int) by have := HUS.out; omega)], by go_num, by go_num, by rw [fst8_nil hu0]; rfl, rfl⟩
                  case rest =>
                    as_aux_lemma =>
                      obtain ⟨rfl, rfl, rfl, rfl, rfl, hwx⟩ := hcut
                      subst wc
                      obtain ⟨f, hf⟩ : ∃ f, f = fst8 u := ⟨_, rfl⟩
                      rw [← hf]
                      have HF := Lib.hid hf
                      clear hf
                      by_cases hl : left = 0
                      · as_aux_lemma =>
                          have HL0 := Lib.hid hl
                          have hl0 : ¬ (0 : Int) < (left : Int) := by have := HL0.out; omega
                          have hl0d : decide (0 < left) = false := decide_eq_false (by have := HL0.out; omega)
                          clear hl
                          by_cases c61 : f = 61
                          · as_aux_lemma =>
                              have h0 : (dl u)[0]? = some 61 := (fst8_is (b := 61) (by decide)).1 (by rw [← HF.out]; exact c61)
                              have d61 : ((f : Int) == 61) = true := by rw [beq_iff_eq]; omega
                              have H0 := Lib.hid h0
                              clear h0 c61
                              by_cases c3 : u.size < 3
                              · have d3 : (u.size : Int) < 3 := by omega
                                as_aux_lemma =>
                                  go_wp2_with fail
                                  refine bodyPost_ret (v := .tuple #[.slice none 0 0, .int .i64 ((i : Int) + 1), .int .i64 240]) (by simp [results, Tryd.results14, go_sem]) rfl ?_
                                  exact sim_bad HR.out.sim HTI.out (by rw [HDT.out]; exact (rStep_zero HL0.out).trans (rz_short H0.out (by rw [← size_dl]; exact c3))) (HR.out.bel)
                              · have d3 : ¬ (u.size : Int) < 3 := by omega
                                have d3d : decide (u.size < 3) = false := decide_eq_false c3
                                have d3e : decide ((u.size : Int) < 3) = false := decide_eq_false d3
                                have hu1 : 1 < u.size := by omega
                                by_cases c32 : (u[1]'hu1).toNat = 32
                                · as_aux_lemma =>
                                    have d32 : (((u[1]'hu1).toNat : Int) == 32) = true := by rw [beq_iff_eq]; omega
                                    have H1 : Hid ((dl u)[1]? = some 32) := Lib.hid (by rw [dl_one hu1, Option.some.injEq]; exact UInt8.toNat_inj.1 c32)
                                    obtain ⟨v, hv⟩ : ∃ v, v = u.extract 2 u.size := ⟨_, rfl⟩
                                    have hvs : v.size ≤ 4000000 := by rw [hv]; simp; omega
                                    have HDV := Lib.hid (drop_dl hv)
                                    have HV := Lib.hid hv
                                    clear hv c32
                                    go_wp2_with fail
                                    rw [← HV.out]
                                    refine (Rf.names v wr (by omega)).mono ?_
                                    rintro e w1 ⟨⟨x, rfl⟩, b1⟩
                                    have B1 := Lib.hid b1
                                    have a0 : ∀ eu : Ext w1, eu.w.cell? ⟨G, d.length * 2, none⟩ = some (.string n) := fun eu => eu.cell (by rw [b1.cell (by exact HGL.out)]; exact HG0.out)
                                    clear b1
                                    cases hp : isPath (dl v)
                                    · have HP := Lib.hid hp
                                      clear hp
                                      go_wp2_with fail
                                      refine wp_region_quiet (C := fun w' => ∃ eu : Ext w1, w' = eu.w) (by kernel_rfl) (by kernel_rfl) (Ext.drew w1) ?_
                                      dsimp only []
                                      repeat (go_big_quiet_step (fail))
                                      refine wpQuiet_nil ?_
                                      rintro w' ⟨eu, rfl⟩
                                      have HEU := Lib.hid eu.below
                                      clear a0
                                      generalize eu.w = uw at *
                                      clear eu
                                      as_aux_lemma =>
                                        go_wp2_with fail
                                        refine bodyPost_ret (v := .tuple #[.slice none 0 0, .int .i64 ((i : Int) + 1), .int .i64 240]) (by simp [results, Tryd.results14, go_sem]) rfl ?_
                                        exact sim_bad HR.out.sim HTI.out (by rw [HDT.out]; exact (rStep_zero HL0.out).trans (rz_head H0.out H1.out (by rw [← HDV.out]; unfold headOkP; rw [HP.out, Bool.and_false]))) ((HR.out.bel.trans (B1.out.mono HR.out.bel.size)).trans (HEU.out.mono (HR.out.bel.trans (B1.out.mono HR.out.bel.size)).size))
                                    · by_cases hle : leB (dl v) (dl n) = true
                                      · have HNO : Hid (headOkP (pcs (d ++ [⟨n, some ⟨g, 0, none⟩, ec, es0 ++ [y]⟩])) (dl v) = false) := Lib.hid (by rw [pcs_push]; unfold headOkP; simp [hle])
                                        clear hp
                                        unfold leB at hle
                                        rw [show dl v = v.toList from (Lib.toList_data _).symm, show dl n = n.toList from (Lib.toList_data _).symm, HV.out] at hle
                                        go_wp2_with fail
                                        refine wp_region_quiet (C := fun w' => ∃ eu : Ext w1, w' = eu.w) (by kernel_rfl) (by kernel_rfl) (Ext.drew w1) ?_
                                        dsimp only []
                                        repeat (go_big_quiet_step (fail))
                                        refine wpQuiet_nil ?_
                                        rintro w' ⟨eu, rfl⟩
                                        have HEU := Lib.hid eu.below
                                        clear a0 hle
                                        generalize eu.w = uw at *
                                        clear eu
                                        as_aux_lemma =>
                                          go_wp2_with fail
                                          refine bodyPost_ret (v := .tuple #[.slice none 0 0, .int .i64 ((i : Int) + 1), .int .i64 240]) (by simp [results, Tryd.results14, go_sem]) rfl ?_
                                          exact sim_bad HR.out.sim HTI.out (by rw [HDT.out]; exact (rStep_zero HL0.out).trans (rz_head H0.out H1.out (by rw [← HDV.out]; exact HNO.out))) ((HR.out.bel.trans (B1.out.mono HR.out.bel.size)).trans (HEU.out.mono (HR.out.bel.trans (B1.out.mono HR.out.bel.size)).size))
                                      have hle' : leB (dl v) (dl n) = false := by simpa using hle
                                      have HOK : Hid (headOkP (pcs (d ++ [⟨n, some ⟨g, 0, none⟩, ec, es0 ++ [y]⟩])) (dl v) = true) := Lib.hid (by rw [pcs_push]; unfold headOkP; simp [hle', hp])
                                      clear hp hle
                                      unfold leB at hle'
                                      rw [show dl v = v.toList from (Lib.toList_data _).symm, show dl n = n.toList from (Lib.toList_data _).symm, HV.out] at hle'
                                      go_wp2_with fail
                                      refine wp_region_quiet (C := fun w' => ∃ eu : Ext w1, w' = eu.w) (by kernel_rfl) (by kernel_rfl) (Ext.drew w1) ?_
                                      dsimp only []
                                      repeat (go_big_quiet_step (fail))
                                      refine wpQuiet_nil ?_
                                      rintro w' ⟨eu, rfl⟩
                                      have HEU := Lib.hid eu.below
                                      clear a0 hle'
                                      generalize eu.w = uw at *
                                      clear eu
                                      as_aux_lemma =>
                                        obtain ⟨W, hW⟩ : ∃ W, W = uw.alloc (.cells #[.string v, .slice none 0 0] 69) := ⟨_, rfl⟩
                                        have hbW : Below uw.heap.size uw W := by rw [hW]; exact below_alloc _ _
                                        have hlit : W.heap[uw.heap.size]? = some (.cells #[.string v, .slice none 0 0] 69 (0, 0)) := by rw [hW]; exact heap_alloc_new _ _
                                        have hbel : Below wr.heap.size wr W := (B1.out.trans (HEU.out.mono B1.out.size)).trans (hbW.mono (B1.out.trans (HEU.out.mono B1.out.size)).size)
                                        have hown1 : W.ownsRow w.heap.size 69 2 (.slice (some ⟨G, 0, none⟩) (d.length + 1) gc) (d.length + 1) ((d ++ [(⟨n, some ⟨g, 0, none⟩, ec, es0 ++ [y]⟩ : Chg)]).flatMap Chg.f) := by simpa using (HR.out.rf.on hbel).row
                                        have hWs : w.heap.size ≤ W.heap.size := by have := HR.out.bel.size; have := hbel.size; omega
                                        have HW := Lib.hid hW
                                        have HLIT := Lib.hid hlit
                                        have HOWN1 := Lib.hid hown1
                                        have HBEL := Lib.hid hbel
                                        clear hW hbW hlit hbel hown1
                                        go_wp2_with (at_builtin; rw [← HV.out, ← HW.out]; refine wpList_append_own _ rfl _ _ 36 rfl w.heap.size 69 i0 (.agg #[.string ⟨#[]⟩, .slice none 0 0]) 2 40 Tryd.underlying36 HI.out HZ0.out HZ1.out HZ2.out rfl (by decide) _ ((d.length + 1)) _ rfl HOWN1.out ⟨uw.heap.size, 0, none⟩ 1 1 [.string v, .slice none 0 0] rfl rfl ?c1 ?c2 ?c3 ?c4 ?c5 ?_)
                                        case c1 => intro k x hx; rw [addr_add]; exact (CellsAt.of_heap HLIT.out) k x (by simpa using hx)
                                        case c2 => intro x hx; simp at hx; rcases hx with rfl | rfl <;> rfl
                                        case c3 => unfold maxLen; omega
                                        case c4 => omega
                                        case c5 => exact hWs
                                        intro v' w6 hown' hgrow _
                                        obtain ⟨a', c', rfl⟩ := row_shape hown'
                                        have HRN : Hid (Rnd s w.heap.size (i + 1) left w6.heap.size (.slice a' ((d.length + 1) + 1) c') ((d ++ [(⟨n, some ⟨g, 0, none⟩, ec, es0 ++ [y]⟩ : Chg)]) ++ [(⟨v, none, 0, []⟩ : Chg)]) xs (.slice (some ⟨b, 0, none⟩) xs.length xc) w w6) := Lib.hid (HR.out.push HTI.out HDT.out HL0.out HDV.out (rz_push H0.out H1.out (HDV.out ▸ HOK.out)) HBEL.out hgrow (by simpa using hown'))
                                        clear hown' hgrow
                                        go_wp2_with fail
                                        go_roundw
                                        case rel => exact ⟨(d ++ [(⟨n, some ⟨g, 0, none⟩, ec, es0 ++ [y]⟩ : Chg)]) ++ [(⟨v, none, 0, []⟩ : Chg)], w6.heap.size, i + 1, left, by go_num, rfl, by omega, by simpa using HRN.out⟩
                                        case measure => simp [intOf]; omega
                                · as_aux_lemma =>
                                    have d32 : (((u[1]'hu1).toNat : Int) == 32) = false := by rw [beq_eq_false_iff_ne]; omega
                                    have H1 : Hid ((dl u)[1]? ≠ some 32) := Lib.hid (by rw [dl_one hu1]; intro h; simp only [Option.some.injEq] at h; apply c32; rw [h]; rfl)
                                    clear c32
                                    as_aux_lemma =>
                                      go_wp2_with fail
                                      refine bodyPost_ret (v := .tuple #[.slice none 0 0, .int .i64 ((i : Int) + 1), .int .i64 240]) (by simp [results, Tryd.results14, go_sem]) rfl ?_
                                      exact sim_bad HR.out.sim HTI.out (by rw [HDT.out]; exact (rStep_zero HL0.out).trans (rz_noblank (.inl H0.out) H1.out)) (HR.out.bel)
                          · as_aux_lemma =>
                              have d61 : ((f : Int) == 61) = false := by rw [beq_eq_false_iff_ne]; omega
                              by_cases c64 : f = 64
                              · as_aux_lemma =>
                                  have H0 : Hid ((dl u)[0]? = some 64) := Lib.hid ((fst8_is (b := 64) (by decide)).1 (by rw [← HF.out]; exact c64))
                                  have d64 : ((f : Int) == 64) = true := by rw [beq_iff_eq]; omega
                                  clear c64 c61
                                  have e45 : (u.toList == [45]) = false := by rw [beq_eq_false_iff_ne]; intro h; rw [Lib.toList_data] at h; have := H0.out; rw [show dl u = [45] from h] at this; simp at this
                                  by_cases c2 : u.size ≤ 2
                                  · have d2 : ¬ (2 : Int) < (u.size : Int) := by omega
                                    have d2d : decide (2 < u.size) = false := decide_eq_false (by omega)
                                    have d2e : decide ((2 : Int) < (u.size : Int)) = false := decide_eq_false d2
                                    as_aux_lemma =>
                                      go_wp2_with fail
                                      refine bodyPost_ret (v := .tuple #[.slice none 0 0, .int .i64 ((i : Int) + 1), .int .i64 240]) (by simp [results, Tryd.results14, go_sem]) rfl ?_
                                      exact sim_bad HR.out.sim HTI.out (by rw [HDT.out]; exact (rStep_zero HL0.out).trans (rz_at_short H0.out (by rw [← size_dl]; exact c2))) (HR.out.bel)
                                  · have d2 : (2 : Int) < (u.size : Int) := by omega
                                    have hu1 : 1 < u.size := by omega
                                    by_cases c32 : (u[1]'hu1).toNat = 32
                                    · as_aux_lemma =>
                                        have d32 : (((u[1]'hu1).toNat : Int) == 32) = true := by rw [beq_iff_eq]; omega
                                        have H1 : Hid ((dl u)[1]? = some 32) := Lib.hid (by rw [dl_one hu1, Option.some.injEq]; exact UInt8.toNat_inj.1 c32)
                                        obtain ⟨v, hv⟩ : ∃ v, v = u.extract 2 u.size := ⟨_, rfl⟩
                                        have hvs : v.size ≤ 4000000 := by rw [hv]; simp; omega
                                        have HDV := Lib.hid (drop_dl hv)
                                        have HV := Lib.hid hv
                                        clear hv c32
                                        go_wp2_with fail
                                        rw [← HV.out]
                                        refine (Rf.three v wr (by omega)).mono ?_
                                        rintro e w1 ⟨qa, qb, qc, is, rfl, ⟨qa0, qa1⟩, ⟨qb0, qb1⟩, ⟨qc0, qc1⟩, hthr, b1⟩
                                        have B1 := Lib.hid b1
                                        have HTHR := Lib.hid hthr
                                        clear b1 hthr
                                        obtain ⟨WX, hWX⟩ : ∃ WX, WX = (w1.alloc (.cells #[.int .i64 qa, .int .i64 qb, .int .i64 qc] 82)).alloc (.cells #[.int .i64 (qa - 1), .int .i64 (qa - 1 + qb), .string ⟨#[]⟩] 50) := ⟨_, rfl⟩
                                        have hbx : Below wr.heap.size wr WX := by rw [hWX]; exact (B1.out.alloc B1.out.size _).alloc (by have := B1.out.size; simp; omega) _
                                        have hx82 : WX.heap[w1.heap.size]? = some (.cells #[.int .i64 qa, .int .i64 qb, .int .i64 qc] 82 (0, 0)) := by
                                          rw [hWX, Lib.alloc_old _ _ _ (by simp)]
                                          exact heap_alloc_new _ _
                                        have hx50 : WX.heap[w1.heap.size + 1]? = some (.cells #[.int .i64 (qa - 1), .int .i64 (qa - 1 + qb), .string ⟨#[]⟩] 50 (0, 0)) := by
                                          rw [hWX]
                                          have := heap_alloc_new (w1.alloc (.cells #[.int .i64 qa, .int .i64 qb, .int .i64 qc] 82)) (.cells #[.int .i64 (qa - 1), .int .i64 (qa - 1 + qb), .string ⟨#[]⟩] 50)
                                          simpa using this
                                        have e0 : ∀ eu : Ext WX, eu.w.cell? ⟨w1.heap.size, 0, none⟩ = some (.int .i64 qa) := fun eu => eu.cell (by simp [World.cell?, hx82])
                                        have e1 : ∀ eu : Ext WX, eu.w.cell? ⟨w1.heap.size, 1, none⟩ = some (.int .i64 qb) := fun eu => eu.cell (by simp [World.cell?, hx82])
                                        have e2 : ∀ eu : Ext WX, eu.w.cell? ⟨w1.heap.size, 2, none⟩ = some (.int .i64 qc) := fun eu => eu.cell (by simp [World.cell?, hx82])
                                        have m0 : ∀ eu : Ext WX, eu.w.cell? ⟨w1.heap.size + 1, 0, none⟩ = some (.int .i64 (qa - 1)) := fun eu => eu.cell (by simp [World.cell?, hx50])
                                        have m1 : ∀ eu : Ext WX, eu.w.cell? ⟨w1.heap.size + 1, 1, none⟩ = some (.int .i64 (qa - 1 + qb)) := fun eu => eu.cell (by simp [World.cell?, hx50])
                                        have r0x : ∀ eu : Ext WX, eu.w.cell? ⟨G, d.length * 2 + 1, none⟩ = some (.slice (some ⟨g, 0, none⟩) (es0.length + 1) ec) := fun eu => eu.cell (by rw [hbx.cell (by exact HGL.out)]; exact r0)
                                        have l1 : ∀ eu : Ext WX, eu.w.cell? ⟨g, es0.length * 3 + 1, none⟩ = some (.int .i64 y.b) := fun eu => eu.cell (by rw [hbx.cell (by exact (Array.getElem?_eq_some_iff.1 Hgh.out).1)]; exact Hg1.out)
                                        have HBX := Lib.hid hbx
                                        have H82 := Lib.hid hx82
                                        have H50 := Lib.hid hx50
                                        have HWX := Lib.hid hWX
                                        clear hbx hx82 hx50 hWX r0
                                        go_wp2_with fail
                                        rw [← HWX.out]
                                        cases is
                                        · as_aux_lemma =>
                                            have HT : Hid (thrE 3 [] (dl v) = none) := Lib.hid (by rw [HTHR.out]; rfl)
                                            refine wp_region_quiet (C := fun w' => ∃ eu : Ext WX, w' = eu.w) (by kernel_rfl) (by kernel_rfl) (Ext.drew WX) ?_
                                            dsimp only []
                                            repeat (go_big_quiet_step (fail))
                                            refine wpQuiet_nil ?_
                                            rintro w' ⟨eu, rfl⟩
                                            have HEU := Lib.hid eu.below
                                            clear e0 e1 e2 m0 m1 r0x l1
                                            generalize eu.w = uw at *
                                            clear eu
                                            go_wp2_with fail
                                            refine bodyPost_ret (v := .tuple #[.slice none 0 0, .int .i64 ((i : Int) + 1), .int .i64 240]) (by simp [results, Tryd.results14, go_sem]) rfl ?_
                                            exact sim_bad HR.out.sim HTI.out (by rw [HDT.out]; exact (rStep_zero HL0.out).trans (by rw [pcs_edit, rz_at H0.out H1.out, ← HDV.out, HT.out]; exact ediR_none)) ((HR.out.bel.trans (HBX.out.mono HR.out.bel.size)).trans (HEU.out.mono (HR.out.bel.trans (HBX.out.mono HR.out.bel.size)).size))
                                        · have HT : Hid (thrE 3 [] (dl v) = some [qa, qb, qc]) := Lib.hid (by rw [HTHR.out]; rfl)
                                          obtain ⟨pa, pb, pc⟩ := thr_pos HT.out
                                          by_cases c1 : qa < 1
                                          · as_aux_lemma =>
                                              refine wp_region_quiet (C := fun w' => ∃ eu : Ext WX, w' = eu.w) (by kernel_rfl) (by kernel_rfl) (Ext.drew WX) ?_
                                              dsimp only []
                                              repeat (go_big_quiet_step (fail))
                                              refine wpQuiet_nil ?_
                                              rintro w' ⟨eu, rfl⟩
                                              have HEU := Lib.hid eu.below
                                              clear e0 e1 e2 m0 m1 r0x l1
                                              generalize eu.w = uw at *
                                              clear eu
                                              go_wp2_with fail
                                              refine bodyPost_ret (v := .tuple #[.slice none 0 0, .int .i64 ((i : Int) + 1), .int .i64 240]) (by simp [results, Tryd.results14, go_sem]) rfl ?_
                                              exact sim_bad HR.out.sim HTI.out (by rw [HDT.out]; exact (rStep_zero HL0.out).trans (by rw [pcs_edit, rz_at H0.out H1.out, ← HDV.out, HT.out]; exact ediR_no (.inl c1))) ((HR.out.bel.trans (HBX.out.mono HR.out.bel.size)).trans (HEU.out.mono (HR.out.bel.trans (HBX.out.mono HR.out.bel.size)).size))
                                          · have c1d : decide (qa < 1) = false := decide_eq_false c1
                                            by_cases c2' : 65536 < qa - 1 + qb
                                            · as_aux_lemma =>
                                                refine wp_region_quiet (C := fun w' => ∃ eu : Ext WX, w' = eu.w) (by kernel_rfl) (by kernel_rfl) (Ext.drew WX) ?_
                                                dsimp only []
                                                repeat (go_big_quiet_step (fail))
                                                refine wpQuiet_nil ?_
                                                rintro w' ⟨eu, rfl⟩
                                                have HEU := Lib.hid eu.below
                                                clear e0 e1 e2 m0 m1 r0x l1
                                                generalize eu.w = uw at *
                                                clear eu
                                                go_wp2_with fail
                                                refine bodyPost_ret (v := .tuple #[.slice none 0 0, .int .i64 ((i : Int) + 1), .int .i64 240]) (by simp [results, Tryd.results14, go_sem]) rfl ?_
                                                exact sim_bad HR.out.sim HTI.out (by rw [HDT.out]; exact (rStep_zero HL0.out).trans (by rw [pcs_edit, rz_at H0.out H1.out, ← HDV.out, HT.out]; exact ediR_no (.inr (.inl c2')))) ((HR.out.bel.trans (HBX.out.mono HR.out.bel.size)).trans (HEU.out.mono (HR.out.bel.trans (HBX.out.mono HR.out.bel.size)).size))
                                            · have c2d : decide (65536 < qa - 1 + qb) = false := decide_eq_false c2'
                                              by_cases c3 : 65536 < qc
                                              · as_aux_lemma =>
                                                  refine wp_region_quiet (C := fun w' => ∃ eu : Ext WX, w' = eu.w) (by kernel_rfl) (by kernel_rfl) (Ext.drew WX) ?_
                                                  dsimp only []
                                                  repeat (go_big_quiet_step (fail))
                                                  refine wpQuiet_nil ?_
                                                  rintro w' ⟨eu, rfl⟩
                                                  have HEU := Lib.hid eu.below
                                                  clear e0 e1 e2 m0 m1 r0x l1
                                                  generalize eu.w = uw at *
                                                  clear eu
                                                  go_wp2_with fail
                                                  refine bodyPost_ret (v := .tuple #[.slice none 0 0, .int .i64 ((i : Int) + 1), .int .i64 240]) (by simp [results, Tryd.results14, go_sem]) rfl ?_
                                                  exact sim_bad HR.out.sim HTI.out (by rw [HDT.out]; exact (rStep_zero HL0.out).trans (by rw [pcs_edit, rz_at H0.out H1.out, ← HDV.out, HT.out]; exact ediR_no (.inr (.inr (.inl c3))))) ((HR.out.bel.trans (HBX.out.mono HR.out.bel.size)).trans (HEU.out.mono (HR.out.bel.trans (HBX.out.mono HR.out.bel.size)).size))
                                              · have c3d : decide (65536 < qc) = false := decide_eq_false c3
                                                by_cases c4 : qb + qc = 0
                                                · have c4b : (qb + qc == 0) = true := by rw [beq_iff_eq]; exact c4
                                                  have HC4 := Lib.hid c4
                                                  clear c4
                                                  as_aux_lemma =>
                                                    refine wp_region_quiet (C := fun w' => ∃ eu : Ext WX, w' = eu.w) (by kernel_rfl) (by kernel_rfl) (Ext.drew WX) ?_
                                                    dsimp only []
                                                    repeat (go_big_quiet_step (fail))
                                                    refine wpQuiet_nil ?_
                                                    rintro w' ⟨eu, rfl⟩
                                                    have HEU := Lib.hid eu.below
                                                    clear e0 e1 e2 m0 m1 r0x l1
                                                    generalize eu.w = uw at *
                                                    clear eu
                                                    go_wp2_with fail
                                                    refine bodyPost_ret (v := .tuple #[.slice none 0 0, .int .i64 ((i : Int) + 1), .int .i64 240]) (by simp [results, Tryd.results14, go_sem]) rfl ?_
                                                    exact sim_bad HR.out.sim HTI.out (by rw [HDT.out]; exact (rStep_zero HL0.out).trans (by rw [pcs_edit, rz_at H0.out H1.out, ← HDV.out, HT.out]; exact ediR_no (.inr (.inr (.inr (.inl HC4.out)))))) ((HR.out.bel.trans (HBX.out.mono HR.out.bel.size)).trans (HEU.out.mono (HR.out.bel.trans (HBX.out.mono HR.out.bel.size)).size))
                                                · have c4b : (qb + qc == 0) = false := by rw [beq_eq_false_iff_ne]; exact c4
                                                  by_cases c5 : qa - 1 ≤ y.b
                                                  · as_aux_lemma =>
                                                      refine wp_region_quiet (C := fun w' => ∃ eu : Ext WX, w' = eu.w) (by kernel_rfl) (by kernel_rfl) (Ext.drew WX) ?_
                                                      dsimp only []
                                                      repeat (go_big_quiet_step (fail))
                                                      refine wpQuiet_nil ?_
                                                      rintro w' ⟨eu, rfl⟩
                                                      have HEU := Lib.hid eu.below
                                                      clear e0 e1 e2 m0 m1 r0x l1
                                                      generalize eu.w = uw at *
                                                      clear eu
                                                      go_wp2_with fail
                                                      refine bodyPost_ret (v := .tuple #[.slice none 0 0, .int .i64 ((i : Int) + 1), .int .i64 240]) (by simp [results, Tryd.results14, go_sem]) rfl ?_
                                                      exact sim_bad HR.out.sim HTI.out (by rw [HDT.out]; exact (rStep_zero HL0.out).trans (by rw [pcs_edit, rz_at H0.out H1.out, ← HDV.out, HT.out]; exact ediR_no (.inr (.inr (.inr (.inr ⟨y, by simp, c5⟩)))))) ((HR.out.bel.trans (HBX.out.mono HR.out.bel.size)).trans (HEU.out.mono (HR.out.bel.trans (HBX.out.mono HR.out.bel.size)).size))
                                                  · have c5d : decide (qa - 1 ≤ y.b) = false := decide_eq_false c5
                                                    have HYES : Hid (ediR (pcs d ++ [(n, (es0 ++ [y]))]) (some [qa, qb, qc]) = some (pcs d ++ [(n, (es0 ++ [y]) ++ [⟨qa - 1, qa - 1 + qb, ⟨#[]⟩⟩])], qc.toNat)) := Lib.hid (ediR_yes (by omega) (by omega) (by omega) (by omega) (by intro x hx; simp at hx; subst hx; omega))
                                                    as_aux_lemma =>
                                                      refine wp_region_quiet (C := fun w' => ∃ eu : Ext WX, w' = eu.w) (by kernel_rfl) (by kernel_rfl) (Ext.drew WX) ?_
                                                      dsimp only []
                                                      repeat (go_big_quiet_step (fail))
                                                      refine wpQuiet_nil ?_
                                                      rintro w' ⟨eu, rfl⟩
                                                      have HEU := Lib.hid eu.below
                                                      clear e0 e1 e2 m0 m1 r0x l1
                                                      have x82 := heap_below eu.below H82.out (Array.getElem?_eq_some_iff.1 H82.out).1
                                                      have x50 := heap_below eu.below H50.out (Array.getElem?_eq_some_iff.1 H50.out).1
                                                      generalize eu.w = uw at *
                                                      clear eu
                                                      have hbu : Below wr.heap.size wr uw := HBX.out.trans (HEU.out.mono HBX.out.size)
                                                      have hru := HR.out.rf.on hbu
                                                      have hnew := HR.out.rf.new ⟨n, some ⟨g, 0, none⟩, ec, es0 ++ [y]⟩ (by simp)
                                                      have hqn : (⟨n, some ⟨g, 0, none⟩, ec, es0 ++ [y]⟩ : Chg).ev.ownBlock ≠ some (w1.heap.size + 1) := fun e => by have := ev_block hnew _ e; have := B1.out.size; omega
                                                      obtain ⟨V, w2, a', c', hV0, hV1, hV2, hrun, k0, k1, k2, k3, kz, hg, hown⟩ := edit_worlds (q := w1.heap.size + 1) (x := ⟨qa - 1, qa - 1 + qb, ⟨#[]⟩⟩) hru (by simpa using hel3) x50 hqn
                                                      have hl9 : (es0 ++ [y]).length = es0.length + 1 := by simp
                                                      have hev : (⟨n, some ⟨g, 0, none⟩, ec, es0 ++ [y]⟩ : Chg).ev = (.slice (some ⟨g, 0, none⟩) (es0.length + 1) ec) := by unfold Chg.ev; simp only [hl9]
                                                      have hGne : G ≠ w1.heap.size := by have := HGL.out; have := B1.out.size; omega
                                                      have hGne' : w1.heap.size ≠ G := fun e => hGne e.symm
                                                      have hbV : Below uw.heap.size uw (V 1) := by rw [hV1]; exact (Below.drew (Below.refl _ _)).alloc (Nat.le_refl _) _
                                                      have x82' : w2.heap[w1.heap.size]? = some (.cells #[.int .i64 qa, .int .i64 qb, .int .i64 qc] 82 (0, 0)) := by
                                                        have hs := (Array.getElem?_eq_some_iff.1 x82).1
                                                        rw [hg.block _ (by have := hbV.size; omega) (fun e => by have := ev_block hnew _ e.symm; have := B1.out.size; omega)]
                                                        exact heap_below hbV x82 hs
                                                      have z2 : w2.cell? ⟨w1.heap.size, 2, none⟩ = some (.int .i64 qc) := by simp [World.cell?, x82']
                                                      have k9 : w2.cell? ⟨G, d.length * 2 + 1, none⟩ = some (.slice (some ⟨g, 0, none⟩) (es0.length + 1) ec) := by have := k0 2; rw [hV2 2 (Nat.le_refl _), hev] at this; exact this
                                                      have k0' : ∀ j, (V j).cell? ⟨G, d.length * 2 + 1, none⟩ = some (.slice (some ⟨g, 0, none⟩) (es0.length + 1) ec) := fun j => by rw [← hev]; exact k0 j
                                                      have hc0 : qc = ((qc.toNat : Nat) : Int) := (Int.toNat_of_nonneg (by omega)).symm
                                                      have HRN : Hid (Rnd s w.heap.size (i + 1) qc.toNat K (.slice (some ⟨G, 0, none⟩) (d.length + 1) gc) (d ++ [⟨n, a', c', (es0 ++ [y]) ++ [⟨qa - 1, qa - 1 + qb, ⟨#[]⟩⟩]⟩]) xs (.slice (some ⟨b, 0, none⟩) xs.length xc) w (w2.setCell ⟨G, d.length * 2 + 1, none⟩ (.slice a' (es0.length + 1 + 1) c'))) := Lib.hid (by have h := HR.out.edit (c := ⟨n, some ⟨g, 0, none⟩, ec, es0 ++ [y]⟩) HTI.out HDT.out HL0.out (by rw [pcs_edit, rz_at H0.out H1.out, ← HDV.out, HT.out]; exact HYES.out) (hbu.trans (hbV.mono hbu.size)) hg hown; simp only [hl9] at h; exact h)
                                                      have HV0 := Lib.hid hV0
                                                      have HV1 := Lib.hid hV1
                                                      have HV2 := Lib.hid hV2
                                                      simp only [hev, hl9] at hrun
                                                      have HRUN := Lib.hid hrun
                                                      have HC0 := Lib.hid hc0
                                                      clear hev hl9 hbu hru hnew hqn hV0 hV1 hV2 hrun k0 hg hown hbV x82 x82' x50 hc0
                                                      go_wp2_with fail
                                                      refine wp_region_chain_tail V [8, 9] 12 HV0.out (by kernel_rfl) (by kernel_rfl) ?_
                                                      simp only [List.take_succ_cons, List.take_zero, List.drop_succ_cons, List.drop_zero]
                                                      refine chain_reads_at 8 (by kernel_rfl) ?_
                                                      simp only [List.take_succ_cons, List.take_zero, List.drop_succ_cons, List.drop_zero]
                                                      repeat (go_big_quiet_step (fail))
                                                      refine wpQuiet_nil ?_
                                                      refine chain_op 0 (.slice (some ⟨uw.heap.size, 0, none⟩) 1 1) (by kernel_rfl) rfl (.inl ?_) ?_
                                                      · rw [HV0.out, HV1.out]
                                                        kernel_rfl
                                                      refine chain_op 1 (.slice a' (es0.length + 1 + 1) c') (by kernel_rfl) rfl (.inl ?_) ?_
                                                      · rw [HV2.out 2 (Nat.le_refl _)]
                                                        exact exec_append rfl rfl rfl HRUN.out
                                                      refine chain_reads_at 2 (by kernel_rfl) ?_
                                                      simp only [List.take_succ_cons, List.take_zero, List.drop_succ_cons, List.drop_zero, Act.put, List.setIfInBounds_toArray, List.set_cons_succ, List.set_cons_zero]
                                                      repeat (go_big_quiet_step (fail))
                                                      refine wpQuiet_nil ?_
                                                      refine chain_end ?_
                                                      rw [show V ([8, 9] : List Nat).length = w2 from HV2.out _ (Nat.le_refl _)]
                                                      clear k0' k1 k2 k3
                                                      go_wp2_with fail
                                                      go_roundw
                                                      case rel => exact ⟨_, K, i + 1, qc.toNat, by go_num, congrArg (Value.int .i64) HC0.out, by omega, HRN.out⟩
                                                      case measure => simp [intOf]; omega
                                    · as_aux_lemma =>
                                        have d32 : (((u[1]'hu1).toNat : Int) == 32) = false := by rw [beq_eq_false_iff_ne]; omega
                                        have H1 : Hid ((dl u)[1]? ≠ some 32) := Lib.hid (by rw [dl_one hu1]; intro h; simp only [Option.some.injEq] at h; apply c32; rw [h]; rfl)
                                        clear c32
                                        as_aux_lemma =>
                                          go_wp2_with fail
                                          refine bodyPost_ret (v := .tuple #[.slice none 0 0, .int .i64 ((i : Int) + 1), .int .i64 240]) (by simp [results, Tryd.results14, go_sem]) rfl ?_
                                          exact sim_bad HR.out.sim HTI.out (by rw [HDT.out]; exact (rStep_zero HL0.out).trans (rz_noblank (.inr H0.out) H1.out)) (HR.out.bel)
                              · as_aux_lemma =>
                                  have N61 : Hid ((dl u)[0]? ≠ some 61) := Lib.hid (fun h => c61 (by rw [HF.out]; exact (fst8_is (b := 61) (by decide)).2 h))
                                  have N64 : Hid ((dl u)[0]? ≠ some 64) := Lib.hid (fun h => c64 (by rw [HF.out]; exact (fst8_is (b := 64) (by decide)).2 h))
                                  have d64 : ((f : Int) == 64) = false := by rw [beq_eq_false_iff_ne]; omega
                                  clear c61 c64
                                  by_cases cu : dl u = [45]
                                  · as_aux_lemma =>
                                      have e45 : (u.toList == [45]) = true := by rw [beq_iff_eq, Lib.toList_data]; exact cu
                                      have NU := Lib.hid cu
                                      clear cu
                                      have hi0 : 0 < i := by
                                        rcases Nat.eq_zero_or_pos i with h | h
                                        · have h1 := HR.out.sim
                                          rw [h] at h1
                                          have := sim_first h1
                                          simp [pcs] at this
                                        · exact h
                                      have hi1 : i - 1 < xs.length := by omega
                                      have hp2 : wr.cell? ⟨b, i - 1, none⟩ = some (.string xs[i - 1]) := by
                                        rw [HR.out.row.cellAt (i - 1) (by omega), List.getElem?_map, List.getElem?_eq_getElem hi1]; rfl
                                      have hpv : prevL s i = dl xs[i - 1] := by
                                        obtain ⟨h1, _⟩ := HTI.out
                                        rw [prev_at h1 hi0]
                                        simp [← HXS.out]
                                      have hpn : 0 < xs[i - 1].size := by
                                        obtain ⟨h1, _⟩ := HTI.out
                                        have h2 := line_ne (l := dl s) (x := dl xs[i - 1]) (by rw [← HXS.out]; exact List.mem_map.2 ⟨_, List.getElem_mem hi1, rfl⟩)
                                        have := List.length_pos_iff.2 h2
                                        rw [size_dl]; exact this
                                      have HPV := Lib.hid hpv
                                      clear hpv
                                      generalize xs[i - 1] = p at *
                                      have v1' : IntKind.i64.wrap ((i : Int) - 1) = (i : Int) - 1 := IntWalk.i64_in _ (by omega)
                                      have v2' : (0 : Int) ≤ (i : Int) - 1 := by omega
                                      have v3' : (i : Int) - 1 < (xs.length : Int) := by omega
                                      have v4' : ((i : Int) - 1).toNat = i - 1 := by omega
                                      have hpn' : (0 : Int) < (p.size : Int) := by omega
                                      by_cases c43 : (p[0]'hpn).toNat = 43
                                      · have k43 : (((p[0]'hpn).toNat : Int) == 43) = true := by rw [beq_iff_eq]; omega
                                        have HP43 : Hid ((dl p).head? = some 43) := Lib.hid (by rw [List.head?_eq_getElem?, dl_zero hpn, Option.some.injEq]; exact UInt8.toNat_inj.1 c43)
                                        clear c43
                                        by_cases cp : dl p = [43, 10]
                                        · have k10 : (p.toList == [43, 10]) = true := by rw [beq_iff_eq, Lib.toList_data]; exact cp
                                          have k10' : (p.toList != [43, 10]) = false := by simp [bne, k10]
                                          have NQ := Lib.hid cp
                                          clear cp
                                          as_aux_lemma =>
                                            go_wp2_with fail
                                            refine bodyPost_ret (v := .tuple #[.slice none 0 0, .int .i64 ((i : Int) + 1), .int .i64 240]) (by simp [results, Tryd.results14, go_sem]) rfl ?_
                                            exact sim_bad HR.out.sim HTI.out (by rw [HDT.out]; exact (rStep_zero HL0.out).trans (by rw [rz_other N61.out N64.out, if_neg (by rintro ⟨_, _, _, h⟩; rw [HPV.out] at h; exact h NQ.out)])) (HR.out.bel)
                                        · as_aux_lemma =>
                                            have k10 : (p.toList == [43, 10]) = false := by rw [beq_eq_false_iff_ne, Lib.toList_data]; exact cp
                                            have k10' : (p.toList != [43, 10]) = true := by simp [bne, k10]
                                            have hys : 0 < y.t.size ∧ y.t.size ≤ 4000000 := by
                                              obtain ⟨d', n', es', x', he, h1, h2⟩ := HR.out.sim.opens HL0.out (by rw [HPV.out]; exact HP43.out) (by rw [HPV.out]; exact cp)
                                              rw [pcs_push] at he
                                              obtain ⟨_, he2⟩ := List.append_inj' he rfl
                                              simp only [List.cons.injEq, Prod.mk.injEq, and_true] at he2
                                              obtain ⟨_, he3⟩ := List.append_inj' he2.2 rfl
                                              simp only [List.cons.injEq, and_true] at he3
                                              subst he3
                                              exact ⟨h1, by omega⟩
                                            have NQ := Lib.hid cp
                                            clear cp
                                            obtain ⟨hy1, hy2⟩ := hys
                                            have q1' : IntKind.i64.wrap ((y.t.size : Int) - 1) = (y.t.size : Int) - 1 := IntWalk.i64_in _ (by omega)
                                            have q2' : (0 : Int) ≤ (y.t.size : Int) - 1 := by omega
                                            have q3' : (y.t.size : Int) - 1 ≤ (y.t.size : Int) := by omega
                                            have q4' : ((y.t.size : Int) - 1).toNat = y.t.size - 1 := by omega
                                            have g2'' : wr.cell? ⟨g, es0.length * 3 + 2, none⟩ = some (.string y.t) := Hg2.out
                                            go_wp2_with fail
                                            have r0' : ∀ eu : Ext wr, eu.w.cell? ⟨G, d.length * 2 + 1, none⟩ = some (.slice (some ⟨g, 0, none⟩) (es0.length + 1) ec) := fun eu => eu.cell r0
                                            have g2' : ∀ eu : Ext wr, eu.w.cell? ⟨g, es0.length * 3 + 2, none⟩ = some (.string y.t) := fun eu => eu.cell g2''
                                            clear g2'' r0
                                            refine wp_region_tail (C := fun w' => ∃ eu : Ext wr, w' = eu.w) 13 (by kernel_rfl) (by kernel_rfl) (Ext.drew wr) ?_
                                            simp only [List.take_succ_cons, List.take_zero, List.drop_succ_cons, List.drop_zero]
                                            repeat (go_big_quiet_step (fail))
                                            refine wpQuiet_nil ?_
                                            rintro w' ⟨eu, rfl⟩
                                            have HEU := Lib.hid eu.below
                                            have HZG : Hid (∃ cur, eu.w.heap[g]? = some (.cells cur 50 (0, 0))) := Lib.hid ⟨curg, heap_below eu.below Hgh.out (Array.getElem?_eq_some_iff.1 Hgh.out).1⟩
                                            have z0 : eu.w.frozen? ⟨g, es0.length * 3 + 2, none⟩ = false := by obtain ⟨cur, h⟩ := HZG.out; exact Lib.frozen_of_heap h _
                                            have z1 := g2' eu
                                            clear r0' g2'
                                            generalize eu.w = uw at *
                                            clear eu
                                            go_wp2_with fail
                                            have hrp : RfC w.heap.size K (.slice (some ⟨G, 0, none⟩) (d.length + 1) gc) (d ++ [⟨n, some ⟨g, 0, none⟩, ec, es0 ++ [⟨y.a, y.b, (y.t.extract 0 (y.t.size - 1))⟩]⟩]) (uw.setCell ⟨g, es0.length * 3 + 2, none⟩ (.string (y.t.extract 0 (y.t.size - 1)))) := (HR.out.rf.on HEU.out).patch (y.t.extract 0 (y.t.size - 1))
                                            have hrw : (uw.setCell ⟨g, es0.length * 3 + 2, none⟩ (.string (y.t.extract 0 (y.t.size - 1)))).ownsRow w.heap.size 9 1 (.slice (some ⟨b, 0, none⟩) xs.length xc) xs.length (xs.map Value.string) := by
                                              obtain ⟨cur, h⟩ := HZG.out
                                              exact str_set (cs := []) (own_on HR.out.row HEU.out) h (by decide)
                                            have hbw : Below w.heap.size w (uw.setCell ⟨g, es0.length * 3 + 2, none⟩ (.string (y.t.extract 0 (y.t.size - 1)))) := (HR.out.bel.trans (HEU.out.mono HR.out.bel.size)).setCell (p := ⟨g, es0.length * 3 + 2, none⟩) (Nat.le_trans HR.out.rf.leB HKg.out) _
                                            have hsn : Sim s (i + 1) (pcs (d ++ [⟨n, some ⟨g, 0, none⟩, ec, es0 ++ [⟨y.a, y.b, y.t.extract 0 (y.t.size - 1)⟩]⟩])) left (prevL s (i + 1)) := by
                                              refine sim_next HR.out.sim HTI.out ?_
                                              rw [HDT.out, rStep_zero HL0.out, rz_other N61.out N64.out, if_pos ⟨NU.out, by rw [pcs_push]; simp [hasE], by rw [HPV.out]; exact HP43.out, by rw [HPV.out]; exact NQ.out⟩, pcs_push, pcs_push, cutT_at, HL0.out]
                                              rw [cut_last]
                                            have HRN : Hid (Rnd s w.heap.size (i + 1) left K (.slice (some ⟨G, 0, none⟩) (d.length + 1) gc) _ xs (.slice (some ⟨b, 0, none⟩) xs.length xc) w _) := Lib.hid ⟨hsn, hrp, hrw, hbw⟩
                                            clear hsn hrp hrw hbw
                                            go_roundw
                                            case rel => exact ⟨_, K, i + 1, left, by go_num, rfl, by omega, HRN.out⟩
                                            case measure => simp [intOf]; omega
                                      · have k43 : (((p[0]'hpn).toNat : Int) == 43) = false := by rw [beq_eq_false_iff_ne]; omega
                                        have NP : Hid ((dl p).head? ≠ some 43) := Lib.hid (by rw [List.head?_eq_getElem?, dl_zero hpn]; intro h; simp only [Option.some.injEq] at h; apply c43; rw [h]; rfl)
                                        clear c43
                                        as_aux_lemma =>
                                          go_wp2_with fail
                                          refine bodyPost_ret (v := .tuple #[.slice none 0 0, .int .i64 ((i : Int) + 1), .int .i64 240]) (by simp [results, Tryd.results14, go_sem]) rfl ?_
                                          exact sim_bad HR.out.sim HTI.out (by rw [HDT.out]; exact (rStep_zero HL0.out).trans (by rw [rz_other N61.out N64.out, if_neg (by rintro ⟨_, _, h, _⟩; rw [HPV.out] at h; exact NP.out h)])) (HR.out.bel)
                                  · as_aux_lemma =>
                                      have e45 : (u.toList == [45]) = false := by rw [beq_eq_false_iff_ne]; intro h; rw [Lib.toList_data] at h; exact cu h
                                      have NU := Lib.hid cu
                                      clear cu
                                      as_aux_lemma =>
                                        go_wp2_with fail
                                        refine bodyPost_ret (v := .tuple #[.slice none 0 0, .int .i64 ((i : Int) + 1), .int .i64 240]) (by simp [results, Tryd.results14, go_sem]) rfl ?_
                                        exact sim_bad HR.out.sim HTI.out (by rw [HDT.out]; exact (rStep_zero HL0.out).trans (by rw [rz_other N61.out N64.out, if_neg (by rintro ⟨h, _⟩; exact NU.out h)])) (HR.out.bel)
                      · as_aux_lemma =>
                          have hl1 : (0 : Int) < (left : Int) := by omega
                          have HL1 : Hid (0 < left) := Lib.hid (by omega)
                          have hys : y.t.size ≤ 4000000 := by
                            obtain ⟨d', n', es', x', he, h1⟩ := HR.out.sim.wants HL1.out
                            rw [pcs_push] at he
                            obtain ⟨_, he2⟩ := List.append_inj' he rfl
                            simp only [List.cons.injEq, Prod.mk.injEq, and_true] at he2
                            obtain ⟨_, he3⟩ := List.append_inj' he2.2 rfl
                            simp only [List.cons.injEq, and_true] at he3
                            subst he3
                            omega
                          clear hl
                          by_cases c43 : f = 43
                          · as_aux_lemma =>
                              have k43 : ((f : Int) == 43) = true := by rw [beq_iff_eq]; omega
                              have H0 : Hid ((dl u)[0]? = some 43) := Lib.hid ((fst8_is (b := 43) (by decide)).1 (by rw [← HF.out]; exact c43))
                              have hu1 : (1 : Int) ≤ (u.size : Int) := by
                                rcases Nat.eq_zero_or_pos u.size with h | h
                                · have h1 := H0.out
                                  rw [List.getElem?_eq_none (by rw [← size_dl]; omega)] at h1
                                  cases h1
                                · omega
                              clear c43
                              have g2'' : wr.cell? ⟨g, es0.length * 3 + 2, none⟩ = some (.string y.t) := Hg2.out
                              have hvs : (u.extract 1 u.size).size ≤ 4000000 := by simp; omega
                              obtain ⟨v, hv⟩ : ∃ v, v = u.extract 1 u.size := ⟨_, rfl⟩
                              rw [← hv] at hvs
                              have HDV := Lib.hid (drop_dl hv)
                              have hcat : (y.t ++ u.extract 1 u.size).size ≤ 8000000 := by rw [← hv, ByteArray.size_append]; omega
                              have HV := Lib.hid hv
                              clear hv
                              go_wp2_with fail
                              have r0' : ∀ eu : Ext wr, eu.w.cell? ⟨G, d.length * 2 + 1, none⟩ = some (.slice (some ⟨g, 0, none⟩) (es0.length + 1) ec) := fun eu => eu.cell r0
                              have g2' : ∀ eu : Ext wr, eu.w.cell? ⟨g, es0.length * 3 + 2, none⟩ = some (.string y.t) := fun eu => eu.cell g2''
                              clear g2'' r0
                              refine wp_region_tail (C := fun w' => ∃ eu : Ext wr, w' = eu.w) 21 (by kernel_rfl) (by kernel_rfl) (Ext.drew wr) ?_
                              simp only [List.take_succ_cons, List.take_zero, List.drop_succ_cons, List.drop_zero]
                              repeat (go_big_quiet_step (fail))
                              refine wpQuiet_nil ?_
                              rintro w' ⟨eu, rfl⟩
                              have HEU := Lib.hid eu.below
                              have HZG : Hid (∃ cur, eu.w.heap[g]? = some (.cells cur 50 (0, 0))) := Lib.hid ⟨curg, heap_below eu.below Hgh.out (Array.getElem?_eq_some_iff.1 Hgh.out).1⟩
                              have z0 : eu.w.frozen? ⟨g, es0.length * 3 + 2, none⟩ = false := by obtain ⟨cur, h⟩ := HZG.out; exact Lib.frozen_of_heap h _
                              have z1 := g2' eu
                              clear r0' g2'
                              generalize eu.w = uw at *
                              clear eu
                              go_wp2_with fail
                              have hrp : RfC w.heap.size K (.slice (some ⟨G, 0, none⟩) (d.length + 1) gc) (d ++ [⟨n, some ⟨g, 0, none⟩, ec, es0 ++ [⟨y.a, y.b, (y.t ++ u.extract 1 u.size ++ ⟨#[10]⟩)⟩]⟩]) (uw.setCell ⟨g, es0.length * 3 + 2, none⟩ (.string (y.t ++ u.extract 1 u.size ++ ⟨#[10]⟩))) := (HR.out.rf.on HEU.out).patch (y.t ++ u.extract 1 u.size ++ ⟨#[10]⟩)
                              have hrw : (uw.setCell ⟨g, es0.length * 3 + 2, none⟩ (.string (y.t ++ u.extract 1 u.size ++ ⟨#[10]⟩))).ownsRow w.heap.size 9 1 (.slice (some ⟨b, 0, none⟩) xs.length xc) xs.length (xs.map Value.string) := by
                                obtain ⟨cur, h⟩ := HZG.out
                                exact str_set (cs := []) (own_on HR.out.row HEU.out) h (by decide)
                              have hbw : Below w.heap.size w (uw.setCell ⟨g, es0.length * 3 + 2, none⟩ (.string (y.t ++ u.extract 1 u.size ++ ⟨#[10]⟩))) := (HR.out.bel.trans (HEU.out.mono HR.out.bel.size)).setCell (p := ⟨g, es0.length * 3 + 2, none⟩) (Nat.le_trans HR.out.rf.leB HKg.out) _
                              have hsn : Sim s (i + 1) (pcs (d ++ [⟨n, some ⟨g, 0, none⟩, ec, es0 ++ [⟨y.a, y.b, y.t ++ u.extract 1 u.size ++ ⟨#[10]⟩⟩]⟩])) (left - 1) (prevL s (i + 1)) := by
                                refine sim_next HR.out.sim HTI.out ?_
                                rw [HDT.out, rStep_want HL1.out, rw_plus H0.out, pcs_push, pcs_push, addT_at, ← HDV.out, HV.out]
                                rw [cat_last]
                              have HRN : Hid (Rnd s w.heap.size (i + 1) (left - 1) K (.slice (some ⟨G, 0, none⟩) (d.length + 1) gc) _ xs (.slice (some ⟨b, 0, none⟩) xs.length xc) w _) := Lib.hid ⟨hsn, hrp, hrw, hbw⟩
                              clear hsn hrp hrw hbw
                              go_roundw
                              case rel => exact ⟨_, K, i + 1, left - 1, by go_num, by rw [show ((left : Int) - 1) = ((left - 1 : Nat) : Int) by omega], by omega, HRN.out⟩
                              case measure => simp [intOf]; omega
                          · have k43 : ((f : Int) == 43) = false := by rw [beq_eq_false_iff_ne]; omega
                            have N43 : Hid ((dl u)[0]? ≠ some 43) := Lib.hid (fun h => c43 (by rw [HF.out]; exact (fst8_is (b := 43) (by decide)).2 h))
                            clear c43
                            as_aux_lemma =>
                              go_wp2_with fail
                              refine bodyPost_ret (v := .tuple #[.slice none 0 0, .int .i64 ((i : Int) + 1), .int .i64 240]) (by simp [results, Tryd.results14, go_sem]) rfl ?_
                              exact sim_bad HR.out.sim HTI.out (by rw [HDT.out]; exact (rStep_want HL1.out).trans (rw_none N43.out)) HR.out.bel
        · have he := end_no ht1 w5' h10
          have h10' : (((t[t.size - 1]'w5').toNat : Int) == 10) = false := by rw [beq_eq_false_iff_ne]; omega
          have HE := Lib.hid he
          clear he h10
          go_wp2_with fail
          refine bodyPost_ret (v := .tuple #[.slice none 0 0, .int .i64 ((i : Int) + 1), .int .i64 240]) (by simp [results, Tryd.results14, go_sem]) rfl ?_
          exact sim_bad HR.out.sim HTI.out (rStep_open HE.out) HR.out.bel
    · as_aux_lemma =>
        obtain rfl : i = xs.length := by omega
        have HXL : Hid (xs.length = (lines (dl s)).length) := Lib.hid (by rw [← HXS.out, List.length_map])
        have hfin := (show Sim s (lines (dl s)).length (pcs lc) left (prevL s xs.length) from HXL.out ▸ hrnd.sim).fin
        have HFIN := Lib.hid hfin
        have HR := Lib.hid hrnd
        clear hfin hrnd hbd
        by_cases hl : left = 0
        · as_aux_lemma =>
            have HL0 := Lib.hid hl
            have hl0 : ¬ (0 : Int) < (left : Int) := by omega
            have hl0d : decide (0 < left) = false := decide_eq_false (by omega)
            clear hl
            rcases last_cases lc with rfl | ⟨d, c, rfl⟩
            · as_aux_lemma =>
                go_wp2_with fail
                refine bodyPost_ret (v := .tuple #[.slice ga 0 gc, .int .i64 0, .int .i64 0]) (by simp [results, Tryd.results14, go_sem]) rfl ?_
                refine ⟨HR.out.bel, ?_⟩
                obtain ⟨P, hP1, hP2⟩ := HFIN.out.1 HL0.out (by intro c h; simp [pcs] at h)
                rw [hP1]
                exact ⟨K, _, _, hP2.symm, rfl, by simpa using HR.out.rf⟩
            · as_aux_lemma =>
                have hrf := HR.out.rf
                obtain ⟨G, cap, curG, hGs, hBG, hGh, hG0, hG1⟩ := hrf.last
                rw [show (d ++ [c]).length = d.length + 1 from by simp] at hGs
                simp only [Value.slice.injEq] at hGs
                obtain ⟨rfl, -, rfl⟩ := hGs
                have hdl : d.length ≤ 4000000 := by rw [List.length_append, List.length_singleton] at hll; omega
                have hdl0 : (0 : Int) ≤ (d.length : Int) := by omega
                obtain ⟨n, ea, ec, es⟩ := c
                unfold Chg.ev at hG1
                simp only at hG1
                clear hrf hBG hGh hG0 hll
                by_cases h0 : es.length = 0
                · have z0 : ((es.length : Int) == 0) = true := by rw [beq_iff_eq]; omega
                  have HE0 := Lib.hid h0
                  clear h0
                  go_wp2_with fail
                  refine bodyPost_ret (v := .tuple #[.slice none 0 0, .int .i64 ((xs.length : Int) + 1), .int .i64 240]) (by simp [results, Tryd.results14, go_sem]) rfl ?_
                  refine ⟨HR.out.bel, ?_⟩
                  rw [HFIN.out.2 (by right; exact ⟨(n, es), by rw [pcs_push]; simp only [List.getLast?_append, List.getLast?_singleton, Option.some_or], HE0.out⟩)]
                  simp only
                  rw [← HXL.out]
                  rfl
                · have z0 : ((es.length : Int) == 0) = false := by rw [beq_eq_false_iff_ne]; omega
                  have HE0 := Lib.hid h0
                  clear h0
                  go_wp2_with fail
                  refine bodyPost_ret (v := .tuple #[.slice (some ⟨G, 0, none⟩) (d.length + 1) gc, .int .i64 0, .int .i64 0]) (by simp [results, Tryd.results14, go_sem]) rfl ?_
                  refine ⟨HR.out.bel, ?_⟩
                  obtain ⟨P, hP1, hP2⟩ := HFIN.out.1 HL0.out (by intro c h; rw [pcs_push] at h; simp only [List.getLast?_append, List.getLast?_singleton, Option.some_or, Option.some.injEq] at h; rw [← h]; exact HE0.out)
                  rw [hP1]
                  exact ⟨K, _, _, hP2.symm, rfl, by simpa using HR.out.rf⟩
        · as_aux_lemma =>
            have hl1 : (0 : Int) < (left : Int) := by omega
            have HL1 : Hid (0 < left) := Lib.hid (by omega)
            clear hl
            go_wp2_with fail
            refine bodyPost_ret (v := .tuple #[.slice none 0 0, .int .i64 ((xs.length : Int) + 1), .int .i64 240]) (by simp [results, Tryd.results14, go_sem]) rfl ?_
            refine ⟨HR.out.bel, ?_⟩
            rw [HFIN.out.2 (.inl HL1.out)]
            simp only
            rw [← HXL.out]
            rfl
end Go.Proofs.YtodjhgalbaelkaaDoor

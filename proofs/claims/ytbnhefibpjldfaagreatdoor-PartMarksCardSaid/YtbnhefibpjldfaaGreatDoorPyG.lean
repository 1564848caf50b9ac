/- the document: Alike. -/
import Derived.Test.YtbnhefibpjldfaaGreatDoorPyF
import Derived.Test.YtbnhefibpjldfaaGreatDoorPxH
namespace Go.Proofs.YtbnhefibpjldfaaGreatDoor
open Go.RowKit Go.BigFrame Go.Shelf
set_option linter.unusedVariables false

theorem sameT_lenR (sp : Bool) : ∀ (f : Bool) (l m : List Tk), l.length ≠ m.length → sameT sp f l m = false
  | f, [], [], h => absurd rfl h
  | f, [], _ :: _, h => by cases f <;> rfl
  | f, _ :: _, [], h => by cases f <;> rfl
  | f, a :: x, b :: y, h => by rw [sameT, sameT_lenR sp false x y (by simpa using h), Bool.and_false]
theorem sameT_atR {sp f : Bool} {l m : List Tk} {i : Nat} (h : i < l.length) (h2 : i < m.length) : sameT sp f (l.drop i) (m.drop i) = (l[i].kind == m[i].kind && l[i].text == m[i].text && (!sp || f || l[i].space == m[i].space) && sameT sp false (l.drop (i + 1)) (m.drop (i + 1))) := by
  rw [List.drop_eq_getElem_cons h, List.drop_eq_getElem_cons h2, sameT]
theorem strNe {x y : Bs} (h : x ≠ y) : ((str x).toList != (str y).toList) = true ∧ ((str x).toList == (str y).toList) = false := by
  rw [str_tl, str_tl, bne_iff_ne, beq_eq_false_iff_ne]; exact ⟨h, h⟩
theorem rless_call (va : Value) (A : List Rw) (w : World) (ha : RowsV w va A) (hal : A.length ≤ 1000000000) (hat : ∀ x ∈ A, x.toks.length ≤ 1000000000) (X : List Rw) (hX : YtbnhefibpjldfaaGreatDoor.less A = X) : Calls Tryz.prog 52 #[va] w (fun e w' => ∃ v, e = .returned v ∧ RowsV w' v X ∧ Below w.heap.size w w') := hX ▸ Rf.less va A w ha hal hat
theorem RowsV.below {w w' : World} {v : Value} {A : List Rw} (h : RowsV w v A) (hb : Below w.heap.size w w') : RowsV w' v A := by
  obtain ⟨L, h1, h2, h3⟩ := h
  exact ⟨L, h1, h2.below hb, fun p hp => (h3 p hp).below hb⟩
set_option maxRecDepth 100000 in
set_option maxHeartbeats 8000000 in
theorem Rf.alikeR (va vb : Value) (A B : List Rw) (w : World) (ha : RowsV w va A) (hb : RowsV w vb B) (hal : A.length ≤ 1000000000) (hbl : B.length ≤ 1000000000) (hat : ∀ x ∈ A, x.toks.length ≤ 1000000000) (hbt : ∀ x ∈ B, x.toks.length ≤ 1000000000) :
    Calls Tryz.prog 24 #[va, vb, .bool false] w fun e w' => e = .returned (.bool (alikeP false A B)) ∧ Below w.heap.size w w' := by
  obtain ⟨X, hX⟩ : ∃ X, YtbnhefibpjldfaaGreatDoor.less A = X := ⟨_, rfl⟩
  obtain ⟨Y, hY⟩ : ∃ Y, YtbnhefibpjldfaaGreatDoor.less B = Y := ⟨_, rfl⟩
  have hal2 : alikeP false A B = all2 (rowSame false) X Y := by unfold alikeP; rw [hX, hY]
  rw [hal2]
  have hXt : ∀ x ∈ X, x.toks.length ≤ 1000000000 := fun x hx => hat x (by rw [← hX] at hx; exact (List.mem_filter.1 hx).1)
  have hYt : ∀ x ∈ Y, x.toks.length ≤ 1000000000 := fun x hx => hbt x (by rw [← hY] at hx; exact (List.mem_filter.1 hx).1)
  have hXl : X.length ≤ 1000000000 := by rw [← hX]; exact Nat.le_trans (List.length_filter_le _ _) hal
  have HL1 := Lib.hid (rless_call va A w ha hal hat X hX)
  have HL2 := Lib.hid (fun W hW => rless_call vb B W (hb.below hW) hbl hbt Y hY)
  have HXT := Lib.hid hXt
  have HYT := Lib.hid hYt
  clear hal2 hX hY ha hb hal hbl hat hbt hXt hYt
  go_enter Tryz.func24, Tryz.ntmps24
  go_wp2_with fail
  refine HL1.out.mono ?_
  rintro e w2 ⟨v1, rfl, hr1, hb2⟩
  have HR1 := Lib.hid hr1
  have HB2 := Lib.hid hb2
  have hc2 := HL2.out w2 hb2
  have HC2 := Lib.hid hc2
  obtain ⟨L, hLX, ⟨aa, ca, rfl, _⟩, _⟩ := hr1
  clear hb2 hc2 HL1 HL2
  go_wp2_with fail
  refine HC2.out.mono ?_
  rintro e w3 ⟨v2, rfl, hr2, hb3⟩
  obtain ⟨L, hLX, ⟨aa', ca', he1, _, _, hra⟩, hta⟩ := HR1.out.below hb3
  simp only [Value.slice.injEq] at he1
  obtain ⟨rfl, hll, rfl⟩ := he1
  obtain ⟨M, hMY, ⟨ab, cb, rfl, _, _, hrb⟩, htb⟩ := hr2
  rw [hll]
  have HRA := Lib.hid hra
  have HTA := Lib.hid hta
  have HRB := Lib.hid hrb
  have HTB := Lib.hid htb
  have HB3 := Lib.hid (HB2.out.trans (hb3.mono HB2.out.size))
  have hLl : L.length ≤ 1000000000 := by have := congrArg List.length hLX; simp at this; omega
  have HLX := Lib.hid hLX
  have HMY := Lib.hid hMY
  clear hra hta hrb htb hb3 hLX hMY HR1 HC2 hll HB2
  by_cases hlen : L.length = M.length
  · have hne : ((L.length : Int) != M.length) = false := by rw [bne_eq_false_iff_eq]; omega
    have HLEN := Lib.hid hlen
    have hXYl : X.length = L.length ∧ Y.length = L.length := by rw [← HLX.out, ← HMY.out]; simp; omega
    have HXYL := Lib.hid hXYl
    clear hlen hXYl
    go_wp2_with fail
    go_loopw [9] (fun s9 wr => ∃ (i : Nat), i ≤ L.length ∧ s9 = .int .i64 i ∧ all2 (rowSame false) X Y = all2 (rowSame false) (X.drop i) (Y.drop i) ∧ Below w3.heap.size w3 wr) (fun s9 _ => L.length - (intOf s9).toNat)
    case atStart => exact ⟨0, Nat.zero_le _, rfl, rfl, Below.refl _ _⟩
    case round =>
      obtain ⟨i, hi, rfl, hq, hbel⟩ := hrel
      have hws := hbel.size
      by_cases hlt : i < L.length
      · have hlt2 : i < M.length := by have := HLEN.out; omega
        have hlt' : (i : Int) < L.length := by omega
        have hlt2' : (i : Int) < M.length := by omega
        obtain ⟨gb, go, rfl, hgb, hgc⟩ := HRA.out.at (by intro e; simp [e] at hlt)
        obtain ⟨kb, ko, rfl, hkb, hkc⟩ := HRB.out.at (by intro e; simp [e] at hlt2)
        have hxk : ∀ w', Below w3.heap.size w3 w' → CellsAt w' gb (go + i * 3) (rvC L[i]) := fun w' hw' => (hgc i hlt).below hw' hgb
        have hyk : ∀ w', Below w3.heap.size w3 w' → CellsAt w' kb (ko + i * 3) (rvC M[i]) := fun w' hw' => (hkc i hlt2).below hw' hkb
        have hxv := HTA.out L[i] (List.getElem_mem hlt)
        have hyv := HTB.out M[i] (List.getElem_mem hlt2)
        have hxX : X[i]'(by rw [HXYL.out.1]; exact hlt) = L[i].1 := by simp only [← HLX.out, List.getElem_map]
        have hyY : Y[i]'(by rw [HXYL.out.2]; exact hlt) = M[i].1 := by simp only [← HMY.out, List.getElem_map]
        have hxl := HXT.out L[i].1 (by rw [← hxX]; exact List.getElem_mem _)
        have hyl := HYT.out M[i].1 (by rw [← hyY]; exact List.getElem_mem _)
        rw [all2_at _ (by rw [HXYL.out.1]; exact hlt) (by rw [HXYL.out.2]; exact hlt), hxX, hyY] at hq
        clear hgc hkc hxX hyY
        generalize L[i] = x at *
        generalize M[i] = y at *
        obtain ⟨⟨xd, xn, xt⟩, xv⟩ := x
        obtain ⟨⟨yd, yn, yt⟩, yv⟩ := y
        simp only at hxv hyv hxl hyl hq
        obtain ⟨xa, xc, rfl, _⟩ := hxv
        obtain ⟨ya, yc, rfl, _⟩ := hyv
        obtain ⟨k0, k1, k2⟩ := CellsAt.get3' (hxk wr hbel)
        simp only at k0 k1 k2
        obtain ⟨S, hS⟩ : ∃ S, YtbnhefibpjldfaaGreatDoor.says ⟨xd, xn, xt⟩ = S := ⟨_, rfl⟩
        obtain ⟨T, hT⟩ : ∃ T, YtbnhefibpjldfaaGreatDoor.says ⟨yd, yn, yt⟩ = T := ⟨_, rfl⟩
        have HSC := Lib.hid (fun W hW => Rf.says_call ⟨xd, xn, xt⟩ xa xt.length xc W S hS rfl ((show SlV 5 tkC w3 (.slice xa xt.length xc) xt from ⟨xa, xc, rfl, by assumption⟩).below hW) hxl)
        have HTC := Lib.hid (fun W hW => Rf.says_call ⟨yd, yn, yt⟩ ya yt.length yc W T hT rfl ((show SlV 5 tkC w3 (.slice ya yt.length yc) yt from ⟨ya, yc, rfl, by assumption⟩).below hW) hyl)
        have HQ := Lib.hid hq
        have HBEL := Lib.hid hbel
        have HXK := Lib.hid hxk
        have HYK := Lib.hid hyk
        have HS := Lib.hid hS
        have HT := Lib.hid hT
        clear hq hbel hxk hyk hS hT
        go_wp2_with fail
        refine (HSC.out wr HBEL.out).mono ?_
        rintro e w4 ⟨a1, c1, rfl, hr1, hSl, hb4⟩
        have HS1 := Lib.hid hr1
        have hB4 := HBEL.out.trans (hb4.mono hws)
        obtain ⟨m0, m1, m2⟩ := CellsAt.get3' (HYK.out w4 hB4)
        simp only at m0 m1 m2
        have HB4 := Lib.hid hB4
        have hws4 := hB4.size
        clear hr1 hb4 hB4 HSC k0 k1 k2
        go_wp2_with fail
        refine (HTC.out w4 HB4.out).mono ?_
        rintro e w5 ⟨a2, c2, rfl, hr2, hTl, hb5⟩
        have HT1 := Lib.hid hr2
        have HS2 := Lib.hid (HS1.out.below hb5 (Nat.le_refl _) hb5.size)
        have hB5 := HB4.out.trans (hb5.mono hws4)
        obtain ⟨k0, k1, k2⟩ := CellsAt.get3' (HXK.out w5 hB5)
        obtain ⟨n0, n1, n2⟩ := CellsAt.get3' (HYK.out w5 hB5)
        simp only at k0 k1 k2 n0 n1 n2
        have HB5 := Lib.hid hB5
        have hws5 := hB5.size
        have HBB : Hid (∀ nq, Below w.heap.size w (w5.drewN nq)) := Lib.hid fun nq => (HB3.out.trans (HB5.out.mono HB3.out.size)).trans ((below_drewN _ _ nq).mono (Nat.le_refl _))
        clear hr2 hb5 hB5 HTC m0 m1 m2 HS1
        by_cases hd : xd = yd
        · by_cases hn : xn = yn
          · by_cases hl : S.length = T.length
            · subst hd hn
              rw [rowSame_yes HS.out HT.out (b := (xd && xn == define')) (by simp)] at HQ
              have hl' : ((S.length : Int) != T.length) = false := by rw [bne_eq_false_iff_eq]; omega
              have HSL := Lib.hid hl
              clear hl
              cases xd
              · have hqs := HQ.out
                go_wp2_with fail
                go_quiet (fail)
                go_wp2_with fail
                have hbq : Below w5.heap.size w5 (w5.drewN nq) := below_drewN _ _ nq
                have HBQ0 := Lib.hid hbq
                have HQ0 := Lib.hid hqs
                clear hqs hbq
                go_loopw [12] (fun s12 wq => ∃ (k : Nat), k ≤ S.length ∧ s12 = .int .i64 k ∧ all2 (rowSame false) X Y = (sameT false (decide (k = 0)) (S.drop k) (T.drop k) && all2 (rowSame false) (X.drop (i + 1)) (Y.drop (i + 1))) ∧ Below w5.heap.size w5 wq) (fun s12 _ => S.length - (intOf s12).toNat)
                case atStart => exact ⟨0, Nat.zero_le _, rfl, HQ0.out, HBQ0.out⟩
                case round =>
                  rename World => wq
                  obtain ⟨k, hk, rfl, hqk, hbq⟩ := hrel
                  by_cases hkl : k < S.length
                  · have hkl2 : k < T.length := by have := HSL.out; omega
                    have hkl' : (k : Int) < S.length := by omega
                    have hkl2' : (k : Int) < T.length := by omega
                    obtain ⟨sb, so, rfl, hsb, hsc⟩ := HS2.out.at (by intro e; simp [e] at hkl)
                    obtain ⟨tb, tof, rfl, htb, htc⟩ := HT1.out.at (by intro e; simp [e] at hkl2)
                    obtain ⟨p0, p1, p2, p3, p4⟩ := CellsAt.get5 ((hsc k hkl).below hbq hsb)
                    obtain ⟨q0, q1, q2, q3, q4⟩ := CellsAt.get5 ((htc k hkl2).below hbq htb)
                    obtain ⟨x0, x1, x2⟩ := CellsAt.get3' (HXK.out wq (HB5.out.trans (hbq.mono hws5)))
                    simp only at x0 x1 x2
                    rw [sameT_atR hkl hkl2] at hqk
                    generalize S[k] = s at *
                    generalize T[k] = t at *
                    obtain ⟨sk, sx, slo, shi, ssp⟩ := s
                    obtain ⟨tk, tx, tlo, thi, tsp⟩ := t
                    simp only at p0 p1 p2 p3 p4 q0 q1 q2 q3 q4 hqk
                    have HZB : Hid (∀ n1, Below w.heap.size w (wq.drewN n1)) := Lib.hid fun n1 => ((HB3.out.trans (HB5.out.mono HB3.out.size)).trans (hbq.mono (by have := HB3.out.size; omega))).trans ((below_drewN _ _ n1).mono (Nat.le_refl _))
                    have HZC : Hid (∀ n1, Below w5.heap.size w5 (wq.drewN n1)) := Lib.hid fun n1 => hbq.trans (below_drewN _ _ n1)
                    clear hsc htc hbq
                    by_cases hkk : sk = tk
                    · subst hkk
                      have hkb : ((sk : Int) != sk) = false := by simp
                      by_cases htt : sx = tx
                      · subst htt
                        have htb1 : ((str sx).toList != (str sx).toList) = false := by simp
                        rw [beq_self_eq_true, beq_self_eq_true, Bool.true_and, Bool.true_and] at hqk
                        by_cases hss : ssp = tsp
                        · subst hss
                          have hq2 : all2 (rowSame false) X Y = (sameT false (decide (k + 1 = 0)) (S.drop (k + 1)) (T.drop (k + 1)) && all2 (rowSame false) (X.drop (i + 1)) (Y.drop (i + 1))) := by
                            rw [hqk]; simp
                          have HQZ := Lib.hid hq2
                          clear hqk hq2
                          cases ssp
                          all_goals
                            go_wp2_with fail
                            go_quiet (fail)
                            go_wp2_with fail
                            go_quiet (fail)
                            go_wp2_with fail
                            go_roundw
                            case rel => exact ⟨k + 1, by omega, by go_num, HQZ.out, HZC.out _⟩
                            case measure => simp [intOf]; omega
                        · by_cases hk0 : k = 0
                          · subst hk0
                            have hq2 : all2 (rowSame false) X Y = (sameT false (decide (0 + 1 = 0)) (S.drop (0 + 1)) (T.drop (0 + 1)) && all2 (rowSame false) (X.drop (i + 1)) (Y.drop (i + 1))) := by
                              rw [hqk]; simp
                            have HQZ := Lib.hid hq2
                            simp only [Nat.zero_mul, Nat.add_zero] at p0 p1 p2 p3 p4 q0 q1 q2 q3 q4
                            clear hqk hq2
                            cases ssp <;> cases tsp <;> first | exact absurd rfl hss | skip
                            all_goals
                              clear hss
                              go_wp2_with fail
                              go_quiet (fail)
                              go_wp2_with fail
                              go_quiet (fail)
                              go_wp2_with fail
                              go_roundw
                              case rel => exact ⟨0 + 1, by omega, by go_num, HQZ.out, HZC.out _⟩
                              case measure => simp [intOf]; omega
                          · have hk1 : decide (0 < k) = true := decide_eq_true (by omega)
                            have hk2 : (0 : Int) < k := by omega
                            have hq2 : all2 (rowSame false) X Y = (sameT false (decide (k + 1 = 0)) (S.drop (k + 1)) (T.drop (k + 1)) && all2 (rowSame false) (X.drop (i + 1)) (Y.drop (i + 1))) := by
                              rw [hqk]; simp
                            have HQZ := Lib.hid hq2
                            clear hqk hq2 hk0
                            cases ssp <;> cases tsp <;> first | exact absurd rfl hss | skip
                            all_goals
                              clear hss
                              go_wp2_with fail
                              go_quiet (fail)
                              go_wp2_with fail
                              go_quiet (fail)
                              go_wp2_with fail
                              go_roundw
                              case rel => exact ⟨k + 1, by omega, by go_num, HQZ.out, HZC.out _⟩
                              case measure => simp [intOf]; omega
                      · obtain ⟨e1, e2⟩ := strNe htt
                        have hq2 : all2 (rowSame false) X Y = false := by rw [hqk, show (sx == tx) = false by simpa using htt]; simp
                        have HQZ := Lib.hid hq2
                        clear hqk hq2 htt
                        go_wp2_with fail
                        go_quiet (fail)
                        go_wp2_with fail
                        go_ret
                        first
                        | exact ⟨by rw [HQZ.out]; rfl, HZB.out _⟩
                        | exact ⟨by rw [HQZ.out]; rfl, (HZB.out _).trans (below_drewN _ _ _)⟩
                    · have hkb : ((sk : Int) != tk) = true := by rw [bne_iff_ne]; omega
                      have hq2 : all2 (rowSame false) X Y = false := by rw [hqk, show (sk == tk) = false by simpa using hkk]; simp
                      have HQZ := Lib.hid hq2
                      clear hqk hq2 hkk
                      go_wp2_with fail
                      go_quiet (fail)
                      go_wp2_with fail
                      go_ret
                      first
                      | exact ⟨by rw [HQZ.out]; rfl, HZB.out _⟩
                      | exact ⟨by rw [HQZ.out]; rfl, (HZB.out _).trans (below_drewN _ _ _)⟩
                  · obtain rfl : k = S.length := by omega
                    rw [List.drop_length, HSL.out, List.drop_length] at hqk
                    have hq2 : all2 (rowSame false) X Y = all2 (rowSame false) (X.drop (i + 1)) (Y.drop (i + 1)) := by rw [hqk]; simp [sameT]
                    have HQZ := Lib.hid hq2
                    have HZC := Lib.hid (HB5.out.trans (hbq.mono hws5))
                    have hkl' : ¬ (S.length : Int) < S.length := by omega
                    clear hqk hq2 hbq
                    go_wp2_with fail
                    go_roundw
                    case rel => exact ⟨i + 1, by omega, by go_num, HQZ.out, HZC.out⟩
                    case measure => simp [intOf]; omega
              by_cases hdf : xn = define'
              · subst hdf
                have hdd : ((str define').toList == [100, 101, 102, 105, 110, 101]) = true := by rw [str_tl]; rfl
                have hqs := HQ.out
                go_wp2_with fail
                go_quiet (fail)
                go_wp2_with fail
                have hbq : Below w5.heap.size w5 (w5.drewN nq) := below_drewN _ _ nq
                have HBQ0 := Lib.hid hbq
                have HQ0 := Lib.hid hqs
                clear hqs hbq
                go_loopw [12] (fun s12 wq => ∃ (k : Nat), k ≤ S.length ∧ s12 = .int .i64 k ∧ all2 (rowSame false) X Y = (sameT true (decide (k = 0)) (S.drop k) (T.drop k) && all2 (rowSame false) (X.drop (i + 1)) (Y.drop (i + 1))) ∧ Below w5.heap.size w5 wq) (fun s12 _ => S.length - (intOf s12).toNat)
                case atStart => exact ⟨0, Nat.zero_le _, rfl, HQ0.out, HBQ0.out⟩
                case round =>
                  rename World => wq
                  obtain ⟨k, hk, rfl, hqk, hbq⟩ := hrel
                  by_cases hkl : k < S.length
                  · have hkl2 : k < T.length := by have := HSL.out; omega
                    have hkl' : (k : Int) < S.length := by omega
                    have hkl2' : (k : Int) < T.length := by omega
                    obtain ⟨sb, so, rfl, hsb, hsc⟩ := HS2.out.at (by intro e; simp [e] at hkl)
                    obtain ⟨tb, tof, rfl, htb, htc⟩ := HT1.out.at (by intro e; simp [e] at hkl2)
                    obtain ⟨p0, p1, p2, p3, p4⟩ := CellsAt.get5 ((hsc k hkl).below hbq hsb)
                    obtain ⟨q0, q1, q2, q3, q4⟩ := CellsAt.get5 ((htc k hkl2).below hbq htb)
                    obtain ⟨x0, x1, x2⟩ := CellsAt.get3' (HXK.out wq (HB5.out.trans (hbq.mono hws5)))
                    simp only at x0 x1 x2
                    rw [sameT_atR hkl hkl2] at hqk
                    generalize S[k] = s at *
                    generalize T[k] = t at *
                    obtain ⟨sk, sx, slo, shi, ssp⟩ := s
                    obtain ⟨tk, tx, tlo, thi, tsp⟩ := t
                    simp only at p0 p1 p2 p3 p4 q0 q1 q2 q3 q4 hqk
                    have HZB : Hid (∀ n1, Below w.heap.size w (wq.drewN n1)) := Lib.hid fun n1 => ((HB3.out.trans (HB5.out.mono HB3.out.size)).trans (hbq.mono (by have := HB3.out.size; omega))).trans ((below_drewN _ _ n1).mono (Nat.le_refl _))
                    have HZC : Hid (∀ n1, Below w5.heap.size w5 (wq.drewN n1)) := Lib.hid fun n1 => hbq.trans (below_drewN _ _ n1)
                    clear hsc htc hbq
                    by_cases hkk : sk = tk
                    · subst hkk
                      have hkb : ((sk : Int) != sk) = false := by simp
                      by_cases htt : sx = tx
                      · subst htt
                        have htb1 : ((str sx).toList != (str sx).toList) = false := by simp
                        rw [beq_self_eq_true, beq_self_eq_true, Bool.true_and, Bool.true_and] at hqk
                        by_cases hss : ssp = tsp
                        · subst hss
                          have hq2 : all2 (rowSame false) X Y = (sameT true (decide (k + 1 = 0)) (S.drop (k + 1)) (T.drop (k + 1)) && all2 (rowSame false) (X.drop (i + 1)) (Y.drop (i + 1))) := by
                            rw [hqk]; simp
                          have HQZ := Lib.hid hq2
                          clear hqk hq2
                          cases ssp
                          all_goals
                            go_wp2_with fail
                            go_quiet (fail)
                            go_wp2_with fail
                            go_quiet (fail)
                            go_wp2_with fail
                            go_roundw
                            case rel => exact ⟨k + 1, by omega, by go_num, HQZ.out, HZC.out _⟩
                            case measure => simp [intOf]; omega
                        · by_cases hk0 : k = 0
                          · subst hk0
                            have hq2 : all2 (rowSame false) X Y = (sameT true (decide (0 + 1 = 0)) (S.drop (0 + 1)) (T.drop (0 + 1)) && all2 (rowSame false) (X.drop (i + 1)) (Y.drop (i + 1))) := by
                              rw [hqk]; simp
                            have HQZ := Lib.hid hq2
                            simp only [Nat.zero_mul, Nat.add_zero] at p0 p1 p2 p3 p4 q0 q1 q2 q3 q4
                            clear hqk hq2
                            cases ssp <;> cases tsp <;> first | exact absurd rfl hss | skip
                            all_goals
                              clear hss
                              go_wp2_with fail
                              go_quiet (fail)
                              go_wp2_with fail
                              go_quiet (fail)
                              go_wp2_with fail
                              go_roundw
                              case rel => exact ⟨0 + 1, by omega, by go_num, HQZ.out, HZC.out _⟩
                              case measure => simp [intOf]; omega
                          · have hk1 : decide (0 < k) = true := decide_eq_true (by omega)
                            have hk2 : (0 : Int) < k := by omega
                            have hq2 : all2 (rowSame false) X Y = false := by
                              rw [hqk, decide_eq_false hk0]; cases ssp <;> cases tsp <;> first | exact absurd rfl hss | simp
                            have HQZ := Lib.hid hq2
                            clear hqk hq2 hk0
                            cases ssp <;> cases tsp <;> first | exact absurd rfl hss | skip
                            all_goals
                              clear hss
                              go_wp2_with fail
                              go_quiet (fail)
                              go_wp2_with fail
                              go_quiet (fail)
                              go_wp2_with fail
                              go_ret
                              first
                              | exact ⟨by rw [HQZ.out]; rfl, HZB.out _⟩
                              | exact ⟨by rw [HQZ.out]; rfl, (HZB.out _).trans (below_drewN _ _ _)⟩
                      · obtain ⟨e1, e2⟩ := strNe htt
                        have hq2 : all2 (rowSame false) X Y = false := by rw [hqk, show (sx == tx) = false by simpa using htt]; simp
                        have HQZ := Lib.hid hq2
                        clear hqk hq2 htt
                        go_wp2_with fail
                        go_quiet (fail)
                        go_wp2_with fail
                        go_ret
                        first
                        | exact ⟨by rw [HQZ.out]; rfl, HZB.out _⟩
                        | exact ⟨by rw [HQZ.out]; rfl, (HZB.out _).trans (below_drewN _ _ _)⟩
                    · have hkb : ((sk : Int) != tk) = true := by rw [bne_iff_ne]; omega
                      have hq2 : all2 (rowSame false) X Y = false := by rw [hqk, show (sk == tk) = false by simpa using hkk]; simp
                      have HQZ := Lib.hid hq2
                      clear hqk hq2 hkk
                      go_wp2_with fail
                      go_quiet (fail)
                      go_wp2_with fail
                      go_ret
                      first
                      | exact ⟨by rw [HQZ.out]; rfl, HZB.out _⟩
                      | exact ⟨by rw [HQZ.out]; rfl, (HZB.out _).trans (below_drewN _ _ _)⟩
                  · obtain rfl : k = S.length := by omega
                    rw [List.drop_length, HSL.out, List.drop_length] at hqk
                    have hq2 : all2 (rowSame false) X Y = all2 (rowSame false) (X.drop (i + 1)) (Y.drop (i + 1)) := by rw [hqk]; simp [sameT]
                    have HQZ := Lib.hid hq2
                    have HZC := Lib.hid (HB5.out.trans (hbq.mono hws5))
                    have hkl' : ¬ (S.length : Int) < S.length := by omega
                    clear hqk hq2 hbq
                    go_wp2_with fail
                    go_roundw
                    case rel => exact ⟨i + 1, by omega, by go_num, HQZ.out, HZC.out⟩
                    case measure => simp [intOf]; omega
              · have hdd : ((str xn).toList == [100, 101, 102, 105, 110, 101]) = false := by rw [str_tl, beq_eq_false_iff_ne]; exact hdf
                have hdf' : (true && xn == define') = false := by rw [Bool.true_and, beq_eq_false_iff_ne]; exact hdf
                rw [hdf'] at HQ
                clear hdf hdf'
                have hqs := HQ.out
                go_wp2_with fail
                go_quiet (fail)
                go_wp2_with fail
                have hbq : Below w5.heap.size w5 (w5.drewN nq) := below_drewN _ _ nq
                have HBQ0 := Lib.hid hbq
                have HQ0 := Lib.hid hqs
                clear hqs hbq
                go_loopw [12] (fun s12 wq => ∃ (k : Nat), k ≤ S.length ∧ s12 = .int .i64 k ∧ all2 (rowSame false) X Y = (sameT false (decide (k = 0)) (S.drop k) (T.drop k) && all2 (rowSame false) (X.drop (i + 1)) (Y.drop (i + 1))) ∧ Below w5.heap.size w5 wq) (fun s12 _ => S.length - (intOf s12).toNat)
                case atStart => exact ⟨0, Nat.zero_le _, rfl, HQ0.out, HBQ0.out⟩
                case round =>
                  rename World => wq
                  obtain ⟨k, hk, rfl, hqk, hbq⟩ := hrel
                  by_cases hkl : k < S.length
                  · have hkl2 : k < T.length := by have := HSL.out; omega
                    have hkl' : (k : Int) < S.length := by omega
                    have hkl2' : (k : Int) < T.length := by omega
                    obtain ⟨sb, so, rfl, hsb, hsc⟩ := HS2.out.at (by intro e; simp [e] at hkl)
                    obtain ⟨tb, tof, rfl, htb, htc⟩ := HT1.out.at (by intro e; simp [e] at hkl2)
                    obtain ⟨p0, p1, p2, p3, p4⟩ := CellsAt.get5 ((hsc k hkl).below hbq hsb)
                    obtain ⟨q0, q1, q2, q3, q4⟩ := CellsAt.get5 ((htc k hkl2).below hbq htb)
                    obtain ⟨x0, x1, x2⟩ := CellsAt.get3' (HXK.out wq (HB5.out.trans (hbq.mono hws5)))
                    simp only at x0 x1 x2
                    rw [sameT_atR hkl hkl2] at hqk
                    generalize S[k] = s at *
                    generalize T[k] = t at *
                    obtain ⟨sk, sx, slo, shi, ssp⟩ := s
                    obtain ⟨tk, tx, tlo, thi, tsp⟩ := t
                    simp only at p0 p1 p2 p3 p4 q0 q1 q2 q3 q4 hqk
                    have HZB : Hid (∀ n1, Below w.heap.size w (wq.drewN n1)) := Lib.hid fun n1 => ((HB3.out.trans (HB5.out.mono HB3.out.size)).trans (hbq.mono (by have := HB3.out.size; omega))).trans ((below_drewN _ _ n1).mono (Nat.le_refl _))
                    have HZC : Hid (∀ n1, Below w5.heap.size w5 (wq.drewN n1)) := Lib.hid fun n1 => hbq.trans (below_drewN _ _ n1)
                    clear hsc htc hbq
                    by_cases hkk : sk = tk
                    · subst hkk
                      have hkb : ((sk : Int) != sk) = false := by simp
                      by_cases htt : sx = tx
                      · subst htt
                        have htb1 : ((str sx).toList != (str sx).toList) = false := by simp
                        rw [beq_self_eq_true, beq_self_eq_true, Bool.true_and, Bool.true_and] at hqk
                        by_cases hss : ssp = tsp
                        · subst hss
                          have hq2 : all2 (rowSame false) X Y = (sameT false (decide (k + 1 = 0)) (S.drop (k + 1)) (T.drop (k + 1)) && all2 (rowSame false) (X.drop (i + 1)) (Y.drop (i + 1))) := by
                            rw [hqk]; simp
                          have HQZ := Lib.hid hq2
                          clear hqk hq2
                          cases ssp
                          all_goals
                            go_wp2_with fail
                            go_quiet (fail)
                            go_wp2_with fail
                            go_quiet (fail)
                            go_wp2_with fail
                            go_roundw
                            case rel => exact ⟨k + 1, by omega, by go_num, HQZ.out, HZC.out _⟩
                            case measure => simp [intOf]; omega
                        · by_cases hk0 : k = 0
                          · subst hk0
                            have hq2 : all2 (rowSame false) X Y = (sameT false (decide (0 + 1 = 0)) (S.drop (0 + 1)) (T.drop (0 + 1)) && all2 (rowSame false) (X.drop (i + 1)) (Y.drop (i + 1))) := by
                              rw [hqk]; simp
                            have HQZ := Lib.hid hq2
                            simp only [Nat.zero_mul, Nat.add_zero] at p0 p1 p2 p3 p4 q0 q1 q2 q3 q4
                            clear hqk hq2
                            cases ssp <;> cases tsp <;> first | exact absurd rfl hss | skip
                            all_goals
                              clear hss
                              go_wp2_with fail
                              go_quiet (fail)
                              go_wp2_with fail
                              go_quiet (fail)
                              go_wp2_with fail
                              go_roundw
                              case rel => exact ⟨0 + 1, by omega, by go_num, HQZ.out, HZC.out _⟩
                              case measure => simp [intOf]; omega
                          · have hk1 : decide (0 < k) = true := decide_eq_true (by omega)
                            have hk2 : (0 : Int) < k := by omega
                            have hq2 : all2 (rowSame false) X Y = (sameT false (decide (k + 1 = 0)) (S.drop (k + 1)) (T.drop (k + 1)) && all2 (rowSame false) (X.drop (i + 1)) (Y.drop (i + 1))) := by
                              rw [hqk]; simp
                            have HQZ := Lib.hid hq2
                            clear hqk hq2 hk0
                            cases ssp <;> cases tsp <;> first | exact absurd rfl hss | skip
                            all_goals
                              clear hss
                              go_wp2_with fail
                              go_quiet (fail)
                              go_wp2_with fail
                              go_quiet (fail)
                              go_wp2_with fail
                              go_roundw
                              case rel => exact ⟨k + 1, by omega, by go_num, HQZ.out, HZC.out _⟩
                              case measure => simp [intOf]; omega
                      · obtain ⟨e1, e2⟩ := strNe htt
                        have hq2 : all2 (rowSame false) X Y = false := by rw [hqk, show (sx == tx) = false by simpa using htt]; simp
                        have HQZ := Lib.hid hq2
                        clear hqk hq2 htt
                        go_wp2_with fail
                        go_quiet (fail)
                        go_wp2_with fail
                        go_ret
                        first
                        | exact ⟨by rw [HQZ.out]; rfl, HZB.out _⟩
                        | exact ⟨by rw [HQZ.out]; rfl, (HZB.out _).trans (below_drewN _ _ _)⟩
                    · have hkb : ((sk : Int) != tk) = true := by rw [bne_iff_ne]; omega
                      have hq2 : all2 (rowSame false) X Y = false := by rw [hqk, show (sk == tk) = false by simpa using hkk]; simp
                      have HQZ := Lib.hid hq2
                      clear hqk hq2 hkk
                      go_wp2_with fail
                      go_quiet (fail)
                      go_wp2_with fail
                      go_ret
                      first
                      | exact ⟨by rw [HQZ.out]; rfl, HZB.out _⟩
                      | exact ⟨by rw [HQZ.out]; rfl, (HZB.out _).trans (below_drewN _ _ _)⟩
                  · obtain rfl : k = S.length := by omega
                    rw [List.drop_length, HSL.out, List.drop_length] at hqk
                    have hq2 : all2 (rowSame false) X Y = all2 (rowSame false) (X.drop (i + 1)) (Y.drop (i + 1)) := by rw [hqk]; simp [sameT]
                    have HQZ := Lib.hid hq2
                    have HZC := Lib.hid (HB5.out.trans (hbq.mono hws5))
                    have hkl' : ¬ (S.length : Int) < S.length := by omega
                    clear hqk hq2 hbq
                    go_wp2_with fail
                    go_roundw
                    case rel => exact ⟨i + 1, by omega, by go_num, HQZ.out, HZC.out⟩
                    case measure => simp [intOf]; omega
            · have hq := HQ.out
              have hrs : rowSame false ⟨xd, xn, xt⟩ ⟨yd, yn, yt⟩ = false := by
                subst hd hn
                rw [rowSame_yes HS.out HT.out (b := (xd && xn == define')) (by simp)]
                exact sameT_lenR _ _ _ _ hl
              rw [hrs, Bool.false_and] at hq
              have HQ2 := Lib.hid hq
              have hl' : ((S.length : Int) != T.length) = true := by rw [bne_iff_ne]; omega
              clear hq hrs hl
              subst hd hn
              cases xd
              all_goals
                go_wp2_with fail
                go_quiet (fail)
                go_wp2_with fail
                go_ret
                exact ⟨by rw [HQ2.out]; rfl, HBB.out _⟩
          · have hq := HQ.out
            rw [rowSame_no (.inr hn), Bool.false_and] at hq
            have HQ2 := Lib.hid hq
            obtain ⟨e1, e2⟩ := strNe hn
            clear hq hn
            subst hd
            cases xd
            all_goals
              go_wp2_with fail
              go_quiet (fail)
              go_wp2_with fail
              go_ret
              exact ⟨by rw [HQ2.out]; rfl, HBB.out _⟩
        · have hq := HQ.out
          rw [rowSame_no (.inl hd), Bool.false_and] at hq
          have HQ2 := Lib.hid hq
          clear hq
          cases xd <;> cases yd <;> first | exact absurd rfl hd | skip
          all_goals
            clear hd
            go_wp2_with fail
            go_quiet (fail)
            go_wp2_with fail
            go_ret
            exact ⟨by rw [HQ2.out]; rfl, HBB.out _⟩
      · obtain rfl : i = L.length := by omega
        have hlt' : ¬ (L.length : Int) < L.length := by omega
        rw [show X.drop L.length = [] by rw [List.drop_eq_nil_iff, HXYL.out.1]; exact Nat.le_refl _, show Y.drop L.length = [] by rw [List.drop_eq_nil_iff, HXYL.out.2]; exact Nat.le_refl _] at hq
        have HQ := Lib.hid hq
        have HBEL := Lib.hid (HB3.out.trans (hbel.mono HB3.out.size))
        clear hq hbel
        go_wp2_with fail
        go_ret
        exact ⟨by rw [HQ.out]; rfl, HBEL.out⟩
  · have hne : ((L.length : Int) != M.length) = true := by rw [bne_iff_ne]; omega
    have hq : all2 (rowSame false) X Y = false := all2_len _ _ _ (by rw [← HLX.out, ← HMY.out]; simpa using hlen)
    have HQ := Lib.hid hq
    clear hlen hq
    go_wp2_with fail
    go_ret
    exact ⟨by rw [HQ.out]; rfl, HB3.out⟩
end Go.Proofs.YtbnhefibpjldfaaGreatDoor

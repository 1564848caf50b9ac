/- lines: Alike. -/
import Derived.Test.YtbnhefibpjldfaaGreatDoorPwZ
import Derived.Test.YtbnhefibpjldfaaGreatDoorPwW
namespace Go.Proofs.YtbnhefibpjldfaaGreatDoor
open Go.RowKit Go.BigFrame Go.Shelf
set_option linter.unusedVariables false

theorem CellsAt.get3' {w : World} {b o : Nat} {x y z : Value} (h : CellsAt w b o [x, y, z]) : w.cell? ⟨b, o, none⟩ = some x ∧ w.cell? ⟨b, o + 1, none⟩ = some y ∧ w.cell? ⟨b, o + 2, none⟩ = some z :=
  ⟨h 0 x rfl, h 1 y rfl, h 2 z rfl⟩
theorem mute_says (r : Rw) : mute r = (!r.dir && (YtbnhefibpjldfaaGreatDoor.says r).length == 0) := by
  obtain ⟨d, n, t⟩ := r
  cases d
  · simp only [mute, YtbnhefibpjldfaaGreatDoor.says, Bool.not_false, Bool.true_and, Bool.false_eq_true, if_false]
    cases YtbnhefibpjldfaaGreatDoor.bare t <;> rfl
  · rfl
theorem less_at {l : List Rw} {i : Nat} (h : i < l.length) : less (l.drop i) = if mute l[i] then less (l.drop (i + 1)) else l[i] :: less (l.drop (i + 1)) := by
  rw [List.drop_eq_getElem_cons h]
  unfold less
  cases hm : mute l[i] <;> simp only [List.filter_cons, hm] <;> rfl
theorem says_call (r : Rw) (a : Option Addr) (n c : Nat) (w : World) (S : List Tk) (hS : YtbnhefibpjldfaaGreatDoor.says r = S) (hn : n = r.toks.length) (hv : SlV 5 tkC w (.slice a n c) r.toks) (hl : r.toks.length ≤ 1000000000) : Calls Tryz.prog 37 #[.agg #[.bool r.dir, .string (str r.name), .slice a n c]] w fun e w' =>
    ∃ a' c', e = .returned (.slice a' S.length c') ∧ RowAt 5 tkC w' a' S ∧ S.length ≤ 1000000000 ∧ Below w.heap.size w w' := by
  subst hS
  refine (Ls.says r _ w hv hl).mono ?_
  rintro e w' ⟨v, rfl, hown, hb⟩
  obtain ⟨a', c', rfl, h1, h2, h3⟩ := SlV.of tkC_len hown rfl
  refine ⟨a', c', rfl, h3, Nat.le_trans ?_ hl, hb⟩
  unfold YtbnhefibpjldfaaGreatDoor.says
  have : (YtbnhefibpjldfaaGreatDoor.bare r.toks).length ≤ r.toks.length := bare_len r.toks false
  split
  · split <;> (simp only [List.length_drop]; omega)
  · exact this
theorem rowSame_no {keep : Bool} {x y : Rw} (h : x.dir ≠ y.dir ∨ x.name ≠ y.name) : rowSame keep x y = false := by
  unfold rowSame
  rcases h with h | h
  · rw [show (x.dir == y.dir) = false by simpa using h]; rfl
  · rw [show (x.name == y.name) = false by simpa using h, Bool.and_false]; rfl
theorem rowSame_yes {keep b : Bool} {d : Bool} {n : Bs} {t u : List Tk} {S T : List Tk} (hS : YtbnhefibpjldfaaGreatDoor.says ⟨d, n, t⟩ = S) (hT : YtbnhefibpjldfaaGreatDoor.says ⟨d, n, u⟩ = T) (hb : (keep || (d && n == define')) = b) : rowSame keep ⟨d, n, t⟩ ⟨d, n, u⟩ = sameT b true S T := by
  unfold rowSame
  rw [hS, hT]
  simp [hb]
set_option maxRecDepth 100000 in
set_option maxHeartbeats 1600000 in
theorem Ls.alike (va vb : Value) (A B : List Rw) (keep : Bool) (w : World) (ha : RowsV w va A) (hb : RowsV w vb B) (hal : A.length ≤ 1000000000) (hbl : B.length ≤ 1000000000) (hat : ∀ x ∈ A, x.toks.length ≤ 1000000000) (hbt : ∀ x ∈ B, x.toks.length ≤ 1000000000) :
    Calls Tryz.prog 16 #[va, vb, .bool keep] w fun e w' => e = .returned (.bool (alikeP keep A B)) ∧ Below w.heap.size w w' := by
  obtain ⟨L, rfl, ⟨aa, ca, rfl, hca, hna, hra⟩, hta⟩ := ha
  obtain ⟨M, rfl, ⟨ab, cb, rfl, hcb, hnb, hrb⟩, htb⟩ := hb
  simp only [List.length_map] at hal hbl
  have HRA := Lib.hid hra
  have HRB := Lib.hid hrb
  have HTA := Lib.hid hta
  have HTB := Lib.hid htb
  have HAT := Lib.hid hat
  have HBT := Lib.hid hbt
  clear hra hrb hta htb hat hbt hna hnb
  go_enter Tryz.func16, Tryz.ntmps16
  go_wp2_with fail
  go_step3
  go_wp2_with fail
  go_step3
  go_wp2_with fail
  go_loopw [7, 14] (fun s7 s14 wr => ∃ (i j : Nat), i ≤ L.length ∧ j ≤ M.length ∧ s7 = .int .i64 j ∧ s14 = .int .i64 i ∧ alikeP keep (L.map (·.1)) (M.map (·.1)) = all2 (rowSame keep) (less ((L.map (·.1)).drop i)) (less ((M.map (·.1)).drop j)) ∧ Below w.heap.size w wr) (fun _ s14 _ => L.length - (intOf s14).toNat)
  case atStart => exact ⟨0, 0, Nat.zero_le _, Nat.zero_le _, rfl, rfl, rfl, Below.refl _ _⟩
  case round =>
    rename World => w1
    obtain ⟨i, j, hi, hj, rfl, rfl, hq, hbel⟩ := hrel
    by_cases hlt : i < L.length
    · obtain ⟨gb, go, rfl, hgb, hgc⟩ := HRA.out.at (by intro e; simp [e] at hlt)
      obtain ⟨k0, k1, k2⟩ := CellsAt.get3' ((hgc i hlt).below hbel hgb)
      have hv := (HTA.out L[i] (List.getElem_mem hlt)).below hbel
      have hxl := HAT.out L[i].1 (List.mem_map_of_mem (List.getElem_mem hlt))
      rw [less_at (by simpa using hlt)] at hq
      simp only [List.getElem_map] at hq
      have hlt' : (i : Int) < L.length := by omega
      generalize L[i] = x at *
      obtain ⟨⟨xd, xn, xt⟩, xv⟩ := x
      simp only at k0 k1 k2 hv hxl hq
      have HQ := Lib.hid hq
      have HBEL := Lib.hid hbel
      have HV := Lib.hid hv
      have hws := hbel.size
      obtain ⟨xa, xc, rfl, _⟩ := hv
      clear hq hbel hgc
      obtain ⟨S, hS⟩ : ∃ S, YtbnhefibpjldfaaGreatDoor.says ⟨xd, xn, xt⟩ = S := ⟨_, rfl⟩
      have hsc := says_call ⟨xd, xn, xt⟩ xa xt.length xc (w1.alloc (.cells #[.bool xd, .string (str xn), .slice xa xt.length xc] 78)) S hS rfl (HV.out.below (below_alloc _ _)) hxl
      have HSC := Lib.hid hsc
      have hmu := mute_says ⟨xd, xn, xt⟩
      rw [hS] at hmu
      simp only at hmu
      rw [hmu] at HQ
      have HSX := Lib.hid hS
      clear hsc hmu hS
      go_wp2_with fail
      refine HSC.out.mono ?_
      rintro e w3 ⟨a1, c1, rfl, hr1, hSl, b3⟩
      have k0' : w3.cell? ⟨w1.heap.size, 0, none⟩ = some (.bool xd) := (b3.cell (p := ⟨w1.heap.size, 0, none⟩) (by simp)).trans (by simp)
      have k1' : w3.cell? ⟨w1.heap.size, 1, none⟩ = some (.string (str xn)) := (b3.cell (p := ⟨w1.heap.size, 1, none⟩) (by simp)).trans (by simp)
      have hw3 := b3.size
      simp only [World.size_alloc] at hw3
      have HB3 := Lib.hid (HBEL.out.trans (((below_alloc w1 _).trans (b3.mono (by simp))).mono hws))
      have HS1 := Lib.hid hr1
      have hq := HQ.out
      clear b3 hr1 HSC HV HBEL HQ k0 k1 k2
      by_cases hm : (!xd && S.length == 0) = true
      · rw [if_pos hm] at hq
        simp only [Bool.and_eq_true, Bool.not_eq_true', beq_iff_eq] at hm
        obtain ⟨rfl, hm⟩ := hm
        have HQ3 := Lib.hid hq
        clear hq
        go_wp2_with fail
        go_roundw
        case rel => exact ⟨i + 1, j, by omega, hj, rfl, by go_num, HQ3.out, HB3.out⟩
        case measure => simp [intOf]; omega
      · rw [if_neg hm] at hq
        have hm' : xd = true ∨ (xd = false ∧ ¬ S.length = 0) := by
          cases xd
          · exact .inr ⟨rfl, by simpa using hm⟩
          · exact .inl rfl
        have HQ3 := Lib.hid hq
        clear hq hm
        have hg3 : (!xd && decide (S.length = 0)) = false := by rcases hm' with rfl | ⟨rfl, h⟩ <;> simp_all
        cases xd
        · have hS0 : ¬ S.length = 0 := by simpa using hg3
          clear hg3 hm'
          go_wp2_with fail
          have e26 : ((S.length : Int) == 0) = false := by rw [beq_eq_false_iff_ne]; omega
          simp only [e26]
          clear e26 hS0
          go_loopw [7] (fun s7 wq => ∃ (j' : Nat), j' ≤ M.length ∧ s7 = .int .i64 j' ∧ alikeP keep (L.map (·.1)) (M.map (·.1)) = all2 (rowSame keep) ((⟨false, xn, xt⟩ : Rw) :: less ((L.map (·.1)).drop (i + 1))) (less ((M.map (·.1)).drop j')) ∧ Below w3.heap.size w3 wq) (fun s7 _ => M.length - (intOf s7).toNat)
          case atStart => exact ⟨j, hj, rfl, HQ3.out, Below.refl _ _⟩
          case round =>
            rename World => wq
            obtain ⟨j', hj', rfl, hq, hbq⟩ := hrel
            have hs3 := HB3.out.size
            by_cases hlt2 : j' < M.length
            · obtain ⟨gb2, go2, rfl, hgb2, hgc2⟩ := HRB.out.at (by intro e; simp [e] at hlt2)
              have hbw := HB3.out.trans (hbq.mono hs3)
              have hwq := hbq.size
              obtain ⟨m0, m1, m2⟩ := CellsAt.get3' ((hgc2 j' hlt2).below hbw hgb2)
              have hvy := (HTB.out M[j'] (List.getElem_mem hlt2)).below hbw
              have hyl := HBT.out M[j'].1 (List.mem_map_of_mem (List.getElem_mem hlt2))
              rw [less_at (l := M.map (·.1)) (i := j') (by simpa using hlt2)] at hq
              simp only [List.getElem_map] at hq
              have hlt2' : (j' : Int) < M.length := by omega
              generalize M[j'] = y at *
              obtain ⟨⟨yd, yn, yt⟩, yv⟩ := y
              simp only at m0 m1 m2 hvy hyl hq
              have HVY := Lib.hid hvy
              obtain ⟨ya, yc, rfl, _⟩ := hvy
              obtain ⟨T, hT⟩ : ∃ T, YtbnhefibpjldfaaGreatDoor.says ⟨yd, yn, yt⟩ = T := ⟨_, rfl⟩
              have hsc2 := says_call ⟨yd, yn, yt⟩ ya yt.length yc wq T hT rfl HVY.out hyl
              have HSC2 := Lib.hid hsc2
              have hmu := mute_says ⟨yd, yn, yt⟩
              rw [hT] at hmu
              simp only at hmu
              rw [hmu] at hq
              have HQ := Lib.hid hq
              have HSY := Lib.hid hT
              have HBQ := Lib.hid hbq
              have q0 := (hbq.cell (p := ⟨w1.heap.size, 0, none⟩) (by simp; omega)).trans k0'
              have q1 := (hbq.cell (p := ⟨w1.heap.size, 1, none⟩) (by simp; omega)).trans k1'
              have m0' : ∀ u : Ext wq, u.w.cell? ⟨gb2, go2 + j' * 3, none⟩ = some (.bool yd) := fun u => u.cell m0
              have m1' : ∀ u : Ext wq, u.w.cell? ⟨gb2, go2 + j' * 3 + 1, none⟩ = some (.string (str yn)) := fun u => u.cell m1
              have q0' : ∀ u : Ext wq, u.w.cell? ⟨w1.heap.size, 0, none⟩ = some (.bool false) := fun u => u.cell q0
              have q1' : ∀ u : Ext wq, u.w.cell? ⟨w1.heap.size, 1, none⟩ = some (.string (str xn)) := fun u => u.cell q1
              clear hsc2 hmu hT hq hbq hgc2 hbw q0 q1
              go_wp2_with fail
              refine HSC2.out.mono ?_
              rintro e w4 ⟨a2, c2, rfl, hr2, hTl, b4⟩
              have n0 := m0' ⟨w4, b4⟩
              have n1 := m1' ⟨w4, b4⟩
              have p0 := q0' ⟨w4, b4⟩
              have p1 := q1' ⟨w4, b4⟩
              simp only [Ext.w] at n0 n1 p0 p1
              have HT2 := Lib.hid hr2
              have hb34 : Below w3.heap.size w3 w4 := HBQ.out.trans (b4.mono hwq)
              have HB34 := Lib.hid hb34
              have HB4 := Lib.hid (HB3.out.trans (hb34.mono hs3))
              have hs4 := HB4.out.size
              have hq := HQ.out
              clear b4 hr2 HSC2 HVY HQ m0 m1 m2 m0' m1' q0' q1' hb34
              cases yd
              · by_cases hT0 : T.length = 0
                · rw [if_pos (by simp [hT0])] at hq
                  have HQ4 := Lib.hid hq
                  clear hq
                  go_wp2_with fail
                  go_roundw
                  case rel => exact ⟨j' + 1, by omega, by go_num, HQ4.out, HB34.out⟩
                  case measure => simp [intOf]; omega
                · rw [if_neg (by simpa using hT0)] at hq
                  simp only [all2] at hq
                  by_cases hnm : xn = yn
                  · subst hnm
                    cases keep
                    · rw [rowSame_yes HSX.out HSY.out (b := false) (by first | rfl | simp)] at hq
                      obtain ⟨R, hR⟩ : ∃ R, sameT false true S T = R := ⟨_, rfl⟩
                      rw [hR] at hq
                      have SMM := Lib.hid (fun (w5 : World) (hb5 : Below w4.heap.size w4 w5) => hR ▸ Ls.same a1 a2 c1 c2 S T false w5 (HS1.out.below (HB34.out.trans (hb5.mono HB34.out.size)) (Nat.le_refl _) (HB34.out.trans (hb5.mono HB34.out.size)).size) (HT2.out.below hb5 (Nat.le_refl _) hb5.size) hSl hTl)
                      have HQ4 := Lib.hid hq
                      clear hq hR
                      go_wp2_with fail
                      go_quiet (fail)
                      have p0 : (w4.drewN nq).cell? ⟨w1.heap.size, 0, none⟩ = some (.bool false) := p0
                      have p1 : (w4.drewN nq).cell? ⟨w1.heap.size, 1, none⟩ = some (.string (str xn)) := p1
                      go_wp2_with fail
                      refine (SMM.out _ (below_drewN _ _ _)).mono ?_
                      rintro e w6 ⟨rfl, b6⟩
                      have HB6 := Lib.hid (HB4.out.trans (((below_drewN _ _ _).trans (b6.mono (by simp))).mono hs4))
                      clear b6 SMM p0 p1
                      cases R
                      · go_wp2_with fail
                        rw [Exit.noGoto_ret]
                        go_ret
                        exact ⟨by rw [HQ4.out]; rfl, HB6.out⟩
                      · go_wp2_with fail
                        go_roundw
                        case rel => exact ⟨i + 1, j' + 1, by omega, by omega, by go_num, by go_num, by rw [HQ4.out, Bool.true_and], HB6.out⟩
                        case measure => simp [intOf]; omega
                    · rw [rowSame_yes HSX.out HSY.out (b := true) (by first | rfl | simp)] at hq
                      obtain ⟨R, hR⟩ : ∃ R, sameT true true S T = R := ⟨_, rfl⟩
                      rw [hR] at hq
                      have SMM := Lib.hid (fun (w5 : World) (hb5 : Below w4.heap.size w4 w5) => hR ▸ Ls.same a1 a2 c1 c2 S T true w5 (HS1.out.below (HB34.out.trans (hb5.mono HB34.out.size)) (Nat.le_refl _) (HB34.out.trans (hb5.mono HB34.out.size)).size) (HT2.out.below hb5 (Nat.le_refl _) hb5.size) hSl hTl)
                      have HQ4 := Lib.hid hq
                      clear hq hR
                      go_wp2_with fail
                      go_quiet (fail)
                      have p0 : (w4.drewN nq).cell? ⟨w1.heap.size, 0, none⟩ = some (.bool false) := p0
                      have p1 : (w4.drewN nq).cell? ⟨w1.heap.size, 1, none⟩ = some (.string (str xn)) := p1
                      go_wp2_with fail
                      refine (SMM.out _ (below_drewN _ _ _)).mono ?_
                      rintro e w6 ⟨rfl, b6⟩
                      have HB6 := Lib.hid (HB4.out.trans (((below_drewN _ _ _).trans (b6.mono (by simp))).mono hs4))
                      clear b6 SMM p0 p1
                      cases R
                      · go_wp2_with fail
                        rw [Exit.noGoto_ret]
                        go_ret
                        exact ⟨by rw [HQ4.out]; rfl, HB6.out⟩
                      · go_wp2_with fail
                        go_roundw
                        case rel => exact ⟨i + 1, j' + 1, by omega, by omega, by go_num, by go_num, by rw [HQ4.out, Bool.true_and], HB6.out⟩
                        case measure => simp [intOf]; omega
                  · rw [rowSame_no (.inr hnm), Bool.false_and] at hq
                    have hn2 : ((str xn).toList == (str yn).toList) = false := by rw [str_tl, str_tl]; simpa using hnm
                    have HQ4 := Lib.hid hq
                    clear hq
                    go_wp2_with fail
                    go_quiet (fail)
                    go_wp2_with fail
                    rw [Exit.noGoto_ret]
                    go_ret
                    exact ⟨by rw [HQ4.out]; rfl, HB4.out.trans (below_drewN _ _ _)⟩
              · rw [if_neg (by simp)] at hq
                simp only [all2] at hq
                rw [rowSame_no (by simp), Bool.false_and] at hq
                have HQ4 := Lib.hid hq
                clear hq
                go_wp2_with fail
                go_quiet (fail)
                go_wp2_with fail
                rw [Exit.noGoto_ret]
                go_ret
                exact ⟨by rw [HQ4.out]; rfl, HB4.out.trans (below_drewN _ _ _)⟩
            · obtain rfl : j' = M.length := by omega
              rw [List.drop_of_length_le (l := M.map (·.1)) (i := M.length) (by simp)] at hq
              have HQ4 := Lib.hid hq
              have HB4 := Lib.hid (HB3.out.trans (hbq.mono hs3))
              clear hq hbq
              go_wp2_with fail
              go_ret
              exact ⟨by rw [HQ4.out]; rfl, HB4.out⟩
        · clear hg3 hm'
          go_wp2_with fail
          go_loopw [7] (fun s7 wq => ∃ (j' : Nat), j' ≤ M.length ∧ s7 = .int .i64 j' ∧ alikeP keep (L.map (·.1)) (M.map (·.1)) = all2 (rowSame keep) ((⟨true, xn, xt⟩ : Rw) :: less ((L.map (·.1)).drop (i + 1))) (less ((M.map (·.1)).drop j')) ∧ Below w3.heap.size w3 wq) (fun s7 _ => M.length - (intOf s7).toNat)
          case atStart => exact ⟨j, hj, rfl, HQ3.out, Below.refl _ _⟩
          case round =>
            rename World => wq
            obtain ⟨j', hj', rfl, hq, hbq⟩ := hrel
            have hs3 := HB3.out.size
            by_cases hlt2 : j' < M.length
            · obtain ⟨gb2, go2, rfl, hgb2, hgc2⟩ := HRB.out.at (by intro e; simp [e] at hlt2)
              have hbw := HB3.out.trans (hbq.mono hs3)
              have hwq := hbq.size
              obtain ⟨m0, m1, m2⟩ := CellsAt.get3' ((hgc2 j' hlt2).below hbw hgb2)
              have hvy := (HTB.out M[j'] (List.getElem_mem hlt2)).below hbw
              have hyl := HBT.out M[j'].1 (List.mem_map_of_mem (List.getElem_mem hlt2))
              rw [less_at (l := M.map (·.1)) (i := j') (by simpa using hlt2)] at hq
              simp only [List.getElem_map] at hq
              have hlt2' : (j' : Int) < M.length := by omega
              generalize M[j'] = y at *
              obtain ⟨⟨yd, yn, yt⟩, yv⟩ := y
              simp only at m0 m1 m2 hvy hyl hq
              have HVY := Lib.hid hvy
              obtain ⟨ya, yc, rfl, _⟩ := hvy
              obtain ⟨T, hT⟩ : ∃ T, YtbnhefibpjldfaaGreatDoor.says ⟨yd, yn, yt⟩ = T := ⟨_, rfl⟩
              have hsc2 := says_call ⟨yd, yn, yt⟩ ya yt.length yc wq T hT rfl HVY.out hyl
              have HSC2 := Lib.hid hsc2
              have hmu := mute_says ⟨yd, yn, yt⟩
              rw [hT] at hmu
              simp only at hmu
              rw [hmu] at hq
              have HQ := Lib.hid hq
              have HSY := Lib.hid hT
              have HBQ := Lib.hid hbq
              have q0 := (hbq.cell (p := ⟨w1.heap.size, 0, none⟩) (by simp; omega)).trans k0'
              have q1 := (hbq.cell (p := ⟨w1.heap.size, 1, none⟩) (by simp; omega)).trans k1'
              have m0' : ∀ u : Ext wq, u.w.cell? ⟨gb2, go2 + j' * 3, none⟩ = some (.bool yd) := fun u => u.cell m0
              have m1' : ∀ u : Ext wq, u.w.cell? ⟨gb2, go2 + j' * 3 + 1, none⟩ = some (.string (str yn)) := fun u => u.cell m1
              have q0' : ∀ u : Ext wq, u.w.cell? ⟨w1.heap.size, 0, none⟩ = some (.bool true) := fun u => u.cell q0
              have q1' : ∀ u : Ext wq, u.w.cell? ⟨w1.heap.size, 1, none⟩ = some (.string (str xn)) := fun u => u.cell q1
              clear hsc2 hmu hT hq hbq hgc2 hbw q0 q1
              go_wp2_with fail
              refine HSC2.out.mono ?_
              rintro e w4 ⟨a2, c2, rfl, hr2, hTl, b4⟩
              have n0 := m0' ⟨w4, b4⟩
              have n1 := m1' ⟨w4, b4⟩
              have p0 := q0' ⟨w4, b4⟩
              have p1 := q1' ⟨w4, b4⟩
              simp only [Ext.w] at n0 n1 p0 p1
              have HT2 := Lib.hid hr2
              have hb34 : Below w3.heap.size w3 w4 := HBQ.out.trans (b4.mono hwq)
              have HB34 := Lib.hid hb34
              have HB4 := Lib.hid (HB3.out.trans (hb34.mono hs3))
              have hs4 := HB4.out.size
              have hq := HQ.out
              clear b4 hr2 HSC2 HVY HQ m0 m1 m2 m0' m1' q0' q1' hb34
              cases yd
              · by_cases hT0 : T.length = 0
                · rw [if_pos (by simp [hT0])] at hq
                  have HQ4 := Lib.hid hq
                  clear hq
                  go_wp2_with fail
                  go_roundw
                  case rel => exact ⟨j' + 1, by omega, by go_num, HQ4.out, HB34.out⟩
                  case measure => simp [intOf]; omega
                · rw [if_neg (by simpa using hT0)] at hq
                  simp only [all2] at hq
                  rw [rowSame_no (by simp), Bool.false_and] at hq
                  have HQ4 := Lib.hid hq
                  clear hq
                  go_wp2_with fail
                  go_quiet (fail)
                  go_wp2_with fail
                  rw [Exit.noGoto_ret]
                  go_ret
                  exact ⟨by rw [HQ4.out]; rfl, HB4.out.trans (below_drewN _ _ _)⟩
              · rw [if_neg (by simp)] at hq
                simp only [all2] at hq
                by_cases hnm : xn = yn
                · subst hnm
                  cases keep
                  · by_cases hdf : xn = define'
                    · have d1 : ((str xn).toList == [100, 101, 102, 105, 110, 101]) = true := by rw [str_tl, hdf]; rfl
                      rw [rowSame_yes HSX.out HSY.out (b := true) (by first | rfl | simp [hdf])] at hq
                      obtain ⟨R, hR⟩ : ∃ R, sameT true true S T = R := ⟨_, rfl⟩
                      rw [hR] at hq
                      have SMM := Lib.hid (fun (w5 : World) (hb5 : Below w4.heap.size w4 w5) => hR ▸ Ls.same a1 a2 c1 c2 S T true w5 (HS1.out.below (HB34.out.trans (hb5.mono HB34.out.size)) (Nat.le_refl _) (HB34.out.trans (hb5.mono HB34.out.size)).size) (HT2.out.below hb5 (Nat.le_refl _) hb5.size) hSl hTl)
                      have HQ4 := Lib.hid hq
                      clear hq hR hdf
                      go_wp2_with fail
                      go_quiet (fail)
                      have p0 : (w4.drewN nq).cell? ⟨w1.heap.size, 0, none⟩ = some (.bool true) := p0
                      have p1 : (w4.drewN nq).cell? ⟨w1.heap.size, 1, none⟩ = some (.string (str xn)) := p1
                      go_wp2_with fail
                      refine (SMM.out _ (below_drewN _ _ _)).mono ?_
                      rintro e w6 ⟨rfl, b6⟩
                      have HB6 := Lib.hid (HB4.out.trans (((below_drewN _ _ _).trans (b6.mono (by simp))).mono hs4))
                      clear b6 SMM p0 p1
                      cases R
                      · go_wp2_with fail
                        rw [Exit.noGoto_ret]
                        go_ret
                        exact ⟨by rw [HQ4.out]; rfl, HB6.out⟩
                      · go_wp2_with fail
                        go_roundw
                        case rel => exact ⟨i + 1, j' + 1, by omega, by omega, by go_num, by go_num, by rw [HQ4.out, Bool.true_and], HB6.out⟩
                        case measure => simp [intOf]; omega
                    · have d1 : ((str xn).toList == [100, 101, 102, 105, 110, 101]) = false := by rw [str_tl]; simpa [define'] using hdf
                      rw [rowSame_yes HSX.out HSY.out (b := false) (by first | rfl | simp [hdf])] at hq
                      obtain ⟨R, hR⟩ : ∃ R, sameT false true S T = R := ⟨_, rfl⟩
                      rw [hR] at hq
                      have SMM := Lib.hid (fun (w5 : World) (hb5 : Below w4.heap.size w4 w5) => hR ▸ Ls.same a1 a2 c1 c2 S T false w5 (HS1.out.below (HB34.out.trans (hb5.mono HB34.out.size)) (Nat.le_refl _) (HB34.out.trans (hb5.mono HB34.out.size)).size) (HT2.out.below hb5 (Nat.le_refl _) hb5.size) hSl hTl)
                      have HQ4 := Lib.hid hq
                      clear hq hR hdf
                      go_wp2_with fail
                      go_quiet (fail)
                      have p0 : (w4.drewN nq).cell? ⟨w1.heap.size, 0, none⟩ = some (.bool true) := p0
                      have p1 : (w4.drewN nq).cell? ⟨w1.heap.size, 1, none⟩ = some (.string (str xn)) := p1
                      go_wp2_with fail
                      refine (SMM.out _ (below_drewN _ _ _)).mono ?_
                      rintro e w6 ⟨rfl, b6⟩
                      have HB6 := Lib.hid (HB4.out.trans (((below_drewN _ _ _).trans (b6.mono (by simp))).mono hs4))
                      clear b6 SMM p0 p1
                      cases R
                      · go_wp2_with fail
                        rw [Exit.noGoto_ret]
                        go_ret
                        exact ⟨by rw [HQ4.out]; rfl, HB6.out⟩
                      · go_wp2_with fail
                        go_roundw
                        case rel => exact ⟨i + 1, j' + 1, by omega, by omega, by go_num, by go_num, by rw [HQ4.out, Bool.true_and], HB6.out⟩
                        case measure => simp [intOf]; omega
                  · rw [rowSame_yes HSX.out HSY.out (b := true) (by first | rfl | simp)] at hq
                    obtain ⟨R, hR⟩ : ∃ R, sameT true true S T = R := ⟨_, rfl⟩
                    rw [hR] at hq
                    have SMM := Lib.hid (fun (w5 : World) (hb5 : Below w4.heap.size w4 w5) => hR ▸ Ls.same a1 a2 c1 c2 S T true w5 (HS1.out.below (HB34.out.trans (hb5.mono HB34.out.size)) (Nat.le_refl _) (HB34.out.trans (hb5.mono HB34.out.size)).size) (HT2.out.below hb5 (Nat.le_refl _) hb5.size) hSl hTl)
                    have HQ4 := Lib.hid hq
                    clear hq hR
                    go_wp2_with fail
                    go_quiet (fail)
                    have p0 : (w4.drewN nq).cell? ⟨w1.heap.size, 0, none⟩ = some (.bool true) := p0
                    have p1 : (w4.drewN nq).cell? ⟨w1.heap.size, 1, none⟩ = some (.string (str xn)) := p1
                    go_wp2_with fail
                    refine (SMM.out _ (below_drewN _ _ _)).mono ?_
                    rintro e w6 ⟨rfl, b6⟩
                    have HB6 := Lib.hid (HB4.out.trans (((below_drewN _ _ _).trans (b6.mono (by simp))).mono hs4))
                    clear b6 SMM p0 p1
                    cases R
                    · go_wp2_with fail
                      rw [Exit.noGoto_ret]
                      go_ret
                      exact ⟨by rw [HQ4.out]; rfl, HB6.out⟩
                    · go_wp2_with fail
                      go_roundw
                      case rel => exact ⟨i + 1, j' + 1, by omega, by omega, by go_num, by go_num, by rw [HQ4.out, Bool.true_and], HB6.out⟩
                      case measure => simp [intOf]; omega
                · rw [rowSame_no (.inr hnm), Bool.false_and] at hq
                  have hn2 : ((str xn).toList == (str yn).toList) = false := by rw [str_tl, str_tl]; simpa using hnm
                  have HQ4 := Lib.hid hq
                  clear hq
                  go_wp2_with fail
                  go_quiet (fail)
                  go_wp2_with fail
                  rw [Exit.noGoto_ret]
                  go_ret
                  exact ⟨by rw [HQ4.out]; rfl, HB4.out.trans (below_drewN _ _ _)⟩
            · obtain rfl : j' = M.length := by omega
              rw [List.drop_of_length_le (l := M.map (·.1)) (i := M.length) (by simp)] at hq
              have HQ4 := Lib.hid hq
              have HB4 := Lib.hid (HB3.out.trans (hbq.mono hs3))
              clear hq hbq
              go_wp2_with fail
              go_ret
              exact ⟨by rw [HQ4.out]; rfl, HB4.out⟩
    · obtain rfl : i = L.length := by omega
      rw [List.drop_of_length_le (l := L.map (·.1)) (i := L.length) (by simp)] at hq
      have HQ3 := Lib.hid hq
      have HB3 := Lib.hid hbel
      have hs3 := hbel.size
      clear hq hbel
      go_wp2_with fail
      go_loopw [7] (fun s7 wq => ∃ (j' : Nat), j' ≤ M.length ∧ s7 = .int .i64 j' ∧ alikeP keep (L.map (·.1)) (M.map (·.1)) = all2 (rowSame keep) [] (less ((M.map (·.1)).drop j')) ∧ Below w.heap.size w wq) (fun s7 _ => M.length - (intOf s7).toNat)
      case atStart => exact ⟨j, hj, rfl, HQ3.out, HB3.out⟩
      case round =>
        rename World => wq
        obtain ⟨j', hj', rfl, hq, hbq⟩ := hrel
        by_cases hlt2 : j' < M.length
        · obtain ⟨gb2, go2, rfl, hgb2, hgc2⟩ := HRB.out.at (by intro e; simp [e] at hlt2)
          obtain ⟨m0, m1, m2⟩ := CellsAt.get3' ((hgc2 j' hlt2).below hbq hgb2)
          have hvy := (HTB.out M[j'] (List.getElem_mem hlt2)).below hbq
          have hyl := HBT.out M[j'].1 (List.mem_map_of_mem (List.getElem_mem hlt2))
          rw [less_at (l := M.map (·.1)) (i := j') (by simpa using hlt2)] at hq
          simp only [List.getElem_map] at hq
          have hlt2' : (j' : Int) < M.length := by omega
          generalize M[j'] = y at *
          obtain ⟨⟨yd, yn, yt⟩, yv⟩ := y
          simp only at m0 m1 m2 hvy hyl hq
          have HVY := Lib.hid hvy
          obtain ⟨ya, yc, rfl, _⟩ := hvy
          obtain ⟨T, hT⟩ : ∃ T, YtbnhefibpjldfaaGreatDoor.says ⟨yd, yn, yt⟩ = T := ⟨_, rfl⟩
          have hsc2 := says_call ⟨yd, yn, yt⟩ ya yt.length yc wq T hT rfl HVY.out hyl
          have HSC2 := Lib.hid hsc2
          have hmu := mute_says ⟨yd, yn, yt⟩
          rw [hT] at hmu
          simp only at hmu
          rw [hmu] at hq
          have HBQ := Lib.hid hbq
          have hsq := hbq.size
          clear hsc2 hmu hT hbq hgc2
          cases yd
          · have HQ := Lib.hid hq
            clear hq
            go_wp2_with fail
            refine HSC2.out.mono ?_
            rintro e w4 ⟨a2, c2, rfl, hr2, hTl, b4⟩
            have HB4 := Lib.hid (HBQ.out.trans (b4.mono hsq))
            have hq := HQ.out
            clear hr2 b4 HSC2 HQ
            by_cases hT0 : T.length = 0
            · rw [if_pos (by simp [hT0])] at hq
              have HQ4 := Lib.hid hq
              clear hq
              go_wp2_with fail
              go_roundw
              case rel => exact ⟨j' + 1, by omega, by go_num, HQ4.out, HB4.out⟩
              case measure => simp [intOf]; omega
            · rw [if_neg (by simpa using hT0)] at hq
              have HQ4 := Lib.hid hq
              have hT1 : 0 < T.length := by omega
              clear hq hT0
              go_wp2_with fail
              try rw [Exit.noGoto_ret]
              go_ret
              exact ⟨by rw [HQ4.out]; rfl, HB4.out⟩
          · rw [if_neg (by simp)] at hq
            have HQ4 := Lib.hid hq
            clear hq
            go_wp2_with fail
            try rw [Exit.noGoto_ret]
            go_ret
            exact ⟨by rw [HQ4.out]; rfl, HBQ.out⟩
        · obtain rfl : j' = M.length := by omega
          rw [List.drop_of_length_le (l := M.map (·.1)) (i := M.length) (by simp)] at hq
          have HQ4 := Lib.hid hq
          have HBQ := Lib.hid hbq
          clear hq hbq
          go_wp2_with fail
          go_ret
          exact ⟨by rw [HQ4.out]; rfl, HBQ.out⟩
end Go.Proofs.YtbnhefibpjldfaaGreatDoor

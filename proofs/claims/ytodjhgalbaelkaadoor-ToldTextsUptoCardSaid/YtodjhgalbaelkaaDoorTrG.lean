/- The document's answer for told: Text. -/
import Derived.Test.YtodjhgalbaelkaaDoorTrF
namespace Go.Proofs.YtodjhgalbaelkaaDoor
open Go.RowKit Go.BigFrame Go.Shelf
set_option linter.unusedVariables false

theorem textB_succ (l : List Chg) (i : Nat) (h : i < l.length) : textB (l.take (i + 1)) = textB (l.take i) ++ textC l[i] := by
  unfold textB
  rw [List.take_succ_eq_append_getElem h, List.flatMap_append]; simp
theorem flatMap_succ {α : Type} (f : α → Bs) (l : List α) (i : Nat) (h : i < l.length) : (l.take (i + 1)).flatMap f = (l.take i).flatMap f ++ f l[i] := by
  rw [List.take_succ_eq_append_getElem h, List.flatMap_append]; simp
theorem cat_eq (L : Bs) (n : ByteArray) : str L ++ ⟨#[61, 32]⟩ ++ n ++ ⟨#[10]⟩ = str (L ++ eqB n) := by
  apply dl_inj
  simp [dl, str, eqB]
theorem cat_hed (L a b n : Bs) : str L ++ ⟨#[64, 32]⟩ ++ str a ++ ⟨#[32]⟩ ++ str b ++ ⟨#[32]⟩ ++ str n ++ ⟨#[10]⟩ = str (L ++ ([64, 32] ++ (a ++ (32 :: (b ++ (32 :: (n ++ [10]))))))) := by
  apply dl_inj
  simp [dl, str]
theorem cat_plus (L : Bs) (z : ByteArray) : str L ++ ⟨#[43]⟩ ++ z = str (L ++ (43 :: dl z)) := by
  apply dl_inj
  simp [dl, str]
theorem cat_open (L : Bs) : str L ++ ⟨#[10, 45, 10]⟩ = str (L ++ [10, 45, 10]) := by
  apply dl_inj
  simp [dl, str]
theorem tellB_hed (x : Edi) : tellB x = hedB x.a x.b (lines (dl x.t)).length ++ ((lines (dl x.t)).flatMap (fun l => 43 :: l) ++ (if x.t.size ≠ 0 ∧ ends (dl x.t) = false then [10, 45, 10] else [])) := by
  unfold tellB hedB; simp
theorem ends_at {t : ByteArray} (h : 0 < t.size) : ends (dl t) = (t[t.size - 1] == 10) := by
  have hlt : t.size - 1 < t.size := by omega
  have h1 := drop_at hlt
  rw [show t.size - 1 + 1 = t.size by omega, show (dl t).drop t.size = [] from List.drop_eq_nil_iff.2 (by rw [← size_dl]; exact Nat.le_refl _)] at h1
  have h2 := List.take_append_drop (t.size - 1) (dl t)
  rw [h1] at h2
  rw [← h2, ends_snoc]
theorem okCs_pos {l : List Chg} {p : Option ByteArray} (h : okCs p l = true) : ∀ c ∈ l, ∀ x ∈ c.es, InR x := okCs_mem l p h

set_option maxRecDepth 100000 in
set_option maxHeartbeats 32000000 in
theorem Rf.text (a : Option Addr) (c : Nat) (l : List Chg) (w : World) (hr : ChsAt w a l) (hb : Bnd l) (hw : wt l ≤ 2000000) :
    Calls Tryd.prog 11 #[.slice a l.length c] w fun e w' => e = .returned (textV l) ∧ Below w.heap.size w w' := by
  obtain ⟨V, hV⟩ : ∃ V, textV l = V := ⟨_, rfl⟩
  rw [hV]
  have HV := Lib.hid hV
  have HROW := Lib.hid hr
  have HB := Lib.hid hb
  have HW := Lib.hid hw
  have hll := hb.len
  clear hr hb hw hV
  go_enter Tryd.func11, Tryd.ntmps11
  go_wp2_with fail
  refine (Rf.valid a c l w HROW.out HB.out).mono ?_
  rintro e w1 ⟨rfl, b1⟩
  have B1 := Lib.hid b1
  have hs1 := b1.size
  have hrow1 := HROW.out.below b1
  have HROW1 := Lib.hid hrow1
  clear b1 hrow1 HROW
  cases hok : okCs none l
  · rw [textV_no hok] at HV
    clear hok
    go_wp2_with fail
    go_ret2
    exact ⟨by rw [← HV.out]; rfl, B1.out⟩
  · rw [textV_ok hok] at HV
    have HOK := Lib.hid (okCs_pos hok)
    have hlen := textB_len l (okCs_mem l none hok) HB.out.t
    have HLEN := Lib.hid (show (textB l).length ≤ 200000000 by have := HW.out; omega)
    clear hok hlen
    go_wp2_with fail
    go_loopw [5, 6] (fun s5 s6 wr => ∃ i : Nat, i ≤ l.length ∧ s5 = .string (str (textB (l.take i))) ∧ s6 = .int .i64 i ∧ Below w1.heap.size w1 wr) (fun _ s6 _ => l.length - (intOf s6).toNat)
    case atStart => exact ⟨0, by omega, by simp [textB, str], rfl, Below.refl _ _⟩
    case round =>
      obtain ⟨i, hi, rfl, rfl, hbel⟩ := hrel
      have HBEL := Lib.hid hbel
      have hsz := hbel.size
      by_cases hlt : i < l.length
      · obtain ⟨b, off, rfl, hbw, hc⟩ := HROW1.out.1.at (by intro e; simp [e] at hlt)
        obtain ⟨g0, g1⟩ := Chg.at (w := wr) (b := b) (o := off + i * 2) (c := l[i]) ((hc i hlt).below hbel hbw)
        have hin := HROW1.out.2 l[i] (List.getElem_mem hlt)
        have hel := HB.out.es l[i] (List.getElem_mem hlt)
        have htl := HB.out.t l[i] (List.getElem_mem hlt)
        have hnl := HB.out.n l[i] (List.getElem_mem hlt)
        have hokx := HOK.out l[i] (List.getElem_mem hlt)
        have hcci := hc i hlt
        have hsucc := textB_succ l i hlt
        have hle2 := flatMap_take_len textC l (i + 1)
        have HIN := Lib.hid hin
        have HTL := Lib.hid htl
        have HOKX := Lib.hid hokx
        have HCC := Lib.hid hcci
        have HBW := Lib.hid hbw
        have HSUCC := Lib.hid hsucc
        have HLE2 : Hid ((textB (l.take (i + 1))).length ≤ 200000000) := Lib.hid (Nat.le_trans hle2 HLEN.out)
        clear hc hin htl hokx hcci hsucc hle2 hbel hbw
        generalize l[i] = x at *
        obtain ⟨xn, xa, xc, xes⟩ := x
        simp only at *
        obtain ⟨L0, hL⟩ : ∃ L0, L0 = textB (l.take i) := ⟨_, rfl⟩
        rw [← hL]
        have hL2 : (L0 ++ eqB xn).length + (xes.flatMap tellB).length ≤ 200000000 := by
          have h := HLE2.out
          rw [HSUCC.out, ← hL] at h
          unfold textC at h
          simp only [List.length_append] at h ⊢
          omega
        have hLs : L0.length + 3 + xn.size ≤ 200000000 := by
          have := size_dl xn
          unfold eqB at hL2
          simp only [List.length_append, List.length_cons, List.length_nil] at hL2
          omega
        have HL := Lib.hid hL
        have HL2 := Lib.hid hL2
        clear hL hL2
        have HCAT := Lib.hid (cat_eq L0 xn)
        go_wp2_with fail
        rw [HCAT.out]
        obtain ⟨L, hL⟩ : ∃ L, L = L0 ++ eqB xn := ⟨_, rfl⟩
        rw [← hL]
        have HLL := Lib.hid hL
        have HL3 : Hid (L.length + (xes.flatMap tellB).length ≤ 200000000) := Lib.hid (by rw [hL]; exact HL2.out)
        clear hL HL2 HCAT hLs g0 g1
        go_loopw [5, 7] (fun s5 s7 wq => ∃ k : Nat, k ≤ xes.length ∧ s5 = .string (str (L ++ (xes.take k).flatMap tellB)) ∧ s7 = .int .i64 k ∧ Below w1.heap.size w1 wq) (fun _ s7 _ => xes.length - (intOf s7).toNat)
        case atStart => exact ⟨0, by omega, by simp, rfl, HBEL.out⟩
        case round =>
          clear HBEL hsz
          obtain ⟨k, hk, rfl, rfl, kb⟩ := hrel
          have KB := Lib.hid kb
          have hksz := kb.size
          obtain ⟨g0, g1⟩ := Chg.at (w := wr) (b := b) (o := off + i * 2) (c := ⟨xn, xa, xc, xes⟩) (HCC.out.below kb HBW.out)
          by_cases hkl : k < xes.length
          · obtain ⟨eb, eo, rfl, heb, hec⟩ := HIN.out.at (by intro e; simp [e] at hkl)
            obtain ⟨q0, q1, q2⟩ := Edi.at (w := wr) (b := eb) (o := eo + k * 3) (x := xes[k]) ((hec k hkl).below kb heb)
            have hxt := HTL.out xes[k] (List.getElem_mem hkl)
            have hin := HOKX.out xes[k] (List.getElem_mem hkl)
            have hsk := flatMap_succ tellB xes k hkl
            have hlk := flatMap_take_len tellB xes (k + 1)
            have HSK := Lib.hid hsk
            have HLK : Hid (((xes.take (k + 1)).flatMap tellB).length ≤ (xes.flatMap tellB).length) := Lib.hid hlk
            clear hec heb hsk hlk kb
            generalize xes[k] = y at *
            obtain ⟨ya, yb, yt⟩ := y
            obtain ⟨hi1, hi2, hi3⟩ := hin
            simp only at *
            obtain ⟨A, rfl⟩ : ∃ A : Nat, ya = A := ⟨ya.toNat, by omega⟩
            obtain ⟨D, rfl⟩ : ∃ D : Nat, yb = (A : Int) + D := ⟨(yb - A).toNat, by omega⟩
            obtain ⟨M0, hM⟩ : ∃ M0, M0 = L ++ (xes.take k).flatMap tellB := ⟨_, rfl⟩
            rw [← hM]
            have HM := Lib.hid hM
            have hMs : M0.length + (tellB ⟨A, (A : Int) + D, yt⟩).length ≤ 200000000 := by
              have h1 := HLK.out
              have h2 := HL3.out
              rw [HSK.out, List.length_append] at h1
              rw [hM, List.length_append]
              omega
            have HMS := Lib.hid hMs
            clear hM hMs
            go_wp2_with fail
            obtain ⟨W6, hW6⟩ : ∃ W6, W6 = wr.alloc (.cells #[.int .i64 A, .int .i64 ((A : Int) + D), .string yt] 50) := ⟨_, rfl⟩
            have hy6 : W6.heap[wr.heap.size]? = some (.cells #[.int .i64 A, .int .i64 ((A : Int) + D), .string yt] 50 (0, 0)) := by rw [hW6]; exact heap_alloc_new _ _
            have hb6 : Below wr.heap.size wr W6 := by rw [hW6]; exact below_alloc _ _
            have hwl : wr.heap.size < W6.heap.size := by rw [hW6]; simp
            rw [← hW6]
            refine (Rf.getL yt W6 (by omega)).mono ?_
            rintro e w2 ⟨v, zs, rfl, hzs, hown, b2⟩
            obtain ⟨za, zc, rfl⟩ := row_shape hown
            obtain ⟨N, hN⟩ : ∃ N, N = zs.length := ⟨_, rfl⟩
            have hNl : N = (lines (dl yt)).length := by rw [hN, ← hzs]; simp
            rw [← hN]
            rw [← hN] at hown
            have HN := Lib.hid hNl
            have HNZ := Lib.hid hN
            have HZS := Lib.hid hzs
            have HOWN := Lib.hid hown
            have hb62 : Below wr.heap.size wr w2 := hb6.trans (b2.mono hb6.size)
            have hy2 := heap_below b2 hy6 hwl
            have e0 : ∀ u : Ext w2, u.w.cell? ⟨wr.heap.size, 0, none⟩ = some (.int .i64 A) := fun u => u.cell (by simp [World.cell?, hy2])
            have e1 : ∀ u : Ext w2, u.w.cell? ⟨wr.heap.size, 1, none⟩ = some (.int .i64 ((A : Int) + D)) := fun u => u.cell (by simp [World.cell?, hy2])
            have e2 : ∀ u : Ext w2, u.w.cell? ⟨wr.heap.size, 2, none⟩ = some (.string yt) := fun u => u.cell (by simp [World.cell?, hy2])
            have B2 := Lib.hid hb62
            have HY2 := Lib.hid hy2
            have hNle : N ≤ 2000000 := by have h := lines_le (dl yt); rw [← size_dl, ← hNl] at h; omega
            have hN2 : (N : Int) ≤ 2000000 := by omega
            clear hW6 hy6 hb6 hwl hzs hown b2 hN hNl hb62 hy2 g0 g1 q0 q1 q2
            obtain ⟨DA, hDA⟩ : ∃ DA, DA = Lib.decDigits (A + 1) := ⟨_, rfl⟩
            obtain ⟨DD, hDD⟩ : ∃ DD, DD = Lib.decDigits D := ⟨_, rfl⟩
            obtain ⟨DN, hDN⟩ : ∃ DN, DN = Lib.decDigits N := ⟨_, rfl⟩
            have hhed : hedB A ((A : Int) + D) N = [64, 32] ++ (DA ++ (32 :: (DD ++ (32 :: (DN ++ [10]))))) := by
              unfold hedB
              rw [itoa_of (by omega), itoa_of (by omega), itoa_of (by omega), hDA, hDD, hDN, show ((A : Int) + 1).toNat = A + 1 by omega, show ((A : Int) + D - A).toNat = D by omega, show ((N : Nat) : Int).toNat = N by omega]
            have hl1 : M0.length + DA.length + DD.length + DN.length + 5 ≤ 200000000 := by
              have h := HMS.out
              rw [tellB_hed] at h
              simp only [← HN.out, hhed, List.length_append, List.length_cons, List.length_nil] at h
              omega
            have d1 := fun u : Ext w2 => Rf.digits (A + 1) u.w (by omega)
            rw [show ((A + 1 : Nat) : Int) = (A : Int) + 1 by omega] at d1
            have D1 := Lib.hid d1
            have D2 := Lib.hid (fun u : Ext w2 => Rf.digits D u.w (by omega))
            have D3 := Lib.hid (fun u : Ext w2 => Rf.digits N u.w (by omega))
            rw [← hDA] at D1
            rw [← hDD] at D2
            rw [← hDN] at D3
            have HHED := Lib.hid hhed
            clear hDA hDD hDN hhed d1
            have hsub : (A : Int) + D - A = D := by omega
            have HCAT := Lib.hid (cat_hed M0 DA DD DN)
            go_wp2_with fail
            refine wp_region_quiet (C := fun w' => ∃ u : Ext w2, w' = u.w) (by kernel_rfl) (by kernel_rfl) (Ext.drew w2) ?_
            dsimp only []
            repeat (go_big_quiet_step (fail))
            go_big_quiet_step ((go_at_call 27; rename_i u; refine (D1.out u).mono ?_; rintro e w2 ⟨rfl, b2⟩; exact ⟨rfl, u.on b2⟩))
            repeat (go_big_quiet_step (fail))
            go_big_quiet_step ((go_at_call 27; rename_i u; refine (D2.out u).mono ?_; rintro e w2 ⟨rfl, b2⟩; exact ⟨rfl, u.on b2⟩))
            repeat (go_big_quiet_step (fail))
            go_big_quiet_step ((go_at_call 27; rename_i u; refine (D3.out u).mono ?_; rintro e w2 ⟨rfl, b2⟩; exact ⟨rfl, u.on b2⟩))
            repeat (go_big_quiet_step (fail))
            refine wpQuiet_nil ?_
            rintro w' ⟨u, rfl⟩
            have HU := Lib.hid u.below
            obtain ⟨eB, hE⟩ : ∃ eB, eB = wr.heap.size := ⟨_, rfl⟩
            have f2 : u.w.cell? ⟨eB, 2, none⟩ = some (.string yt) := by rw [hE]; exact e2 u
            have hEl : eB < u.w.heap.size := by
              have h1 := (Array.getElem?_eq_some_iff.1 HY2.out).1
              have h2 := u.below.size
              omega
            clear e0 e1 e2 D1 D2 D3
            generalize u.w = uw at *
            clear u
            rw [HCAT.out, ← HHED.out, ← hE]
            have HE := Lib.hid hE
            clear hE
            obtain ⟨M1, hM1⟩ : ∃ M1, M1 = M0 ++ hedB A ((A : Int) + D) N := ⟨_, rfl⟩
            rw [← hM1]
            have hM1s : M1.length + ((lines (dl yt)).flatMap (fun l => 43 :: l)).length + 3 ≤ 200000003 := by
              have h := HMS.out
              rw [tellB_hed] at h
              simp only [← HN.out] at h
              rw [hM1]
              simp only [List.length_append] at h ⊢
              omega
            have HM1 := Lib.hid hM1
            have HM1S := Lib.hid hM1s
            have F2 := Lib.hid f2
            clear hM1 hM1s HCAT hsub f2
            go_wp2_with fail
            go_loopw [5, 10] (fun s5 s10 wq => ∃ j : Nat, j ≤ N ∧ s5 = .string (str (M1 ++ ((lines (dl yt)).take j).flatMap (fun l => 43 :: l))) ∧ s10 = .int .i64 j ∧ Below uw.heap.size uw wq) (fun _ s10 _ => N - (intOf s10).toNat)
            case atStart => exact ⟨0, by omega, by simp, rfl, Below.refl _ _⟩
            case round =>
              obtain ⟨j, hj, rfl, rfl, jb⟩ := hrel
              have JB := Lib.hid jb
              have hown := own_on (own_on HOWN.out HU.out) jb
              by_cases hjl : j < N
              · have hjz : j < zs.length := by rw [← HNZ.out]; exact hjl
                rw [HNZ.out] at hown
                obtain ⟨-, -, hrow, -⟩ := row_at_of_owns hown
                obtain ⟨gb, go, rfl, hgb, hgc⟩ := hrow.at (by intro e; simp [e] at hjz)
                have gc := strF_at (hgc j hjz)
                rw [Nat.mul_one] at gc
                have hzj : (lines (dl yt))[j]'(by rw [← HN.out]; exact hjl) = dl zs[j] := by
                  have h := HZS.out
                  simp only [← h, List.getElem_map]
                have hts := flatMap_succ (fun l => (43 : UInt8) :: l) (lines (dl yt)) j (by rw [← HN.out]; exact hjl)
                rw [hzj] at hts
                have hle := flatMap_take_len (fun l => (43 : UInt8) :: l) (lines (dl yt)) (j + 1)
                obtain ⟨P0, hP⟩ : ∃ P0, P0 = M1 ++ ((lines (dl yt)).take j).flatMap (fun l => 43 :: l) := ⟨_, rfl⟩
                have hPs : P0.length + 1 + zs[j].size ≤ 200000000 := by
                  have h := HM1S.out
                  rw [hts, List.length_append] at hle
                  rw [hP, List.length_append]
                  have := size_dl zs[j]
                  simp only [List.length_cons] at hle
                  omega
                rw [← hP]
                have HP := Lib.hid hP
                have HTS := Lib.hid hts
                clear hown hrow hgc hzj hts hle hP jb
                generalize zs[j] = z at *
                have HCAT := Lib.hid (cat_plus P0 z)
                go_wp2_with fail
                go_roundw
                case rel => exact ⟨j + 1, by omega, by rw [HCAT.out, HTS.out, HP.out, List.append_assoc], by go_num, JB.out⟩
                case measure => simp [intOf]; omega
              · obtain rfl : j = N := by omega
                have hfull : (lines (dl yt)).take j = lines (dl yt) := by rw [List.take_of_length_le]; rw [HN.out]; exact Nat.le_refl _
                rw [hfull]
                obtain ⟨P0, hP⟩ : ∃ P0, P0 = M1 ++ (lines (dl yt)).flatMap (fun l => 43 :: l) := ⟨_, rfl⟩
                have hPs : P0.length + 3 ≤ 200000003 := by
                  have h := HM1S.out
                  rw [hP, List.length_append]
                  omega
                rw [← hP]
                have HP := Lib.hid hP
                have f2 : wr.cell? ⟨eB, 2, none⟩ = some (.string yt) := (jb.cell (p := ⟨eB, 2, none⟩) hEl).trans F2.out
                have HCAT := Lib.hid (cat_open P0)
                have BW : Hid (Below w1.heap.size w1 wr) := Lib.hid (KB.out.trans ((B2.out.trans ((HU.out.trans (JB.out.mono HU.out.size)).mono B2.out.size)).mono hksz))
                have hend : M1 ++ (lines (dl yt)).flatMap (fun l => 43 :: l) = M0 ++ (hedB A ((A : Int) + D) j ++ (lines (dl yt)).flatMap (fun l => 43 :: l)) := by rw [HM1.out, List.append_assoc]
                have HEND := Lib.hid hend
                clear hfull hP jb hown hend
                have hpos : 0 < j ↔ 0 < yt.size := by
                  rw [HN.out]
                  constructor
                  · intro h
                    rw [size_dl]
                    apply List.length_pos_iff.2
                    intro e
                    rw [e] at h; simp [lines] at h
                  · intro h
                    apply List.length_pos_iff.2
                    intro e
                    have := lines_nil.1 e
                    rw [size_dl, this] at h; simp at h
                by_cases hj0 : 0 < j
                · have hj0' : (0 : Int) < (j : Int) := by omega
                  have hty := hpos.1 hj0
                  have w1' : IntKind.i64.wrap ((yt.size : Int) - 1) = (yt.size : Int) - 1 := IntWalk.i64_in _ (by omega)
                  have w2' : (0 : Int) ≤ (yt.size : Int) - 1 := by omega
                  have w3' : (yt.size : Int) - 1 < (yt.size : Int) := by omega
                  have w4' : ((yt.size : Int) - 1).toNat = yt.size - 1 := by omega
                  have hends := ends_at hty
                  by_cases hlast : yt[yt.size - 1].toNat = 10
                  · have hl' : ((yt[yt.size - 1].toNat : Int) == 10) = true := by rw [beq_iff_eq]; omega
                    have htell : tellB ⟨A, (A : Int) + D, yt⟩ = hedB A ((A : Int) + D) j ++ (lines (dl yt)).flatMap (fun l => 43 :: l) := by
                      rw [tellB_hed]
                      simp only [← HN.out]
                      rw [if_neg (by rintro ⟨_, h⟩; rw [hends, show yt[yt.size - 1] = 10 from UInt8.toNat_inj.1 hlast] at h; cases h), List.append_nil]
                    have HT := Lib.hid htell
                    clear hpos hends htell hlast
                    go_wp2_with fail
                    go_roundw
                    case rel => exact ⟨k + 1, by omega, by rw [HSK.out, HT.out, HP.out, HEND.out, HM.out, List.append_assoc], by go_num, BW.out⟩
                    case measure => simp [intOf]; omega
                  · have hl' : ((yt[yt.size - 1].toNat : Int) == 10) = false := by rw [beq_eq_false_iff_ne]; omega
                    have htell : tellB ⟨A, (A : Int) + D, yt⟩ = hedB A ((A : Int) + D) j ++ ((lines (dl yt)).flatMap (fun l => 43 :: l) ++ [10, 45, 10]) := by
                      rw [tellB_hed]
                      simp only [← HN.out]
                      rw [if_pos ⟨by omega, by rw [hends, beq_eq_false_iff_ne]; intro e; rw [e] at hlast; exact hlast rfl⟩]
                    have HT := Lib.hid htell
                    have HLAST := Lib.hid hlast
                    clear hpos hends htell
                    go_wp2_with fail
                    go_roundw
                    case rel => exact ⟨k + 1, by omega, by rw [HCAT.out, HSK.out, HT.out, HP.out, HEND.out, HM.out]; simp only [List.append_assoc], by go_num, BW.out⟩
                    case measure => simp [intOf]; omega
                · have hj0' : ¬ (0 : Int) < (j : Int) := by omega
                  have hty : ¬ 0 < yt.size := fun h => hj0 (hpos.2 h)
                  have htell : tellB ⟨A, (A : Int) + D, yt⟩ = hedB A ((A : Int) + D) j ++ (lines (dl yt)).flatMap (fun l => 43 :: l) := by
                    rw [tellB_hed]
                    simp only [← HN.out]
                    rw [if_neg (by rintro ⟨h, _⟩; omega), List.append_nil]
                  have HT := Lib.hid htell
                  clear hpos htell
                  go_wp2_with fail
                  go_roundw
                  case rel => exact ⟨k + 1, by omega, by rw [HSK.out, HT.out, HP.out, HEND.out, HM.out, List.append_assoc], by go_num, BW.out⟩
                  case measure => simp [intOf]; omega
          · obtain rfl : k = xes.length := by omega
            rw [List.take_length]
            clear kb
            go_wp2_with fail
            go_roundw
            case rel => exact ⟨i + 1, by omega, by rw [HSUCC.out, HLL.out, ← HL.out]; unfold textC; rw [List.append_assoc], by go_num, KB.out⟩
            case measure => simp [intOf]; omega
      · obtain rfl : i = l.length := by omega
        rw [List.take_length]
        clear hbel
        go_wp2_with fail
        go_ret2
        exact ⟨by rw [← HV.out]; rfl, B1.out.trans (HBEL.out.mono hs1)⟩
end Go.Proofs.YtodjhgalbaelkaaDoor

/- the document: Words of a comment. -/
import Derived.Test.YtbnhefibpjldfaaGreatDoorPyF
import Derived.Test.YtbnhefibpjldfaaGreatDoorPwZ
import Derived.Deep.CutBlock
namespace Go.Proofs.YtbnhefibpjldfaaGreatDoor
open Go.RowKit Go.BigFrame Go.Shelf
set_option linter.unusedVariables false

theorem fldsF_len (q : UInt8 → Bool) : ∀ (l cur : Bs), (fldsF q cur l).length ≤ l.length + (if cur = [] then 0 else 1)
  | [], cur => by simp only [fldsF]; split <;> simp
  | c :: r, cur => by
    simp only [fldsF]
    split
    · split
      · have := fldsF_len q r []; rw [if_pos rfl] at this; simp; omega
      · have := fldsF_len q r []; rw [if_pos rfl] at this; simp; omega
    · have := fldsF_len q r (cur ++ [c]); rw [if_neg (by simp)] at this; simp; omega
theorem flds_len (q : UInt8 → Bool) (l : Bs) : (flds q l).length ≤ l.length := by have := fldsF_len q l []; rwa [if_pos rfl] at this
theorem trimW_len : ∀ l : Bs, (trimW l).length ≤ l.length
  | [] => Nat.le_refl _
  | c :: r => by
    simp only [trimW]; split
    · have := trimW_len r; simp; omega
    · exact Nat.le_refl _
theorem splF_sum : ∀ (l cur : Bs), ((splF cur l).map (·.length)).sum ≤ cur.length + l.length ∧ (splF cur l).length ≤ l.length + 1
  | [], cur => by simp [splF]
  | c :: r, cur => by
    simp only [splF]
    split
    · have := splF_sum r []; simp at this ⊢; omega
    · have := splF_sum r (cur ++ [c]); simp at this ⊢; omega
/-- Does a star stand alone at the beginning? -/
def starB (z : Bs) : Bool := match z with
  | [] => false
  | [c] => c == 42
  | c :: d :: _ => c == 42 && white5 d
theorem unstar_eq (z : Bs) : unstar z = if starB z then z.drop 1 else z := by
  match z with
  | [] => rfl
  | [c] =>
    by_cases h : c = 42
    · simp [unstar, starB, h]
    · simp [unstar, starB, h]
  | c :: d :: r =>
    by_cases h : c = 42 ∧ white5 d = true
    · simp [unstar, starB, h]
    · have : (c == 42 && white5 d) = false := by rw [Bool.eq_false_iff]; intro e; rw [Bool.and_eq_true, beq_iff_eq] at e; exact h e
      simp only [unstar, starB, this, if_neg h]; rfl
/-- A line without white space at the beginning, but the first. -/
def cutL (i : Nat) (x : Bs) : Bs := if i = 0 then x else trimW x
theorem lineW_eq (i : Nat) (x : Bs) : lineW i x = flds white5 (if (decide (0 < i) && starB (cutL i x)) then (cutL i x).drop 1 else cutL i x) := by
  unfold lineW cutL
  by_cases h : i = 0
  · subst h; rfl
  · rw [if_neg h, if_neg h, decide_eq_true (by omega), Bool.true_and, unstar_eq]
theorem cutL_len (i : Nat) (x : Bs) : (cutL i x).length ≤ x.length := by
  unfold cutL; split
  · exact Nat.le_refl _
  · exact trimW_len x
theorem lineW_len (i : Nat) (x : Bs) : (lineW i x).length ≤ x.length := by
  rw [lineW_eq]
  refine Nat.le_trans (flds_len _ _) ?_
  have := cutL_len i x
  split
  · simp; omega
  · exact this
theorem parsF_step {l : List (List Bs)} {i : Nat} (h : i < l.length) (now : List Bs) : parsF now (l.drop i) = if l[i] = [] then (if now = [] then parsF [] (l.drop (i + 1)) else now :: parsF [] (l.drop (i + 1))) else parsF (now ++ l[i]) (l.drop (i + 1)) := by
  rw [List.drop_eq_getElem_cons h, parsF]
theorem sum_take {l : List Bs} {i : Nat} (h : i < l.length) : ((l.take (i + 1)).map (·.length)).sum = ((l.take i).map (·.length)).sum + l[i].length := by
  have e : l.take (i + 1) = l.take i ++ [l[i]] := by rw [List.take_add_one, List.getElem?_eq_getElem h]; rfl
  rw [e, List.map_append, List.sum_append]
  rfl
theorem sum_le {l : List Bs} (i : Nat) : ((l.take i).map (·.length)).sum ≤ (l.map (·.length)).sum := by
  conv => rhs; rw [← List.take_append_drop i l]
  rw [List.map_append, List.sum_append]
  exact Nat.le_add_right _ _
theorem rlines_call (s : ByteArray) (w : World) (L : List Bs) (h : splF [] (dl s) = L) (hs : s.size ≤ 1000000000) : Calls Tryz.prog 84 #[.string s] w (StsPost L w) := h ▸ Rf.lines15 s w hs
theorem rwords_call (s : ByteArray) (w : World) (L : List Bs) (h : flds white5 (dl s) = L) (hs : s.size ≤ 1000000000) : Calls Tryz.prog 86 #[.string s] w (StsPost L w) := h ▸ Rf.words15 s w hs
theorem trimW_at {s : ByteArray} (h : 0 < s.size) : trimW (dl s) = if white5 s[0] then trimW (dl (s.extract 1 s.size)) else dl s := by
  have hd := drop_at h
  rw [List.drop_zero, Nat.zero_add] at hd
  rw [dl_to]
  conv => lhs; rw [hd, trimW]
  rw [← hd]
theorem trimW_end {s : ByteArray} (h : s.size = 0) : trimW (dl s) = [] ∧ dl s = [] := by
  have : dl s = [] := List.length_eq_zero_iff.1 (by rw [← size_dl]; exact h)
  rw [this]; exact ⟨rfl, rfl⟩
set_option maxRecDepth 100000 in
set_option maxHeartbeats 8000000 in
theorem Rf.words (s : ByteArray) (w : World) (hs : s.size ≤ 100000000) (h4 : 4 ≤ s.size) : Calls Tryz.prog 54 #[.string s] w fun e w' => ∃ v, e = .returned v ∧ WdV w' v (parsF [] ((splF [] (((dl s).drop 2).take (s.size - 4))).mapIdx lineW)) ∧ Below w.heap.size w w' := by
  obtain ⟨j0, hj, hy0, hy1, hy2⟩ := info_parts info9
  have HJ := Lib.hid hj
  have HY0 := Lib.hid hy0
  have HY1 := Lib.hid hy1
  have HY2 := Lib.hid hy2
  obtain ⟨i0, hi, hz0, hz1, hz2⟩ := info_parts info36
  have HI := Lib.hid hi
  have HZ0 := Lib.hid hz0
  have HZ1 := Lib.hid hz1
  have HZ2 := Lib.hid hz2
  obtain ⟨l, hl⟩ : ∃ l, splF [] (((dl s).drop 2).take (s.size - 4)) = l := ⟨_, rfl⟩
  have hsum := splF_sum (((dl s).drop 2).take (s.size - 4)) []
  rw [hl] at hsum ⊢
  have htl : (((dl s).drop 2).take (s.size - 4)).length ≤ s.size := by rw [List.length_take]; omega
  have hll : l.length ≤ 100000001 := by omega
  have hsm : (l.map (·.length)).sum ≤ 100000000 := by have := hsum.1; simp only [List.length_nil, Nat.zero_add] at this; omega
  have hlc := fun W : World => rlines_call (s.extract 2 (s.size - 2)) W l (by
    rw [ext_str, dl_str, ← hl, show s.size - 2 - 2 = s.size - 4 by omega]) (by simp; omega)
  obtain ⟨Q, hQ⟩ : ∃ Q, l.mapIdx lineW = Q := ⟨_, rfl⟩
  have hQl : Q.length = l.length := by rw [← hQ]; simp
  have hQa : ∀ i (h : i < l.length) (h2 : i < Q.length), Q[i] = lineW i l[i] := fun i h h2 => by simp only [← hQ, List.getElem_mapIdx]
  rw [hQ]
  obtain ⟨V, hV⟩ : ∃ V, parsF [] Q = V := ⟨_, rfl⟩
  rw [hV]
  have HV := Lib.hid hV
  have HLC := Lib.hid hlc
  have HQA := Lib.hid hQa
  have HQL := Lib.hid hQl
  have w1' : IntKind.i64.wrap ((s.size : Int) - 2) = (s.size : Int) - 2 := IntWalk.i64_in _ (by omega)
  have w2' : (2 : Int) ≤ (s.size : Int) - 2 := by omega
  have w3' : (s.size : Int) - 2 ≤ (s.size : Int) := by omega
  have w4' : ((s.size : Int) - 2).toNat = s.size - 2 := by omega
  have w0' : (4 : Int) ≤ (s.size : Int) := by omega
  have HSM := Lib.hid hsm
  clear hj hy0 hy1 hy2 hi hz0 hz1 hz2 hl hsum htl hlc hQ hQa hQl hV hsm
  go_enter Tryz.func54, Tryz.ntmps54
  go_wp2_with fail
  refine (HLC.out _).mono ?_
  rintro e w1 ⟨v, rfl, hown, hb1⟩
  obtain ⟨la, lc, rfl⟩ := row_shape hown
  have hrow := (rowAt_owns (f := sB) (fun g => rfl) hown rfl).2
  have HROW := Lib.hid hrow
  have HB1 := Lib.hid hb1
  have h0 : WdD w1.heap.size w1.heap.size (.slice none 0 0) (.slice none 0 0) [] [] w1 := ⟨World.ownsRow_nil _ _ _ _, by simp, World.ownsRow_nil _ _ _ _, Nat.le_refl _, Nat.le_refl _⟩
  have H0 := Lib.hid h0
  clear hown hb1 hrow h0 HLC w1' w2' w3' w4' w0'
  go_wp2_with fail
  go_loopw [4, 5, 6] (fun s4 s5 s6 wr => ∃ (i E : Nat) (L : List Pv) (now : List Bs), i ≤ l.length ∧ s6 = .int .i64 i ∧ V = L.map (·.1) ++ parsF now (Q.drop i) ∧ WdD w1.heap.size E s4 s5 L now wr ∧ Below w1.heap.size w1 wr ∧ L.length ≤ i ∧ now.length ≤ ((l.take i).map (·.length)).sum) (fun _ _ s6 _ => l.length - (intOf s6).toNat)
  case atStart => exact ⟨0, _, [], [], Nat.zero_le _, rfl, HV.out.symm, H0.out, Below.refl _ _, Nat.le_refl _, Nat.zero_le _⟩
  case round =>
    clear H0 HV
    obtain ⟨i, E, L, now, hi, rfl, hv, hwd, hbel, hLi, hnow⟩ := hrel
    obtain ⟨oa, oc, rfl⟩ := row_shape hwd.row
    obtain ⟨na, nc, rfl⟩ := row_shape hwd.nw
    have hws := hbel.size
    by_cases hlt : i < l.length
    · have hlt' : (i : Int) < l.length := by omega
      obtain ⟨gb, go, rfl, hgb, hgc⟩ := HROW.out.at (by intro e; simp [e] at hlt)
      have k0 := (hgc i hlt).below hbel hgb 0 _ rfl
      simp only [Nat.add_zero, Nat.mul_one] at k0
      rw [parsF_step (by rw [HQL.out]; exact hlt), HQA.out i hlt (by rw [HQL.out]; exact hlt)] at hv
      have hlen := lineW_len i l[i]
      have hst := sum_take hlt
      have hsl := sum_le (l := l) (i + 1)
      have hsm := HSM.out
      have hwl : l[i].length ≤ 100000000 := by omega
      have hsx : now.length + (lineW i l[i]).length ≤ ((l.take (i + 1)).map (·.length)).sum := by omega
      have hsn : now.length + (lineW i l[i]).length ≤ 100000000 := by omega
      generalize l[i] = x at *
      have hlq := lineW_eq i x
      obtain ⟨C, hC⟩ : ∃ C, cutL i x = C := ⟨_, rfl⟩
      have hcl := cutL_len i x
      rw [hC] at hlq hcl
      obtain ⟨U, hU⟩ : ∃ U, (decide (0 < i) && starB C) = U := ⟨_, rfl⟩
      rw [hU] at hlq
      generalize lineW i x = W at *
      have HV := Lib.hid hv
      have HWD := Lib.hid hwd
      have HBEL := Lib.hid hbel
      have HC := Lib.hid hC
      have HU := Lib.hid hU
      have HLQ := Lib.hid hlq
      have HSX := Lib.hid hsx
      have hxs : (str x).size ≤ 100000000 := by rw [str_size]; exact hwl
      have HXS := Lib.hid hxs
      have hWn : now.length + W.length ≤ 100000000 := hsn
      have hwl2 : C.length ≤ 100000000 := by omega
      clear hv hwd hbel hgc hC hU hlq hlen hst hsl hsm hsx hxs hsn hwl hcl hnow
      rename World => w2
      go_upto_block 2 with fail
      go_cut [7] (fun s7 wx => s7 = .string (str C) ∧ wx = w2)
      case first =>
        go_wp2_with fail
        go_loopw [7] (fun s7 wq => ∃ y : ByteArray, s7 = .string y ∧ wq = w2 ∧ y.size ≤ 100000000 ∧ cutL i (dl y) = C ∧ (i = 0 → dl y = C)) (fun s7 _ => match s7 with | .string y => y.size | _ => 0)
        case atStart => exact ⟨str x, rfl, rfl, HXS.out, by rw [dl_str]; exact HC.out, fun e => by have := HC.out; rw [cutL, if_pos e] at this; rw [dl_str]; exact this⟩
        case round =>
          obtain ⟨y, rfl, rfl, hys, hcy, hcz⟩ := hrel
          by_cases hi0 : i = 0
          · subst hi0
            have hy : str C = y := by rw [← hcz rfl, str_of]
            have HY := Lib.hid hy
            clear hcy hcz hy
            go_wp2_with fail
            go_meet
            exact ⟨by rw [HY.out], rfl⟩
          · have hi1 : (0 : Int) < i := by omega
            unfold cutL at hcy
            rw [if_neg hi0] at hcy
            by_cases hy0 : y.size = 0
            · have hy : str C = y := by rw [← hcy, (trimW_end hy0).1, ← (trimW_end hy0).2, str_of]
              have HY := Lib.hid hy
              have hyn : ¬ (0 : Int) < y.size := by omega
              clear hcy hcz hy hy0
              go_wp2_with fail
              go_meet
              exact ⟨by rw [HY.out], rfl⟩
            · have hyp : 0 < y.size := by omega
              have hyp' : (0 : Int) < y.size := by omega
              have hyp1 : (1 : Int) ≤ y.size := by omega
              rw [trimW_at hyp] at hcy
              cases hw5 : white5 (y[0]'hyp) with
              | true =>
                rw [hw5, if_pos rfl] at hcy
                have HW5 := Lib.hid hw5
                have HCY := Lib.hid hcy
                have HI0 := Lib.hid hi0
                clear hcy hcz hw5 hi0 hy0
                go_wp2_with (first | (go_at_call 85; refine (rwhite5_call _ _ _ HW5.out).mono ?_; rintro e w9 ⟨rfl, rfl⟩) | fail)
                go_roundw
                case rel => exact ⟨y.extract 1 y.size, rfl, by trivial, by simp; omega, by unfold cutL; rw [if_neg HI0.out]; exact HCY.out, fun e => absurd e HI0.out⟩
                case measure => simp; omega
              | false =>
                rw [hw5, if_neg (by decide)] at hcy
                have hy : str C = y := by rw [← hcy, str_of]
                have HY := Lib.hid hy
                have HW5 := Lib.hid hw5
                clear hcy hcz hw5 hi0 hy0 hy
                go_wp2_with (first | (go_at_call 85; refine (rwhite5_call _ _ _ HW5.out).mono ?_; rintro e w9 ⟨rfl, rfl⟩) | fail)
                go_meet
                exact ⟨by rw [HY.out], rfl⟩
      case rest =>
        obtain ⟨rfl, rfl⟩ := hcut
        rename World => w2
        obtain ⟨y, hy⟩ : ∃ y, str C = y := ⟨_, rfl⟩
        have hdy : dl y = C := by rw [← hy, dl_str]
        have hys : y.size = C.length := by rw [size_dl, hdy]
        have hys2 : y.size ≤ 100000000 := by omega
        rw [hy]
        have HDY := Lib.hid hdy
        have HYS := Lib.hid hys
        clear hy hdy hys k0 HC HXS
        go_upto_region 10 with fail
        go_cut [60] (fun s60 wx => s60 = .bool U ∧ wx = w2)
        case first =>
          by_cases hi0 : i = 0
          · subst hi0
            have hu : U = false := by rw [← HU.out]; rfl
            subst hu
            go_wp2_with fail
            go_meet
            exact ⟨rfl, rfl⟩
          have hi1 : (0 : Int) < i := by omega
          have hu : starB C = U := by rw [← HU.out, decide_eq_true (by omega), Bool.true_and]
          rw [← HDY.out] at hu
          by_cases hy0 : y.size = 0
          · have hyn : ¬ (0 : Int) < y.size := by omega
            have hu2 : U = false := by rw [← hu, (trimW_end hy0).2]; rfl
            subst hu2
            clear hu hy0 hi0
            go_wp2_with fail
            go_meet
            exact ⟨rfl, rfl⟩
          have hyp : 0 < y.size := by omega
          have hyp' : (0 : Int) < y.size := by omega
          have hd := drop_at hyp
          rw [List.drop_zero, Nat.zero_add] at hd
          by_cases e42 : y[0]'hyp = 42
          · obtain ⟨d1, d2⟩ := bqT 42 rfl e42
            by_cases hy1 : y.size = 1
            · have hy1' : ((y.size : Int) == 1) = true := by rw [beq_iff_eq]; omega
              have hu2 : U = true := by rw [← hu, hd, drop_end (i := 1) (by omega), e42]; rfl
              subst hu2
              clear hu hy0 hi0 hd e42 hy1
              go_wp2_with fail
              go_meet
              exact ⟨rfl, rfl⟩
            · have hy1' : ((y.size : Int) == 1) = false := by rw [beq_eq_false_iff_ne]; omega
              have hyq : 1 < y.size := by omega
              have hyq' : (1 : Int) < y.size := by omega
              have hu2 : white5 (y[1]'hyq) = U := by rw [← hu, hd, drop_at hyq, e42]; simp [starB]
              have HW5 := Lib.hid hu2
              clear hu hy0 hi0 hd e42 hy1 hu2
              go_wp2_with (first | (go_at_call 85; refine (rwhite5_call _ _ _ HW5.out).mono ?_; rintro e w9 ⟨rfl, rfl⟩) | fail)
              go_meet
              exact ⟨rfl, rfl⟩
          · obtain ⟨d1, d2⟩ := bqF 42 rfl e42
            have hu2 : U = false := by
              rw [← hu, hd]
              cases (dl y).drop 1 with
              | nil => simp [starB, e42]
              | cons a b => simp [starB, e42]
            subst hu2
            clear hu hy0 hi0 hd e42
            go_wp2_with fail
            go_meet
            exact ⟨rfl, rfl⟩
        case rest =>
          obtain ⟨rfl, rfl⟩ := hcut
          rename World => w2
          cases U with
          | true =>
            have hst : starB C = true := by have := HU.out; rw [Bool.and_eq_true] at this; exact this.2
            have hyp : 1 ≤ y.size := by
              rw [HYS.out]
              cases C with
              | nil => cases hst
              | cons a b => simp
            have hyp1 : (1 : Int) ≤ y.size := by omega
            have hwc : flds white5 (dl (y.extract 1 y.size)) = W := by
              have := HLQ.out; rw [if_pos rfl] at this; rw [this, dl_to, HDY.out]
            have HWC := Lib.hid (fun V : World => rwords_call (y.extract 1 y.size) V W hwc (by simp; omega))
            clear hst hwc
            go_wp2_with fail
            refine (HWC.out _).mono ?_
            rintro e w3 ⟨v3, rfl, hown3, hb3⟩
            obtain ⟨wa, wc, rfl⟩ := row_shape hown3
            have hrw3 := rowAt_owns (f := sB) (fun g => rfl) hown3 rfl
            have HRW3 := Lib.hid hrw3
            have HWO := Lib.hid hown3
            have hB3 := HBEL.out.trans (hb3.mono hws)
            have HB3 := Lib.hid hB3
            have hwd3 := HWD.out.on hb3
            have HWD3 := Lib.hid hwd3
            have hws3 := hB3.size
            clear hown3 hrw3 hb3 hB3 hwd3 HWD HWC
            by_cases hW0 : W.length = 0
            · have hWe : W = [] := List.length_eq_zero_iff.1 hW0
              have hW0' : ((W.length : Int) == 0) = true := by rw [beq_iff_eq]; omega
              have hv := HV.out
              rw [if_pos hWe] at hv
              by_cases hn0 : now.length = 0
              · have hnn : now = [] := List.length_eq_zero_iff.1 hn0
                rw [if_pos hnn] at hv
                have HV2 := Lib.hid hv
                have hn1 : ¬ (0 : Int) < now.length := by omega
                have HRW := HRW3
                have HNW : Hid (now ++ W = []) := Lib.hid (by rw [hnn, hWe]; rfl)
                clear hv hW0 hWe hn0 hnn
                go_wp2_with (at_builtin; refine wpList_append_rows sB rfl _ _ 36 rfl E 9 j0 (.string ⟨#[]⟩) 1 16 Tryz.underlying36 HJ.out HY0.out HY1.out HY2.out rfl (by decide) sB_len sB_one _ now.length _ rfl HWD3.out.nw wa W wc rfl HRW.out.1 HRW.out.2 (by unfold maxLen; (try simp only [List.length_nil]); omega) (by (try simp only [List.length_nil]); omega) HWD3.out.leE ?_; intro v5 w5 hown5 hgrow5)
                have hm := HWD3.out.more (Below.refl _ _) hgrow5 hown5
                have HM := Lib.hid hm
                obtain ⟨va, vc, rfl⟩ := row_shape hown5
                clear hown5 hgrow5 hm
                go_wp2_with fail
                go_roundw
                case rel =>
                  exact ⟨i + 1, E, L, now ++ W, by omega, by go_num, by rw [HNW.out]; exact HV2.out, HM.out.1, HB3.out.trans HM.out.2, by omega, by rw [List.length_append]; exact HSX.out⟩
                case measure => simp [intOf]; omega
              · have hnn : ¬ now = [] := fun e => hn0 (by rw [e]; rfl)
                rw [if_neg hnn] at hv
                have HV2 := Lib.hid hv
                have hn1 : (0 : Int) < now.length := by omega
                have HNW : Hid ([] ++ W = []) := Lib.hid (by rw [hWe]; rfl)
                clear hv hW0 hWe hn0 hnn
                go_upto_region 16 with (at_builtin; refine wpList_append_own _ rfl _ _ 92 rfl w1.heap.size 36 i0 (.slice none 0 0) 1 24 Tryz.underlying92 HI.out HZ0.out HZ1.out HZ2.out rfl (by decide) _ L.length _ rfl (HWD3.out.row.alloc _) ⟨w3.heap.size, 0, none⟩ 1 1 [.slice na now.length nc] rfl rfl (cells1_new _ _ 36) (fun u hu => by simp at hu; subst hu; rfl) (by unfold maxLen; omega) (by omega) (by simp; omega) ?_; intro v2 w4 hown2 hgrow2 _)
                have hp := HWD3.out.push (below_alloc w3 _) hgrow2 hown2
                have HP := Lib.hid hp.1
                have HPB := Lib.hid (HB3.out.trans hp.2)
                have hbw4 : Below w3.heap.size w3 w4 → True := fun _ => trivial
                have HRW : Hid ((wa = none → W = [] ∧ wc = 0) ∧ RowAt 1 sB w4 wa W) := Lib.hid ⟨HRW3.out.1, (rowAt_owns (f := sB) (fun g => rfl) (other_row (HWO.out.alloc _) (HWD3.out.row.alloc _) (by decide) hgrow2) rfl).2⟩
                obtain ⟨ob, od, rfl⟩ := row_shape hown2
                clear hown2 hgrow2 hp hbw4
                go_wp2_with (at_builtin; refine wpList_append_rows sB rfl _ _ 36 rfl w4.heap.size 9 j0 (.string ⟨#[]⟩) 1 16 Tryz.underlying36 HJ.out HY0.out HY1.out HY2.out rfl (by decide) sB_len sB_one _ ([] : List Bs).length _ rfl HP.out.nw wa W wc rfl HRW.out.1 HRW.out.2 (by unfold maxLen; (try simp only [List.length_nil]); omega) (by (try simp only [List.length_nil]); omega) HP.out.leE ?_; intro v5 w5 hown5 hgrow5)
                have hm := HP.out.more (Below.refl _ _) hgrow5 hown5
                have HM := Lib.hid hm
                obtain ⟨va, vc, rfl⟩ := row_shape hown5
                clear hown5 hgrow5 hm
                go_wp2_with fail
                go_roundw
                case rel =>
                  exact ⟨i + 1, _, L ++ [(now, Value.slice na now.length nc)], [] ++ W, by omega, by go_num, by rw [HNW.out, List.map_append, List.append_assoc]; exact HV2.out, HM.out.1, HPB.out.trans HM.out.2, by simp; omega, by rw [HNW.out]; exact Nat.zero_le _⟩
                case measure => simp [intOf]; omega
            · have hWe : ¬ W = [] := fun e => hW0 (by rw [e]; rfl)
              have hW0' : ((W.length : Int) == 0) = false := by rw [beq_eq_false_iff_ne]; omega
              have hv := HV.out
              rw [if_neg hWe] at hv
              have HV2 := Lib.hid hv
              have HRW := HRW3
              clear hv hW0 hWe
              go_wp2_with (at_builtin; refine wpList_append_rows sB rfl _ _ 36 rfl E 9 j0 (.string ⟨#[]⟩) 1 16 Tryz.underlying36 HJ.out HY0.out HY1.out HY2.out rfl (by decide) sB_len sB_one _ now.length _ rfl HWD3.out.nw wa W wc rfl HRW.out.1 HRW.out.2 (by unfold maxLen; (try simp only [List.length_nil]); omega) (by (try simp only [List.length_nil]); omega) HWD3.out.leE ?_; intro v5 w5 hown5 hgrow5)
              have hm := HWD3.out.more (Below.refl _ _) hgrow5 hown5
              have HM := Lib.hid hm
              obtain ⟨va, vc, rfl⟩ := row_shape hown5
              clear hown5 hgrow5 hm
              go_wp2_with fail
              go_roundw
              case rel =>
                exact ⟨i + 1, E, L, now ++ W, by omega, by go_num, HV2.out, HM.out.1, HB3.out.trans HM.out.2, by omega, by rw [List.length_append]; exact HSX.out⟩
              case measure => simp [intOf]; omega
          | false =>
            have hwc : flds white5 (dl y) = W := by
              have := HLQ.out; rw [if_neg (by decide)] at this; rw [this, HDY.out]
            have HWC := Lib.hid (fun V : World => rwords_call y V W hwc (by omega))
            clear hwc
            go_wp2_with fail
            refine (HWC.out _).mono ?_
            rintro e w3 ⟨v3, rfl, hown3, hb3⟩
            obtain ⟨wa, wc, rfl⟩ := row_shape hown3
            have hrw3 := rowAt_owns (f := sB) (fun g => rfl) hown3 rfl
            have HRW3 := Lib.hid hrw3
            have HWO := Lib.hid hown3
            have hB3 := HBEL.out.trans (hb3.mono hws)
            have HB3 := Lib.hid hB3
            have hwd3 := HWD.out.on hb3
            have HWD3 := Lib.hid hwd3
            have hws3 := hB3.size
            clear hown3 hrw3 hb3 hB3 hwd3 HWD HWC
            by_cases hW0 : W.length = 0
            · have hWe : W = [] := List.length_eq_zero_iff.1 hW0
              have hW0' : ((W.length : Int) == 0) = true := by rw [beq_iff_eq]; omega
              have hv := HV.out
              rw [if_pos hWe] at hv
              by_cases hn0 : now.length = 0
              · have hnn : now = [] := List.length_eq_zero_iff.1 hn0
                rw [if_pos hnn] at hv
                have HV2 := Lib.hid hv
                have hn1 : ¬ (0 : Int) < now.length := by omega
                have HRW := HRW3
                have HNW : Hid (now ++ W = []) := Lib.hid (by rw [hnn, hWe]; rfl)
                clear hv hW0 hWe hn0 hnn
                go_wp2_with (at_builtin; refine wpList_append_rows sB rfl _ _ 36 rfl E 9 j0 (.string ⟨#[]⟩) 1 16 Tryz.underlying36 HJ.out HY0.out HY1.out HY2.out rfl (by decide) sB_len sB_one _ now.length _ rfl HWD3.out.nw wa W wc rfl HRW.out.1 HRW.out.2 (by unfold maxLen; (try simp only [List.length_nil]); omega) (by (try simp only [List.length_nil]); omega) HWD3.out.leE ?_; intro v5 w5 hown5 hgrow5)
                have hm := HWD3.out.more (Below.refl _ _) hgrow5 hown5
                have HM := Lib.hid hm
                obtain ⟨va, vc, rfl⟩ := row_shape hown5
                clear hown5 hgrow5 hm
                go_wp2_with fail
                go_roundw
                case rel =>
                  exact ⟨i + 1, E, L, now ++ W, by omega, by go_num, by rw [HNW.out]; exact HV2.out, HM.out.1, HB3.out.trans HM.out.2, by omega, by rw [List.length_append]; exact HSX.out⟩
                case measure => simp [intOf]; omega
              · have hnn : ¬ now = [] := fun e => hn0 (by rw [e]; rfl)
                rw [if_neg hnn] at hv
                have HV2 := Lib.hid hv
                have hn1 : (0 : Int) < now.length := by omega
                have HNW : Hid ([] ++ W = []) := Lib.hid (by rw [hWe]; rfl)
                clear hv hW0 hWe hn0 hnn
                go_upto_region 16 with (at_builtin; refine wpList_append_own _ rfl _ _ 92 rfl w1.heap.size 36 i0 (.slice none 0 0) 1 24 Tryz.underlying92 HI.out HZ0.out HZ1.out HZ2.out rfl (by decide) _ L.length _ rfl (HWD3.out.row.alloc _) ⟨w3.heap.size, 0, none⟩ 1 1 [.slice na now.length nc] rfl rfl (cells1_new _ _ 36) (fun u hu => by simp at hu; subst hu; rfl) (by unfold maxLen; omega) (by omega) (by simp; omega) ?_; intro v2 w4 hown2 hgrow2 _)
                have hp := HWD3.out.push (below_alloc w3 _) hgrow2 hown2
                have HP := Lib.hid hp.1
                have HPB := Lib.hid (HB3.out.trans hp.2)
                have hbw4 : Below w3.heap.size w3 w4 → True := fun _ => trivial
                have HRW : Hid ((wa = none → W = [] ∧ wc = 0) ∧ RowAt 1 sB w4 wa W) := Lib.hid ⟨HRW3.out.1, (rowAt_owns (f := sB) (fun g => rfl) (other_row (HWO.out.alloc _) (HWD3.out.row.alloc _) (by decide) hgrow2) rfl).2⟩
                obtain ⟨ob, od, rfl⟩ := row_shape hown2
                clear hown2 hgrow2 hp hbw4
                go_wp2_with (at_builtin; refine wpList_append_rows sB rfl _ _ 36 rfl w4.heap.size 9 j0 (.string ⟨#[]⟩) 1 16 Tryz.underlying36 HJ.out HY0.out HY1.out HY2.out rfl (by decide) sB_len sB_one _ ([] : List Bs).length _ rfl HP.out.nw wa W wc rfl HRW.out.1 HRW.out.2 (by unfold maxLen; (try simp only [List.length_nil]); omega) (by (try simp only [List.length_nil]); omega) HP.out.leE ?_; intro v5 w5 hown5 hgrow5)
                have hm := HP.out.more (Below.refl _ _) hgrow5 hown5
                have HM := Lib.hid hm
                obtain ⟨va, vc, rfl⟩ := row_shape hown5
                clear hown5 hgrow5 hm
                go_wp2_with fail
                go_roundw
                case rel =>
                  exact ⟨i + 1, _, L ++ [(now, Value.slice na now.length nc)], [] ++ W, by omega, by go_num, by rw [HNW.out, List.map_append, List.append_assoc]; exact HV2.out, HM.out.1, HPB.out.trans HM.out.2, by simp; omega, by rw [HNW.out]; exact Nat.zero_le _⟩
                case measure => simp [intOf]; omega
            · have hWe : ¬ W = [] := fun e => hW0 (by rw [e]; rfl)
              have hW0' : ((W.length : Int) == 0) = false := by rw [beq_eq_false_iff_ne]; omega
              have hv := HV.out
              rw [if_neg hWe] at hv
              have HV2 := Lib.hid hv
              have HRW := HRW3
              clear hv hW0 hWe
              go_wp2_with (at_builtin; refine wpList_append_rows sB rfl _ _ 36 rfl E 9 j0 (.string ⟨#[]⟩) 1 16 Tryz.underlying36 HJ.out HY0.out HY1.out HY2.out rfl (by decide) sB_len sB_one _ now.length _ rfl HWD3.out.nw wa W wc rfl HRW.out.1 HRW.out.2 (by unfold maxLen; (try simp only [List.length_nil]); omega) (by (try simp only [List.length_nil]); omega) HWD3.out.leE ?_; intro v5 w5 hown5 hgrow5)
              have hm := HWD3.out.more (Below.refl _ _) hgrow5 hown5
              have HM := Lib.hid hm
              obtain ⟨va, vc, rfl⟩ := row_shape hown5
              clear hown5 hgrow5 hm
              go_wp2_with fail
              go_roundw
              case rel =>
                exact ⟨i + 1, E, L, now ++ W, by omega, by go_num, HV2.out, HM.out.1, HB3.out.trans HM.out.2, by omega, by rw [List.length_append]; exact HSX.out⟩
              case measure => simp [intOf]; omega
    · obtain rfl : i = l.length := by omega
      have hlt' : ¬ (l.length : Int) < l.length := by omega
      rw [show Q.drop l.length = [] by rw [List.drop_eq_nil_iff, HQL.out]; exact Nat.le_refl _] at hv
      have HWD := Lib.hid hwd
      have HBEL := Lib.hid (HB1.out.trans (hbel.mono HB1.out.size))
      by_cases hn0 : now.length = 0
      · have hnn : now = [] := List.length_eq_zero_iff.1 hn0
        have hv2 : V = L.map (·.1) := by rw [hv, hnn]; simp [parsF]
        have HV := Lib.hid hv2
        have hn1 : ¬ (0 : Int) < now.length := by omega
        clear hv hv2 hwd hbel hn0 hnn hnow
        go_wp2_with fail
        go_ret
        exact ⟨_, rfl, by rw [HV.out]; exact HWD.out.wv, HBEL.out⟩
      · have hnn : ¬ now = [] := fun e => hn0 (by rw [e]; rfl)
        have hv2 : V = L.map (·.1) ++ [now] := by
          rw [hv]
          show _ ++ (if now = [] then [] else [now]) = _
          rw [if_neg hnn]
        have HV := Lib.hid hv2
        have hn1 : (0 : Int) < now.length := by omega
        have HBL := Lib.hid hbel
        clear hv hv2 hwd hbel hn0 hnn hnow
        go_wp2_with (at_builtin; refine wpList_append_own _ rfl _ _ 92 rfl w1.heap.size 36 i0 (.slice none 0 0) 1 24 Tryz.underlying92 HI.out HZ0.out HZ1.out HZ2.out rfl (by decide) _ L.length _ rfl (HWD.out.row.alloc _) ⟨wr.heap.size, 0, none⟩ 1 1 [.slice na now.length nc] rfl rfl (cells1_new _ _ 36) (fun u hu => by simp at hu; subst hu; rfl) (by unfold maxLen; omega) (by omega) (by simp; omega) ?_; intro v2 w4 hown2 hgrow2 _)
        have hp := HWD.out.push (below_alloc wr _) hgrow2 hown2
        have HP := Lib.hid hp
        clear hown2 hgrow2 hp
        go_wp2_with fail
        have hp2 := HP.out.2
        go_ret
        exact ⟨_, rfl, by rw [HV.out]; have h := HP.out.1.wv; rw [List.map_append] at h; exact h, HB1.out.trans ((HBL.out.trans hp2).mono HB1.out.size)⟩
end Go.Proofs.YtbnhefibpjldfaaGreatDoor

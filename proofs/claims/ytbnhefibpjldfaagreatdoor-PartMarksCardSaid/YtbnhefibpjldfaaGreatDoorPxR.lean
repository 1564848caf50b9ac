/- the document: IsLiteral. -/
import Derived.Test.YtbnhefibpjldfaaGreatDoorPxO
import Derived.Test.YtbnhefibpjldfaaGreatDoorPxP
import Derived.Test.YtbnhefibpjldfaaGreatDoorPwG
namespace Go.Proofs.YtbnhefibpjldfaaGreatDoor
open Go.RowKit Go.BigFrame
set_option linter.unusedVariables false

def sF (s : ByteArray) : List Value := [.string s]
theorem pieces_call (s : ByteArray) (q : UInt8) (w : World) (b : Bool) (hs : s.size ≤ 1000000000) (h : isPcs q (dl s) = b) : Calls Tryz.prog 134 #[.string s, .int .u8 q.toNat] w fun e w' => e = .returned (.bool b) ∧ w' = w := h ▸ Rf.pieces s q w hs
theorem isLit_step (q : UInt8) (ps : List ByteArray) (t : Bs) {i : Nat} (h : i < ps.length) : isLit q ((ps.drop i).map dl) t = if litAt q (dl ps[i]) t then (q == 34 || decide ((dl ps[i]).length + 2 < t.length)) else isLit q ((ps.drop (i + 1)).map dl) t := by
  rw [List.drop_eq_getElem_cons h, List.map_cons, isLit]
set_option maxRecDepth 100000 in
set_option maxHeartbeats 8000000 in
theorem Rf.isLiteral (s : ByteArray) (q : UInt8) (a : Option Addr) (c : Nat) (ps : List ByteArray) (w : World) (hs : s.size ≤ 1000000000) (hq : q = 39 ∨ q = 34) (hr : RowAt 1 sF w a ps) (hl : ps.length ≤ 100) (hpl : ∀ p ∈ ps, p.size ≤ 100) :
    Calls Tryz.prog 117 #[.string s, .int .u8 q.toNat, .slice a ps.length c] w fun e w' => e = .returned (.bool (isLit q (ps.map dl) (dl s))) ∧ Below w.heap.size w w' := by
  obtain ⟨V, hV⟩ : ∃ V, isLit q (ps.map dl) (dl s) = V := ⟨_, rfl⟩
  rw [hV]
  have hq34 : ((q.toNat : Int) == 34) = (q == 34) := by rcases hq with rfl | rfl <;> rfl
  have HQ := Lib.hid hq34
  have HV := Lib.hid hV
  have HROW := Lib.hid hr
  have HPL := Lib.hid hpl
  have hsz : (dl s).length = s.size := (size_dl s).symm
  have HSZ := Lib.hid hsz
  clear hV hr hpl hsz hq34 hq
  go_enter Tryz.func117, Tryz.ntmps117
  go_wp2_with fail
  go_loopw [7] (fun s7 wr => ∃ i : Nat, i ≤ ps.length ∧ s7 = .int .i64 i ∧ isLit q ((ps.drop i).map dl) (dl s) = V ∧ Below w.heap.size w wr) (fun s7 _ => ps.length - (intOf s7).toNat)
  case atStart => exact ⟨0, Nat.zero_le _, rfl, HV.out, Below.refl _ _⟩
  case round =>
    obtain ⟨i, hi, rfl, hv, hbel⟩ := hrel
    by_cases hlt : i < ps.length
    · have hlt' : (i : Int) < ps.length := by omega
      obtain ⟨gb, go, rfl, hgb, hgc⟩ := HROW.out.at (by intro e; simp [e] at hlt)
      have k0 := (hgc i hlt).below hbel hgb 0 _ rfl
      have hpi := HPL.out _ (List.getElem_mem hlt)
      rw [isLit_step q ps _ hlt] at hv
      generalize ps[i] = p at *
      simp only [Nat.add_zero, Nat.mul_one] at k0
      have hpz : (dl p).length = p.size := (size_dl p).symm
      have hpi' : (p.size : Int) ≤ 100 := by omega
      have u1' : IntKind.i64.wrap ((p.size : Int) + 2) = (p.size : Int) + 2 := IntWalk.i64_in _ (by omega)
      have u2' : IntKind.i64.wrap ((p.size : Int) + 1) = (p.size : Int) + 1 := IntWalk.i64_in _ (by omega)
      have u3' : ((p.size : Int) + 1).toNat = p.size + 1 := by omega
      have u4' : (0 : Int) ≤ (p.size : Int) + 1 := by omega
      have HBEL := Lib.hid hbel
      have HBB : Hid (∀ nq, Below w.heap.size w (wr.drewN nq)) := Lib.hid fun nq => HBEL.out.trans ((below_drewN _ _ nq).mono (Nat.le_refl _))
      have hla : litAt q (dl p) (dl s) = (decide (p.size + 2 ≤ s.size) && (dl s).take p.size == dl p && (dl s)[p.size]? == some q && (dl s).getLast? == some q && isPcs q (((dl s).drop (p.size + 1)).take (s.size - p.size - 2))) := by
        unfold litAt; rw [hpz, HSZ.out]
      rw [hpz, HSZ.out] at hv
      clear hgc hbel
      by_cases g1 : p.size + 2 ≤ s.size
      · have G1 : decide ((p.size : Int) + 2 ≤ s.size) = true := by rw [decide_eq_true_iff]; omega
        have q0 : (p.size : Int) ≤ s.size := by omega
        have q1 : (p.size : Int) < s.size := by omega
        have w1' : IntKind.i64.wrap ((s.size : Int) - 1) = (s.size : Int) - 1 := IntWalk.i64_in _ (by omega)
        have w0' : (1 : Int) ≤ (s.size : Int) := by omega
        have w2' : (0 : Int) ≤ (s.size : Int) - 1 := by omega
        have w3' : (s.size : Int) - 1 < (s.size : Int) := by omega
        have w4' : ((s.size : Int) - 1).toNat = s.size - 1 := by omega
        have w5' : s.size - 1 < s.size := by omega
        have w6' : (p.size : Int) + 1 ≤ (s.size : Int) - 1 := by omega
        have w7' : (s.size : Int) - 1 ≤ (s.size : Int) := by omega
        have w8' : (p.size : Int) + 1 ≤ (s.size : Int) := by omega
        rw [decide_eq_true g1, Bool.true_and] at hla
        have e2 : ((s.extract 0 p.size).toList == p.toList) = ((dl s).take p.size == dl p) := by rw [toList_dl, toList_dl, take_dl]
        have pk : p.size < s.size := by omega
        have e3 : (((s[p.size]'pk).toNat : Int) == (q.toNat : Int)) = ((dl s)[p.size]? == some q) := by
          rw [dl_get (by omega), Bool.eq_iff_iff, beq_iff_eq, beq_iff_eq, Option.some.injEq, ← UInt8.toNat_inj]; omega
        have e4 : (((s[s.size - 1]'w5').toNat : Int) == (q.toNat : Int)) = ((dl s).getLast? == some q) := by
          rw [List.getLast?_eq_getElem?, HSZ.out, dl_get (by omega), Bool.eq_iff_iff, beq_iff_eq, beq_iff_eq, Option.some.injEq, ← UInt8.toNat_inj]; omega
        have e5 : dl (s.extract (p.size + 1) (s.size - 1)) = ((dl s).drop (p.size + 1)).take (s.size - p.size - 2) := by
          rw [ext_str, dl_str]; congr 1; omega
        rw [← e5] at hla
        have hxs : (s.extract (p.size + 1) (s.size - 1)).size ≤ 1000000000 := by simp; omega
        obtain ⟨b5, hb5⟩ : ∃ b, isPcs q (dl (s.extract (p.size + 1) (s.size - 1))) = b := ⟨_, rfl⟩
        rw [hb5] at hla
        have HP5 := Lib.hid hb5
        clear e5 hb5
        generalize ((dl s).take p.size == dl p) = b2 at hla e2
        generalize ((dl s)[p.size]? == some q) = b3 at hla e3
        generalize ((dl s).getLast? == some q) = b4 at hla e4
        have HXS := Lib.hid hxs
        clear hxs
        cases b2 with
        | false =>
          simp only [Bool.false_and] at hla
          rw [hla] at hv
          have HV2 : Hid (isLit q ((ps.drop (i + 1)).map dl) (dl s) = V) := Lib.hid hv
          clear hv HV hla g1
          go_wp2_with fail
          go_quiet (fail)
          go_wp2_with fail
          go_roundw
          case rel => exact ⟨i + 1, by omega, by go_num, HV2.out, HBB.out _⟩
          case measure => simp [intOf]; omega
        | true =>
          cases b3 with
          | false =>
            simp only [Bool.false_and, Bool.true_and] at hla
            rw [hla] at hv
            have HV2 : Hid (isLit q ((ps.drop (i + 1)).map dl) (dl s) = V) := Lib.hid hv
            clear hv HV hla g1
            go_wp2_with fail
            go_quiet (fail)
            go_wp2_with fail
            go_roundw
            case rel => exact ⟨i + 1, by omega, by go_num, HV2.out, HBB.out _⟩
            case measure => simp [intOf]; omega
          | true =>
            cases b4 with
            | false =>
              simp only [Bool.false_and, Bool.true_and] at hla
              rw [hla] at hv
              have HV2 : Hid (isLit q ((ps.drop (i + 1)).map dl) (dl s) = V) := Lib.hid hv
              clear hv HV hla g1
              go_wp2_with fail
              go_quiet (fail)
              go_wp2_with fail
              go_roundw
              case rel => exact ⟨i + 1, by omega, by go_num, HV2.out, HBB.out _⟩
              case measure => simp [intOf]; omega
            | true =>
              cases b5 with
              | false =>
                simp only [Bool.true_and] at hla
                rw [hla] at hv
                have HV2 : Hid (isLit q ((ps.drop (i + 1)).map dl) (dl s) = V) := Lib.hid hv
                clear hv HV hla g1
                go_wp2_with fail
                go_quiet (exact Calls.quiet_of_same (pieces_call _ q _ _ HXS.out HP5.out))
                go_wp2_with fail
                go_roundw
                case rel => exact ⟨i + 1, by omega, by go_num, HV2.out, HBB.out _⟩
                case measure => simp [intOf]; omega
              | true =>
                simp only [Bool.true_and] at hla
                rw [hla, if_pos rfl] at hv
                have HV2 := Lib.hid hv
                cases hq4 : (q == 34) with
                | true =>
                  have q34 : ((q.toNat : Int) == 34) = true := by rw [HQ.out, hq4]
                  have hv3 : V = true := by rw [← HV2.out, hq4]; rfl
                  subst hv3
                  clear hv HV hla g1 hq4 HV2
                  go_wp2_with fail
                  go_quiet (exact Calls.quiet_of_same (pieces_call _ q _ _ HXS.out HP5.out))
                  go_wp2_with fail
                  go_ret
                  exact ⟨rfl, HBB.out _⟩
                | false =>
                  have q34 : ((q.toNat : Int) == 34) = false := by rw [HQ.out, hq4]
                  have hv3 : V = decide ((p.size : Int) + 2 < s.size) := by
                    rw [← HV2.out, hq4, Bool.false_or, Bool.eq_iff_iff, decide_eq_true_iff, decide_eq_true_iff]; omega
                  have HV3 := Lib.hid hv3
                  clear hv HV hla g1 hq4 HV2 hv3
                  go_wp2_with fail
                  go_quiet (exact Calls.quiet_of_same (pieces_call _ q _ _ HXS.out HP5.out))
                  go_wp2_with fail
                  go_ret
                  exact ⟨by rw [HV3.out]; rfl, HBB.out _⟩
      · have G1 : decide ((p.size : Int) + 2 ≤ s.size) = false := by rw [decide_eq_false_iff_not]; omega
        rw [decide_eq_false g1] at hla
        simp only [Bool.false_and] at hla
        rw [hla] at hv
        have HV2 : Hid (isLit q ((ps.drop (i + 1)).map dl) (dl s) = V) := Lib.hid hv
        clear hv HV hla g1
        go_wp2_with fail
        go_quiet (fail)
        go_wp2_with fail
        go_roundw
        case rel => exact ⟨i + 1, by omega, by go_num, HV2.out, HBB.out _⟩
        case measure => simp [intOf]; omega
    · obtain rfl : i = ps.length := by omega
      have hlt' : ¬ (ps.length : Int) < ps.length := by omega
      rw [List.drop_length] at hv
      have hv0 : V = false := hv.symm
      subst hv0
      have HBEL := Lib.hid hbel
      clear hbel hv HV
      go_wp2_with fail
      go_ret
      exact ⟨rfl, HBEL.out⟩
end Go.Proofs.YtbnhefibpjldfaaGreatDoor

/- PxR -/
namespace Go.Proofs.YtbnhefibpjldfaaGreatDoor
open Go.RowKit Go.BigFrame
set_option linter.unusedVariables false

def allS : ByteArray := ⟨#[32, 91, 32, 93, 32, 40, 32, 41, 32, 123, 32, 125, 32, 46, 32, 45, 62, 32, 43, 43, 32, 45, 45, 32, 38, 32, 42, 32, 43, 32, 45, 32, 126, 32, 33, 32, 47, 32, 37, 32, 60, 60, 32, 62, 62, 32, 60, 32, 62, 32, 60, 61, 32, 62, 61, 32, 61, 61, 32, 33, 61, 32, 94, 32, 124, 32, 38, 38, 32, 124, 124, 32, 63, 32, 58, 32, 59, 32, 46, 46, 46, 32, 61, 32, 42, 61, 32, 47, 61, 32, 37, 61, 32, 43, 61, 32, 45, 61, 32, 60, 60, 61, 32, 62, 62, 61, 32, 38, 61, 32, 94, 61, 32, 124, 61, 32, 44, 32, 35, 32, 35, 35, 32, 60, 58, 32, 58, 62, 32, 60, 37, 32, 37, 62, 32, 37, 58, 32, 37, 58, 37, 58, 32]⟩
/-- Does the list of punctuators have a text, between blanks, at a place? -/
def hitP (t : Bs) (j : Nat) : Bool := ((dl allS).drop j).take (t.length + 2) == 32 :: (t ++ [32])
def chkP : Bool := (List.range 143).all fun j => (List.range 5).all fun n => !(hitP (((dl allS).drop (j + 1)).take n) j) || decide (n = 0) || (((dl allS).drop (j + 1)).take n).contains 32 || puncts.contains (((dl allS).drop (j + 1)).take n)
def chkQ : Bool := puncts.all fun p => decide (0 < p.length) && decide (p.length ≤ 4) && !p.contains 32 && (List.range 143).any fun j => decide (j + p.length + 2 ≤ 143) && hitP p j
set_option maxRecDepth 100000 in
theorem chkP_ok : chkP = true := by kernel_rfl
set_option maxRecDepth 100000 in
theorem chkQ_ok : chkQ = true := by kernel_rfl
theorem hit_in {t : Bs} {j : Nat} (h0 : 0 < t.length) (h4 : t.length ≤ 4) (hj : j < 143) (h32 : t.contains 32 = false) (h : hitP t j = true) : puncts.contains t = true := by
  have hm : ((dl allS).drop (j + 1)).take t.length = t := by
    unfold hitP at h
    rw [beq_iff_eq] at h
    have h1 := congrArg (fun l => (l.drop 1).take t.length) h
    simp only [List.drop_take, List.drop_drop, List.take_take, List.drop_succ_cons, List.drop_zero, List.take_append_of_le_length (Nat.le_refl _), List.take_length] at h1
    rw [show min t.length (t.length + 2 - 1) = t.length by omega] at h1
    exact h1
  have hc := chkP_ok
  unfold chkP at hc
  rw [List.all_eq_true] at hc
  have h1 := hc j (List.mem_range.2 hj)
  rw [List.all_eq_true] at h1
  have h2 := h1 t.length (List.mem_range.2 (by omega))
  rw [hm, h, h32, decide_eq_false (by omega)] at h2
  simpa using h2
theorem in_hit {t : Bs} (h : puncts.contains t = true) : 0 < t.length ∧ t.length ≤ 4 ∧ t.contains 32 = false ∧ ∃ j, j + t.length + 2 ≤ 143 ∧ hitP t j = true := by
  have hc := chkQ_ok
  unfold chkQ at hc
  rw [List.all_eq_true] at hc
  have h1 := hc t (List.contains_iff_mem.1 h)
  simp only [Bool.and_eq_true, decide_eq_true_eq, Bool.not_eq_true', List.any_eq_true] at h1
  obtain ⟨⟨⟨a, b⟩, c⟩, j, _, d, e⟩ := h1
  exact ⟨a, b, c, j, d, e⟩
theorem hit_str (s : ByteArray) (j : Nat) : ((allS.extract j (j + (1 + s.size + 1))).toList == (({ data := #[32] } : ByteArray) ++ s ++ { data := #[32] }).toList) = hitP (dl s) j := by
  rw [toList_dl, toList_dl, ext_str, dl_str, dl_append, dl_append, size_dl]
  unfold hitP
  rw [show j + (1 + (dl s).length + 1) - j = (dl s).length + 2 by omega]
  rfl
set_option maxRecDepth 100000 in
set_option maxHeartbeats 8000000 in
theorem Rf.isPunct (s : ByteArray) (w : World) (hs : s.size ≤ 1000000000) : Calls Tryz.prog 118 #[.string s] w fun e w' => e = .returned (.bool (puncts.contains (dl s))) ∧ w' = w := by
  obtain ⟨V, hV⟩ : ∃ V, puncts.contains (dl s) = V := ⟨_, rfl⟩
  rw [hV]
  have hsz : (dl s).length = s.size := (size_dl s).symm
  have hin : V = true → 0 < s.size ∧ s.size ≤ 4 ∧ (dl s).contains 32 = false ∧ ∃ j, j + s.size + 2 ≤ 143 ∧ hitP (dl s) j = true := fun e => by
    rw [← hV] at e
    have := in_hit e
    rwa [hsz] at this
  by_cases h0 : s.size = 0
  · have hv : V = false := by
      cases V with
      | false => rfl
      | true => have := (hin rfl).1; omega
    have g0 : ((s.size : Int) == 0) = true := by rw [beq_iff_eq]; omega
    subst hv
    clear hV hin hsz h0
    go_enter Tryz.func118, Tryz.ntmps118
    go_wp2_with fail
    go_ret
    exact ⟨rfl, rfl⟩
  have g0 : ((s.size : Int) == 0) = false := by rw [beq_eq_false_iff_ne]; omega
  by_cases h4 : 4 < s.size
  · have hv : V = false := by
      cases V with
      | false => rfl
      | true => have := (hin rfl).2.1; omega
    have g4 : (4 : Int) < s.size := by omega
    subst hv
    clear hV hin hsz h0 h4
    go_enter Tryz.func118, Tryz.ntmps118
    go_wp2_with fail
    go_ret
    exact ⟨rfl, rfl⟩
  have g4 : ¬ (4 : Int) < s.size := by omega
  have hsp : (dl s).contains 32 = false → ∀ j, j + s.size + 2 ≤ 143 → hitP (dl s) j = true → V = true := fun a j b c => by
    rw [← hV]; exact hit_in (by omega) (by omega) (by omega) a c
  have HIN := Lib.hid hin
  have HSP := Lib.hid hsp
  have HSZ := Lib.hid hsz
  have HS4 : Hid (s.size ≤ 4) := Lib.hid (by omega)
  clear hV hin hsp hsz h0 h4
  go_enter Tryz.func118, Tryz.ntmps118
  go_wp2_with fail
  go_loopw [4] (fun s4 wr => ∃ i : Nat, i ≤ s.size ∧ s4 = .int .i64 i ∧ wr = w ∧ ((dl s).take i).contains 32 = false) (fun s4 _ => s.size - (intOf s4).toNat)
  case atStart => exact ⟨0, Nat.zero_le _, rfl, rfl, rfl⟩
  case round =>
    obtain ⟨i, hi, rfl, rfl, hno⟩ := hrel
    by_cases hlt : i < s.size
    · have hlt' : (i : Int) < s.size := by omega
      have htk : (dl s).take (i + 1) = (dl s).take i ++ [s[i]] := by rw [List.take_add_one, dl_get hlt]; rfl
      by_cases e32 : s[i] = 32
      · obtain ⟨d1, d2⟩ := bqT 32 rfl e32
        have hv : V = false := by
          cases V with
          | false => rfl
          | true =>
            have h1 := (HIN.out rfl).2.2.1
            have hm : (32 : UInt8) ∈ dl s := by
              have : s[i] ∈ dl s := by rw [← dl_at hlt]; exact List.getElem_mem _
              rwa [e32] at this
            rw [List.contains_iff_mem.2 hm] at h1
            cases h1
        subst hv
        clear hno HIN HSP e32 htk
        go_wp2_with fail
        go_ret
        exact ⟨rfl, rfl⟩
      · obtain ⟨d1, d2⟩ := bqF 32 rfl e32
        have hno2 : ((dl s).take (i + 1)).contains 32 = false := by
          rw [htk]
          generalize (dl s).take i = A at *
          generalize s[i] = y at *
          rw [Bool.eq_false_iff] at hno ⊢
          intro h
          apply hno
          rw [List.contains_iff_mem] at h ⊢
          rcases List.mem_append.1 h with h | h
          · exact h
          · exact absurd (List.mem_singleton.1 h).symm e32
        have HNO := Lib.hid hno2
        clear hno e32 htk hno2
        go_wp2_with fail
        go_roundw
        case rel => exact ⟨i + 1, by omega, by go_num, by trivial, HNO.out⟩
        case measure => simp [intOf]; omega
    · obtain rfl : i = s.size := by omega
      have hlt' : ¬ (s.size : Int) < s.size := by omega
      rw [List.take_of_length_le (by rw [HSZ.out]; exact Nat.le_refl _)] at hno
      have HNO := Lib.hid hno
      clear hno
      rename World => w1
      go_wp2_with fail
      go_loopw [5] (fun s5 wr => ∃ j : Nat, s5 = .int .i64 j ∧ wr = w1 ∧ j ≤ 143 ∧ (∀ k, k < j → hitP (dl s) k = false)) (fun s5 _ => 200 - (intOf s5).toNat)
      case atStart => exact ⟨0, rfl, rfl, Nat.zero_le _, fun k h => absurd h (by omega)⟩
      case round =>
        obtain ⟨j, rfl, rfl, hj, hk⟩ := hrel
        have HK := Lib.hid hk
        clear hk
        by_cases hjn : j + s.size + 2 ≤ 143
        · have gj : (j : Int) + (1 + (s.size : Int) + 1) ≤ 143 := by omega
          clear hjn
          go_wp2_with fail
          · rename_i h
            have hh := (hit_str s j).symm.trans h
            have hv : V = true := HSP.out HNO.out j (by omega) hh
            subst hv
            go_ret
            exact ⟨rfl, rfl⟩
          · rename_i h
            have hh := (hit_str s j).symm.trans h
            refine ⟨⟨j + 1, by go_num, by trivial, by omega, fun k hk => ?_⟩, by simp [intOf]; omega⟩
            rcases Nat.lt_succ_iff_lt_or_eq.1 hk with h1 | rfl
            · exact HK.out k h1
            · exact hh
        · have gj : ¬ (j : Int) + (1 + (s.size : Int) + 1) ≤ 143 := by omega
          have hv : V = false := by
            cases V with
            | false => rfl
            | true =>
              obtain ⟨k, h1, h2⟩ := (HIN.out rfl).2.2.2
              rw [HK.out k (by omega)] at h2
              cases h2
          subst hv
          clear hjn
          go_wp2_with fail
          go_ret
          exact ⟨rfl, rfl⟩
end Go.Proofs.YtbnhefibpjldfaaGreatDoor

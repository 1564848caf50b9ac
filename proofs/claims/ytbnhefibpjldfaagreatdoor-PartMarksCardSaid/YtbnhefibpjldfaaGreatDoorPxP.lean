/- the document: names of headers, comments. -/
import Derived.Test.YtbnhefibpjldfaaGreatDoorPxN
namespace Go.Proofs.YtbnhefibpjldfaaGreatDoor
open Go.RowKit Go.BigFrame
set_option linter.unusedVariables false

theorem bq (c : UInt8) (n : Int) (m : UInt8) (h : (m.toNat : Int) = n) : ((c.toNat : Int) == n) = decide (c = m) := by
  rw [Bool.eq_iff_iff, beq_iff_eq, decide_eq_true_iff, ← UInt8.toNat_inj]
  omega
theorem bqT {c m : UInt8} (n : Int) (h : (m.toNat : Int) = n) (e : c = m) : ((c.toNat : Int) == n) = true ∧ ((c.toNat : Int) != n) = false := by
  subst e; simp [h]
theorem bqF {c m : UInt8} (n : Int) (h : (m.toNat : Int) = n) (e : c ≠ m) : ((c.toNat : Int) == n) = false ∧ ((c.toNat : Int) != n) = true := by
  have : ¬ (c.toNat : Int) = n := fun q => e (UInt8.toNat_inj.1 (by omega))
  simp [this]
/-- What is found of a header's name behind a place. -/
def hAt (a n : Nat) : Nat := if n = 0 then 0 else n + a
set_option maxRecDepth 100000 in
set_option maxHeartbeats 8000000 in
theorem Rf.namedB (s : ByteArray) (q : UInt8) (qi : Int) (V : Nat) (w : World) (h0 : 0 < s.size) (hs : s.size ≤ 1000000000) (hc : (s[0]'h0 = 60 ∧ q = 62) ∨ (s[0]'h0 = 34 ∧ q = 34)) (hV : V = hAt 1 (hRun q ((dl s).drop 1))) :
    Calls Tryz.prog 74 #[.string s] w fun e w' => e = .returned (.int .i64 V) ∧ w' = w := by
  have p0 : (0 : Int) < s.size := by omega
  have HV := Lib.hid hV
  clear hV
  rcases hc with ⟨hc, rfl⟩ | ⟨hc, rfl⟩
  · obtain ⟨c1, c2⟩ := bqT 60 rfl hc
    clear hc
    go_enter Tryz.func74, Tryz.ntmps74
    go_wp2_with fail
    go_loopw [4] (fun s4 wr => ∃ i : Nat, 1 ≤ i ∧ i ≤ s.size ∧ s4 = .int .i64 i ∧ wr = w ∧ V = hAt i (hRun 62 ((dl s).drop i))) (fun s4 _ => s.size - (intOf s4).toNat)
    case atStart => exact ⟨1, Nat.le_refl _, h0, rfl, rfl, HV.out⟩
    case round =>
      obtain ⟨i, hi1, hi, rfl, rfl, hv⟩ := hrel
      by_cases hlt : i < s.size
      · have hlt' : (i : Int) < s.size := by omega
        rw [hRun_at hlt] at hv
        by_cases e10 : s[i] = 10
        · obtain ⟨d1, d2⟩ := bqT 10 rfl e10
          rw [if_pos e10] at hv
          have hv0 : V = 0 := hv
          subst hv0
          clear hv HV e10
          go_wp2_with fail
          go_ret
          exact ⟨rfl, rfl⟩
        · obtain ⟨d1, d2⟩ := bqF 10 rfl e10
          rw [if_neg e10] at hv
          by_cases eq : s[i] = 62
          · obtain ⟨d3, d4⟩ := bqT 62 rfl eq
            rw [if_pos eq] at hv
            have hv0 : V = 1 + i := hv
            subst hv0
            clear hv HV e10 eq
            go_wp2_with fail
            go_ret
            exact ⟨ret_int (show (i : Int) + 1 = ((1 + i : Nat) : Int) by omega), rfl⟩
          · obtain ⟨d3, d4⟩ := bqF 62 rfl eq
            rw [if_neg eq] at hv
            have hv1 : V = hAt (i + 1) (hRun 62 ((dl s).drop (i + 1))) := by
              rw [hv]; unfold hAt; split <;> simp_all; omega
            have HV1 := Lib.hid hv1
            clear hv HV e10 eq hv1
            go_wp2_with fail
            go_roundw
            case rel => exact ⟨i + 1, by omega, by omega, by go_num, by trivial, HV1.out⟩
            case measure => simp [intOf]; omega
      · obtain rfl : i = s.size := by omega
        have hlt' : ¬ (s.size : Int) < s.size := by omega
        rw [hRun_end (Nat.le_refl _)] at hv
        have hv0 : V = 0 := hv
        subst hv0
        clear hv HV
        go_wp2_with fail
        go_ret
        exact ⟨rfl, rfl⟩
  · obtain ⟨c1, c2⟩ := bqT 34 rfl hc
    obtain ⟨c3, c4⟩ := bqF (m := 60) 60 rfl (by rw [hc]; decide : s[0] ≠ 60)
    have cv : (s[0].toNat : Int) = 34 := by simpa using c1
    clear hc
    go_enter Tryz.func74, Tryz.ntmps74
    go_wp2_with fail
    go_loopw [4] (fun s4 wr => ∃ i : Nat, 1 ≤ i ∧ i ≤ s.size ∧ s4 = .int .i64 i ∧ wr = w ∧ V = hAt i (hRun 34 ((dl s).drop i))) (fun s4 _ => s.size - (intOf s4).toNat)
    case atStart => exact ⟨1, Nat.le_refl _, h0, rfl, rfl, HV.out⟩
    case round =>
      obtain ⟨i, hi1, hi, rfl, rfl, hv⟩ := hrel
      by_cases hlt : i < s.size
      · have hlt' : (i : Int) < s.size := by omega
        rw [hRun_at hlt] at hv
        by_cases e10 : s[i] = 10
        · obtain ⟨d1, d2⟩ := bqT 10 rfl e10
          rw [if_pos e10] at hv
          have hv0 : V = 0 := hv
          subst hv0
          clear hv HV e10
          go_wp2_with fail
          go_ret
          exact ⟨rfl, rfl⟩
        · obtain ⟨d1, d2⟩ := bqF 10 rfl e10
          rw [if_neg e10] at hv
          by_cases eq : s[i] = 34
          · obtain ⟨d3, d4⟩ := bqT 34 rfl eq
            rw [if_pos eq] at hv
            have hv0 : V = 1 + i := hv
            subst hv0
            clear hv HV e10 eq
            go_wp2_with fail
            go_ret
            exact ⟨ret_int (show (i : Int) + 1 = ((1 + i : Nat) : Int) by omega), rfl⟩
          · obtain ⟨d3, d4⟩ := bqF 34 rfl eq
            rw [if_neg eq] at hv
            have hv1 : V = hAt (i + 1) (hRun 34 ((dl s).drop (i + 1))) := by
              rw [hv]; unfold hAt; split <;> simp_all; omega
            have HV1 := Lib.hid hv1
            clear hv HV e10 eq hv1
            go_wp2_with fail
            go_roundw
            case rel => exact ⟨i + 1, by omega, by omega, by go_num, by trivial, HV1.out⟩
            case measure => simp [intOf]; omega
      · obtain rfl : i = s.size := by omega
        have hlt' : ¬ (s.size : Int) < s.size := by omega
        rw [hRun_end (Nat.le_refl _)] at hv
        have hv0 : V = 0 := hv
        subst hv0
        clear hv HV
        go_wp2_with fail
        go_ret
        exact ⟨rfl, rfl⟩
theorem Rf.named (s : ByteArray) (w : World) (h0 : 0 < s.size) (hs : s.size ≤ 1000000000) : Calls Tryz.prog 74 #[.string s] w fun e w' => e = .returned (.int .i64 (hLen (dl s))) ∧ w' = w := by
  have hd : dl s = s[0]'h0 :: (dl s).drop 1 := by have := drop_at h0; simpa using this
  by_cases e1 : s[0]'h0 = 60
  · refine Rf.namedB s 62 62 _ w h0 hs (.inl ⟨e1, rfl⟩) ?_
    conv => lhs; rw [hd]
    rw [hLen, if_pos e1]; rfl
  by_cases e2 : s[0]'h0 = 34
  · refine Rf.namedB s 34 34 _ w h0 hs (.inr ⟨e2, rfl⟩) ?_
    conv => lhs; rw [hd]
    rw [hLen, if_neg e1, if_pos e2]; rfl
  have hv : hLen (dl s) = 0 := by
    rw [hd, hLen, if_neg e1, if_neg e2]
  obtain ⟨c1, c2⟩ := bqF (m := 60) 60 rfl e1
  obtain ⟨c3, c4⟩ := bqF (m := 34) 34 rfl e2
  have p0 : (0 : Int) < s.size := by omega
  rw [hv]
  clear e1 e2 hd hv
  go_enter Tryz.func74, Tryz.ntmps74
  go_wp2_with fail
  go_ret
  exact ⟨rfl, rfl⟩
/-- What the document finds of a block. -/
def remO : Option Nat → Int
  | none => -1
  | some n => ((n + 4 : Nat) : Int)
/-- What the document finds of a comment. -/
def remI (t : Bs) : Int := if (cLen t).2 ≠ 0 then -1 else (cLen t).1
theorem toNl_at {s : ByteArray} {i : Nat} (h : i < s.size) : toNl ((dl s).drop i) = if s[i] = 10 then 0 else toNl ((dl s).drop (i + 1)) + 1 := by rw [drop_at h]; rfl
theorem fEnd_at {s : ByteArray} {i : Nat} (h : i + 1 < s.size) : fEnd ((dl s).drop i) = if s[i] = 42 ∧ s[i + 1] = 47 then some 0 else (fEnd ((dl s).drop (i + 1))).map (· + 1) := by
  rw [drop_at (by omega), drop_at h, fEnd]
theorem fEnd_last {s : ByteArray} {i : Nat} (h : s.size ≤ i + 1) : fEnd ((dl s).drop i) = none := by
  by_cases h1 : i < s.size
  · rw [drop_at h1, drop_end (by omega)]; rfl
  · rw [drop_end (by omega)]; rfl
set_option maxRecDepth 100000 in
set_option maxHeartbeats 8000000 in
theorem Rf.remLine (s : ByteArray) (w : World) (h1 : 1 < s.size) (hs : s.size ≤ 1000000000) (e0 : s[0] = 47) (e1 : s[1] = 47) : Calls Tryz.prog 75 #[.string s] w fun e w' => e = .returned (.int .i64 ((toNl ((dl s).drop 2) + 2 : Nat) : Int)) ∧ w' = w := by
  obtain ⟨V, hV⟩ : ∃ V, toNl ((dl s).drop 2) + 2 = V := ⟨_, rfl⟩
  rw [hV]
  have HV := Lib.hid hV
  obtain ⟨a1, a2⟩ := bqT 47 rfl e0
  obtain ⟨b1, b2⟩ := bqT 47 rfl e1
  obtain ⟨b3, b4⟩ := bqF (m := 42) 42 rfl (by rw [e1]; decide : s[1] ≠ 42)
  have p0 : (0 : Int) < s.size := by omega
  have p1 : (1 : Int) < s.size := by omega
  have p2 : ¬ (s.size : Int) < 2 := by omega
  clear hV e0 e1
  go_enter Tryz.func75, Tryz.ntmps75
  go_wp2_with fail
  go_loopw [3] (fun s3 wr => ∃ i : Nat, 2 ≤ i ∧ i ≤ s.size ∧ s3 = .int .i64 i ∧ wr = w ∧ V = i + toNl ((dl s).drop i)) (fun s3 _ => s.size - (intOf s3).toNat)
  case atStart => exact ⟨2, Nat.le_refl _, by omega, rfl, rfl, by rw [← HV.out]; omega⟩
  case round =>
    obtain ⟨i, hi1, hi, rfl, rfl, hv⟩ := hrel
    by_cases hlt : i < s.size
    · have hlt' : (i : Int) < s.size := by omega
      rw [toNl_at hlt] at hv
      by_cases e10 : s[i] = 10
      · obtain ⟨d1, d2⟩ := bqT 10 rfl e10
        rw [if_pos e10] at hv
        have hv0 : V = i := hv
        subst hv0
        clear hv HV e10
        go_wp2_with fail
        go_ret
        exact ⟨rfl, rfl⟩
      · obtain ⟨d1, d2⟩ := bqF 10 rfl e10
        rw [if_neg e10] at hv
        have HV1 := Lib.hid hv
        clear hv HV e10
        go_wp2_with fail
        go_roundw
        case rel => exact ⟨i + 1, by omega, by omega, by go_num, by trivial, by rw [HV1.out]; omega⟩
        case measure => simp [intOf]; omega
    · obtain rfl : i = s.size := by omega
      have hlt' : ¬ (s.size : Int) < s.size := by omega
      rw [drop_end (Nat.le_refl _)] at hv
      have hv0 : V = s.size := hv
      have HV0 := Lib.hid hv0
      clear hv HV hv0
      go_wp2_with fail
      go_ret
      exact ⟨by rw [HV0.out]; rfl, rfl⟩
set_option maxRecDepth 100000 in
set_option maxHeartbeats 8000000 in
theorem Rf.remBlock (s : ByteArray) (w : World) (h1 : 1 < s.size) (hs : s.size ≤ 1000000000) (e0 : s[0] = 47) (e1 : s[1] = 42) : Calls Tryz.prog 75 #[.string s] w fun e w' => e = .returned (.int .i64 (remO (fEnd ((dl s).drop 2)))) ∧ w' = w := by
  obtain ⟨V, hV⟩ : ∃ V, fEnd ((dl s).drop 2) = V := ⟨_, rfl⟩
  rw [hV]
  have HV := Lib.hid hV
  obtain ⟨a1, a2⟩ := bqT 47 rfl e0
  obtain ⟨b1, b2⟩ := bqT 42 rfl e1
  obtain ⟨b3, b4⟩ := bqF (m := 47) 47 rfl (by rw [e1]; decide : s[1] ≠ 47)
  have p0 : (0 : Int) < s.size := by omega
  have p1 : (1 : Int) < s.size := by omega
  have p2 : ¬ (s.size : Int) < 2 := by omega
  clear hV e0 e1
  go_enter Tryz.func75, Tryz.ntmps75
  go_wp2_with fail
  go_loopw [3] (fun s3 wr => ∃ i : Nat, 2 ≤ i ∧ i ≤ s.size ∧ s3 = .int .i64 i ∧ wr = w ∧ (i = 2 ∨ (2 < i ∧ V = (fEnd ((dl s).drop (i - 1))).map (· + (i - 3))))) (fun s3 _ => s.size - (intOf s3).toNat)
  case atStart => exact ⟨2, Nat.le_refl _, by omega, rfl, rfl, .inl rfl⟩
  case round =>
    obtain ⟨i, hi1, hi, rfl, rfl, hv⟩ := hrel
    by_cases hlt : i < s.size
    · have hlt' : (i : Int) < s.size := by omega
      rcases hv with rfl | ⟨hi2, hv⟩
      · have hv1 : V = (fEnd ((dl s).drop (3 - 1))).map (· + (3 - 3)) := by
          rw [← HV.out]; cases fEnd ((dl s).drop 2) <;> rfl
        have HV1 := Lib.hid hv1
        clear HV hv1
        go_wp2_with fail
        go_roundw
        case rel => exact ⟨3, by omega, by omega, by go_num, by trivial, .inr ⟨by omega, HV1.out⟩⟩
        case measure => simp [intOf]; omega
      · have hi2' : (2 : Int) < i := by omega
        have w1' : IntKind.i64.wrap ((i : Int) - 1) = (i : Int) - 1 := IntWalk.i64_in _ (by omega)
        have w2' : (0 : Int) ≤ (i : Int) - 1 := by omega
        have w3' : (i : Int) - 1 < (s.size : Int) := by omega
        have w4' : ((i : Int) - 1).toNat = i - 1 := by omega
        have w5' : i - 1 < s.size := by omega
        rw [fEnd_at (show i - 1 + 1 < s.size by omega)] at hv
        have ei : s[i - 1 + 1]'(by omega) = s[i] := by congr 1; omega
        rw [ei] at hv
        have stay : ¬ (s[i - 1]'w5' = 42 ∧ s[i] = 47) → V = (fEnd ((dl s).drop (i + 1 - 1))).map (· + (i + 1 - 3)) := fun hne => by
          rw [hv, if_neg hne, show i - 1 + 1 = i + 1 - 1 by omega]
          cases fEnd ((dl s).drop (i + 1 - 1)) with
          | none => rfl
          | some k => simp; omega
        by_cases e47 : s[i] = 47
        · obtain ⟨d1, d2⟩ := bqT 47 rfl e47
          by_cases e42 : s[i - 1]'w5' = 42
          · obtain ⟨d3, d4⟩ := bqT 42 rfl e42
            rw [if_pos ⟨e42, e47⟩] at hv
            have hv0 : V = some (0 + (i - 3)) := hv
            have HV0 := Lib.hid hv0
            clear hv HV e47 e42 stay hv0 ei
            go_wp2_with fail
            go_ret
            rw [HV0.out]
            exact ⟨ret_int (show (i : Int) + 1 = ((0 + (i - 3) + 4 : Nat) : Int) by omega), rfl⟩
          · obtain ⟨d3, d4⟩ := bqF 42 rfl e42
            have HV1 := Lib.hid (stay (fun h => e42 h.1))
            clear hv HV e47 e42 stay ei
            go_wp2_with fail
            go_roundw
            case rel => exact ⟨i + 1, by omega, by omega, by go_num, by trivial, .inr ⟨by omega, HV1.out⟩⟩
            case measure => simp [intOf]; omega
        · obtain ⟨d1, d2⟩ := bqF 47 rfl e47
          have HV1 := Lib.hid (stay (fun h => e47 h.2))
          clear hv HV e47 stay ei
          go_wp2_with fail
          go_roundw
          case rel => exact ⟨i + 1, by omega, by omega, by go_num, by trivial, .inr ⟨by omega, HV1.out⟩⟩
          case measure => simp [intOf]; omega
    · obtain rfl : i = s.size := by omega
      have hlt' : ¬ (s.size : Int) < s.size := by omega
      have hv0 : V = none := by
        rcases hv with h2 | ⟨h2, hv⟩
        · rw [← HV.out]; exact fEnd_last (by omega)
        · rw [hv, fEnd_last (by omega)]; rfl
      have HV0 := Lib.hid hv0
      clear hv HV hv0
      go_wp2_with fail
      go_ret
      rw [HV0.out]
      exact ⟨rfl, rfl⟩
set_option maxRecDepth 100000 in
theorem Rf.remNone (s : ByteArray) (w : World) (hs : s.size ≤ 1000000000) (h : s.size < 2 ∨ ∃ h1 : 1 < s.size, s[0] ≠ 47 ∨ (s[1] ≠ 47 ∧ s[1] ≠ 42)) : Calls Tryz.prog 75 #[.string s] w fun e w' => e = .returned (.int .i64 0) ∧ w' = w := by
  rcases h with h | ⟨h1, h | ⟨h, h'⟩⟩
  · have p2 : (s.size : Int) < 2 := by omega
    go_enter Tryz.func75, Tryz.ntmps75
    go_wp2_with fail
    go_ret
    exact ⟨rfl, rfl⟩
  · obtain ⟨a1, a2⟩ := bqF (m := 47) 47 rfl h
    have p0 : (0 : Int) < s.size := by omega
    have p2 : ¬ (s.size : Int) < 2 := by omega
    clear h
    go_enter Tryz.func75, Tryz.ntmps75
    go_wp2_with fail
    go_ret
    exact ⟨rfl, rfl⟩
  · obtain ⟨b1, b2⟩ := bqF (m := 47) 47 rfl h
    obtain ⟨b3, b4⟩ := bqF (m := 42) 42 rfl h'
    have p0 : (0 : Int) < s.size := by omega
    have p1 : (1 : Int) < s.size := by omega
    have p2 : ¬ (s.size : Int) < 2 := by omega
    by_cases h0 : s[0] = 47
    · obtain ⟨a1, a2⟩ := bqT 47 rfl h0
      clear h h' h0
      go_enter Tryz.func75, Tryz.ntmps75
      go_wp2_with fail
      go_ret
      exact ⟨rfl, rfl⟩
    · obtain ⟨a1, a2⟩ := bqF (m := 47) 47 rfl h0
      clear h h' h0
      go_enter Tryz.func75, Tryz.ntmps75
      go_wp2_with fail
      go_ret
      exact ⟨rfl, rfl⟩
theorem Rf.remark (s : ByteArray) (w : World) (hs : s.size ≤ 1000000000) : Calls Tryz.prog 75 #[.string s] w fun e w' => e = .returned (.int .i64 (remI (dl s))) ∧ w' = w := by
  by_cases h1 : 1 < s.size
  · have hd : dl s = s[0]'(by omega) :: s[1]'h1 :: (dl s).drop 2 := by
      have := drop_at (s := s) (i := 0) (by omega)
      rw [drop_at (s := s) (i := 0 + 1) (by omega)] at this
      exact this
    by_cases e0 : s[0]'(by omega) = 47
    · by_cases e1 : s[1]'h1 = 47
      · have : remI (dl s) = ((toNl ((dl s).drop 2) + 2 : Nat) : Int) := by
          have hc : cLen (dl s) = (toNl ((dl s).drop 2) + 2, 0) := by
            conv => lhs; rw [hd]
            rw [cLen, if_neg (fun h => absurd (e1.symm.trans h.2) (by decide)), if_pos ⟨e0, e1⟩]
          unfold remI
          rw [hc]; rfl
        rw [this]
        exact Rf.remLine s w h1 hs e0 e1
      by_cases e2 : s[1]'h1 = 42
      · have : remI (dl s) = remO (fEnd ((dl s).drop 2)) := by
          have hc : cLen (dl s) = match fEnd ((dl s).drop 2) with | none => (0, 20) | some n => (n + 4, 0) := by
            conv => lhs; rw [hd]
            rw [cLen, if_pos ⟨e0, e2⟩]; rfl
          unfold remI
          rw [hc]
          cases fEnd ((dl s).drop 2) <;> rfl
        rw [this]
        exact Rf.remBlock s w h1 hs e0 e2
      · have : remI (dl s) = 0 := by
          have hc : cLen (dl s) = (0, 0) := by
            rw [hd, cLen, if_neg (fun h => e2 h.2), if_neg (fun h => e1 h.2)]
          unfold remI
          rw [hc]; rfl
        rw [this]
        exact Rf.remNone s w hs (.inr ⟨h1, .inr ⟨e1, e2⟩⟩)
    · have : remI (dl s) = 0 := by
        have hc : cLen (dl s) = (0, 0) := by
          rw [hd, cLen, if_neg (fun h => e0 h.1), if_neg (fun h => e0 h.1)]
        unfold remI
        rw [hc]; rfl
      rw [this]
      exact Rf.remNone s w hs (.inr ⟨h1, .inl e0⟩)
  · have : remI (dl s) = 0 := by
      have hl : (dl s).length ≤ 1 := by rw [← size_dl]; omega
      unfold remI
      generalize dl s = l at hl
      match l, hl with
      | [], _ => rfl
      | [a], _ => rfl
      | a :: b :: r, h => simp at h
    rw [this]
    exact Rf.remNone s w hs (.inl (by omega))
end Go.Proofs.YtbnhefibpjldfaaGreatDoor

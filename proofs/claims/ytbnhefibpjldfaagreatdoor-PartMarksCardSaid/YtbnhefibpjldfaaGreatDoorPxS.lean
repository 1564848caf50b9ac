/- the document: names of headers, comments. -/
import Derived.Test.YtbnhefibpjldfaaGreatDoorPxN
import Derived.Test.YtbnhefibpjldfaaGreatDoorPxO
import Derived.Test.YtbnhefibpjldfaaGreatDoorPwG
namespace Go.Proofs.YtbnhefibpjldfaaGreatDoor
open Go.RowKit Go.BigFrame
set_option linter.unusedVariables false

theorem bq (c : UInt8) (n : Int) (m : UInt8) (h : (m.toNat : Int) = n) : ((c.toNat : Int) == n) = decide (c = m) := by
  rw [Bool.eq_iff_iff, beq_iff_eq, decide_eq_true_iff, ← UInt8.toNat_inj]
  omega
theorem bqT {c m : UInt8} (n : Int) (h : (m.toNat : Int) = n) (e : c = m) : ((c.toNat : Int) == n) = true ∧ ((c.toNat : Int) != n) = false := by
  subst e; simp [h]
theorem bqF {c m : UInt8} (n : Int) (h : (m.toNat : Int) = n) (e : c ≠ m) : ((c.toNat : Int) == n) = false ∧ ((c.toNat : Int) != n) = true := by
  have : ¬ (c.toNat : Int) = n := fun q => e (UInt8.toNat_inj.1 (by omega))
  simp [this]
/-- What is found of a header's name behind a place. -/
def hAt (a n : Nat) : Nat := if n = 0 then 0 else n + a
set_option maxRecDepth 100000 in
set_option maxHeartbeats 8000000 in
theorem Rf.namedB (s : ByteArray) (q : UInt8) (qi : Int) (V : Nat) (w : World) (h0 : 0 < s.size) (hs : s.size ≤ 1000000000) (hc : (s[0]'h0 = 60 ∧ q = 62) ∨ (s[0]'h0 = 34 ∧ q = 34)) (hV : V = hAt 1 (hRun q ((dl s).drop 1))) :
    Calls Tryz.prog 74 #[.string s] w fun e w' => e = .returned (.int .i64 V) ∧ w' = w := by
  have p0 : (0 : Int) < s.size := by omega
  have HV := Lib.hid hV
  clear hV
  rcases hc with ⟨hc, rfl⟩ | ⟨hc, rfl⟩
  · obtain ⟨c1, c2⟩ := bqT 60 rfl hc
    clear hc
    go_enter Tryz.func74, Tryz.ntmps74
    go_wp2_with fail
    go_loopw [4] (fun s4 wr => ∃ i : Nat, 1 ≤ i ∧ i ≤ s.size ∧ s4 = .int .i64 i ∧ wr = w ∧ V = hAt i (hRun 62 ((dl s).drop i))) (fun s4 _ => s.size - (intOf s4).toNat)
    case atStart => exact ⟨1, Nat.le_refl _, h0, rfl, rfl, HV.out⟩
    case round =>
      obtain ⟨i, hi1, hi, rfl, rfl, hv⟩ := hrel
      by_cases hlt : i < s.size
      · have hlt' : (i : Int) < s.size := by omega
        rw [hRun_at hlt] at hv
        by_cases e10 : s[i] = 10
        · obtain ⟨d1, d2⟩ := bqT 10 rfl e10
          rw [if_pos e10] at hv
          have hv0 : V = 0 := hv
          subst hv0
          clear hv HV e10
          go_wp2_with fail
          go_ret
          exact ⟨rfl, rfl⟩
        · obtain ⟨d1, d2⟩ := bqF 10 rfl e10
          rw [if_neg e10] at hv
          by_cases eq : s[i] = 62
          · obtain ⟨d3, d4⟩ := bqT 62 rfl eq
            rw [if_pos eq] at hv
            have hv0 : V = 1 + i := hv
            subst hv0
            clear hv HV e10 eq
            go_wp2_with fail
            go_ret
            exact ⟨ret_int (show (i : Int) + 1 = ((1 + i : Nat) : Int) by omega), rfl⟩
          · obtain ⟨d3, d4⟩ := bqF 62 rfl eq
            rw [if_neg eq] at hv
            have hv1 : V = hAt (i + 1) (hRun 62 ((dl s).drop (i + 1))) := by
              rw [hv]; unfold hAt; split <;> simp_all; omega
            have HV1 := Lib.hid hv1
            clear hv HV e10 eq hv1
            go_wp2_with fail
            go_roundw
            case rel => exact ⟨i + 1, by omega, by omega, by go_num, by trivial, HV1.out⟩
            case measure => simp [intOf]; omega
      · obtain rfl : i = s.size := by omega
        have hlt' : ¬ (s.size : Int) < s.size := by omega
        rw [hRun_end (Nat.le_refl _)] at hv
        have hv0 : V = 0 := hv
        subst hv0
        clear hv HV
        go_wp2_with fail
        go_ret
        exact ⟨rfl, rfl⟩
  · obtain ⟨c1, c2⟩ := bqT 34 rfl hc
    obtain ⟨c3, c4⟩ := bqF (m := 60) 60 rfl (by rw [hc]; decide : s[0] ≠ 60)
    have cv : (s[0].toNat : Int) = 34 := by simpa using c1
    clear hc
    go_enter Tryz.func74, Tryz.ntmps74
    go_wp2_with fail
    go_loopw [4] (fun s4 wr => ∃ i : Nat, 1 ≤ i ∧ i ≤ s.size ∧ s4 = .int .i64 i ∧ wr = w ∧ V = hAt i (hRun 34 ((dl s).drop i))) (fun s4 _ => s.size - (intOf s4).toNat)
    case atStart => exact ⟨1, Nat.le_refl _, h0, rfl, rfl, HV.out⟩
    case round =>
      obtain ⟨i, hi1, hi, rfl, rfl, hv⟩ := hrel
      by_cases hlt : i < s.size
      · have hlt' : (i : Int) < s.size := by omega
        rw [hRun_at hlt] at hv
        by_cases e10 : s[i] = 10
        · obtain ⟨d1, d2⟩ := bqT 10 rfl e10
          rw [if_pos e10] at hv
          have hv0 : V = 0 := hv
          subst hv0
          clear hv HV e10
          go_wp2_with fail
          go_ret
          exact ⟨rfl, rfl⟩
        · obtain ⟨d1, d2⟩ := bqF 10 rfl e10
          rw [if_neg e10] at hv
          by_cases eq : s[i] = 34
          · obtain ⟨d3, d4⟩ := bqT 34 rfl eq
            rw [if_pos eq] at hv
            have hv0 : V = 1 + i := hv
            subst hv0
            clear hv HV e10 eq
            go_wp2_with fail
            go_ret
            exact ⟨ret_int (show (i : Int) + 1 = ((1 + i : Nat) : Int) by omega), rfl⟩
          · obtain ⟨d3, d4⟩ := bqF 34 rfl eq
            rw [if_neg eq] at hv
            have hv1 : V = hAt (i + 1) (hRun 34 ((dl s).drop (i + 1))) := by
              rw [hv]; unfold hAt; split <;> simp_all; omega
            have HV1 := Lib.hid hv1
            clear hv HV e10 eq hv1
            go_wp2_with fail
            go_roundw
            case rel => exact ⟨i + 1, by omega, by omega, by go_num, by trivial, HV1.out⟩
            case measure => simp [intOf]; omega
      · obtain rfl : i = s.size := by omega
        have hlt' : ¬ (s.size : Int) < s.size := by omega
        rw [hRun_end (Nat.le_refl _)] at hv
        have hv0 : V = 0 := hv
        subst hv0
        clear hv HV
        go_wp2_with fail
        go_ret
        exact ⟨rfl, rfl⟩
theorem Rf.named (s : ByteArray) (w : World) (h0 : 0 < s.size) (hs : s.size ≤ 1000000000) : Calls Tryz.prog 74 #[.string s] w fun e w' => e = .returned (.int .i64 (hLen (dl s))) ∧ w' = w := by
  have hd : dl s = s[0]'h0 :: (dl s).drop 1 := by have := drop_at h0; simpa using this
  by_cases e1 : s[0]'h0 = 60
  · refine Rf.namedB s 62 62 _ w h0 hs (.inl ⟨e1, rfl⟩) ?_
    conv => lhs; rw [hd]
    rw [hLen, if_pos e1]; rfl
  by_cases e2 : s[0]'h0 = 34
  · refine Rf.namedB s 34 34 _ w h0 hs (.inr ⟨e2, rfl⟩) ?_
    conv => lhs; rw [hd]
    rw [hLen, if_neg e1, if_pos e2]; rfl
  have hv : hLen (dl s) = 0 := by
    rw [hd, hLen, if_neg e1, if_neg e2]
  obtain ⟨c1, c2⟩ := bqF (m := 60) 60 rfl e1
  obtain ⟨c3, c4⟩ := bqF (m := 34) 34 rfl e2
  have p0 : (0 : Int) < s.size := by omega
  rw [hv]
  clear e1 e2 hd hv
  go_enter Tryz.func74, Tryz.ntmps74
  go_wp2_with fail
  go_ret
  exact ⟨rfl, rfl⟩
/-- What the document finds of a block. -/
def remO : Option Nat → Int
  | none => -1
  | some n => ((n + 4 : Nat) : Int)
/-- What the document finds of a comment. -/
def remI (t : Bs) : Int := if (cLen t).2 ≠ 0 then -1 else (cLen t).1
theorem toNl_at {s : ByteArray} {i : Nat} (h : i < s.size) : toNl ((dl s).drop i) = if s[i] = 10 then 0 else toNl ((dl s).drop (i + 1)) + 1 := by rw [drop_at h]; rfl
theorem fEnd_at {s : ByteArray} {i : Nat} (h : i + 1 < s.size) : fEnd ((dl s).drop i) = if s[i] = 42 ∧ s[i + 1] = 47 then some 0 else (fEnd ((dl s).drop (i + 1))).map (· + 1) := by
  rw [drop_at (by omega), drop_at h, fEnd]
theorem fEnd_last {s : ByteArray} {i : Nat} (h : s.size ≤ i + 1) : fEnd ((dl s).drop i) = none := by
  by_cases h1 : i < s.size
  · rw [drop_at h1, drop_end (by omega)]; rfl
  · rw [drop_end (by omega)]; rfl
set_option maxRecDepth 100000 in
set_option maxHeartbeats 8000000 in
theorem Rf.remLine (s : ByteArray) (w : World) (h1 : 1 < s.size) (hs : s.size ≤ 1000000000) (e0 : s[0] = 47) (e1 : s[1] = 47) : Calls Tryz.prog 75 #[.string s] w fun e w' => e = .returned (.int .i64 ((toNl ((dl s).drop 2) + 2 : Nat) : Int)) ∧ w' = w := by
  obtain ⟨V, hV⟩ : ∃ V, toNl ((dl s).drop 2) + 2 = V := ⟨_, rfl⟩
  rw [hV]
  have HV := Lib.hid hV
  obtain ⟨a1, a2⟩ := bqT 47 rfl e0
  obtain ⟨b1, b2⟩ := bqT 47 rfl e1
  obtain ⟨b3, b4⟩ := bqF (m := 42) 42 rfl (by rw [e1]; decide : s[1] ≠ 42)
  have p0 : (0 : Int) < s.size := by omega
  have p1 : (1 : Int) < s.size := by omega
  have p2 : ¬ (s.size : Int) < 2 := by omega
  clear hV e0 e1
  go_enter Tryz.func75, Tryz.ntmps75
  go_wp2_with fail
  go_loopw [3] (fun s3 wr => ∃ i : Nat, 2 ≤ i ∧ i ≤ s.size ∧ s3 = .int .i64 i ∧ wr = w ∧ V = i + toNl ((dl s).drop i)) (fun s3 _ => s.size - (intOf s3).toNat)
  case atStart => exact ⟨2, Nat.le_refl _, by omega, rfl, rfl, by rw [← HV.out]; omega⟩
  case round =>
    obtain ⟨i, hi1, hi, rfl, rfl, hv⟩ := hrel
    by_cases hlt : i < s.size
    · have hlt' : (i : Int) < s.size := by omega
      rw [toNl_at hlt] at hv
      by_cases e10 : s[i] = 10
      · obtain ⟨d1, d2⟩ := bqT 10 rfl e10
        rw [if_pos e10] at hv
        have hv0 : V = i := hv
        subst hv0
        clear hv HV e10
        go_wp2_with fail
        go_ret
        exact ⟨rfl, rfl⟩
      · obtain ⟨d1, d2⟩ := bqF 10 rfl e10
        rw [if_neg e10] at hv
        have HV1 := Lib.hid hv
        clear hv HV e10
        go_wp2_with fail
        go_roundw
        case rel => exact ⟨i + 1, by omega, by omega, by go_num, by trivial, by rw [HV1.out]; omega⟩
        case measure => simp [intOf]; omega
    · obtain rfl : i = s.size := by omega
      have hlt' : ¬ (s.size : Int) < s.size := by omega
      rw [drop_end (Nat.le_refl _)] at hv
      have hv0 : V = s.size := hv
      have HV0 := Lib.hid hv0
      clear hv HV hv0
      go_wp2_with fail
      go_ret
      exact ⟨by rw [HV0.out]; rfl, rfl⟩
set_option maxRecDepth 100000 in
set_option maxHeartbeats 8000000 in
theorem Rf.remBlock (s : ByteArray) (w : World) (h1 : 1 < s.size) (hs : s.size ≤ 1000000000) (e0 : s[0] = 47) (e1 : s[1] = 42) : Calls Tryz.prog 75 #[.string s] w fun e w' => e = .returned (.int .i64 (remO (fEnd ((dl s).drop 2)))) ∧ w' = w := by
  obtain ⟨V, hV⟩ : ∃ V, fEnd ((dl s).drop 2) = V := ⟨_, rfl⟩
  rw [hV]
  have HV := Lib.hid hV
  obtain ⟨a1, a2⟩ := bqT 47 rfl e0
  obtain ⟨b1, b2⟩ := bqT 42 rfl e1
  obtain ⟨b3, b4⟩ := bqF (m := 47) 47 rfl (by rw [e1]; decide : s[1] ≠ 47)
  have p0 : (0 : Int) < s.size := by omega
  have p1 : (1 : Int) < s.size := by omega
  have p2 : ¬ (s.size : Int) < 2 := by omega
  clear hV e0 e1
  go_enter Tryz.func75, Tryz.ntmps75
  go_wp2_with fail
  go_loopw [3] (fun s3 wr => ∃ i : Nat, 2 ≤ i ∧ i ≤ s.size ∧ s3 = .int .i64 i ∧ wr = w ∧ (i = 2 ∨ (2 < i ∧ V = (fEnd ((dl s).drop (i - 1))).map (· + (i - 3))))) (fun s3 _ => s.size - (intOf s3).toNat)
  case atStart => exact ⟨2, Nat.le_refl _, by omega, rfl, rfl, .inl rfl⟩
  case round =>
    obtain ⟨i, hi1, hi, rfl, rfl, hv⟩ := hrel
    by_cases hlt : i < s.size
    · have hlt' : (i : Int) < s.size := by omega
      rcases hv with rfl | ⟨hi2, hv⟩
      · have hv1 : V = (fEnd ((dl s).drop (3 - 1))).map (· + (3 - 3)) := by
          rw [← HV.out]; cases fEnd ((dl s).drop 2) <;> rfl
        have HV1 := Lib.hid hv1
        clear HV hv1
        go_wp2_with fail
        go_roundw
        case rel => exact ⟨3, by omega, by omega, by go_num, by trivial, .inr ⟨by omega, HV1.out⟩⟩
        case measure => simp [intOf]; omega
      · have hi2' : (2 : Int) < i := by omega
        have w1' : IntKind.i64.wrap ((i : Int) - 1) = (i : Int) - 1 := IntWalk.i64_in _ (by omega)
        have w2' : (0 : Int) ≤ (i : Int) - 1 := by omega
        have w3' : (i : Int) - 1 < (s.size : Int) := by omega
        have w4' : ((i : Int) - 1).toNat = i - 1 := by omega
        have w5' : i - 1 < s.size := by omega
        rw [fEnd_at (show i - 1 + 1 < s.size by omega)] at hv
        have ei : s[i - 1 + 1]'(by omega) = s[i] := by congr 1; omega
        rw [ei] at hv
        have stay : ¬ (s[i - 1]'w5' = 42 ∧ s[i] = 47) → V = (fEnd ((dl s).drop (i + 1 - 1))).map (· + (i + 1 - 3)) := fun hne => by
          rw [hv, if_neg hne, show i - 1 + 1 = i + 1 - 1 by omega]
          cases fEnd ((dl s).drop (i + 1 - 1)) with
          | none => rfl
          | some k => simp; omega
        by_cases e47 : s[i] = 47
        · obtain ⟨d1, d2⟩ := bqT 47 rfl e47
          by_cases e42 : s[i - 1]'w5' = 42
          · obtain ⟨d3, d4⟩ := bqT 42 rfl e42
            rw [if_pos ⟨e42, e47⟩] at hv
            have hv0 : V = some (0 + (i - 3)) := hv
            have HV0 := Lib.hid hv0
            clear hv HV e47 e42 stay hv0 ei
            go_wp2_with fail
            go_ret
            rw [HV0.out]
            exact ⟨ret_int (show (i : Int) + 1 = ((0 + (i - 3) + 4 : Nat) : Int) by omega), rfl⟩
          · obtain ⟨d3, d4⟩ := bqF 42 rfl e42
            have HV1 := Lib.hid (stay (fun h => e42 h.1))
            clear hv HV e47 e42 stay ei
            go_wp2_with fail
            go_roundw
            case rel => exact ⟨i + 1, by omega, by omega, by go_num, by trivial, .inr ⟨by omega, HV1.out⟩⟩
            case measure => simp [intOf]; omega
        · obtain ⟨d1, d2⟩ := bqF 47 rfl e47
          have HV1 := Lib.hid (stay (fun h => e47 h.2))
          clear hv HV e47 stay ei
          go_wp2_with fail
          go_roundw
          case rel => exact ⟨i + 1, by omega, by omega, by go_num, by trivial, .inr ⟨by omega, HV1.out⟩⟩
          case measure => simp [intOf]; omega
    · obtain rfl : i = s.size := by omega
      have hlt' : ¬ (s.size : Int) < s.size := by omega
      have hv0 : V = none := by
        rcases hv with h2 | ⟨h2, hv⟩
        · rw [← HV.out]; exact fEnd_last (by omega)
        · rw [hv, fEnd_last (by omega)]; rfl
      have HV0 := Lib.hid hv0
      clear hv HV hv0
      go_wp2_with fail
      go_ret
      rw [HV0.out]
      exact ⟨rfl, rfl⟩
set_option maxRecDepth 100000 in
theorem Rf.remNone (s : ByteArray) (w : World) (hs : s.size ≤ 1000000000) (h : s.size < 2 ∨ ∃ h1 : 1 < s.size, s[0] ≠ 47 ∨ (s[1] ≠ 47 ∧ s[1] ≠ 42)) : Calls Tryz.prog 75 #[.string s] w fun e w' => e = .returned (.int .i64 0) ∧ w' = w := by
  rcases h with h | ⟨h1, h | ⟨h, h'⟩⟩
  · have p2 : (s.size : Int) < 2 := by omega
    go_enter Tryz.func75, Tryz.ntmps75
    go_wp2_with fail
    go_ret
    exact ⟨rfl, rfl⟩
  · obtain ⟨a1, a2⟩ := bqF (m := 47) 47 rfl h
    have p0 : (0 : Int) < s.size := by omega
    have p2 : ¬ (s.size : Int) < 2 := by omega
    clear h
    go_enter Tryz.func75, Tryz.ntmps75
    go_wp2_with fail
    go_ret
    exact ⟨rfl, rfl⟩
  · obtain ⟨b1, b2⟩ := bqF (m := 47) 47 rfl h
    obtain ⟨b3, b4⟩ := bqF (m := 42) 42 rfl h'
    have p0 : (0 : Int) < s.size := by omega
    have p1 : (1 : Int) < s.size := by omega
    have p2 : ¬ (s.size : Int) < 2 := by omega
    by_cases h0 : s[0] = 47
    · obtain ⟨a1, a2⟩ := bqT 47 rfl h0
      clear h h' h0
      go_enter Tryz.func75, Tryz.ntmps75
      go_wp2_with fail
      go_ret
      exact ⟨rfl, rfl⟩
    · obtain ⟨a1, a2⟩ := bqF (m := 47) 47 rfl h0
      clear h h' h0
      go_enter Tryz.func75, Tryz.ntmps75
      go_wp2_with fail
      go_ret
      exact ⟨rfl, rfl⟩
theorem Rf.remark (s : ByteArray) (w : World) (hs : s.size ≤ 1000000000) : Calls Tryz.prog 75 #[.string s] w fun e w' => e = .returned (.int .i64 (remI (dl s))) ∧ w' = w := by
  by_cases h1 : 1 < s.size
  · have hd : dl s = s[0]'(by omega) :: s[1]'h1 :: (dl s).drop 2 := by
      have := drop_at (s := s) (i := 0) (by omega)
      rw [drop_at (s := s) (i := 0 + 1) (by omega)] at this
      exact this
    by_cases e0 : s[0]'(by omega) = 47
    · by_cases e1 : s[1]'h1 = 47
      · have : remI (dl s) = ((toNl ((dl s).drop 2) + 2 : Nat) : Int) := by
          have hc : cLen (dl s) = (toNl ((dl s).drop 2) + 2, 0) := by
            conv => lhs; rw [hd]
            rw [cLen, if_neg (fun h => absurd (e1.symm.trans h.2) (by decide)), if_pos ⟨e0, e1⟩]
          unfold remI
          rw [hc]; rfl
        rw [this]
        exact Rf.remLine s w h1 hs e0 e1
      by_cases e2 : s[1]'h1 = 42
      · have : remI (dl s) = remO (fEnd ((dl s).drop 2)) := by
          have hc : cLen (dl s) = match fEnd ((dl s).drop 2) with | none => (0, 20) | some n => (n + 4, 0) := by
            conv => lhs; rw [hd]
            rw [cLen, if_pos ⟨e0, e2⟩]; rfl
          unfold remI
          rw [hc]
          cases fEnd ((dl s).drop 2) <;> rfl
        rw [this]
        exact Rf.remBlock s w h1 hs e0 e2
      · have : remI (dl s) = 0 := by
          have hc : cLen (dl s) = (0, 0) := by
            rw [hd, cLen, if_neg (fun h => e2 h.2), if_neg (fun h => e1 h.2)]
          unfold remI
          rw [hc]; rfl
        rw [this]
        exact Rf.remNone s w hs (.inr ⟨h1, .inr ⟨e1, e2⟩⟩)
    · have : remI (dl s) = 0 := by
        have hc : cLen (dl s) = (0, 0) := by
          rw [hd, cLen, if_neg (fun h => e0 h.1), if_neg (fun h => e0 h.1)]
        unfold remI
        rw [hc]; rfl
      rw [this]
      exact Rf.remNone s w hs (.inr ⟨h1, .inl e0⟩)
  · have : remI (dl s) = 0 := by
      have hl : (dl s).length ≤ 1 := by rw [← size_dl]; omega
      unfold remI
      generalize dl s = l at hl
      match l, hl with
      | [], _ => rfl
      | [a], _ => rfl
      | a :: b :: r, h => simp at h
    rw [this]
    exact Rf.remNone s w hs (.inl (by omega))
end Go.Proofs.YtbnhefibpjldfaaGreatDoor

/- PxQ -/
namespace Go.Proofs.YtbnhefibpjldfaaGreatDoor
open Go.RowKit Go.BigFrame
set_option linter.unusedVariables false

def sF (s : ByteArray) : List Value := [.string s]
theorem pieces_call (s : ByteArray) (q : UInt8) (w : World) (b : Bool) (hs : s.size ≤ 1000000000) (h : isPcs q (dl s) = b) : Calls Tryz.prog 134 #[.string s, .int .u8 q.toNat] w fun e w' => e = .returned (.bool b) ∧ w' = w := h ▸ Rf.pieces s q w hs
theorem isLit_step (q : UInt8) (ps : List ByteArray) (t : Bs) {i : Nat} (h : i < ps.length) : isLit q ((ps.drop i).map dl) t = if litAt q (dl ps[i]) t then (q == 34 || decide ((dl ps[i]).length + 2 < t.length)) else isLit q ((ps.drop (i + 1)).map dl) t := by
  rw [List.drop_eq_getElem_cons h, List.map_cons, isLit]
set_option maxRecDepth 100000 in
set_option maxHeartbeats 8000000 in
theorem Rf.isLiteral (s : ByteArray) (q : UInt8) (a : Option Addr) (c : Nat) (ps : List ByteArray) (w : World) (hs : s.size ≤ 1000000000) (hq : q = 39 ∨ q = 34) (hr : RowAt 1 sF w a ps) (hl : ps.length ≤ 100) (hpl : ∀ p ∈ ps, p.size ≤ 100) :
    Calls Tryz.prog 117 #[.string s, .int .u8 q.toNat, .slice a ps.length c] w fun e w' => e = .returned (.bool (isLit q (ps.map dl) (dl s))) ∧ Below w.heap.size w w' := by
  obtain ⟨V, hV⟩ : ∃ V, isLit q (ps.map dl) (dl s) = V := ⟨_, rfl⟩
  rw [hV]
  have hq34 : ((q.toNat : Int) == 34) = (q == 34) := by rcases hq with rfl | rfl <;> rfl
  have HQ := Lib.hid hq34
  have HV := Lib.hid hV
  have HROW := Lib.hid hr
  have HPL := Lib.hid hpl
  have hsz : (dl s).length = s.size := (size_dl s).symm
  have HSZ := Lib.hid hsz
  clear hV hr hpl hsz hq34 hq
  go_enter Tryz.func117, Tryz.ntmps117
  go_wp2_with fail
  go_loopw [7] (fun s7 wr => ∃ i : Nat, i ≤ ps.length ∧ s7 = .int .i64 i ∧ isLit q ((ps.drop i).map dl) (dl s) = V ∧ Below w.heap.size w wr) (fun s7 _ => ps.length - (intOf s7).toNat)
  case atStart => exact ⟨0, Nat.zero_le _, rfl, HV.out, Below.refl _ _⟩
  case round =>
    obtain ⟨i, hi, rfl, hv, hbel⟩ := hrel
    by_cases hlt : i < ps.length
    · have hlt' : (i : Int) < ps.length := by omega
      obtain ⟨gb, go, rfl, hgb, hgc⟩ := HROW.out.at (by intro e; simp [e] at hlt)
      have k0 := (hgc i hlt).below hbel hgb 0 _ rfl
      have hpi := HPL.out _ (List.getElem_mem hlt)
      rw [isLit_step q ps _ hlt] at hv
      generalize ps[i] = p at *
      simp only [Nat.add_zero, Nat.mul_one] at k0
      have hpz : (dl p).length = p.size := (size_dl p).symm
      have hpi' : (p.size : Int) ≤ 100 := by omega
      have u1' : IntKind.i64.wrap ((p.size : Int) + 2) = (p.size : Int) + 2 := IntWalk.i64_in _ (by omega)
      have u2' : IntKind.i64.wrap ((p.size : Int) + 1) = (p.size : Int) + 1 := IntWalk.i64_in _ (by omega)
      have u3' : ((p.size : Int) + 1).toNat = p.size + 1 := by omega
      have u4' : (0 : Int) ≤ (p.size : Int) + 1 := by omega
      have HBEL := Lib.hid hbel
      have HBB : Hid (∀ nq, Below w.heap.size w (wr.drewN nq)) := Lib.hid fun nq => HBEL.out.trans ((below_drewN _ _ nq).mono (Nat.le_refl _))
      have hla : litAt q (dl p) (dl s) = (decide (p.size + 2 ≤ s.size) && (dl s).take p.size == dl p && (dl s)[p.size]? == some q && (dl s).getLast? == some q && isPcs q (((dl s).drop (p.size + 1)).take (s.size - p.size - 2))) := by
        unfold litAt; rw [hpz, HSZ.out]
      rw [hpz, HSZ.out] at hv
      clear hgc hbel
      by_cases g1 : p.size + 2 ≤ s.size
      · have G1 : decide ((p.size : Int) + 2 ≤ s.size) = true := by rw [decide_eq_true_iff]; omega
        have q0 : (p.size : Int) ≤ s.size := by omega
        have q1 : (p.size : Int) < s.size := by omega
        have w1' : IntKind.i64.wrap ((s.size : Int) - 1) = (s.size : Int) - 1 := IntWalk.i64_in _ (by omega)
        have w0' : (1 : Int) ≤ (s.size : Int) := by omega
        have w2' : (0 : Int) ≤ (s.size : Int) - 1 := by omega
        have w3' : (s.size : Int) - 1 < (s.size : Int) := by omega
        have w4' : ((s.size : Int) - 1).toNat = s.size - 1 := by omega
        have w5' : s.size - 1 < s.size := by omega
        have w6' : (p.size : Int) + 1 ≤ (s.size : Int) - 1 := by omega
        have w7' : (s.size : Int) - 1 ≤ (s.size : Int) := by omega
        have w8' : (p.size : Int) + 1 ≤ (s.size : Int) := by omega
        rw [decide_eq_true g1, Bool.true_and] at hla
        have e2 : ((s.extract 0 p.size).toList == p.toList) = ((dl s).take p.size == dl p) := by rw [toList_dl, toList_dl, take_dl]
        have pk : p.size < s.size := by omega
        have e3 : (((s[p.size]'pk).toNat : Int) == (q.toNat : Int)) = ((dl s)[p.size]? == some q) := by
          rw [dl_get (by omega), Bool.eq_iff_iff, beq_iff_eq, beq_iff_eq, Option.some.injEq, ← UInt8.toNat_inj]; omega
        have e4 : (((s[s.size - 1]'w5').toNat : Int) == (q.toNat : Int)) = ((dl s).getLast? == some q) := by
          rw [List.getLast?_eq_getElem?, HSZ.out, dl_get (by omega), Bool.eq_iff_iff, beq_iff_eq, beq_iff_eq, Option.some.injEq, ← UInt8.toNat_inj]; omega
        have e5 : dl (s.extract (p.size + 1) (s.size - 1)) = ((dl s).drop (p.size + 1)).take (s.size - p.size - 2) := by
          rw [ext_str, dl_str]; congr 1; omega
        rw [← e5] at hla
        have hxs : (s.extract (p.size + 1) (s.size - 1)).size ≤ 1000000000 := by simp; omega
        obtain ⟨b5, hb5⟩ : ∃ b, isPcs q (dl (s.extract (p.size + 1) (s.size - 1))) = b := ⟨_, rfl⟩
        rw [hb5] at hla
        have HP5 := Lib.hid hb5
        clear e5 hb5
        generalize ((dl s).take p.size == dl p) = b2 at hla e2
        generalize ((dl s)[p.size]? == some q) = b3 at hla e3
        generalize ((dl s).getLast? == some q) = b4 at hla e4
        have HXS := Lib.hid hxs
        clear hxs
        cases b2 with
        | false =>
          simp only [Bool.false_and] at hla
          rw [hla] at hv
          have HV2 : Hid (isLit q ((ps.drop (i + 1)).map dl) (dl s) = V) := Lib.hid hv
          clear hv HV hla g1
          go_wp2_with fail
          go_quiet (fail)
          go_wp2_with fail
          go_roundw
          case rel => exact ⟨i + 1, by omega, by go_num, HV2.out, HBB.out _⟩
          case measure => simp [intOf]; omega
        | true =>
          cases b3 with
          | false =>
            simp only [Bool.false_and, Bool.true_and] at hla
            rw [hla] at hv
            have HV2 : Hid (isLit q ((ps.drop (i + 1)).map dl) (dl s) = V) := Lib.hid hv
            clear hv HV hla g1
            go_wp2_with fail
            go_quiet (fail)
            go_wp2_with fail
            go_roundw
            case rel => exact ⟨i + 1, by omega, by go_num, HV2.out, HBB.out _⟩
            case measure => simp [intOf]; omega
          | true =>
            cases b4 with
            | false =>
              simp only [Bool.false_and, Bool.true_and] at hla
              rw [hla] at hv
              have HV2 : Hid (isLit q ((ps.drop (i + 1)).map dl) (dl s) = V) := Lib.hid hv
              clear hv HV hla g1
              go_wp2_with fail
              go_quiet (fail)
              go_wp2_with fail
              go_roundw
              case rel => exact ⟨i + 1, by omega, by go_num, HV2.out, HBB.out _⟩
              case measure => simp [intOf]; omega
            | true =>
              cases b5 with
              | false =>
                simp only [Bool.true_and] at hla
                rw [hla] at hv
                have HV2 : Hid (isLit q ((ps.drop (i + 1)).map dl) (dl s) = V) := Lib.hid hv
                clear hv HV hla g1
                go_wp2_with fail
                go_quiet (exact Calls.quiet_of_same (pieces_call _ q _ _ HXS.out HP5.out))
                go_wp2_with fail
                go_roundw
                case rel => exact ⟨i + 1, by omega, by go_num, HV2.out, HBB.out _⟩
                case measure => simp [intOf]; omega
              | true =>
                simp only [Bool.true_and] at hla
                rw [hla, if_pos rfl] at hv
                have HV2 := Lib.hid hv
                cases hq4 : (q == 34) with
                | true =>
                  have q34 : ((q.toNat : Int) == 34) = true := by rw [HQ.out, hq4]
                  have hv3 : V = true := by rw [← HV2.out, hq4]; rfl
                  subst hv3
                  clear hv HV hla g1 hq4 HV2
                  go_wp2_with fail
                  go_quiet (exact Calls.quiet_of_same (pieces_call _ q _ _ HXS.out HP5.out))
                  go_wp2_with fail
                  go_ret
                  exact ⟨rfl, HBB.out _⟩
                | false =>
                  have q34 : ((q.toNat : Int) == 34) = false := by rw [HQ.out, hq4]
                  have hv3 : V = decide ((p.size : Int) + 2 < s.size) := by
                    rw [← HV2.out, hq4, Bool.false_or, Bool.eq_iff_iff, decide_eq_true_iff, decide_eq_true_iff]; omega
                  have HV3 := Lib.hid hv3
                  clear hv HV hla g1 hq4 HV2 hv3
                  go_wp2_with fail
                  go_quiet (exact Calls.quiet_of_same (pieces_call _ q _ _ HXS.out HP5.out))
                  go_wp2_with fail
                  go_ret
                  exact ⟨by rw [HV3.out]; rfl, HBB.out _⟩
      · have G1 : decide ((p.size : Int) + 2 ≤ s.size) = false := by rw [decide_eq_false_iff_not]; omega
        rw [decide_eq_false g1] at hla
        simp only [Bool.false_and] at hla
        rw [hla] at hv
        have HV2 : Hid (isLit q ((ps.drop (i + 1)).map dl) (dl s) = V) := Lib.hid hv
        clear hv HV hla g1
        go_wp2_with fail
        go_quiet (fail)
        go_wp2_with fail
        go_roundw
        case rel => exact ⟨i + 1, by omega, by go_num, HV2.out, HBB.out _⟩
        case measure => simp [intOf]; omega
    · obtain rfl : i = ps.length := by omega
      have hlt' : ¬ (ps.length : Int) < ps.length := by omega
      rw [List.drop_length] at hv
      have hv0 : V = false := hv.symm
      subst hv0
      have HBEL := Lib.hid hbel
      clear hbel hv HV
      go_wp2_with fail
      go_ret
      exact ⟨rfl, HBEL.out⟩
end Go.Proofs.YtbnhefibpjldfaaGreatDoor

/- PxR -/
namespace Go.Proofs.YtbnhefibpjldfaaGreatDoor
open Go.RowKit Go.BigFrame
set_option linter.unusedVariables false

def allS : ByteArray := ⟨#[32, 91, 32, 93, 32, 40, 32, 41, 32, 123, 32, 125, 32, 46, 32, 45, 62, 32, 43, 43, 32, 45, 45, 32, 38, 32, 42, 32, 43, 32, 45, 32, 126, 32, 33, 32, 47, 32, 37, 32, 60, 60, 32, 62, 62, 32, 60, 32, 62, 32, 60, 61, 32, 62, 61, 32, 61, 61, 32, 33, 61, 32, 94, 32, 124, 32, 38, 38, 32, 124, 124, 32, 63, 32, 58, 32, 59, 32, 46, 46, 46, 32, 61, 32, 42, 61, 32, 47, 61, 32, 37, 61, 32, 43, 61, 32, 45, 61, 32, 60, 60, 61, 32, 62, 62, 61, 32, 38, 61, 32, 94, 61, 32, 124, 61, 32, 44, 32, 35, 32, 35, 35, 32, 60, 58, 32, 58, 62, 32, 60, 37, 32, 37, 62, 32, 37, 58, 32, 37, 58, 37, 58, 32]⟩
/-- Does the list of punctuators have a text, between blanks, at a place? -/
def hitP (t : Bs) (j : Nat) : Bool := ((dl allS).drop j).take (t.length + 2) == 32 :: (t ++ [32])
def chkP : Bool := (List.range 143).all fun j => (List.range 5).all fun n => !(hitP (((dl allS).drop (j + 1)).take n) j) || decide (n = 0) || (((dl allS).drop (j + 1)).take n).contains 32 || puncts.contains (((dl allS).drop (j + 1)).take n)
def chkQ : Bool := puncts.all fun p => decide (0 < p.length) && decide (p.length ≤ 4) && !p.contains 32 && (List.range 143).any fun j => decide (j + p.length + 2 ≤ 143) && hitP p j
set_option maxRecDepth 100000 in
theorem chkP_ok : chkP = true := by kernel_rfl
set_option maxRecDepth 100000 in
theorem chkQ_ok : chkQ = true := by kernel_rfl
theorem hit_in {t : Bs} {j : Nat} (h0 : 0 < t.length) (h4 : t.length ≤ 4) (hj : j < 143) (h32 : t.contains 32 = false) (h : hitP t j = true) : puncts.contains t = true := by
  have hm : ((dl allS).drop (j + 1)).take t.length = t := by
    unfold hitP at h
    rw [beq_iff_eq] at h
    have h1 := congrArg (fun l => (l.drop 1).take t.length) h
    simp only [List.drop_take, List.drop_drop, List.take_take, List.drop_succ_cons, List.drop_zero, List.take_append_of_le_length (Nat.le_refl _), List.take_length] at h1
    rw [show min t.length (t.length + 2 - 1) = t.length by omega] at h1
    exact h1
  have hc := chkP_ok
  unfold chkP at hc
  rw [List.all_eq_true] at hc
  have h1 := hc j (List.mem_range.2 hj)
  rw [List.all_eq_true] at h1
  have h2 := h1 t.length (List.mem_range.2 (by omega))
  rw [hm, h, h32, decide_eq_false (by omega)] at h2
  simpa using h2
theorem in_hit {t : Bs} (h : puncts.contains t = true) : 0 < t.length ∧ t.length ≤ 4 ∧ t.contains 32 = false ∧ ∃ j, j + t.length + 2 ≤ 143 ∧ hitP t j = true := by
  have hc := chkQ_ok
  unfold chkQ at hc
  rw [List.all_eq_true] at hc
  have h1 := hc t (List.contains_iff_mem.1 h)
  simp only [Bool.and_eq_true, decide_eq_true_eq, Bool.not_eq_true', List.any_eq_true] at h1
  obtain ⟨⟨⟨a, b⟩, c⟩, j, _, d, e⟩ := h1
  exact ⟨a, b, c, j, d, e⟩
theorem hit_str (s : ByteArray) (j : Nat) : ((allS.extract j (j + (1 + s.size + 1))).toList == (({ data := #[32] } : ByteArray) ++ s ++ { data := #[32] }).toList) = hitP (dl s) j := by
  rw [toList_dl, toList_dl, ext_str, dl_str, dl_append, dl_append, size_dl]
  unfold hitP
  rw [show j + (1 + (dl s).length + 1) - j = (dl s).length + 2 by omega]
  rfl
set_option maxRecDepth 100000 in
set_option maxHeartbeats 8000000 in
theorem Rf.isPunct (s : ByteArray) (w : World) (hs : s.size ≤ 1000000000) : Calls Tryz.prog 118 #[.string s] w fun e w' => e = .returned (.bool (puncts.contains (dl s))) ∧ w' = w := by
  obtain ⟨V, hV⟩ : ∃ V, puncts.contains (dl s) = V := ⟨_, rfl⟩
  rw [hV]
  have hsz : (dl s).length = s.size := (size_dl s).symm
  have hin : V = true → 0 < s.size ∧ s.size ≤ 4 ∧ (dl s).contains 32 = false ∧ ∃ j, j + s.size + 2 ≤ 143 ∧ hitP (dl s) j = true := fun e => by
    rw [← hV] at e
    have := in_hit e
    rwa [hsz] at this
  by_cases h0 : s.size = 0
  · have hv : V = false := by
      cases V with
      | false => rfl
      | true => have := (hin rfl).1; omega
    have g0 : ((s.size : Int) == 0) = true := by rw [beq_iff_eq]; omega
    subst hv
    clear hV hin hsz h0
    go_enter Tryz.func118, Tryz.ntmps118
    go_wp2_with fail
    go_ret
    exact ⟨rfl, rfl⟩
  have g0 : ((s.size : Int) == 0) = false := by rw [beq_eq_false_iff_ne]; omega
  by_cases h4 : 4 < s.size
  · have hv : V = false := by
      cases V with
      | false => rfl
      | true => have := (hin rfl).2.1; omega
    have g4 : (4 : Int) < s.size := by omega
    subst hv
    clear hV hin hsz h0 h4
    go_enter Tryz.func118, Tryz.ntmps118
    go_wp2_with fail
    go_ret
    exact ⟨rfl, rfl⟩
  have g4 : ¬ (4 : Int) < s.size := by omega
  have hsp : (dl s).contains 32 = false → ∀ j, j + s.size + 2 ≤ 143 → hitP (dl s) j = true → V = true := fun a j b c => by
    rw [← hV]; exact hit_in (by omega) (by omega) (by omega) a c
  have HIN := Lib.hid hin
  have HSP := Lib.hid hsp
  have HSZ := Lib.hid hsz
  have HS4 : Hid (s.size ≤ 4) := Lib.hid (by omega)
  clear hV hin hsp hsz h0 h4
  go_enter Tryz.func118, Tryz.ntmps118
  go_wp2_with fail
  go_loopw [4] (fun s4 wr => ∃ i : Nat, i ≤ s.size ∧ s4 = .int .i64 i ∧ wr = w ∧ ((dl s).take i).contains 32 = false) (fun s4 _ => s.size - (intOf s4).toNat)
  case atStart => exact ⟨0, Nat.zero_le _, rfl, rfl, rfl⟩
  case round =>
    obtain ⟨i, hi, rfl, rfl, hno⟩ := hrel
    by_cases hlt : i < s.size
    · have hlt' : (i : Int) < s.size := by omega
      have htk : (dl s).take (i + 1) = (dl s).take i ++ [s[i]] := by rw [List.take_add_one, dl_get hlt]; rfl
      by_cases e32 : s[i] = 32
      · obtain ⟨d1, d2⟩ := bqT 32 rfl e32
        have hv : V = false := by
          cases V with
          | false => rfl
          | true =>
            have h1 := (HIN.out rfl).2.2.1
            have hm : (32 : UInt8) ∈ dl s := by
              have : s[i] ∈ dl s := by rw [← dl_at hlt]; exact List.getElem_mem _
              rwa [e32] at this
            rw [List.contains_iff_mem.2 hm] at h1
            cases h1
        subst hv
        clear hno HIN HSP e32 htk
        go_wp2_with fail
        go_ret
        exact ⟨rfl, rfl⟩
      · obtain ⟨d1, d2⟩ := bqF 32 rfl e32
        have hno2 : ((dl s).take (i + 1)).contains 32 = false := by
          rw [htk]
          generalize (dl s).take i = A at *
          generalize s[i] = y at *
          rw [Bool.eq_false_iff] at hno ⊢
          intro h
          apply hno
          rw [List.contains_iff_mem] at h ⊢
          rcases List.mem_append.1 h with h | h
          · exact h
          · exact absurd (List.mem_singleton.1 h).symm e32
        have HNO := Lib.hid hno2
        clear hno e32 htk hno2
        go_wp2_with fail
        go_roundw
        case rel => exact ⟨i + 1, by omega, by go_num, by trivial, HNO.out⟩
        case measure => simp [intOf]; omega
    · obtain rfl : i = s.size := by omega
      have hlt' : ¬ (s.size : Int) < s.size := by omega
      rw [List.take_of_length_le (by rw [HSZ.out]; exact Nat.le_refl _)] at hno
      have HNO := Lib.hid hno
      clear hno
      rename World => w1
      go_wp2_with fail
      go_loopw [5] (fun s5 wr => ∃ j : Nat, s5 = .int .i64 j ∧ wr = w1 ∧ j ≤ 143 ∧ (∀ k, k < j → hitP (dl s) k = false)) (fun s5 _ => 200 - (intOf s5).toNat)
      case atStart => exact ⟨0, rfl, rfl, Nat.zero_le _, fun k h => absurd h (by omega)⟩
      case round =>
        obtain ⟨j, rfl, rfl, hj, hk⟩ := hrel
        have HK := Lib.hid hk
        clear hk
        by_cases hjn : j + s.size + 2 ≤ 143
        · have gj : (j : Int) + (1 + (s.size : Int) + 1) ≤ 143 := by omega
          clear hjn
          go_wp2_with fail
          · rename_i h
            have hh := (hit_str s j).symm.trans h
            have hv : V = true := HSP.out HNO.out j (by omega) hh
            subst hv
            go_ret
            exact ⟨rfl, rfl⟩
          · rename_i h
            have hh := (hit_str s j).symm.trans h
            refine ⟨⟨j + 1, by go_num, by trivial, by omega, fun k hk => ?_⟩, by simp [intOf]; omega⟩
            rcases Nat.lt_succ_iff_lt_or_eq.1 hk with h1 | rfl
            · exact HK.out k h1
            · exact hh
        · have gj : ¬ (j : Int) + (1 + (s.size : Int) + 1) ≤ 143 := by omega
          have hv : V = false := by
            cases V with
            | false => rfl
            | true =>
              obtain ⟨k, h1, h2⟩ := (HIN.out rfl).2.2.2
              rw [HK.out k (by omega)] at h2
              cases h2
          subst hv
          clear hjn
          go_wp2_with fail
          go_ret
          exact ⟨rfl, rfl⟩
end Go.Proofs.YtbnhefibpjldfaaGreatDoor

/- PxS -/
namespace Go.Proofs.YtbnhefibpjldfaaGreatDoor
open Go.RowKit Go.BigFrame
set_option linter.unusedVariables false

theorem rword_call (s : ByteArray) (w : World) (b : Bool) (hs : s.size ≤ 1000000000) (h : isWord (dl s) = b) : Calls Tryz.prog 115 #[.string s] w fun e w' => e = .returned (.bool b) ∧ w' = w := h ▸ Rf.isWord s w hs
theorem rnum_call (s : ByteArray) (w : World) (b : Bool) (hs : s.size ≤ 1000000000) (h : isNum (dl s) = b) : Calls Tryz.prog 116 #[.string s] w fun e w' => e = .returned (.bool b) ∧ w' = w := h ▸ Rf.isNumber _ s w (Nat.le_refl _) hs
theorem rpunct_call (s : ByteArray) (w : World) (b : Bool) (hs : s.size ≤ 1000000000) (h : puncts.contains (dl s) = b) : Calls Tryz.prog 118 #[.string s] w fun e w' => e = .returned (.bool b) ∧ w' = w := h ▸ Rf.isPunct s w hs
def ps39 : List ByteArray := [⟨#[]⟩, ⟨#[117]⟩, ⟨#[85]⟩, ⟨#[76]⟩]
def ps34 : List ByteArray := [⟨#[]⟩, ⟨#[117, 56]⟩, ⟨#[117]⟩, ⟨#[85]⟩, ⟨#[76]⟩]
theorem row_strs (w : World) (ps : List ByteArray) : RowAt 1 sF (w.alloc (.cells (ps.map Value.string).toArray 9)) (some ⟨w.heap.size, 0, none⟩) ps :=
  .inr ⟨w.heap.size, 0, rfl, by simp, fun i hi j v hv => by
    obtain ⟨rfl, rfl⟩ : j = 0 ∧ v = .string ps[i] := by
      cases j with
      | zero => exact ⟨rfl, by simpa [sF] using hv.symm⟩
      | succ j => simp [sF] at hv
    have := heap_alloc_new w (.cells (ps.map Value.string).toArray 9)
    simp only [World.cell?, this]
    simp [hi]⟩
theorem lit39_call (s : ByteArray) (w : World) (b : Bool) (hs : s.size ≤ 1000000000) (h : isLit 39 pre39 (dl s) = b) :
    Calls Tryz.prog 117 #[.string s, .int .u8 39, .slice (some ⟨w.heap.size, 0, none⟩) 4 4] (w.alloc (.cells #[.string ⟨#[]⟩, .string ⟨#[117]⟩, .string ⟨#[85]⟩, .string ⟨#[76]⟩] 9)) fun e w' => e = .returned (.bool b) ∧ Below w.heap.size w w' := by
  subst h
  refine (Rf.isLiteral s 39 (some ⟨w.heap.size, 0, none⟩) 4 ps39 _ hs (.inl rfl) (row_strs w ps39) (by decide) (by decide)).mono ?_
  rintro e w' ⟨h1, h2⟩
  exact ⟨h1, (below_alloc _ _).trans (h2.mono (by simp))⟩
theorem lit34_call (s : ByteArray) (w : World) (b : Bool) (hs : s.size ≤ 1000000000) (h : isLit 34 pre34 (dl s) = b) :
    Calls Tryz.prog 117 #[.string s, .int .u8 34, .slice (some ⟨w.heap.size, 0, none⟩) 5 5] (w.alloc (.cells #[.string ⟨#[]⟩, .string ⟨#[117, 56]⟩, .string ⟨#[117]⟩, .string ⟨#[85]⟩, .string ⟨#[76]⟩] 9)) fun e w' => e = .returned (.bool b) ∧ Below w.heap.size w w' := by
  subst h
  refine (Rf.isLiteral s 34 (some ⟨w.heap.size, 0, none⟩) 5 ps34 _ hs (.inr rfl) (row_strs w ps34) (by decide) (by decide)).mono ?_
  rintro e w' ⟨h1, h2⟩
  exact ⟨h1, (below_alloc _ _).trans (h2.mono (by simp))⟩
set_option maxRecDepth 100000 in
set_option maxHeartbeats 8000000 in
theorem Rf.kind (s : ByteArray) (w : World) (hs : s.size ≤ 1000000000) : Calls Tryz.prog 98 #[.string s] w fun e w' => e = .returned (.int .i64 (kindOf (dl s))) ∧ Below w.heap.size w w' := by
  obtain ⟨K, hK⟩ : ∃ K, kindOf (dl s) = K := ⟨_, rfl⟩
  rw [hK]
  unfold kindOf at hK
  by_cases h0 : dl s = [10]
  · have e0 : (s.toList == [10]) = true := by rw [toList_dl, h0]; rfl
    rw [if_pos h0] at hK
    subst hK
    clear h0
    go_enter Tryz.func98, Tryz.ntmps98
    go_wp2_with fail
    go_ret
    exact ⟨rfl, Below.refl _ _⟩
  have e0 : (s.toList == [10]) = false := by rw [toList_dl]; simpa using h0
  rw [if_neg h0] at hK
  clear h0
  cases h1 : YtbnhefibpjldfaaGreatDoor.isWord (dl s) with
  | true =>
    rw [h1, if_pos rfl] at hK
    have H1 := Lib.hid h1
    subst hK
    clear h1
    go_enter Tryz.func98, Tryz.ntmps98
    go_wp2_with fail
    refine (rword_call s _ _ hs H1.out).mono ?_
    rintro e w2 ⟨rfl, rfl⟩
    go_wp2_with fail
    go_ret
    exact ⟨rfl, Below.refl _ _⟩
  | false =>
  rw [h1, if_neg (by decide)] at hK
  have H1 := Lib.hid h1
  clear h1
  cases h2 : isNum (dl s) with
  | true =>
    rw [h2, if_pos rfl] at hK
    have H2 := Lib.hid h2
    subst hK
    clear h2
    go_enter Tryz.func98, Tryz.ntmps98
    go_wp2_with fail
    refine (rword_call s _ _ hs H1.out).mono ?_
    rintro e w2 ⟨rfl, rfl⟩
    go_wp2_with fail
    refine (rnum_call s _ _ hs H2.out).mono ?_
    rintro e w3 ⟨rfl, rfl⟩
    go_wp2_with fail
    go_ret
    exact ⟨rfl, Below.refl _ _⟩
  | false =>
  rw [h2, if_neg (by decide)] at hK
  have H2 := Lib.hid h2
  clear h2
  cases h3 : isLit 39 pre39 (dl s) with
  | true =>
    rw [h3, if_pos rfl] at hK
    have H3 := Lib.hid h3
    subst hK
    clear h3
    go_enter Tryz.func98, Tryz.ntmps98
    go_wp2_with fail
    refine (rword_call s _ _ hs H1.out).mono ?_
    rintro e w2 ⟨rfl, rfl⟩
    go_wp2_with fail
    refine (rnum_call s _ _ hs H2.out).mono ?_
    rintro e w3 ⟨rfl, rfl⟩
    go_wp2_with fail
    refine (lit39_call s w3 _ hs H3.out).mono ?_
    rintro e w4 ⟨rfl, b4⟩
    have B4 := Lib.hid b4
    clear b4
    go_wp2_with fail
    go_ret
    exact ⟨rfl, B4.out⟩
  | false =>
  rw [h3, if_neg (by decide)] at hK
  have H3 := Lib.hid h3
  clear h3
  cases h4 : isLit 34 pre34 (dl s) with
  | true =>
    rw [h4, if_pos rfl] at hK
    have H4 := Lib.hid h4
    subst hK
    clear h4
    go_enter Tryz.func98, Tryz.ntmps98
    go_wp2_with fail
    refine (rword_call s _ _ hs H1.out).mono ?_
    rintro e w2 ⟨rfl, rfl⟩
    go_wp2_with fail
    refine (rnum_call s _ _ hs H2.out).mono ?_
    rintro e w3 ⟨rfl, rfl⟩
    go_wp2_with fail
    refine (lit39_call s w3 _ hs H3.out).mono ?_
    rintro e w4 ⟨rfl, b4⟩
    have B4 := Lib.hid b4
    clear b4
    go_wp2_with fail
    refine (lit34_call s w4 _ hs H4.out).mono ?_
    rintro e w5 ⟨rfl, b5⟩
    have B5 := Lib.hid (B4.out.trans (b5.mono B4.out.size))
    clear b5
    go_wp2_with fail
    go_ret
    exact ⟨rfl, B5.out⟩
  | false =>
  rw [h4, if_neg (by decide)] at hK
  have H4 := Lib.hid h4
  clear h4
  cases h5 : puncts.contains (dl s) with
  | true =>
    rw [h5, if_pos rfl] at hK
    have H5 := Lib.hid h5
    subst hK
    clear h5
    go_enter Tryz.func98, Tryz.ntmps98
    go_wp2_with fail
    refine (rword_call s _ _ hs H1.out).mono ?_
    rintro e w2 ⟨rfl, rfl⟩
    go_wp2_with fail
    refine (rnum_call s _ _ hs H2.out).mono ?_
    rintro e w3 ⟨rfl, rfl⟩
    go_wp2_with fail
    refine (lit39_call s w3 _ hs H3.out).mono ?_
    rintro e w4 ⟨rfl, b4⟩
    have B4 := Lib.hid b4
    clear b4
    go_wp2_with fail
    refine (lit34_call s w4 _ hs H4.out).mono ?_
    rintro e w5 ⟨rfl, b5⟩
    have B5 := Lib.hid (B4.out.trans (b5.mono B4.out.size))
    clear b5
    go_wp2_with fail
    refine (rpunct_call s _ _ hs H5.out).mono ?_
    rintro e w6 ⟨rfl, rfl⟩
    go_wp2_with fail
    go_ret
    exact ⟨rfl, B5.out⟩
  | false =>
    rw [h5, if_neg (by decide)] at hK
    have H5 := Lib.hid h5
    subst hK
    clear h5
    go_enter Tryz.func98, Tryz.ntmps98
    go_wp2_with fail
    refine (rword_call s _ _ hs H1.out).mono ?_
    rintro e w2 ⟨rfl, rfl⟩
    go_wp2_with fail
    refine (rnum_call s _ _ hs H2.out).mono ?_
    rintro e w3 ⟨rfl, rfl⟩
    go_wp2_with fail
    refine (lit39_call s w3 _ hs H3.out).mono ?_
    rintro e w4 ⟨rfl, b4⟩
    have B4 := Lib.hid b4
    clear b4
    go_wp2_with fail
    refine (lit34_call s w4 _ hs H4.out).mono ?_
    rintro e w5 ⟨rfl, b5⟩
    have B5 := Lib.hid (B4.out.trans (b5.mono B4.out.size))
    clear b5
    go_wp2_with fail
    refine (rpunct_call s _ _ hs H5.out).mono ?_
    rintro e w6 ⟨rfl, rfl⟩
    go_wp2_with fail
    go_ret
    exact ⟨rfl, B5.out⟩
theorem kind_call (s : ByteArray) (w : World) (k : Nat) (hs : s.size ≤ 1000000000) (h : kindOf (dl s) = k) : Calls Tryz.prog 98 #[.string s] w fun e w' => e = .returned (.int .i64 k) ∧ Below w.heap.size w w' := h ▸ Rf.kind s w hs
theorem head_dl {s : ByteArray} (h : 0 < s.size) : (dl s).head? = some s[0] := by
  have := drop_at h
  rw [List.drop_zero] at this
  rw [this]; rfl
set_option maxRecDepth 100000 in
set_option maxHeartbeats 8000000 in
theorem Rf.longest (s : ByteArray) (w : World) (h0 : 0 < s.size) (hs : s.size ≤ 1000000000) : Calls Tryz.prog 76 #[.string s] w fun e w' => e = .returned (.tuple #[.int .i64 (longR (dl s)).1, .int .i64 (longR (dl s)).2]) ∧ Below w.heap.size w w' := by
  obtain ⟨R, hR⟩ : ∃ R, longR (dl s) = R := ⟨_, rfl⟩
  rw [hR]
  have hl : toNl (dl s) = 0 → R = (9, 1) := fun h => by rw [← hR]; unfold longR; rw [if_pos h]
  have hd : toNl (dl s) ≠ 0 → R = downK (dl s) (toNl (dl s)) := fun h => by rw [← hR]; unfold longR; rw [if_neg h]
  have HL := Lib.hid hl
  have HD := Lib.hid hd
  have hh := head_dl h0
  have HH := Lib.hid hh
  have p0 : (0 : Int) < s.size := by omega
  clear hR hl hd hh
  go_enter Tryz.func76, Tryz.ntmps76
  go_wp2_with fail
  go_loopw [4] (fun s4 wr => ∃ i : Nat, i ≤ s.size ∧ s4 = .int .i64 i ∧ wr = w ∧ toNl (dl s) = i + toNl ((dl s).drop i)) (fun s4 _ => s.size - (intOf s4).toNat)
  case atStart => exact ⟨0, Nat.zero_le _, rfl, rfl, by simp⟩
  case round =>
    obtain ⟨i, hi, rfl, rfl, hn⟩ := hrel
    have next : ((∃ h : i < s.size, s[i] = 10) ∨ i = s.size) ∨ (∃ h : i < s.size, s[i] ≠ 10) := by
      by_cases h : i < s.size
      · by_cases e : s[i] = 10
        · exact .inl (.inl ⟨h, e⟩)
        · exact .inr ⟨h, e⟩
      · exact .inl (.inr (by omega))
    rcases next with hstop | ⟨hlt, e10⟩
    · have hni : toNl (dl s) = i := by
        rw [hn]
        rcases hstop with ⟨h, e⟩ | rfl
        · rw [toNl_at h, if_pos e]; rfl
        · rw [drop_end (Nat.le_refl _)]; rfl
      have HS : Hid ((∃ h : i < s.size, s[i] = 10) ∨ i = s.size) := Lib.hid hstop
      rename World => w1
      by_cases hi0 : i = 0
      · subst hi0
        have hlt' : (0 : Int) < s.size := p0
        have e10 : s[0] = 10 := by
          rcases hstop with ⟨_, e⟩ | e
          · exact e
          · omega
        obtain ⟨d1, d2⟩ := bqT 10 rfl e10
        have HR := Lib.hid (HL.out hni)
        clear hn hni hstop e10 HL HD
        go_wp2_with fail
        go_ret2
        exact ⟨by rw [HR.out]; rfl, Below.refl _ _⟩
      · have hi1 : ((i : Int) == 0) = false := by rw [beq_eq_false_iff_ne]; omega
        have hR := HD.out (by omega)
        rw [hni] at hR
        have HR := Lib.hid hR
        have HIS : Hid (i ≤ s.size) := Lib.hid hi
        clear hn hni hR HL HD
        rcases HS.out with ⟨hlt, e10⟩ | rfl
        · have hlt' : (i : Int) < s.size := by omega
          obtain ⟨d1, d2⟩ := bqT 10 rfl e10
          clear e10 HS hstop
          go_wp2_with fail
          go_loopw [4] (fun s4 wr => ∃ n : Nat, n ≤ i ∧ s4 = .int .i64 n ∧ R = downK (dl s) n ∧ Below w1.heap.size w1 wr) (fun s4 _ => (intOf s4).toNat)
          case atStart => exact ⟨i, Nat.le_refl _, rfl, HR.out, Below.refl _ _⟩
          case round =>
            clear HR
            obtain ⟨n, hni, rfl, hR, hbel⟩ := hrel
            have HBEL := Lib.hid hbel
            clear hbel
            cases n with
            | zero =>
              by_cases e39 : s[0] = 39
              · obtain ⟨d1, d2⟩ := bqT 39 rfl e39
                have hr : R = (0, 0) := by rw [hR, downK, HH.out, if_pos (.inl (by rw [e39]))]
                subst hr
                clear hR e39
                go_wp2_with fail
                go_ret2
                exact ⟨rfl, HBEL.out⟩
              by_cases e34 : s[0] = 34
              · obtain ⟨d1, d2⟩ := bqT 34 rfl e34
                obtain ⟨d3, d4⟩ := bqF 39 rfl e39
                have hr : R = (0, 0) := by rw [hR, downK, HH.out, if_pos (.inr (by rw [e34]))]
                subst hr
                clear hR e39 e34
                go_wp2_with fail
                go_ret2
                exact ⟨rfl, HBEL.out⟩
              obtain ⟨d1, d2⟩ := bqF 34 rfl e34
              obtain ⟨d3, d4⟩ := bqF 39 rfl e39
              have hr : R = (6, 1) := by rw [hR, downK, HH.out, if_neg (by simp [e39, e34])]
              subst hr
              clear hR e39 e34
              go_wp2_with fail
              go_ret2
              exact ⟨rfl, HBEL.out⟩
            | succ n =>
              have hn1 : (0 : Int) < ((n + 1 : Nat) : Int) := by omega
              have hn2 : ((n + 1 : Nat) : Int) ≤ s.size := by have := HIS.out; omega
              rw [downK] at hR
              obtain ⟨k, hk⟩ : ∃ k, kindOf ((dl s).take (n + 1)) = k := ⟨_, rfl⟩
              rw [hk] at hR
              have HK : Hid (kindOf (dl (s.extract 0 (n + 1))) = k) := Lib.hid (by rw [take_dl]; exact hk)
              have hxs : Hid ((s.extract 0 (n + 1)).size ≤ 1000000000) := Lib.hid (by simp; omega)
              clear hk
              generalize hm : n + 1 = m at *
              have HM := Lib.hid hm
              by_cases hk0 : 0 < k
              · rw [if_pos hk0] at hR
                have hk1 : (0 : Int) < k := by omega
                subst hR
                clear hk0 hm
                go_wp2_with fail
                refine (kind_call _ _ k hxs.out HK.out).mono ?_
                rintro e w3 ⟨rfl, b3⟩
                have B3 := Lib.hid (HBEL.out.trans (b3.mono HBEL.out.size))
                clear b3
                go_wp2_with fail
                go_ret2
                exact ⟨rfl, B3.out⟩
              · rw [if_neg hk0] at hR
                obtain rfl : k = 0 := by omega
                have HR2 := Lib.hid hR
                clear hR hk0 hm
                go_wp2_with fail
                refine (kind_call _ _ 0 hxs.out HK.out).mono ?_
                rintro e w3 ⟨rfl, b3⟩
                have B3 := Lib.hid (HBEL.out.trans (b3.mono HBEL.out.size))
                clear b3
                go_wp2_with fail
                go_roundw
                case rel => exact ⟨n, by have := HM.out; omega, by have := HM.out; subst this; go_num, HR2.out, B3.out⟩
                case measure => have := HM.out; simp [intOf]; omega
        · have hlt' : ¬ (s.size : Int) < s.size := by omega
          clear HS hstop hi0
          go_wp2_with fail
          go_loopw [4] (fun s4 wr => ∃ n : Nat, n ≤ s.size ∧ s4 = .int .i64 n ∧ R = downK (dl s) n ∧ Below w1.heap.size w1 wr) (fun s4 _ => (intOf s4).toNat)
          case atStart => exact ⟨s.size, Nat.le_refl _, rfl, HR.out, Below.refl _ _⟩
          case round =>
            clear HR
            obtain ⟨n, hni, rfl, hR, hbel⟩ := hrel
            have HBEL := Lib.hid hbel
            clear hbel
            cases n with
            | zero =>
              by_cases e39 : s[0] = 39
              · obtain ⟨d1, d2⟩ := bqT 39 rfl e39
                have hr : R = (0, 0) := by rw [hR, downK, HH.out, if_pos (.inl (by rw [e39]))]
                subst hr
                clear hR e39
                go_wp2_with fail
                go_ret2
                exact ⟨rfl, HBEL.out⟩
              by_cases e34 : s[0] = 34
              · obtain ⟨d1, d2⟩ := bqT 34 rfl e34
                obtain ⟨d3, d4⟩ := bqF 39 rfl e39
                have hr : R = (0, 0) := by rw [hR, downK, HH.out, if_pos (.inr (by rw [e34]))]
                subst hr
                clear hR e39 e34
                go_wp2_with fail
                go_ret2
                exact ⟨rfl, HBEL.out⟩
              obtain ⟨d1, d2⟩ := bqF 34 rfl e34
              obtain ⟨d3, d4⟩ := bqF 39 rfl e39
              have hr : R = (6, 1) := by rw [hR, downK, HH.out, if_neg (by simp [e39, e34])]
              subst hr
              clear hR e39 e34
              go_wp2_with fail
              go_ret2
              exact ⟨rfl, HBEL.out⟩
            | succ n =>
              have hn1 : (0 : Int) < ((n + 1 : Nat) : Int) := by omega
              have hn2 : ((n + 1 : Nat) : Int) ≤ s.size := by have := HIS.out; omega
              rw [downK] at hR
              obtain ⟨k, hk⟩ : ∃ k, kindOf ((dl s).take (n + 1)) = k := ⟨_, rfl⟩
              rw [hk] at hR
              have HK : Hid (kindOf (dl (s.extract 0 (n + 1))) = k) := Lib.hid (by rw [take_dl]; exact hk)
              have hxs : Hid ((s.extract 0 (n + 1)).size ≤ 1000000000) := Lib.hid (by simp; omega)
              clear hk
              generalize hm : n + 1 = m at *
              have HM := Lib.hid hm
              by_cases hk0 : 0 < k
              · rw [if_pos hk0] at hR
                have hk1 : (0 : Int) < k := by omega
                subst hR
                clear hk0 hm
                go_wp2_with fail
                refine (kind_call _ _ k hxs.out HK.out).mono ?_
                rintro e w3 ⟨rfl, b3⟩
                have B3 := Lib.hid (HBEL.out.trans (b3.mono HBEL.out.size))
                clear b3
                go_wp2_with fail
                go_ret2
                exact ⟨rfl, B3.out⟩
              · rw [if_neg hk0] at hR
                obtain rfl : k = 0 := by omega
                have HR2 := Lib.hid hR
                clear hR hk0 hm
                go_wp2_with fail
                refine (kind_call _ _ 0 hxs.out HK.out).mono ?_
                rintro e w3 ⟨rfl, b3⟩
                have B3 := Lib.hid (HBEL.out.trans (b3.mono HBEL.out.size))
                clear b3
                go_wp2_with fail
                go_roundw
                case rel => exact ⟨n, by have := HM.out; omega, by have := HM.out; subst this; go_num, HR2.out, B3.out⟩
                case measure => have := HM.out; simp [intOf]; omega
    · have hlt' : (i : Int) < s.size := by omega
      obtain ⟨d1, d2⟩ := bqF 10 rfl e10
      rw [toNl_at hlt, if_neg e10] at hn
      have HN := Lib.hid hn
      clear hn e10
      go_wp2_with fail
      go_roundw
      case rel => exact ⟨i + 1, by omega, by go_num, by trivial, by rw [HN.out]; omega⟩
      case measure => simp [intOf]; omega
end Go.Proofs.YtbnhefibpjldfaaGreatDoor

/- the document: IsNumber. -/
import Derived.Test.YtbnhefibpjldfaaGreatDoorPxN
namespace Go.Proofs.YtbnhefibpjldfaaGreatDoor
open Go.RowKit Go.BigFrame
set_option linter.unusedVariables false

theorem take_dl (s : ByteArray) (k : Nat) : dl (s.extract 0 k) = (dl s).take k := by rw [ext_str, dl_str]; rfl
theorem isNum_at {s : ByteArray} (h : 2 ≤ s.size) : isNum (dl s) =
    if s.size = 2 ∧ (s[s.size - 2]'(by omega)).toNat = 46 then digit (s[s.size - 1]'(by omega))
    else if sign (s[s.size - 1]'(by omega)) then (decide (2 < s.size) && expo (s[s.size - 2]'(by omega)) && isNum (dl (s.extract 0 (s.size - 2))))
    else numc (s[s.size - 1]'(by omega)) && isNum (dl (s.extract 0 (s.size - 1))) := by
  have hl : (dl s).length = s.size := (size_dl s).symm
  have e1 : (dl s).take (s.size - 1) = (dl s).take (s.size - 2) ++ [s[s.size - 2]'(by omega)] := by
    rw [show s.size - 1 = (s.size - 2) + 1 by omega, List.take_add_one, dl_get (by omega)]; rfl
  have e2 : dl s = (dl s).take (s.size - 2) ++ [s[s.size - 2]'(by omega), s[s.size - 1]'(by omega)] := by
    conv => lhs; rw [← List.take_length (l := dl s), hl, show s.size = (s.size - 1) + 1 by omega, List.take_add_one, dl_get (by omega), e1]
    simp
  rw [take_dl, take_dl, e1]
  conv => lhs; rw [e2]
  have hr : ((dl s).take (s.size - 2)).reverse = [] ↔ s.size = 2 := by
    rw [List.reverse_eq_nil_iff, List.take_eq_nil_iff]
    constructor
    · rintro (h1 | h1)
      · omega
      · rw [h1] at hl; simp at hl; omega
    · intro h1; left; omega
  have hlr : (2 < s.size) ↔ ¬ ((dl s).take (s.size - 2)).reverse = [] := by rw [hr]; omega
  simp only [isNum, List.reverse_append, List.reverse_cons, List.reverse_nil, List.nil_append, List.cons_append, isNumR, hr]
  by_cases c1 : s.size = 2 ∧ (s[s.size - 2]'(by omega)).toNat = 46
  · rw [if_pos c1, if_pos c1]
  · rw [if_neg c1, if_neg c1]
    simp only [hlr, ne_eq]
theorem numc_cls' (c : UInt8) : (digit c = true ∧ numc c = true) ∨ (digit c = false ∧ letter c = true ∧ numc c = true) ∨ (digit c = false ∧ letter c = false ∧ ((c.toNat : Int) == 46) = true ∧ numc c = true) ∨ (digit c = false ∧ letter c = false ∧ ((c.toNat : Int) == 46) = false ∧ numc c = false) := by
  unfold numc
  by_cases h : c.toNat = 46
  · have h1 : ((c.toNat : Int) == 46) = true := by rw [beq_iff_eq]; omega
    cases digit c <;> cases letter c <;> simp [h]
  · have h1 : ((c.toNat : Int) == 46) = false := by rw [beq_eq_false_iff_ne]; omega
    cases digit c <;> cases letter c <;> simp [h] <;> omega
set_option maxRecDepth 100000 in
set_option maxHeartbeats 8000000 in
theorem Rf.isNumber : ∀ (N : Nat) (s : ByteArray) (w : World), s.size ≤ N → s.size ≤ 1000000000 → Calls Tryz.prog 116 #[.string s] w fun e w' => e = .returned (.bool (isNum (dl s))) ∧ w' = w := by
  intro N
  induction N with
  | zero =>
    intro s w h1 h2
    have hz : dl s = [] := List.length_eq_zero_iff.1 (by rw [← size_dl]; omega)
    have hs0 : s.size = 0 := by omega
    rw [hz]
    clear hz h1 h2
    go_enter Tryz.func116, Tryz.ntmps116
    go_wp2_with fail
    go_ret
    exact ⟨rfl, rfl⟩
  | succ N ih =>
    intro s w h1 h2
    by_cases hs0 : s.size = 0
    · have hz : dl s = [] := List.length_eq_zero_iff.1 (by rw [← size_dl]; omega)
      rw [hz]
      clear hz h1 h2 ih
      go_enter Tryz.func116, Tryz.ntmps116
      go_wp2_with fail
      go_ret
      exact ⟨rfl, rfl⟩
    have g0 : ((s.size : Int) == 0) = false := by rw [beq_eq_false_iff_ne]; omega
    have p0 : (0 : Int) < s.size := by omega
    have k0 : 0 < s.size := by omega
    by_cases hs1 : s.size = 1
    · have hz : dl s = [s[0]'k0] := by
        have := drop_at (s := s) (i := 0) (by omega)
        rw [drop_end (i := 0 + 1) (by omega)] at this
        exact this
      have hv : isNum (dl s) = digit (s[0]'k0) := by rw [hz]; rfl
      rw [hv]
      obtain ⟨q, hq⟩ : ∃ q, digit (s[0]'k0) = q := ⟨_, rfl⟩
      rw [hq]
      have HQ := Lib.hid hq
      have g1 : ((s.size : Int) == 1) = true := by rw [beq_iff_eq]; omega
      clear hz h1 h2 ih hv hq hs0
      go_enter Tryz.func116, Tryz.ntmps116
      go_wp2_with (first | (go_at_call 131; refine (rdigit_call _ _ _ HQ.out).mono ?_; rintro e w1 ⟨rfl, rfl⟩) | fail)
      go_ret
      exact ⟨rfl, rfl⟩
    have g1 : ((s.size : Int) == 1) = false := by rw [beq_eq_false_iff_ne]; omega
    have hat := isNum_at (s := s) (by omega)
    have w1' : IntKind.i64.wrap ((s.size : Int) - 1) = (s.size : Int) - 1 := IntWalk.i64_in _ (by omega)
    have w2' : (0 : Int) ≤ (s.size : Int) - 1 := by omega
    have w3' : (s.size : Int) - 1 < (s.size : Int) := by omega
    have w4' : ((s.size : Int) - 1).toNat = s.size - 1 := by omega
    have w5' : (s.size : Int) - 1 ≤ (s.size : Int) := by omega
    have v1' : IntKind.i64.wrap ((s.size : Int) - 2) = (s.size : Int) - 2 := IntWalk.i64_in _ (by omega)
    have v2' : (0 : Int) ≤ (s.size : Int) - 2 := by omega
    have v3' : (s.size : Int) - 2 < (s.size : Int) := by omega
    have v4' : ((s.size : Int) - 2).toNat = s.size - 2 := by omega
    have v5' : (s.size : Int) - 2 ≤ (s.size : Int) := by omega
    have k1 : s.size - 1 < s.size := by omega
    have k2 : s.size - 2 < s.size := by omega
    have ih1 := fun W => ih (s.extract 0 (s.size - 1)) W (by simp; omega) (by simp; omega)
    have ih2 := fun W => ih (s.extract 0 (s.size - 2)) W (by simp; omega) (by simp; omega)
    obtain ⟨V, hV⟩ : ∃ V, isNum (dl s) = V := ⟨_, rfl⟩
    obtain ⟨V1, hV1⟩ : ∃ V, isNum (dl (s.extract 0 (s.size - 1))) = V := ⟨_, rfl⟩
    obtain ⟨V2, hV2⟩ : ∃ V, isNum (dl (s.extract 0 (s.size - 2))) = V := ⟨_, rfl⟩
    rw [hV1] at ih1
    rw [hV2] at ih2
    rw [hV, hV1, hV2] at hat
    rw [hV]
    have I1 := Lib.hid ih1
    have I2 := Lib.hid ih2
    clear ih ih1 ih2 hV hV1 hV2
    by_cases hd : s.size = 2 ∧ (s[s.size - 2]'k2).toNat = 46
    · rw [if_pos hd] at hat
      obtain ⟨hs2, h46⟩ := hd
      have g2 : ((s.size : Int) == 2) = true := by rw [beq_iff_eq]; omega
      have a0 : s[0]'k0 = s[s.size - 2]'k2 := by congr 1; omega
      have k3 : 1 < s.size := by omega
      have a1 : s[1]'k3 = s[s.size - 1]'k1 := by congr 1; omega
      have p1 : (1 : Int) < s.size := by omega
      have e0 : (((s[0]'k0).toNat : Int) == 46) = true := by rw [beq_iff_eq, a0]; omega
      have hq : digit (s[1]'k3) = V := by rw [a1]; exact hat.symm
      have HQ := Lib.hid hq
      clear hat h46 a0 a1 hq h1 h2 hs0 hs1 hs2
      go_enter Tryz.func116, Tryz.ntmps116
      go_wp2_with (first | (go_at_call 131; refine (rdigit_call _ _ _ HQ.out).mono ?_; rintro e w1 ⟨rfl, rfl⟩) | fail)
      go_ret
      exact ⟨rfl, rfl⟩
    rw [if_neg hd] at hat
    have gd : ((s.size : Int) == 2) = false ∨ (((s.size : Int) == 2) = true ∧ (((s[0]'k0).toNat : Int) == 46) = false) := by
      by_cases hs2 : s.size = 2
      · refine .inr ⟨by rw [beq_iff_eq]; omega, ?_⟩
        have a0 : s[0]'k0 = s[s.size - 2]'k2 := by congr 1; omega
        rw [beq_eq_false_iff_ne, a0]
        intro e
        exact hd ⟨hs2, by omega⟩
      · exact .inl (by rw [beq_eq_false_iff_ne]; omega)
    have hgt : (2 < s.size) ↔ (2 : Int) < s.size := by omega
    obtain ⟨c, hc⟩ : ∃ c, s[s.size - 1]'k1 = c := ⟨_, rfl⟩
    obtain ⟨d, hdd⟩ : ∃ d, s[s.size - 2]'k2 = d := ⟨_, rfl⟩
    rw [hc, hdd] at hat
    clear hd hs0 hs1 h1 h2
    cases hs : sign c with
    | true =>
      rw [hs, if_pos rfl] at hat
      have HS : Hid (sign (s[s.size - 1]'k1) = true) := Lib.hid (by rw [hc]; exact hs)
      by_cases h2 : (2 : Int) < s.size
      · rw [decide_eq_true (hgt.2 h2), Bool.true_and] at hat
        cases hx : expo d with
        | true =>
          rw [hx, Bool.true_and] at hat
          subst hat
          have HX : Hid (expo (s[s.size - 2]'k2) = true) := Lib.hid (by rw [hdd]; exact hx)
          clear hs hx hgt hc hdd
          rcases gd with g2 | ⟨g2, e0⟩
          · skip
            go_enter Tryz.func116, Tryz.ntmps116
            go_wp2_with (first | (go_at_call 132; refine (rsign_call _ _ _ HS.out).mono ?_; rintro e w1 ⟨rfl, rfl⟩) | (go_at_call 133; refine (rexpo_call _ _ _ HX.out).mono ?_; rintro e w1 ⟨rfl, rfl⟩) | (go_at_call 116; refine (I2.out _).mono ?_; rintro e w1 ⟨rfl, rfl⟩) | fail)
            go_ret
            exact ⟨rfl, rfl⟩
          · skip
            go_enter Tryz.func116, Tryz.ntmps116
            go_wp2_with (first | (go_at_call 132; refine (rsign_call _ _ _ HS.out).mono ?_; rintro e w1 ⟨rfl, rfl⟩) | (go_at_call 133; refine (rexpo_call _ _ _ HX.out).mono ?_; rintro e w1 ⟨rfl, rfl⟩) | (go_at_call 116; refine (I2.out _).mono ?_; rintro e w1 ⟨rfl, rfl⟩) | fail)
            go_ret
            exact ⟨rfl, rfl⟩
        | false =>
          rw [hx, Bool.false_and] at hat
          subst hat
          have HX : Hid (expo (s[s.size - 2]'k2) = false) := Lib.hid (by rw [hdd]; exact hx)
          clear hs hx hgt hc hdd
          rcases gd with g2 | ⟨g2, e0⟩
          · skip
            go_enter Tryz.func116, Tryz.ntmps116
            go_wp2_with (first | (go_at_call 132; refine (rsign_call _ _ _ HS.out).mono ?_; rintro e w1 ⟨rfl, rfl⟩) | (go_at_call 133; refine (rexpo_call _ _ _ HX.out).mono ?_; rintro e w1 ⟨rfl, rfl⟩) | fail)
            go_ret
            exact ⟨rfl, rfl⟩
          · skip
            go_enter Tryz.func116, Tryz.ntmps116
            go_wp2_with (first | (go_at_call 132; refine (rsign_call _ _ _ HS.out).mono ?_; rintro e w1 ⟨rfl, rfl⟩) | (go_at_call 133; refine (rexpo_call _ _ _ HX.out).mono ?_; rintro e w1 ⟨rfl, rfl⟩) | fail)
            go_ret
            exact ⟨rfl, rfl⟩
      · rw [decide_eq_false (fun h => h2 (hgt.1 h)), Bool.false_and, Bool.false_and] at hat
        subst hat
        clear hs hgt hc hdd
        rcases gd with g2 | ⟨g2, e0⟩
        · skip
          go_enter Tryz.func116, Tryz.ntmps116
          go_wp2_with (first | (go_at_call 132; refine (rsign_call _ _ _ HS.out).mono ?_; rintro e w1 ⟨rfl, rfl⟩) | fail)
          go_ret
          exact ⟨rfl, rfl⟩
        · skip
          go_enter Tryz.func116, Tryz.ntmps116
          go_wp2_with (first | (go_at_call 132; refine (rsign_call _ _ _ HS.out).mono ?_; rintro e w1 ⟨rfl, rfl⟩) | fail)
          go_ret
          exact ⟨rfl, rfl⟩
    | false =>
      rw [hs, if_neg (by decide)] at hat
      have HS : Hid (sign (s[s.size - 1]'k1) = false) := Lib.hid (by rw [hc]; exact hs)
      rcases numc_cls' c with ⟨hx, hn⟩ | ⟨hx, hl, hn⟩ | ⟨hx, hl, h46, hn⟩ | ⟨hx, hl, h46, hn⟩
      · rw [hn, Bool.true_and] at hat
        subst hat
        have HD : Hid (digit (s[s.size - 1]'k1) = true) := Lib.hid (by rw [hc]; exact hx)
        clear hx hn
        clear hs hgt hc hdd
        rcases gd with g2 | ⟨g2, e0⟩
        · skip
          go_enter Tryz.func116, Tryz.ntmps116
          go_wp2_with (first | (go_at_call 132; refine (rsign_call _ _ _ HS.out).mono ?_; rintro e w1 ⟨rfl, rfl⟩) | (go_at_call 131; refine (rdigit_call _ _ _ HD.out).mono ?_; rintro e w1 ⟨rfl, rfl⟩) | (go_at_call 116; refine (I1.out _).mono ?_; rintro e w1 ⟨rfl, rfl⟩) | fail)
          go_ret
          exact ⟨rfl, rfl⟩
        · skip
          go_enter Tryz.func116, Tryz.ntmps116
          go_wp2_with (first | (go_at_call 132; refine (rsign_call _ _ _ HS.out).mono ?_; rintro e w1 ⟨rfl, rfl⟩) | (go_at_call 131; refine (rdigit_call _ _ _ HD.out).mono ?_; rintro e w1 ⟨rfl, rfl⟩) | (go_at_call 116; refine (I1.out _).mono ?_; rintro e w1 ⟨rfl, rfl⟩) | fail)
          go_ret
          exact ⟨rfl, rfl⟩
      · rw [hn, Bool.true_and] at hat
        subst hat
        have HD : Hid (digit (s[s.size - 1]'k1) = false) := Lib.hid (by rw [hc]; exact hx)
        have HL : Hid (letter (s[s.size - 1]'k1) = true) := Lib.hid (by rw [hc]; exact hl)
        clear hx hl hn
        clear hs hgt hc hdd
        rcases gd with g2 | ⟨g2, e0⟩
        · skip
          go_enter Tryz.func116, Tryz.ntmps116
          go_wp2_with (first | (go_at_call 132; refine (rsign_call _ _ _ HS.out).mono ?_; rintro e w1 ⟨rfl, rfl⟩) | (go_at_call 131; refine (rdigit_call _ _ _ HD.out).mono ?_; rintro e w1 ⟨rfl, rfl⟩) | (go_at_call 130; refine (rletter_call _ _ _ HL.out).mono ?_; rintro e w1 ⟨rfl, rfl⟩) | (go_at_call 116; refine (I1.out _).mono ?_; rintro e w1 ⟨rfl, rfl⟩) | fail)
          go_ret
          exact ⟨rfl, rfl⟩
        · skip
          go_enter Tryz.func116, Tryz.ntmps116
          go_wp2_with (first | (go_at_call 132; refine (rsign_call _ _ _ HS.out).mono ?_; rintro e w1 ⟨rfl, rfl⟩) | (go_at_call 131; refine (rdigit_call _ _ _ HD.out).mono ?_; rintro e w1 ⟨rfl, rfl⟩) | (go_at_call 130; refine (rletter_call _ _ _ HL.out).mono ?_; rintro e w1 ⟨rfl, rfl⟩) | (go_at_call 116; refine (I1.out _).mono ?_; rintro e w1 ⟨rfl, rfl⟩) | fail)
          go_ret
          exact ⟨rfl, rfl⟩
      · rw [hn, Bool.true_and] at hat
        subst hat
        have HD : Hid (digit (s[s.size - 1]'k1) = false) := Lib.hid (by rw [hc]; exact hx)
        have HL : Hid (letter (s[s.size - 1]'k1) = false) := Lib.hid (by rw [hc]; exact hl)
        rw [← hc] at h46
        clear hx hl hn
        clear hs hgt hc hdd
        rcases gd with g2 | ⟨g2, e0⟩
        · skip
          go_enter Tryz.func116, Tryz.ntmps116
          go_wp2_with (first | (go_at_call 132; refine (rsign_call _ _ _ HS.out).mono ?_; rintro e w1 ⟨rfl, rfl⟩) | (go_at_call 131; refine (rdigit_call _ _ _ HD.out).mono ?_; rintro e w1 ⟨rfl, rfl⟩) | (go_at_call 130; refine (rletter_call _ _ _ HL.out).mono ?_; rintro e w1 ⟨rfl, rfl⟩) | (go_at_call 116; refine (I1.out _).mono ?_; rintro e w1 ⟨rfl, rfl⟩) | fail)
          go_ret
          exact ⟨rfl, rfl⟩
        · skip
          go_enter Tryz.func116, Tryz.ntmps116
          go_wp2_with (first | (go_at_call 132; refine (rsign_call _ _ _ HS.out).mono ?_; rintro e w1 ⟨rfl, rfl⟩) | (go_at_call 131; refine (rdigit_call _ _ _ HD.out).mono ?_; rintro e w1 ⟨rfl, rfl⟩) | (go_at_call 130; refine (rletter_call _ _ _ HL.out).mono ?_; rintro e w1 ⟨rfl, rfl⟩) | (go_at_call 116; refine (I1.out _).mono ?_; rintro e w1 ⟨rfl, rfl⟩) | fail)
          go_ret
          exact ⟨rfl, rfl⟩
      · rw [hn, Bool.false_and] at hat
        subst hat
        have HD : Hid (digit (s[s.size - 1]'k1) = false) := Lib.hid (by rw [hc]; exact hx)
        have HL : Hid (letter (s[s.size - 1]'k1) = false) := Lib.hid (by rw [hc]; exact hl)
        rw [← hc] at h46
        clear hx hl hn
        clear hs hgt hc hdd
        rcases gd with g2 | ⟨g2, e0⟩
        · skip
          go_enter Tryz.func116, Tryz.ntmps116
          go_wp2_with (first | (go_at_call 132; refine (rsign_call _ _ _ HS.out).mono ?_; rintro e w1 ⟨rfl, rfl⟩) | (go_at_call 131; refine (rdigit_call _ _ _ HD.out).mono ?_; rintro e w1 ⟨rfl, rfl⟩) | (go_at_call 130; refine (rletter_call _ _ _ HL.out).mono ?_; rintro e w1 ⟨rfl, rfl⟩) | fail)
          go_ret
          exact ⟨rfl, rfl⟩
        · skip
          go_enter Tryz.func116, Tryz.ntmps116
          go_wp2_with (first | (go_at_call 132; refine (rsign_call _ _ _ HS.out).mono ?_; rintro e w1 ⟨rfl, rfl⟩) | (go_at_call 131; refine (rdigit_call _ _ _ HD.out).mono ?_; rintro e w1 ⟨rfl, rfl⟩) | (go_at_call 130; refine (rletter_call _ _ _ HL.out).mono ?_; rintro e w1 ⟨rfl, rfl⟩) | fail)
          go_ret
          exact ⟨rfl, rfl⟩
end Go.Proofs.YtbnhefibpjldfaaGreatDoor

/- tree: name. -/
import Derived.Test.YtodjhgalbaelkaaDoorTwA
namespace Go.Proofs.YtodjhgalbaelkaaDoor
open Go.RowKit Go.BigFrame Go.Shelf
set_option linter.unusedVariables false

def okc (c : UInt8) : Bool := decide (33 ≤ c.toNat) && decide (c.toNat ≤ 126) && decide (c.toNat ≠ 47)
theorem isName_eq (x : Bs) : isName x = (!(x == [] || decide (32 < x.length) || x == [46] || x == [46, 46]) && x.all okc) := rfl
theorem all_take_snoc (s : ByteArray) (k : Nat) (h : k < s.size) : (s.data.toList.take (k + 1)).all okc = ((s.data.toList.take k).all okc && okc s[k]) := by
  rw [List.take_succ_eq_append_getElem (by rw [← size_len]; exact h), List.all_append]; simp; rfl
theorem all_of_bad (s : ByteArray) (k : Nat) (h : k < s.size) (hb : okc s[k] = false) : s.data.toList.all okc = false := by
  rw [List.all_eq_false]
  have hk : k < s.data.toList.length := by rw [← size_len]; exact h
  exact ⟨s.data.toList[k], List.getElem_mem hk, by show ¬ okc s[k] = true; rw [hb]; simp⟩

set_option maxRecDepth 100000 in
set_option maxHeartbeats 2000000 in
theorem Td.name (s : ByteArray) (w : World) (hs : s.size ≤ 140737488355328) : Calls Tryd.prog 52 #[.string s] w fun e w' => e = .returned (.bool (isName s.data.toList)) ∧ w' = w := by
  obtain ⟨r, hr⟩ : ∃ r, isName s.data.toList = r := ⟨_, rfl⟩
  rw [hr]
  rw [isName_eq, ← size_len] at hr
  have HR := Lib.hid hr
  clear hr
  by_cases h0 : s.size = 0
  · obtain rfl := size_zero h0
    go_enter Tryd.func52, Tryd.ntmps52
    go_wp2
    go_ret
    exact ⟨ret_bool (by rw [← HR.out]; rfl), rfl⟩
  have hne := not_isEmpty_of h0
  by_cases h32 : 32 < s.size
  · have h33 : (32 : Int) < (s.size : Int) := by omega
    clear h0
    go_enter Tryd.func52, Tryd.ntmps52
    go_wp2
    go_ret
    exact ⟨ret_bool (by rw [← HR.out]; simp [h32]), rfl⟩
  have h33 : ¬ (32 : Int) < (s.size : Int) := by omega
  by_cases h1 : s.data.toList = [46]
  · have h1a : (s.toList == [46]) = true := by rw [Lib.toList_data, h1]; rfl
    have H1 := Lib.hid h1
    clear h0 h1
    go_enter Tryd.func52, Tryd.ntmps52
    go_wp2
    go_ret
    exact ⟨ret_bool (by rw [← HR.out, H1.out]; simp), rfl⟩
  have h1a : (s.toList == [46]) = false := by rw [Lib.toList_data, beq_eq_false_iff_ne]; exact h1
  by_cases h2 : s.data.toList = [46, 46]
  · have h2a : (s.toList == [46, 46]) = true := by rw [Lib.toList_data, h2]; rfl
    have H2 := Lib.hid h2
    clear h0 h1 h2
    go_enter Tryd.func52, Tryd.ntmps52
    go_wp2
    go_ret
    exact ⟨ret_bool (by rw [← HR.out, H2.out]; simp), rfl⟩
  have h2a : (s.toList == [46, 46]) = false := by rw [Lib.toList_data, beq_eq_false_iff_ne]; exact h2
  have hd : (s.data.toList == []) = false := by rw [beq_eq_false_iff_ne]; exact data_ne h0
  have hr2 : s.data.toList.all okc = r := by
    rw [← HR.out, hd]
    have e1 : (s.data.toList == [46]) = false := by rw [beq_eq_false_iff_ne]; exact h1
    have e2 : (s.data.toList == [46, 46]) = false := by rw [beq_eq_false_iff_ne]; exact h2
    rw [e1, e2]
    simp [h32]
  have HR2 := Lib.hid hr2
  clear h0 h1 h2 hd hr2 HR
  go_enter Tryd.func52, Tryd.ntmps52
  go_wp2
  go_loop [21] (fun i => ∃ k : Nat, k ≤ s.size ∧ i = .int .i64 k ∧ (s.data.toList.take k).all okc = true) (fun i => s.size - (intOf i).toNat)
  case atStart => exact ⟨0, Nat.zero_le _, rfl, by simp⟩
  case round =>
    obtain ⟨k, hk, rfl, hall⟩ := hrel
    have HA := Lib.hid hall
    clear hall
    by_cases hlt : k < s.size
    · have hst := all_take_snoc s k hlt
      have hbad := all_of_bad s k hlt
      have HST := Lib.hid hst
      have HBAD := Lib.hid hbad
      have hok : okc s[k] = (decide (33 ≤ s[k].toNat) && decide (s[k].toNat ≤ 126) && decide (s[k].toNat ≠ 47)) := rfl
      have HOK := Lib.hid hok
      clear hst hbad hok
      by_cases c1 : s[k].toNat < 33
      · have c1' : (s[k].toNat : Int) < 33 := by omega
        go_wp2
        go_ret
        exact ⟨ret_bool (by rw [← HR2.out]; exact (HBAD.out (by rw [HOK.out]; simp; omega)).symm), rfl⟩
      · have c1' : ¬ (s[k].toNat : Int) < 33 := by omega
        by_cases c2 : 126 < s[k].toNat
        · have c2' : (126 : Int) < (s[k].toNat : Int) := by omega
          go_wp2
          go_ret
          exact ⟨ret_bool (by rw [← HR2.out]; exact (HBAD.out (by rw [HOK.out]; simp; omega)).symm), rfl⟩
        · have c2' : ¬ (126 : Int) < (s[k].toNat : Int) := by omega
          by_cases c3 : s[k].toNat = 47
          · have c3' : ((s[k].toNat : Int) == 47) = true := by rw [beq_iff_eq]; omega
            have HC3 := Lib.hid c3
            clear c3
            go_wp2
            go_ret
            exact ⟨ret_bool (by rw [← HR2.out]; exact (HBAD.out (by rw [HOK.out]; simp [HC3.out])).symm), rfl⟩
          · have c3' : ((s[k].toNat : Int) == 47) = false := by rw [beq_eq_false_iff_ne]; omega
            have HC3 := Lib.hid c3
            clear c3
            go_wp2
            go_round
            case rel => exact ⟨k + 1, by omega, by go_num, by rw [HST.out, HA.out, HOK.out]; simp; have := HC3.out; omega⟩
            case measure => simp [intOf]; omega
    · obtain rfl : k = s.size := by omega
      go_wp2
      go_ret
      refine ⟨ret_bool ?_, rfl⟩
      rw [← HR2.out, ← HA.out, List.take_of_length_le (by rw [← size_len]; exact Nat.le_refl _)]
end Go.Proofs.YtodjhgalbaelkaaDoor

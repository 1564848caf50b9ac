/- told: count, next; edit: ended; tree: name. -/
import Derived.Test.YtodjhgalbaelkaaDoorTpA
import Derived.Test.YtodjhgalbaelkaaDoorShelf
import Derived.Test.YtodjhgalbaelkaaDoorMod
namespace Go.Proofs.YtodjhgalbaelkaaDoor
open Go.RowKit Go.BigFrame Go.Shelf
set_option linter.unusedVariables false

theorem str_toList (l : Bs) : (str l).toList = l := by rw [Lib.toList_data, str_data]
theorem size_len (s : ByteArray) : s.size = s.data.toList.length := (Array.length_toList (xs := s.data)).symm
theorem data_ne {s : ByteArray} (h : s.size ≠ 0) : s.data.toList ≠ [] := fun e => h (by rw [size_len, e]; rfl)
theorem isEmpty_of {s : ByteArray} (h : s.size = 0) : s.toList.isEmpty = true := by
  rw [Lib.toList_data, List.isEmpty_iff]
  exact List.length_eq_zero_iff.1 (by rw [← size_len]; exact h)
theorem not_isEmpty_of {s : ByteArray} (h : s.size ≠ 0) : s.toList.isEmpty = false := by
  rw [Lib.toList_data, List.isEmpty_eq_false_iff]
  exact data_ne h
theorem size_zero {s : ByteArray} (h : s.size = 0) : s = ⟨#[]⟩ := by
  have h2 : s.data.toList = [] := List.length_eq_zero_iff.1 (by rw [← size_len]; exact h)
  rw [← str_of s, h2]; rfl

set_option maxRecDepth 100000 in
theorem Td.count (s : ByteArray) (w : World) (hs : s.size ≤ 140737488355328) : Calls Tryd.prog 31 #[.string s] w fun e w' => e = .returned (.int .i64 (lines s.data.toList).length) ∧ w' = w := by
  have hc := count_lines s.data.toList
  have hcl : s.data.toList.count 10 ≤ s.size := by rw [size_len]; exact List.count_le_length
  by_cases h0 : s.size = 0
  · obtain rfl := size_zero h0
    clear hc hcl
    go_enter Tryd.func31, Tryd.ntmps31
    go_wp2_with fail
    refine (Tryd.strings_Count_one _ 10 w).mono ?_
    rintro e w1 ⟨rfl, rfl⟩
    go_wp2_with fail
    go_ret
    exact ⟨rfl, rfl⟩
  · have hne := not_isEmpty_of h0
    have hd := data_ne h0
    have hsx := hasSuffix_nl s.data.toList
    have HSX := Lib.hid hsx
    have HC := Lib.hid hc
    have HD := Lib.hid hd
    clear hc hd hsx h0
    cases he : ends s.data.toList
    all_goals
      have HE := Lib.hid he
      clear he
      go_enter Tryd.func31, Tryd.ntmps31
      go_wp2_with fail
      refine (Tryd.strings_Count_one s 10 w).mono ?_
      rintro e w1 ⟨rfl, rfl⟩
      obtain ⟨k, hk⟩ : ∃ k, Lib.countByte s.data.toList 10 = k := ⟨_, rfl⟩
      have hcc : (k : Int) ≤ 140737488355328 := by unfold Lib.countByte at hk; omega
      have hk0 : (0 : Int) ≤ (k : Int) := by omega
      rw [hk]
      have HCC := Lib.hid (show s.data.toList.count 10 = k from hk)
      clear hk hcl
      go_wp2_with fail
      refine (Tryd.strings_HasSuffix s _ w1 (by omega)).mono ?_
      rintro e w2 ⟨rfl, rfl⟩
      rw [show (⟨#[10]⟩ : ByteArray).data.toList = [10] from rfl, HSX.out, HE.out]
      go_wp2_with fail
      go_ret
      refine ⟨?_, rfl⟩
      rw [HC.out, HE.out, HCC.out]
      simp [HD.out]

def nextB (a b c d : Int) : Bool := decide (a < b) && decide (0 ≤ b) && decide (b ≤ c) && decide (c ≤ 65536) && decide (d ≤ 65536) && (decide (b < c) || decide (0 < d))
set_option maxRecDepth 100000 in
theorem Td.next (a b c d : Int) (w : World) : Calls Tryd.prog 36 #[.int .i64 a, .int .i64 b, .int .i64 c, .int .i64 d] w fun e w' => e = .returned (.bool (nextB a b c d)) ∧ w' = w := by
  obtain ⟨r, hr⟩ : ∃ r, nextB a b c d = r := ⟨_, rfl⟩
  rw [hr]
  unfold nextB at hr
  have HR := Lib.hid hr
  clear hr
  by_cases h1 : a < b
  · by_cases h2 : 0 ≤ b
    · by_cases h3 : b ≤ c
      · by_cases h4 : c ≤ 65536
        · by_cases h5 : d ≤ 65536
          · by_cases h6 : b < c
            · go_enter Tryd.func36, Tryd.ntmps36
              go_wp2
              go_ret
              exact ⟨ret_bool (by rw [← HR.out]; simp [h1, h2, h3, h4, h5, h6]), rfl⟩
            · by_cases h7 : 0 < d
              · go_enter Tryd.func36, Tryd.ntmps36
                go_wp2
                go_ret
                exact ⟨ret_bool (by rw [← HR.out]; simp [h1, h2, h3, h4, h5, h6, h7]), rfl⟩
              · go_enter Tryd.func36, Tryd.ntmps36
                go_wp2
                go_ret
                exact ⟨ret_bool (by rw [← HR.out]; simp [h1, h2, h3, h4, h5, h6, h7]), rfl⟩
          · go_enter Tryd.func36, Tryd.ntmps36
            go_wp2
            go_ret
            exact ⟨ret_bool (by rw [← HR.out]; simp; omega), rfl⟩
        · go_enter Tryd.func36, Tryd.ntmps36
          go_wp2
          go_ret
          exact ⟨ret_bool (by rw [← HR.out]; simp; omega), rfl⟩
      · go_enter Tryd.func36, Tryd.ntmps36
        go_wp2
        go_ret
        exact ⟨ret_bool (by rw [← HR.out]; simp; omega), rfl⟩
    · go_enter Tryd.func36, Tryd.ntmps36
      go_wp2
      go_ret
      exact ⟨ret_bool (by rw [← HR.out]; simp; omega), rfl⟩
  · go_enter Tryd.func36, Tryd.ntmps36
    go_wp2
    go_ret
    exact ⟨ret_bool (by rw [← HR.out]; simp; omega), rfl⟩

set_option maxRecDepth 100000 in
theorem Td.ended (s : ByteArray) (w : World) (hs : s.size ≤ 140737488355328) : Calls Tryd.prog 54 #[.string s] w fun e w' => e = .returned (.bool (ends s.data.toList)) ∧ w' = w := by
  have hsx := hasSuffix_nl s.data.toList
  have HSX := Lib.hid hsx
  clear hsx
  go_enter Tryd.func54, Tryd.ntmps54
  go_wp2_with fail
  refine (Tryd.strings_HasSuffix s _ w (by omega)).mono ?_
  rintro e w2 ⟨rfl, rfl⟩
  rw [show (⟨#[10]⟩ : ByteArray).data.toList = [10] from rfl, HSX.out]
  go_wp2_with fail
  go_ret
  exact ⟨rfl, rfl⟩
end Go.Proofs.YtodjhgalbaelkaaDoor

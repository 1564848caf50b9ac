/- Bytes: what they are (the program's and the document's predicates). -/
import Derived.Test.YtbnhefibpjldfaaGreatDoorRfa
import Derived.Test.YtbnhefibpjldfaaGreatDoorPst
import Derived.Test.YtbnhefibpjldfaaGreatDoorProg
namespace Go.Proofs.YtbnhefibpjldfaaGreatDoor
open Go.RowKit Go.BigFrame
set_option linter.unusedVariables false

def rune6 (r : Int) : Bool := decide (r = 32) || (decide (9 ≤ r) && decide (r ≤ 13))
def rune5 (r : Int) : Bool := decide (r = 32) || decide (r = 9) || decide (r = 11) || decide (r = 12) || decide (r = 13)
set_option maxRecDepth 100000 in
theorem Sc.whiteF (c : UInt8) (w : World) : Calls Tryz.prog 60 #[.int .u8 c.toNat] w fun e w' => e = .returned (.bool (isWhite c)) ∧ w' = w := by
  have hb := c.toNat_lt
  go_enter Tryz.func60, Tryz.ntmps60
  go_wp2
  all_goals (go_ret; refine ⟨ret_bool ?_, rfl⟩; rw [Bool.eq_iff_iff]; simp [isWhite] <;> omega)
set_option maxRecDepth 100000 in
theorem Rf.whiteF (c : UInt8) (w : World) : Calls Tryz.prog 73 #[.int .u8 c.toNat] w fun e w' => e = .returned (.bool (isWhite c)) ∧ w' = w := by
  have hb := c.toNat_lt
  go_enter Tryz.func73, Tryz.ntmps73
  go_wp2
  all_goals (go_ret; refine ⟨ret_bool ?_, rfl⟩; rw [Bool.eq_iff_iff]; simp [isWhite] <;> omega)
set_option maxRecDepth 100000 in
theorem Sc.letterF (c : UInt8) (w : World) : Calls Tryz.prog 126 #[.int .u8 c.toNat] w fun e w' => e = .returned (.bool (letter c)) ∧ w' = w := by
  have hb := c.toNat_lt
  go_enter Tryz.func126, Tryz.ntmps126
  go_wp2
  all_goals (go_ret; refine ⟨ret_bool ?_, rfl⟩; rw [Bool.eq_iff_iff]; simp [letter] <;> omega)
set_option maxRecDepth 100000 in
theorem Sc.digitF (c : UInt8) (w : World) : Calls Tryz.prog 127 #[.int .u8 c.toNat] w fun e w' => e = .returned (.bool (digit c)) ∧ w' = w := by
  have hb := c.toNat_lt
  go_enter Tryz.func127, Tryz.ntmps127
  go_wp2
  all_goals (go_ret; refine ⟨ret_bool ?_, rfl⟩; rw [Bool.eq_iff_iff]; simp [digit] <;> omega)
set_option maxRecDepth 100000 in
theorem Rf.letterF (c : UInt8) (w : World) : Calls Tryz.prog 130 #[.int .u8 c.toNat] w fun e w' => e = .returned (.bool (letter c)) ∧ w' = w := by
  have hb := c.toNat_lt
  go_enter Tryz.func130, Tryz.ntmps130
  go_wp2
  all_goals (go_ret; refine ⟨ret_bool ?_, rfl⟩; rw [Bool.eq_iff_iff]; simp [letter] <;> omega)
set_option maxRecDepth 100000 in
theorem Rf.digitF (c : UInt8) (w : World) : Calls Tryz.prog 131 #[.int .u8 c.toNat] w fun e w' => e = .returned (.bool (digit c)) ∧ w' = w := by
  have hb := c.toNat_lt
  go_enter Tryz.func131, Tryz.ntmps131
  go_wp2
  all_goals (go_ret; refine ⟨ret_bool ?_, rfl⟩; rw [Bool.eq_iff_iff]; simp [digit] <;> omega)
set_option maxRecDepth 100000 in
theorem Rf.signF (c : UInt8) (w : World) : Calls Tryz.prog 132 #[.int .u8 c.toNat] w fun e w' => e = .returned (.bool (sign c)) ∧ w' = w := by
  have hb := c.toNat_lt
  go_enter Tryz.func132, Tryz.ntmps132
  go_wp2
  all_goals (go_ret; refine ⟨ret_bool ?_, rfl⟩; rw [Bool.eq_iff_iff]; simp [sign] <;> omega)
set_option maxRecDepth 100000 in
theorem Rf.expoF (c : UInt8) (w : World) : Calls Tryz.prog 133 #[.int .u8 c.toNat] w fun e w' => e = .returned (.bool (expo c)) ∧ w' = w := by
  have hb := c.toNat_lt
  go_enter Tryz.func133, Tryz.ntmps133
  go_wp2
  all_goals (go_ret; refine ⟨ret_bool ?_, rfl⟩; rw [Bool.eq_iff_iff]; simp [expo] <;> omega)
set_option maxRecDepth 100000 in
theorem Rf.white5F (c : UInt8) (w : World) : Calls Tryz.prog 85 #[.int .u8 c.toNat] w fun e w' => e = .returned (.bool (white5 c)) ∧ w' = w := by
  have hb := c.toNat_lt
  go_enter Tryz.func85, Tryz.ntmps85
  go_wp2
  all_goals (go_ret; refine ⟨ret_bool ?_, rfl⟩; rw [Bool.eq_iff_iff]; simp [white5] <;> omega)
set_option maxRecDepth 100000 in
theorem Pa.mark1F (r : Int) (w : World) : Calls Tryz.prog 67 #[.int .i32 r] w fun e w' => e = .returned (.bool (rune6 r)) ∧ w' = w := by
  go_enter Tryz.func67, Tryz.ntmps67
  go_wp2
  all_goals (go_ret; refine ⟨ret_bool ?_, rfl⟩; rw [Bool.eq_iff_iff]; simp [rune6] <;> omega)
set_option maxRecDepth 100000 in
theorem Pa.words1F (r : Int) (w : World) : Calls Tryz.prog 80 #[.int .i32 r] w fun e w' => e = .returned (.bool (rune5 r)) ∧ w' = w := by
  go_enter Tryz.func80, Tryz.ntmps80
  go_wp2
  all_goals (go_ret; refine ⟨ret_bool ?_, rfl⟩; rw [Bool.eq_iff_iff]; simp [rune5] <;> omega)
set_option maxRecDepth 100000 in
theorem Re.whiteF (r : Int) (w : World) : Calls Tryz.prog 122 #[.int .i32 r] w fun e w' => e = .returned (.bool (rune5 r)) ∧ w' = w := by
  go_enter Tryz.func122, Tryz.ntmps122
  go_wp2
  all_goals (go_ret; refine ⟨ret_bool ?_, rfl⟩; rw [Bool.eq_iff_iff]; simp [rune5] <;> omega)
end Go.Proofs.YtbnhefibpjldfaaGreatDoor

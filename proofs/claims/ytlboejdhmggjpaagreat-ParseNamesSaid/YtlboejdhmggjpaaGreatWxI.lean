/- ParseNames: the chapter's examples, as the plain parser tells them. -/
import Derived.Test.YtlboejdhmggjpaaGreatWxG
import Derived.Test.YtlboejdhmggjpaaGreatWnK
set_option linter.all false
namespace Go.Proofs.YtlboejdhmggjpaaGreat.Pp
open Go.RowKit Go.BigFrame Go.Proofs.YtlboejdhmggjpaaGreat

def xt0 : Bs := []
def xk0 : List Int := [1]
theorem xg0 : goodT xt0 xk0 = true := by decide +kernel
def xt1 : Bs := [116, 121, 112, 101, 100, 101, 102, 32, 105, 110, 116, 32, 84, 59, 32, 84, 40, 120, 41, 59]
def xk1 : List Int := [1, 3, 5, 13, 14, 3, 5, 13, 14, 14]
theorem xg1 : goodT xt1 xk1 = true := by decide +kernel
def xt2 : Bs := [105, 110, 116, 32, 102, 40, 41, 32, 123, 32, 114, 101, 116, 117, 114, 110, 32, 97, 32, 42, 32, 98, 59, 32, 125]
def xk2 : List Int := [1, 2, 5, 14, 16, 22, 32, 45, 57, 57]
theorem xg2 : goodT xt2 xk2 = true := by decide +kernel
def xt3 : Bs := [116, 121, 112, 101, 100, 101, 102, 32, 105, 110, 116, 32, 84, 59, 32, 105, 110, 116, 32, 102, 40, 41, 32, 123, 32, 84, 32, 42, 32, 98, 59, 32, 125]
def xk3 : List Int := [1, 3, 5, 13, 14, 2, 5, 14, 16, 22, 3, 5, 13, 14]
theorem xg3 : goodT xt3 xk3 = true := by decide +kernel
def xt4 : Bs := [105, 110, 116, 32, 120, 59, 32, 84, 32, 121, 59]
def xk4 : List Int := [-110]
theorem xg4 : goodT xt4 xk4 = true := by decide +kernel
def xt5 : Bs := [59]
def xk5 : List Int := [-110]
theorem xg5 : goodT xt5 xk5 = true := by decide +kernel
def xt6 : Bs := [105, 110, 116, 32, 105, 110, 116, 32, 105, 110, 116]
def xk6 : List Int := [-110]
theorem xg6 : goodT xt6 xk6 = true := by decide +kernel
def xt7 : Bs := [102, 40, 97, 41, 32, 123, 32, 125]
def xk7 : List Int := [-110]
theorem xg7 : goodT xt7 xk7 = true := by decide +kernel
def xt8 : Bs := [105, 110, 116, 32, 40, 42, 102, 41, 40, 41, 32, 123, 32, 125]
def xk8 : List Int := [-110]
theorem xg8 : goodT xt8 xk8 = true := by decide +kernel
def xt9 : Bs := [105, 110, 116, 32, 102, 40, 105, 110, 116, 32, 84, 44, 32, 84, 32, 120, 41, 59]
def xk9 : List Int := [-110]
theorem xg9 : goodT xt9 xk9 = true := by decide +kernel
def xt10 : Bs := [105, 110, 116, 32, 97, 32, 61, 32, 40, 105, 110, 116, 41, 98, 32, 61, 32, 99, 59]
def xk10 : List Int := [-110]
theorem xg10 : goodT xt10 xk10 = true := by decide +kernel
def xt11 : Bs := [105, 110, 116, 32, 97, 32, 61, 32, 98, 32, 63, 32, 99, 32, 58, 32, 100, 32, 61, 32, 101, 59]
def xk11 : List Int := [-110]
theorem xg11 : goodT xt11 xk11 = true := by decide +kernel
def xt12 : Bs := [101, 110, 117, 109, 32, 123, 32, 125, 59]
def xk12 : List Int := [-110]
theorem xg12 : goodT xt12 xk12 = true := by decide +kernel
def xt13 : Bs := [105, 110, 116, 32, 102, 40, 41, 32, 123, 32, 101, 108, 115, 101, 59, 32, 125]
def xk13 : List Int := [-110]
theorem xg13 : goodT xt13 xk13 = true := by decide +kernel
def xt14 : Bs := [116, 121, 112, 101, 100, 101, 102, 32, 105, 110, 116, 32, 84, 59, 32, 105, 110, 116, 32, 102, 40, 84, 41, 44, 32, 103, 40, 105, 110, 116, 32, 40, 84, 41, 41, 44, 32, 104, 40, 105, 110, 116, 32, 84, 44, 32, 105, 110, 116, 41, 59]
def xk14 : List Int := [1, 3, 5, 13, 14, 3, 5, 13, 14, 16, 17, 5, 13, 14, 16, 17, 5, 14, 16, 17, 5, 13, 14, 16, 17, 5, 14, 17, 5]
theorem xg14 : goodT xt14 xk14 = true := by decide +kernel
def xt15 : Bs := [105, 110, 116, 32, 102, 40, 105, 110, 116, 32, 84, 41, 32, 123, 32, 84, 32, 42, 32, 84, 59, 32, 105, 102, 32, 40, 97, 41, 32, 105, 102, 32, 40, 98, 41, 32, 59, 32, 101, 108, 115, 101, 32, 59, 32, 84, 58, 32, 59, 32, 125]
def xk15 : List Int := [1, 2, 5, 14, 16, 17, 5, 14, 22, 26, 45, 57, 57, 27, 57, 27, 57, 26, 26, 23, 26]
theorem xg15 : goodT xt15 xk15 = true := by decide +kernel
def xt16 : Bs := [105, 110, 116, 32, 97, 32, 61, 32, 115, 105, 122, 101, 111, 102, 32, 40, 105, 110, 116, 41, 32, 42, 32, 50, 44, 32, 98, 32, 61, 32, 115, 105, 122, 101, 111, 102, 32, 40, 105, 110, 116, 41, 123, 49, 125, 46, 99, 44, 32, 99, 32, 61, 32, 95, 71, 101, 110, 101, 114, 105, 99, 40, 49, 44, 32, 105, 110, 116, 58, 32, 50, 44, 32, 100, 101, 102, 97, 117, 108, 116, 58, 32, 51, 41, 59]
def xk16 : List Int := [1, 3, 5, 13, 14, 45, 48, 18, 5, 58, 13, 14, 48, 51, 53, 18, 5, 19, 20, 58, 13, 14, 54, 58, 55, 18, 5, 58, 55, 58]
theorem xg16 : goodT xt16 xk16 = true := by decide +kernel
def xt17 : Bs := [115, 116, 114, 117, 99, 116, 32, 83, 32, 123, 32, 105, 110, 116, 32, 97, 32, 58, 32, 49, 44, 32, 58, 32, 50, 59, 32, 125, 32, 42, 112, 91, 115, 116, 97, 116, 105, 99, 32, 50, 93, 59]
def xk17 : List Int := [1, 3, 5, 6, 7, 5, 8, 14, 58, 8, 58, 13, 14, 15, 58]
theorem xg17 : goodT xt17 xk17 = true := by decide +kernel
def xt18 : Bs := [115, 116, 114, 117, 99, 116, 32, 83, 32, 123, 32, 105, 110, 116, 32, 97, 32, 58, 32, 49, 44, 32, 58, 32, 50, 59, 32, 125, 32, 42, 112, 91, 42, 93, 59]
def xk18 : List Int := [1, 3, 5, 6, 7, 5, 8, 14, 58, 8, 58, 13, 14, 15]
theorem xg18 : goodT xt18 xk18 = true := by decide +kernel
def xt19 : Bs := [105, 110, 116, 32, 97, 91, 93, 32, 61, 32, 123, 32, 91, 49, 93, 32, 61, 32, 50, 44, 32, 46, 98, 46, 99, 32, 61, 32, 123, 32, 51, 44, 32, 125, 44, 32, 125, 59]
def xk19 : List Int := [1, 3, 5, 13, 14, 15, 19, 20, 21, 58, 58, 20, 21, 21, 19, 20, 58]
theorem xg19 : goodT xt19 xk19 = true := by decide +kernel
def xt20 : Bs := [97, 32, 61, 32, 49, 59]
def xk20 : List Int := [-110]
theorem xg20 : goodT xt20 xk20 = true := by decide +kernel
def xt21 : Bs := [95, 83, 116, 97, 116, 105, 99, 95, 97, 115, 115, 101, 114, 116, 40, 49, 44, 32, 34, 97, 34, 32, 34, 98, 34, 41, 59]
def xk21 : List Int := [1, 4, 58]
theorem xg21 : goodT xt21 xk21 = true := by decide +kernel
def xt22 : Bs := [105, 110, 116, 32, 102, 40, 41, 32, 123, 32, 105, 102, 32, 40, 97, 41, 32, 105, 102, 32, 40, 98, 41, 32, 59, 32, 101, 108, 115, 101, 32, 59, 32, 101, 108, 115, 101, 32, 59, 32, 125]
def xk22 : List Int := [1, 2, 5, 14, 16, 22, 27, 57, 27, 57, 26, 26, 26]
theorem xg22 : goodT xt22 xk22 = true := by decide +kernel
def xt23 : Bs := [105, 110, 116, 32, 97, 32, 61, 32, 95, 65, 108, 105, 103, 110, 111, 102, 40, 105, 110, 116, 41, 123, 49, 125, 59]
def xk23 : List Int := [-110]
theorem xg23 : goodT xt23 xk23 = true := by decide +kernel
def xt24 : Bs := [105, 110, 116, 32, 102, 40, 41, 91, 50, 93, 32, 123, 32, 125]
def xk24 : List Int := [1, 2, 5, 14, 16, 15, 58, 22]
theorem xg24 : goodT xt24 xk24 = true := by decide +kernel
def xt25 : Bs := [105, 110, 116, 32, 102, 91, 50, 93, 40, 41, 32, 123, 32, 125]
def xk25 : List Int := [-110]
theorem xg25 : goodT xt25 xk25 = true := by decide +kernel
def xt26 : Bs := [116, 121, 112, 101, 100, 101, 102, 32, 105, 110, 116, 32, 84, 59, 32, 101, 110, 117, 109, 32, 123, 32, 84, 32, 61, 32, 115, 105, 122, 101, 111, 102, 40, 84, 41, 32, 125, 59]
def xk26 : List Int := [1, 3, 5, 13, 14, 3, 5, 9, 10, 48, 18, 5]
theorem xg26 : goodT xt26 xk26 = true := by decide +kernel
def xt27 : Bs := [115, 116, 114, 117, 99, 116, 32, 123, 32, 105, 110, 116, 32, 40, 42, 102, 41, 40, 116, 121, 112, 101, 100, 101, 102, 32, 105, 110, 116, 32, 120, 41, 59, 32, 125, 32, 121, 59, 32, 121, 32, 122, 59]
def xk27 : List Int := [-110]
theorem xg27 : goodT xt27 xk27 = true := by decide +kernel
def xt28 : Bs := [105, 110, 116, 32, 42, 32, 95, 65, 116, 111, 109, 105, 99, 32, 40, 120, 41, 59]
def xk28 : List Int := [-110]
theorem xg28 : goodT xt28 xk28 = true := by decide +kernel
end Go.Proofs.YtlboejdhmggjpaaGreat.Pp

/- WxI -/
namespace Go.Proofs.YtlboejdhmggjpaaGreat.Pp
open Go.RowKit Go.BigFrame Go.Proofs.YtlboejdhmggjpaaGreat
set_option linter.unusedVariables false

theorem ptr_no (A : Nat) (w : World) : (binOp .eql 39 (.pointer none) (.pointer (some ⟨A, 0, none⟩))).run Tryz.prog w = .ok (.bool false) w := by
  have hi := Sp.info66
  cases hq : Tryz.prog.info? 66 with
  | none => rw [hq] at hi; cases hi
  | some i =>
    have h : ∀ d : Nat, (Op.equalIn (d + 1) 39 (.pointer none) (.pointer (some ⟨A, 0, none⟩))).run Tryz.prog w = .ok false w := fun d => by
      simp [Op.equalIn, run_underlying Tryz.underlying39, sizeOf, typeInfo, hq]
    simp only [binOp]
    simp [Op.equal, Op.maxDepth, h 9999]
/-- A pointer to no scope that was made. -/
def NoSc (p : Value) (w : World) : Prop := p = .pointer none ∨ ∃ A, p = .pointer (some ⟨A, 0, none⟩) ∧ w.heap[A]? = some (.cells #[.pointer none, .map none, .slice none 0 0] 66 (0, 0))
set_option maxRecDepth 100000 in
theorem made_no (p : Value) (w : World) (h : NoSc p w) : Calls Tryz.prog 39 #[p] w fun e w' => e = .returned (.bool false) ∧ w' = w := by
  rcases h with rfl | ⟨A, rfl, h⟩
  · go_enter Tryz.func39, Tryz.ntmps39
    go_wp2_with fail
    go_ret
    exact ⟨rfl, rfl⟩
  · have c0 : w.cell? ⟨A, 0, none⟩ = some (.pointer none) := by simp [World.cell?, h]
    clear h
    have PN := ptr_no A
    go_enter Tryz.func39, Tryz.ntmps39
    go_wp2_with fail
    go_ret
    exact ⟨rfl, rfl⟩
set_option maxRecDepth 100000 in
theorem blocks_no (p : Value) (w : World) (h : NoSc p w) : Calls Tryz.prog 23 #[p] w fun e w' => e = .returned (.int .i64 0) ∧ w' = w := by
  have HM := Lib.hid (made_no p w h)
  clear h
  go_enter Tryz.func23, Tryz.ntmps23
  go_wp2_with fail
  refine HM.out.mono ?_
  rintro e w1 ⟨rfl, rfl⟩
  go_wp2_with fail
  go_ret
  exact ⟨rfl, rfl⟩
set_option maxRecDepth 100000 in
set_option maxHeartbeats 8000000 in
theorem ext_no (p : Value) (w : World) (h : NoSc p w) : Calls Tryz.prog 19 #[.slice none 0 0, p] w fun e w' => e = .returned (.tuple #[.slice none 0 0, .int .i64 0, .int .i64 1]) ∧ Below w.heap.size w w' := by
  have hb := below_alloc w (.cells #[p] 39)
  have hn : NoSc p (w.alloc (.cells #[p] 39)) := h.imp id fun ⟨A, h1, h2⟩ => ⟨A, h1, heap_below hb h2 (Array.getElem?_eq_some_iff.1 h2).1⟩
  have HM := Lib.hid (blocks_no p _ hn)
  have HB := Lib.hid hb
  clear hn hb
  rcases h with rfl | ⟨A, rfl, h⟩
  all_goals
    refine (callsIn_wide (n := 5)).1 ?_
    refine callsIn_of_wp_marks Tryz.func19 rfl trivial ?_ rfl
    simp only [Tryz.ntmps19, List.size_toArray, List.length_cons, List.length_nil, Nat.reduceAdd, Nat.reduceSub, Array.replicate_succ, Array.replicate_zero, List.push_toArray, List.append_toArray, List.nil_append, List.cons_append]
    refine wpIn_wide.2 ?_
    go_wp2_with fail
    refine HM.out.mono ?_
    rintro e w1 ⟨rfl, rfl⟩
    go_wp2_with fail
    exact ⟨.tuple #[.slice none 0 0, .int .i64 0, .int .i64 1], by simp [results, Tryz.results19, go_sem], rfl, HB.out⟩
end Go.Proofs.YtlboejdhmggjpaaGreat.Pp

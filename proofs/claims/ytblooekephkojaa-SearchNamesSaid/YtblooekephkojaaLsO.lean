/- search's laws: gap, ten, are, alive. -/
import Derived.Test.YtblooekephkojaaLsN
namespace Go.Proofs.Ytblooekephkojaa
open Go.RowKit Go.BigFrame Go.Shelf
set_option linter.unusedVariables false

def gapOf (must may : Bool) : Gap := ⟨3, 1, must, may, 5, 2⟩
def tenS : Sty := ⟨10, 0, 0, 0, false, false, false, 100, 0, 0, 0, 0, 0, 0, 0, 0, 0, 0⟩

theorem below_set_row {B g : Nat} {w0 w : World} (hb : Below B w0 w) (hBg : B ≤ g) (cs : Array Value) : Below B w0 (w.setRow g cs) :=
  ⟨hb.os, hb.tape, hb.output, by simpa using hb.size, fun k hk => (setRow_other _ _ _ _ (by omega)).trans (hb.block k hk)⟩

set_option maxRecDepth 100000 in
theorem Ls.gap (must may : Bool) (w : World) : Calls Try.prog 40 #[.bool must, .bool may] w fun e w' => e = .returned (.agg (gapOf must may).cells) ∧ Below w.heap.size w w' := by
  go_enter Try.func40, Try.ntmps40
  go_wp2
  go_returns
  exact ⟨rfl, (Below.refl _ _).alloc (Nat.le_refl _) _⟩

set_option maxRecDepth 100000 in
set_option maxHeartbeats 4000000 in
theorem Ls.ten (w : World) : Calls Try.prog 42 #[] w fun e w' => e = .returned (.agg tenS.cells) ∧ Below w.heap.size w w' := by
  have hb : ∀ wx, (Instr.build 27 #[(0, .int .i64 10), (7, .int .i64 100)]).run Try.prog wx = .ok (.agg tenS.cells) wx := fun wx => run_build wx 27 _ _ (by kernel_rfl)
  go_enter Try.func42, Try.ntmps42
  go_upto_region 1 with fail
  obtain ⟨W, hW⟩ : ∃ W, W = w.alloc (.cells (#[.int .i64 0, .int .i64 0, .int .i64 0, .int .i64 0, .bool false, .bool false, .bool false, .int .i64 0, .int .i64 0, .int .i64 0, .int .i64 0, .int .i64 0, .int .i64 0, .int .i64 0, .int .i64 0, .int .i64 0, .int .i64 0, .int .i64 0]) 27) := ⟨_, rfl⟩
  rw [← hW]
  have hg : W.heap[w.heap.size]? = some (.cells (#[.int .i64 0, .int .i64 0, .int .i64 0, .int .i64 0, .bool false, .bool false, .bool false, .int .i64 0, .int .i64 0, .int .i64 0, .int .i64 0, .int .i64 0, .int .i64 0, .int .i64 0, .int .i64 0, .int .i64 0, .int .i64 0, .int .i64 0]) 27 (0, 0)) := by rw [hW]; exact heap_alloc_new _ _
  have hB : Below w.heap.size w W := by rw [hW]; exact below_alloc _ _
  have HB := Lib.hid hB
  have HG := Lib.hid hg
  clear hW hg hB
  have hbt : (Try.prog.built 27 [(0, Value.int .i64 10), (7, .int .i64 100)]) = some tenS.cells := by kernel_rfl
  go_wp2_with (refine wpList_build rfl 27 _ rfl (by simp [Act.eval, hbt]) ?_; refine wpList_store_row rfl 27 _ _ rfl w.heap.size tenS.cells rfl (by simp [Act.eval, Act.put, hbt]) 27 _ HG.out (by kernel_rfl) (by kernel_rfl) (by kernel_rfl) ?_)
  (try simp only [Exit.inBlock, Exit.then])
  refine bodyPost_ret (v := .agg tenS.cells) ?_ rfl ?_
  · exact results_cell_row (p := 0) rfl _ _ w.heap.size 27 tenS.cells (0, 0) _ rfl (setRow_heap _ _ _ _ _ _ HG.out) Try.underlying27 rfl (by kernel_rfl)
  exact ⟨rfl, below_set_row HB.out (Nat.le_refl _) _⟩
end Go.Proofs.Ytblooekephkojaa

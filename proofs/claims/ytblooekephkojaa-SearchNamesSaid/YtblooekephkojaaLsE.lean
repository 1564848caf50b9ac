/- search.least: newLeast. -/
import Derived.Test.YtblooekephkojaaLsD
import Derived.Laws.MakeOwn
namespace Go.Proofs.Ytblooekephkojaa
open Go.RowKit Go.BigFrame Go.Shelf
set_option linter.unusedVariables false

/-- A block of zeros. -/
def zc (n : Nat) : Array Value := ((List.replicate n (0 : Int)).map (Value.int .i64)).toArray
theorem zc_made (n : Nat) : madeCells (Value.int .i64 0).cells (n * 1) = zc n := by
  apply Array.ext
  · simp [zc, madeCells]
  · intro i h1 h2
    simp only [madeCells, zc, Array.getElem_map, Array.getElem_range, List.map_replicate, List.getElem_toArray, List.getElem_replicate]
    show (#[Value.int .i64 0] : Array Value)[i % 1]! = _
    rw [Nat.mod_one]; rfl
theorem intBlk_zc (w : World) (n : Nat) (ty : TypeId) : IntBlk (w.alloc (.cells (zc n) ty)) w.heap.size ty (List.replicate n 0) := by
  unfold IntBlk; exact heap_alloc_new _ _

theorem infoInt : (Try.prog.info? 3).map (fun i => (i.zero, i.size, i.bytes)) = some (some (.int .i64 0), 1, 8) := by kernel_rfl
theorem infoInt64 : (Try.prog.info? 2).map (fun i => (i.zero, i.size, i.bytes)) = some (some (.int .i64 0), 1, 8) := by kernel_rfl

theorem make_ints (n : Nat) (hn : n ≤ 1000000) (w : World) : (Instr.makeSlice 104 (.int .i64 n) (.int .i64 n)).run Try.prog w = .ok (.slice (some ⟨w.heap.size, 0, none⟩) n n) (w.alloc (.cells (zc n) 3)) := by
  obtain ⟨i0, hi, hz0, hz1, hz2⟩ := info_parts infoInt
  have := run_make (P := Try.prog) (w := w) 104 3 i0 (.int .i64 0) Try.underlying104 hi hz0 .i64 .i64 n n (by omega) (by omega) (by rw [hz2]; omega) (by omega)
  rw [this, hz1, Int.toNat_natCast, zc_made]
theorem make_int64s (n : Nat) (hn : n ≤ 1000000) (w : World) : (Instr.makeSlice 105 (.int .i64 n) (.int .i64 n)).run Try.prog w = .ok (.slice (some ⟨w.heap.size, 0, none⟩) n n) (w.alloc (.cells (zc n) 2)) := by
  obtain ⟨i0, hi, hz0, hz1, hz2⟩ := info_parts infoInt64
  have := run_make (P := Try.prog) (w := w) 105 2 i0 (.int .i64 0) Try.underlying105 hi hz0 .i64 .i64 n n (by omega) (by omega) (by rw [hz2]; omega) (by omega)
  rw [this, hz1, Int.toNat_natCast, zc_made]

theorem fill_set (a b : Int) (n i : Nat) (h : i < n) : (List.replicate i a ++ List.replicate (n - i) b).set i a = List.replicate (i + 1) a ++ List.replicate (n - (i + 1)) b := by
  rw [List.set_append, if_neg (by simp), show n - i = (n - (i + 1)) + 1 from by omega, List.replicate_succ]
  simp [List.replicate_succ']
theorem fill_zero (a b : Int) (n : Nat) : List.replicate 0 a ++ List.replicate (n - 0) b = List.replicate n b := by simp
theorem fill_all (a b : Int) (n : Nat) : List.replicate n a ++ List.replicate (n - n) b = List.replicate n a := by simp
theorem Least.setV {w : World} {F V T size : Nat} {v best : List Int} (h : Least w F V T size v best) (hF : F ≠ V) (hVT : V ≠ T) (i : Nat) (x : Int) (hi : i < v.length) : Least (w.setCell ⟨V, i, none⟩ (.int .i64 x)) F V T size (v.set i x) best :=
  ⟨by rw [heap_setCell_other _ _ _ _ hF, h.f]; simp, h.v.set i x hi, by have := h.t; unfold IntBlk at *; rw [heap_setCell_other _ _ _ _ (Ne.symm hVT)]; exact this⟩
theorem Least.setT {w : World} {F V T size : Nat} {v best : List Int} (h : Least w F V T size v best) (hF : F ≠ T) (hVT : V ≠ T) (i : Nat) (x : Int) (hi : i < best.length) : Least (w.setCell ⟨T, i, none⟩ (.int .i64 x)) F V T size v (best.set i x) :=
  ⟨by rw [heap_setCell_other _ _ _ _ hF, h.f]; simp, by have := h.v; unfold IntBlk at *; rw [heap_setCell_other _ _ _ _ hVT]; exact this, h.t.set i x hi⟩
theorem below3 (w : World) (a b c : Obj) : Below w.heap.size w (((w.alloc a).alloc b).alloc c).drew :=
  ((((Below.refl _ w).alloc (Nat.le_refl _) a).alloc (by simp) b).alloc (by simp; omega) c).drew
theorem heap3a (w : World) (a b c : Obj) : (((w.alloc a).alloc b).alloc c).drew.heap[w.heap.size]? = some a := by
  show (((w.alloc a).alloc b).alloc c).heap[w.heap.size]? = some a
  rw [Lib.alloc_old _ _ _ (by simp; omega), Lib.alloc_old _ _ _ (by simp)]; exact heap_alloc_new _ _
theorem heap3b (w : World) (a b c : Obj) : (((w.alloc a).alloc b).alloc c).drew.heap[w.heap.size + 1]? = some b := by
  show (((w.alloc a).alloc b).alloc c).heap[w.heap.size + 1]? = some b
  rw [Lib.alloc_old _ _ _ (by simp)]
  have := heap_alloc_new (w.alloc a) b
  simpa using this
theorem heap3c (w : World) (a b c : Obj) : (((w.alloc a).alloc b).alloc c).drew.heap[w.heap.size + 1 + 1]? = some c := by
  show (((w.alloc a).alloc b).alloc c).heap[w.heap.size + 1 + 1]? = some c
  have := heap_alloc_new ((w.alloc a).alloc b) c
  simpa using this
def never : Int := 2305843009213693951

/-- The tree that newLeast makes. -/
def NewLeast (n : Nat) (w : World) (e : Ending) (w' : World) : Prop :=
  ∃ F V T k : Nat, e = .returned (.pointer (some ⟨F, 0, none⟩)) ∧ n ≤ 2 ^ k ∧ 2 ^ k < 2 * n ∧ Least w' F V T (2 ^ k) (List.replicate n never) (List.replicate (2 * 2 ^ k) (-1)) ∧ w.heap.size ≤ F ∧ w.heap.size ≤ V ∧ w.heap.size ≤ T ∧ F ≠ V ∧ F ≠ T ∧ V ≠ T ∧ Below w.heap.size w w'

set_option maxRecDepth 100000 in
set_option maxHeartbeats 4000000 in
theorem Ls.newLeast (n : Nat) (w : World) (hn : 1 ≤ n) (hn2 : n ≤ 70000) : Calls Try.prog 61 #[.int .i64 n] w (NewLeast n w) := by
  have hm5 := fun wx => make_int64s n (by omega) wx
  go_enter Try.func61, Try.ntmps61
  go_wp2
  go_loop [3] (fun s => ∃ k : Nat, s = .int .i64 ((2 ^ k : Nat) : Int) ∧ 2 ^ k < 2 * n) (fun s => n - (intOf s).toNat)
  case atStart => exact ⟨0, rfl, by omega⟩
  case round =>
    obtain ⟨k, rfl, hk⟩ := hrel
    obtain ⟨z, hz⟩ : ∃ z, z = 2 ^ k := ⟨_, rfl⟩
    rw [← hz] at hk ⊢
    have HZ := Lib.hid hz
    have hz1 : 1 ≤ z := by rw [hz]; exact Nat.one_le_two_pow
    clear hz
    by_cases hlt : z < n
    · go_wp2
      go_round
      case rel => exact ⟨k + 1, by rw [Nat.pow_succ, ← HZ.out]; exact congrArg (Value.int .i64) (by omega), by rw [Nat.pow_succ, ← HZ.out]; omega⟩
      case measure => simp [intOf]; omega
    · have hm4 : ∀ wx, (Instr.makeSlice 104 (.int .i64 (2 * (z : Int))) (.int .i64 (2 * (z : Int)))).run Try.prog wx = .ok (.slice (some ⟨wx.heap.size, 0, none⟩) (2 * z) (2 * z)) (wx.alloc (.cells (zc (2 * z)) 3)) := fun wx => by
        have := make_ints (2 * z) (by omega) wx
        rwa [show ((2 * z : Nat) : Int) = 2 * (z : Int) from by omega] at this
      go_upto_region 4 with fail
      go_cut [4] (fun s4 wx => ∃ F V T : Nat, s4 = .pointer (some ⟨F, 0, none⟩) ∧ Least wx F V T z (List.replicate n 0) (List.replicate (2 * z) 0) ∧ w.heap.size ≤ F ∧ w.heap.size ≤ V ∧ w.heap.size ≤ T ∧ F ≠ V ∧ F ≠ T ∧ V ≠ T ∧ Below w.heap.size w wx)
      case first =>
        go_region
        all_goals (go_wp2_with fail; go_meet)
        · exact ⟨_, w.heap.size, w.heap.size + 1, rfl, ⟨by rw [heap3c]; simp, heap3a _ _ _ _, heap3b _ _ _ _⟩, by omega, by omega, by omega, by omega, by omega, by omega, below3 _ _ _ _⟩
        · exact ⟨_, w.heap.size + 1, w.heap.size, rfl, ⟨by rw [heap3c]; simp, heap3b _ _ _ _, heap3a _ _ _ _⟩, by omega, by omega, by omega, by omega, by omega, by omega, below3 _ _ _ _⟩
      case rest =>
        obtain ⟨F, V, T, rfl, hL, hF, hV, hT, hFV, hFT, hVT, hB⟩ := hcut
        have hf1 := hL.f1
        have hn0 : (List.replicate n (0 : Int)).length = n := by simp
        rw [hn0] at hf1
        clear hm4 hm5
        go_wp2_with fail
        go_loopw [5, 25] (fun s5 s25 wr => ∃ i : Nat, i ≤ n ∧ s25 = .int .i64 i ∧ Least wr F V T z (List.replicate i never ++ List.replicate (n - i) 0) (List.replicate (2 * z) 0) ∧ Below w.heap.size w wr) (fun _ s25 _ => n - (intOf s25).toNat)
        case atStart => exact ⟨0, by omega, rfl, by rw [fill_zero]; exact hL, hB⟩
        case round =>
          obtain ⟨i, hi, rfl, hLr, hBr⟩ := hrel
          have hf1 := hLr.f1
          have hf2 := hLr.f2
          have hln : (List.replicate i never ++ List.replicate (n - i) (0 : Int)).length = n := by simp; omega
          have hlz : (List.replicate (2 * z) (0 : Int)).length = 2 * z := by simp
          rw [hln] at hf1
          rw [hlz] at hf2
          have hnf : (n : Int) ≤ 70000 := by omega
          by_cases hlt : i < n
          · have hc := hLr.v.cell i (by omega)
            have hfr : wr.frozen? ⟨V, i, none⟩ = false := Lib.frozen_of_heap hLr.v i
            have HL := Lib.hid hLr
            clear hLr
            generalize (List.replicate i never ++ List.replicate (n - i) (0 : Int))[i] = old at *
            have i1 : (0 : Int) ≤ (i : Int) := by omega
            have i2 : (i : Int) < (n : Int) := by omega
            go_wp2_with fail
            go_roundw
            case rel =>
              refine ⟨i + 1, by omega, by go_num, ?_, hBr.setCell (by simpa using hV) _⟩
              have := HL.out.setV hFV hVT i never (by omega)
              rw [fill_set _ _ _ _ hlt] at this
              exact this
            case measure => simp [intOf]; omega
          · obtain rfl : i = n := by omega
            rw [fill_all] at hLr
            go_wp2_with fail
            go_loopw [6, 40] (fun s6 s40 wr => ∃ j : Nat, j ≤ 2 * z ∧ s40 = .int .i64 j ∧ Least wr F V T z (List.replicate i never) (List.replicate j (-1) ++ List.replicate (2 * z - j) 0) ∧ Below w.heap.size w wr) (fun _ s40 _ => 2 * z - (intOf s40).toNat)
            case atStart => exact ⟨0, by omega, rfl, by rw [fill_zero]; exact hLr, hBr⟩
            case round =>
              clear hf1 hf2 hln hlz hLr hBr
              obtain ⟨j, hj, rfl, hLr, hBr⟩ := hrel
              have hf2 := hLr.f2
              have hlz : (List.replicate j (-1) ++ List.replicate (2 * z - j) (0 : Int)).length = 2 * z := by simp; omega
              rw [hlz] at hf2
              have hzf : (2 * z : Int) ≤ 300000 := by omega
              by_cases hlt : j < 2 * z
              · have hc := hLr.t.cell j (by omega)
                have hfr : wr.frozen? ⟨T, j, none⟩ = false := Lib.frozen_of_heap hLr.t j
                have HL := Lib.hid hLr
                clear hLr
                generalize (List.replicate j (-1) ++ List.replicate (2 * z - j) (0 : Int))[j] = old at *
                have i1 : (0 : Int) ≤ (j : Int) := by omega
                have i2 : (j : Int) < 2 * (z : Int) := by omega
                go_wp2_with fail
                go_roundw
                case rel =>
                  refine ⟨j + 1, by omega, by go_num, ?_, hBr.setCell (by simpa using hT) _⟩
                  have := HL.out.setT hFT hVT j (-1) (by omega)
                  rw [fill_set _ _ _ _ hlt] at this
                  exact this
                case measure => simp [intOf]; omega
              · obtain rfl : j = 2 * z := by omega
                rw [fill_all] at hLr
                go_wp2_with fail
                go_ret
                have hzz := HZ.out
                exact ⟨F, V, T, k, rfl, by omega, by omega, by rw [← hzz]; exact hLr, hF, hV, hT, hFV, hFT, hVT, hBr⟩
end Go.Proofs.Ytblooekephkojaa

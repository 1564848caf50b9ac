/- search's laws: are, alive. -/
import Derived.Test.YtblooekephkojaaLsO
namespace Go.Proofs.Ytblooekephkojaa
open Go.RowKit Go.BigFrame Go.Shelf
set_option linter.unusedVariables false

set_option maxRecDepth 100000 in
set_option maxHeartbeats 4000000 in
theorem Ls.are (ga a2 : Option Addr) (l : List Gap) (want : List Bool) (gc c2 : Nat) (cst : Int) (w : World) (hr : RowAt 6 Gap.f w ga l) (hr2 : RowAt 1 boolF w a2 want) (hz : chk 4 l tenS = 0) (hopt : IsOpt tenS 4 l want cst) :
    Calls Try.prog 41 #[.slice ga l.length gc, .slice a2 want.length c2, .int .i64 cst] w fun e w' => e = .returned (.bool true) ∧ Below w.heap.size w w' := by
  have hlen := hopt.len
  obtain ⟨_, hl, _⟩ := chk_ok hz
  have HO := Lib.hid hopt
  have HZ := Lib.hid hz
  clear hopt hz
  go_enter Try.func41, Try.ntmps41
  go_wp2_with fail
  refine (Ls.ten w).mono ?_
  rintro e w1 ⟨rfl, b1⟩
  have hr1 := hr.below b1 (Nat.le_refl _) b1.size
  go_wp2_with fail
  refine (Ls.best_ok 4 ga l gc tenS w1 hr1 HZ.out).mono ?_
  rintro e w2 ⟨y, c, b, ho, rfl, hY, hb, b2, _, _⟩
  obtain ⟨rfl, rfl⟩ := ho.unique HO.out
  have b12 : Below w.heap.size w w2 := b1.trans (b2.mono b1.size)
  have hr3 := hr2.below b12 (Nat.le_refl _) b12.size
  have hyl : y.length = l.length := hlen
  have hll : (y.length : Int) = l.length := by omega
  have HB := Lib.hid b12
  clear hr hr1 hr2 b1 b2 b12 ho hb hlen
  go_wp2_with fail
  go_loopw [10] (fun s10 wr => ∃ i : Nat, i ≤ l.length ∧ s10 = .int .i64 i ∧ ∃ n, wr = w2.drewN n) (fun s10 _ => l.length - (intOf s10).toNat)
  case atStart => exact ⟨0, Nat.zero_le _, rfl, 0, rfl⟩
  case round =>
    obtain ⟨i, hi, rfl, n0, rfl⟩ := hrel
    by_cases hlt : i < l.length
    · obtain ⟨b', off, rfl, hbw, hc⟩ := hr3.at (by intro e; rw [e] at hyl; simp at hyl; omega)
      have c1 := hY.cell i (by omega)
      have c2' : w2.cell? ⟨b', off + i * 1, none⟩ = some (.bool y[i]) := hc i (by omega) 0 _ rfl
      rw [Nat.mul_one] at c2'
      have i0 : (0 : Int) ≤ (i : Int) := by omega
      have i1 : (i : Int) < (l.length : Int) := by omega
      have HH := Lib.hid hr3
      clear hc hY hr3
      generalize y[i]'_ = v at *
      have hvv : (v != v) = false := by simp
      go_wp2_with fail
      go_quiet (fail)
      go_wp2_with fail
      go_roundw
      case rel => exact ⟨i + 1, by omega, by go_num, _, rfl⟩
      case measure => simp [intOf]; omega
    · obtain rfl : i = l.length := by omega
      go_wp2_with fail
      go_ret
      exact ⟨rfl, HB.out.trans (Ytblooekephkojaa.below_drewN _ _ _)⟩

/-- All ways. -/
def allB : Nat → List (List Bool)
  | 0 => [[]]
  | n + 1 => (allB n).flatMap fun x => [false :: x, true :: x]
theorem mem_allB : ∀ x : List Bool, x ∈ allB x.length
  | [] => List.mem_cons_self
  | b :: x => by
    show b :: x ∈ (allB x.length).flatMap fun x => [false :: x, true :: x]
    rw [List.mem_flatMap]
    exact ⟨x, mem_allB x, by cases b <;> simp⟩
def optB (s : Sty) (first : Int) (l : List Gap) (y : List Bool) (c : Int) : Bool :=
  y.length == l.length && (l.zip y).all fitB && decide (cost s first (l.zip y) = c) && (allB l.length).all fun x => !(l.zip x).all fitB || (decide (c ≤ cost s first (l.zip x)) &&
    (List.range l.length).all fun j => !((List.range j).all (fun q => x.getD q false == y.getD q false) && y.getD j false && !x.getD j false) || decide (c < cost s first (l.zip x)))
theorem optB_spec {s : Sty} {first : Int} {l : List Gap} {y : List Bool} {c : Int} (h : optB s first l y c = true) : IsOpt s first l y c := by
  simp only [optB, Bool.and_eq_true, beq_iff_eq, decide_eq_true_eq] at h
  obtain ⟨⟨⟨h1, h2⟩, h3⟩, h4⟩ := h
  have key : ∀ x : List Bool, x.length = l.length → (l.zip x).all fitB = true → c ≤ cost s first (l.zip x) ∧ ∀ j, j < l.length → (∀ q, q < j → x.getD q false = y.getD q false) → y.getD j false = true → x.getD j false = false → c < cost s first (l.zip x) := fun x hx hf => by
    have := List.all_eq_true.1 h4 x (by rw [← hx]; exact mem_allB x)
    rw [hf] at this
    simp only [Bool.not_true, Bool.false_or, Bool.and_eq_true, decide_eq_true_eq] at this
    refine ⟨this.1, fun j hj hs hy hxj => ?_⟩
    have h5 := List.all_eq_true.1 this.2 j (List.mem_range.2 hj)
    have h6 : (List.range j).all (fun q => x.getD q false == y.getD q false) = true := by
      rw [List.all_eq_true]; intro q hq; rw [hs q (List.mem_range.1 hq)]; simp
    rw [h6, hy, hxj] at h5
    simpa using h5
  exact ⟨h1, h2, h3, fun x hx hf => (key x hx hf).1, fun x hx hf j hj hs hy hxj => (key x hx hf).2 j hj hs hy hxj⟩

theorem flat_get : ∀ (l : List Gap) (i : Nat) (h : i < l.length) (j : Nat) (v : Value), (Gap.f l[i])[j]? = some v → (l.flatMap Gap.f)[i * 6 + j]? = some v
  | [], i, h, j, v, hv => by simp at h
  | g :: l, 0, h, j, v, hv => by
    have hj : j < 6 := (List.getElem?_eq_some_iff.1 hv).1
    rw [List.flatMap_cons, List.getElem?_append_left (by show _ < 6; omega)]
    simpa using hv
  | g :: l, i + 1, h, j, v, hv => by
    have ih := flat_get l i (by simpa using h) j v (by simpa using hv)
    rw [List.flatMap_cons, List.getElem?_append_right (by show 6 ≤ _; omega)]
    rw [show (i + 1) * 6 + j - (Gap.f g).length = i * 6 + j from by show (i + 1) * 6 + j - 6 = _; omega]
    exact ih
theorem row_gaps {w : World} {b : Nat} {l : List Gap} (h : w.heap[b]? = some (.cells (l.flatMap Gap.f).toArray 71 (0, 0))) : RowAt 6 Gap.f w (some ⟨b, 0, none⟩) l :=
  .inr ⟨b, 0, rfl, (Array.getElem?_eq_some_iff.1 h).1, fun i hi j v hv => by
    have := flat_get l i hi j v hv
    simp only [World.cell?, h, Nat.zero_add]
    simpa using this⟩

set_option maxRecDepth 100000 in
set_option maxHeartbeats 4000000 in
theorem Ls.alive (w : World) : Calls Try.prog 39 #[] w fun e w' => e = .returned (.bool true) ∧ Below w.heap.size w w' := by
  have hopt : IsOpt tenS 4 [gapOf false true, gapOf false true] [false, true] 5 := optB_spec (by decide)
  have hz : chk 4 [gapOf false true, gapOf false true] tenS = 0 := by decide
  have HO := Lib.hid hopt
  have HZ := Lib.hid hz
  clear hopt hz
  go_enter Try.func39, Try.ntmps39
  go_wp2_with fail
  refine (Ls.gap false true w).mono ?_
  rintro e w1 ⟨rfl, b1⟩
  go_wp2_with fail
  refine (Ls.gap false true w1).mono ?_
  rintro e w2 ⟨rfl, b2⟩
  have b12 : Below w.heap.size w w2 := b1.trans (b2.mono b1.size)
  clear b1 b2
  go_wp2_with fail
  obtain ⟨W, hW⟩ : ∃ W, W = (w2.alloc (.cells #[.int .i64 (gapOf false true).w, .int .i64 (gapOf false true).b, .bool (gapOf false true).must, .bool (gapOf false true).may, .int .i64 (gapOf false true).cost, .int .i64 (gapOf false true).ind, .int .i64 (gapOf false true).w, .int .i64 (gapOf false true).b, .bool (gapOf false true).must, .bool (gapOf false true).may, .int .i64 (gapOf false true).cost, .int .i64 (gapOf false true).ind] 71)).alloc (.cells #[.bool false, .bool true] 4) := ⟨_, rfl⟩
  rw [← hW]
  have h1 : W.heap[w2.heap.size]? = some (.cells ([gapOf false true, gapOf false true].flatMap Gap.f).toArray 71 (0, 0)) := by
    rw [hW, Lib.alloc_old _ _ _ (by simp)]; exact heap_alloc_new _ _
  have h2 : BoolBlk W (w2.heap.size + 1) [false, true] := by
    rw [hW]
    have := heap_alloc_new (w2.alloc (.cells #[.int .i64 (gapOf false true).w, .int .i64 (gapOf false true).b, .bool (gapOf false true).must, .bool (gapOf false true).may, .int .i64 (gapOf false true).cost, .int .i64 (gapOf false true).ind, .int .i64 (gapOf false true).w, .int .i64 (gapOf false true).b, .bool (gapOf false true).must, .bool (gapOf false true).may, .int .i64 (gapOf false true).cost, .int .i64 (gapOf false true).ind] 71)) (.cells #[.bool false, .bool true] 4)
    unfold BoolBlk
    simpa using this
  have hB : Below w.heap.size w W := by rw [hW]; exact (b12.alloc b12.size _).alloc (by have := b12.size; simp; omega) _
  have HB := Lib.hid hB
  clear hW hB b12
  refine (Ls.are (some ⟨w2.heap.size, 0, none⟩) (some ⟨w2.heap.size + 1, 0, none⟩) [gapOf false true, gapOf false true] [false, true] 2 2 5 W (row_gaps h1) h2.rowAt HZ.out HO.out).mono ?_
  rintro e w3 ⟨rfl, b3⟩
  go_wp2_with fail
  go_ret
  exact ⟨rfl, HB.out.trans (b3.mono HB.out.size)⟩
end Go.Proofs.Ytblooekephkojaa

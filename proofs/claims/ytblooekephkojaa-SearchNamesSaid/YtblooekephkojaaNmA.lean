/- The law SearchNames: values that the chapter's examples are made of. -/
import Derived.Test.YtblooekephkojaaMon
import Derived.Test.YtblooekephkojaaLsQ
namespace Go.Proofs.Ytblooekephkojaa
open Go.RowKit Go.BigFrame Go.Shelf
set_option linter.unusedVariables false

/-- What is known of a value in a world. -/
inductive Kd where
  | tru | gap (m y : Bool) | sty | gaps (l : List Gap) | bools (y : List Bool) | is (v : Value) | trip (z : Int) | pair (c z : Int) | any | big
def bigL : List Gap := List.replicate 65537 ⟨0, 0, false, false, 0, 0⟩
theorem bigL_len : bigL.length = 65537 := List.length_replicate
def bigM : Array Value := madeCells (Value.agg #[.int .i64 0, .int .i64 0, .bool false, .bool false, .int .i64 0, .int .i64 0]).cells (65537 * 6)
def Kd.holds : Kd → Value → World → Prop
  | .tru, v, w => v = .bool true
  | .gap m y, v, w => v = .agg (gapOf m y).cells
  | .sty, v, w => v = .agg tenS.cells
  | .gaps l, v, w => ∃ b, v = .slice (some ⟨b, 0, none⟩) l.length l.length ∧ w.heap[b]? = some (.cells (l.flatMap Gap.f).toArray 71 (0, 0))
  | .bools y, v, w => ∃ b, v = .slice (some ⟨b, 0, none⟩) y.length y.length ∧ BoolBlk w b y
  | .is x, v, w => v = x
  | .trip z, v, w => ∃ x c, v = .tuple #[x, .int .i64 c, .int .i64 z]
  | .pair c z, v, w => v = .tuple #[.int .i64 c, .int .i64 z]
  | .any, v, w => True
  | .big, v, w => ∃ b, v = .slice (some ⟨b, 0, none⟩) 65537 65537 ∧ RowAt 6 Gap.f w (some ⟨b, 0, none⟩) bigL
theorem Kd.mono (k : Kd) (v : Value) (w w' : World) (hb : Below w.heap.size w w') (h : k.holds v w) : k.holds v w' := by
  cases k with
  | gaps l => obtain ⟨b, h1, h2⟩ := h; exact ⟨b, h1, heap_below hb h2 (Array.getElem?_eq_some_iff.1 h2).1⟩
  | bools y => obtain ⟨b, h1, h2⟩ := h; exact ⟨b, h1, heap_below hb h2 h2.lt⟩
  | big => obtain ⟨b, h1, h2⟩ := h; exact ⟨b, h1, h2.below hb (Nat.le_refl _) hb.size⟩
  | _ => exact h
def holdsAt (ks : List Kd) (i : Nat) (v : Value) (w : World) : Prop := (ks.getD i .tru).holds v w
theorem holdsAt_mono (ks : List Kd) : ∀ i v w w', Below w.heap.size w w' → holdsAt ks i v w → holdsAt ks i v w' := fun i v w w' hb h => Kd.mono _ v w w' hb h

abbrev gFT : Gap := gapOf false true
def kinds2 : List Kd := [.tru, .tru, .tru, .tru, .tru, .gap false true, .gaps [gFT], .bools [false], .tru, .tru, .tru,
  .gap true true, .gap false true, .gaps [gapOf true true, gFT], .bools [true, false], .tru, .tru, .tru,
  .gap false false, .gap false false, .gaps [gapOf false false, gapOf false false], .bools [false, false], .tru, .tru, .tru,
  .gap false true, .gap false true, .gap false true, .gaps [gFT, gFT, gFT], .bools [false, true, false], .tru, .tru, .tru]

theorem made_gaps (w : World) (l : List Gap) : (Kd.gaps l).holds (.slice (some ⟨w.heap.size, 0, none⟩) l.length l.length) (w.alloc (.cells (l.flatMap Gap.f).toArray 71)) := ⟨_, rfl, heap_alloc_new _ _⟩
theorem made_bools (w : World) (y : List Bool) : (Kd.bools y).holds (.slice (some ⟨w.heap.size, 0, none⟩) y.length y.length) (w.alloc (.cells (y.map Value.bool).toArray 4)) := ⟨_, rfl, heap_alloc_new _ _⟩
theorem nz2 : Hid (chk 4 [] tenS = 0) := Lib.hid (by decide)
theorem no2 : Hid (IsOpt tenS 4 [] [] 0) := Lib.hid (optB_spec (by decide))
theorem nz8 : Hid (chk 4 [gFT] tenS = 0) := Lib.hid (by decide)
theorem no8 : Hid (IsOpt tenS 4 [gFT] [false] 0) := Lib.hid (optB_spec (by decide))
theorem nz15 : Hid (chk 4 [gapOf true true, gFT] tenS = 0) := Lib.hid (by decide)
theorem no15 : Hid (IsOpt tenS 4 [gapOf true true, gFT] [true, false] 5) := Lib.hid (optB_spec (by decide))
theorem nz22 : Hid (chk 4 [gapOf false false, gapOf false false] tenS = 0) := Lib.hid (by decide)
theorem no22 : Hid (IsOpt tenS 4 [gapOf false false, gapOf false false] [false, false] 200) := Lib.hid (optB_spec (by decide))
theorem nz30 : Hid (chk 4 [gFT, gFT, gFT] tenS = 0) := Lib.hid (by decide)
theorem no30 : Hid (IsOpt tenS 4 [gFT, gFT, gFT] [false, true, false] 5) := Lib.hid (optB_spec (by decide))

def zeroS : Sty := ⟨0, 0, 0, 0, false, false, false, 0, 0, 0, 0, 0, 0, 0, 0, 0, 0, 0⟩
def mustG : Gap := ⟨0, 0, true, false, 0, 0⟩
def deepG : Gap := ⟨0, 0, false, false, 0, 257⟩
theorem ne3 : Hid (chk (-1) [] tenS = 2) := Lib.hid (by decide)
theorem ne4 : Hid (chk 0 [] zeroS = 90) := Lib.hid (by decide)
theorem ne5 : Hid (chk 0 [mustG] tenS = 2) := Lib.hid (by decide)
theorem ne6 : Hid (chk 0 [deepG] tenS = 2) := Lib.hid (by decide)
theorem bt27 : Hid (Try.prog.built 27 [] = some zeroS.cells) := Lib.hid (by kernel_rfl)
theorem bt71a : Hid (Try.prog.built 71 [(2, Value.bool true)] = some mustG.cells) := Lib.hid (by kernel_rfl)
theorem bt71b : Hid (Try.prog.built 71 [(5, Value.int .i64 257)] = some deepG.cells) := Lib.hid (by kernel_rfl)

theorem infoGap7 : (Try.prog.info? 71).map (fun i => (i.zero, i.size, i.bytes)) = some (some (.agg #[.int .i64 0, .int .i64 0, .bool false, .bool false, .int .i64 0, .int .i64 0]), 6, 40) := by kernel_rfl
theorem big_made (w : World) : (Instr.makeSlice 24 (.int .i64 65537) (.int .i64 65537)).run Try.prog w = .ok (.slice (some ⟨w.heap.size, 0, none⟩) 65537 65537) (w.alloc (.cells bigM 71)) := by
  obtain ⟨i0, hi, hz0, hz1, hz2⟩ := info_parts infoGap7
  have := run_make (P := Try.prog) (w := w) 24 71 i0 _ Try.underlying24 hi hz0 .i64 .i64 65537 65537 (by omega) (by omega) (by rw [hz2]; omega) (by omega)
  rw [this, hz1]
  rfl
theorem made_at (z : Array Value) (hz : z.size = 6) (n i j : Nat) (hi : i < n) (hj : j < 6) : (madeCells z (n * 6))[i * 6 + j]? = z[j]? := by
  have h1 : i * 6 + j < (madeCells z (n * 6)).size := by simp [madeCells]; omega
  rw [Array.getElem?_eq_getElem h1]
  simp only [madeCells, Array.getElem_map, Array.getElem_range]
  have h2 : (i * 6 + j) % z.size = j := by rw [hz]; omega
  rw [h2, Array.getElem?_eq_getElem (by omega), getElem!_pos z j (by omega)]
theorem rep_row (w : World) (n : Nat) : RowAt 6 Gap.f (w.alloc (.cells (madeCells (Value.agg #[.int .i64 0, .int .i64 0, .bool false, .bool false, .int .i64 0, .int .i64 0]).cells (n * 6)) 71)) (some ⟨w.heap.size, 0, none⟩) (List.replicate n ⟨0, 0, false, false, 0, 0⟩) := by
  have hg := heap_alloc_new w (.cells (madeCells (Value.agg #[.int .i64 0, .int .i64 0, .bool false, .bool false, .int .i64 0, .int .i64 0]).cells (n * 6)) 71)
  refine .inr ⟨w.heap.size, 0, rfl, by simp, fun i hi j v hv => ?_⟩
  have hi' : i < n := by simpa using hi
  have hj : j < 6 := (List.getElem?_eq_some_iff.1 hv).1
  rw [List.getElem_replicate] at hv
  have := made_at (Value.agg #[.int .i64 0, .int .i64 0, .bool false, .bool false, .int .i64 0, .int .i64 0]).cells rfl n i j hi' hj
  simp only [World.cell?, hg, Nat.zero_add]
  rw [this]
  simpa [Gap.f, Value.cells] using hv
theorem big_row (w : World) : RowAt 6 Gap.f (w.alloc (.cells bigM 71)) (some ⟨w.heap.size, 0, none⟩) bigL := rep_row w 65537
theorem ne7 : Hid (chk (-1) bigL tenS = 4) := Lib.hid (by
  unfold chk
  rw [if_neg (by decide), if_pos (by rw [bigL_len]; decide)])
theorem nc8 : Hid (costR 4 [gFT] [] tenS = (0, 2)) := Lib.hid (by decide)
theorem nc9 : Hid (costR 4 [gapOf true true] [false] tenS = (0, 2)) := Lib.hid (by decide)
theorem nc10 : Hid (costR 4 [gapOf false false] [true] tenS = (0, 2)) := Lib.hid (by decide)
theorem nc11 : Hid (costR 4 [gFT, gFT] [true, false] tenS = (5, 0)) := Lib.hid (by decide)
def kinds7 : List Kd := [.big, .sty, .trip 4, .trip 4, .any, .any, .is (.int .i64 4), .any, .any, .is (.int .i64 4)]
def kinds8 : List Kd := [.gap false true, .gaps [gFT], .sty, .pair 0 2, .pair 0 2, .is (.int .i64 0), .is (.int .i64 2), .is (.int .i64 0), .is (.int .i64 2)]
def kinds11 : List Kd := [.gap false true, .gap false true, .gaps [gFT, gFT], .bools [true, false], .sty, .pair 5 0, .pair 5 0, .is (.int .i64 5), .is (.int .i64 0), .is (.int .i64 5), .is (.int .i64 0)]
theorem lt10 (i : Nat) (h : i < 10) : i = 0 ∨ i = 1 ∨ i = 2 ∨ i = 3 ∨ i = 4 ∨ i = 5 ∨ i = 6 ∨ i = 7 ∨ i = 8 ∨ i = 9 := by omega
theorem lt9 (i : Nat) (h : i < 9) : i = 0 ∨ i = 1 ∨ i = 2 ∨ i = 3 ∨ i = 4 ∨ i = 5 ∨ i = 6 ∨ i = 7 ∨ i = 8 := by omega
theorem lt11 (i : Nat) (h : i < 11) : i = 0 ∨ i = 1 ∨ i = 2 ∨ i = 3 ∨ i = 4 ∨ i = 5 ∨ i = 6 ∨ i = 7 ∨ i = 8 ∨ i = 9 ∨ i = 10 := by omega

theorem lt33 (i : Nat) (h : i < 33) : i = 0 ∨ i = 1 ∨ i = 2 ∨ i = 3 ∨ i = 4 ∨ i = 5 ∨ i = 6 ∨ i = 7 ∨ i = 8 ∨ i = 9 ∨ i = 10 ∨ i = 11 ∨ i = 12 ∨ i = 13 ∨ i = 14 ∨ i = 15 ∨ i = 16 ∨ i = 17 ∨ i = 18 ∨ i = 19 ∨ i = 20 ∨ i = 21 ∨ i = 22 ∨ i = 23 ∨ i = 24 ∨ i = 25 ∨ i = 26 ∨ i = 27 ∨ i = 28 ∨ i = 29 ∨ i = 30 ∨ i = 31 ∨ i = 32 := by omega

set_option maxRecDepth 100000 in
set_option maxHeartbeats 4000000 in
theorem Ls.law_names (w : World) : Calls Try.prog 12 #[] w fun e w' => e = .returned (.bool true) ∧ Below w.heap.size w w' := by
  go_enter Try.func12, Try.ntmps12
  go_wp2_with fail
  refine (Ls.gap false true w).mono ?_
  rintro e w1 ⟨rfl, b1⟩
  go_wp2_with fail
  obtain ⟨W, hW⟩ : ∃ W, W = w1.alloc (.cells gFT.cells 71) := ⟨_, rfl⟩
  have hG : W.heap[w1.heap.size]? = some (.cells gFT.cells 71 (0, 0)) := by rw [hW]; exact heap_alloc_new _ _
  have hG1 : w1.heap.size < W.heap.size := (Array.getElem?_eq_some_iff.1 hG).1
  have hBW : Below w.heap.size w W := by rw [hW]; exact b1.alloc b1.size _
  have HG := Lib.hid hG
  have HBW := Lib.hid hBW
  have HW := Lib.hid hW
  clear hG hBW hW b1
  rw [show w1.alloc (.cells #[.int .i64 (gapOf false true).w, .int .i64 (gapOf false true).b, .bool (gapOf false true).must, .bool (gapOf false true).may, .int .i64 (gapOf false true).cost, .int .i64 (gapOf false true).ind] 71) = W from HW.out.symm]
  refine wp_region_each (holdsAt kinds2) (by kernel_rfl) (by kernel_rfl) (holdsAt_mono kinds2) ?_ ?_
  · intro i o ho v w2 hb2 hd K hK
    have hi : i < 33 := (List.getElem?_eq_some_iff.1 ho).1
    have HK := Lib.hid hK
    clear hK
    rcases lt33 i hi with rfl | rfl | rfl | rfl | rfl | rfl | rfl | rfl | rfl | rfl | rfl | rfl | rfl | rfl | rfl | rfl | rfl | rfl | rfl | rfl | rfl | rfl | rfl | rfl | rfl | rfl | rfl | rfl | rfl | rfl | rfl | rfl | rfl
    -- REGION2
    · -- op 0
      cases ho
      try clear hd
      simp only [putAll, Act.put, List.setIfInBounds_toArray, List.set_cons_succ, List.set_cons_zero, Nat.reduceAdd, Nat.zero_add]
      go_wp2_with fail
      refine (Ls.alive w2).mono ?_
      rintro e w3 ⟨rfl, b3⟩
      go_wp2_with fail
      have q := HK.out (.bool true) w3 (rfl) (b3)
      simp only [putAll, Act.put, List.setIfInBounds_toArray, List.set_cons_succ, List.set_cons_zero, Nat.reduceAdd, Nat.zero_add] at q
      exact q
    · -- op 1
      have h0 : v 0 = .bool true := hd 0 (by kernel_rfl)
      cases ho
      try clear hd
      simp only [putAll, Act.put, List.setIfInBounds_toArray, List.set_cons_succ, List.set_cons_zero, Nat.reduceAdd, Nat.zero_add, h0]
      go_wp2_with fail
      have q := HK.out (.bool true) w2 (rfl) (Below.refl _ _)
      simp only [putAll, Act.put, List.setIfInBounds_toArray, List.set_cons_succ, List.set_cons_zero, Nat.reduceAdd, Nat.zero_add, h0] at q
      exact q
    · -- op 2
      have h1 : v 1 = .bool true := hd 1 (by kernel_rfl)
      cases ho
      try clear hd
      simp only [putAll, Act.put, List.setIfInBounds_toArray, List.set_cons_succ, List.set_cons_zero, Nat.reduceAdd, Nat.zero_add, h1]
      go_wp2_with fail
      refine (Ls.are none none [] [] 0 0 0 w2 (.inl rfl) (.inl rfl) nz2.out no2.out).mono ?_
      rintro e w3 ⟨rfl, b3⟩
      go_wp2_with fail
      have q := HK.out (.bool true) w3 (rfl) (b3)
      simp only [putAll, Act.put, List.setIfInBounds_toArray, List.set_cons_succ, List.set_cons_zero, Nat.reduceAdd, Nat.zero_add, h1] at q
      exact q
    · -- op 3
      have h1 : v 1 = .bool true := hd 1 (by kernel_rfl)
      have h2 : v 2 = .bool true := hd 2 (by kernel_rfl)
      cases ho
      try clear hd
      simp only [putAll, Act.put, List.setIfInBounds_toArray, List.set_cons_succ, List.set_cons_zero, Nat.reduceAdd, Nat.zero_add, h1, h2]
      go_wp2_with fail
      have q := HK.out (.bool true) w2 (rfl) (Below.refl _ _)
      simp only [putAll, Act.put, List.setIfInBounds_toArray, List.set_cons_succ, List.set_cons_zero, Nat.reduceAdd, Nat.zero_add, h1, h2] at q
      exact q
    · -- op 4
      have h3 : v 3 = .bool true := hd 3 (by kernel_rfl)
      cases ho
      try clear hd
      simp only [putAll, Act.put, List.setIfInBounds_toArray, List.set_cons_succ, List.set_cons_zero, Nat.reduceAdd, Nat.zero_add, h3]
      go_wp2_with fail
      have q := HK.out (.bool true) w2 (rfl) (Below.refl _ _)
      simp only [putAll, Act.put, List.setIfInBounds_toArray, List.set_cons_succ, List.set_cons_zero, Nat.reduceAdd, Nat.zero_add, h3] at q
      exact q
    · -- op 5
      have h4 : v 4 = .bool true := hd 4 (by kernel_rfl)
      have hg := heap_below hb2 HG.out hG1
      have hc : ∀ j x, gFT.cells[j]? = some x → w2.cell? ⟨w1.heap.size, j, none⟩ = some x := fun j x hx => by simp [World.cell?, hg, hx]
      have c0 := hc 0 _ rfl
      have c1 := hc 1 _ rfl
      have c2 := hc 2 _ rfl
      have c3 := hc 3 _ rfl
      have c4 := hc 4 _ rfl
      have c5 := hc 5 _ rfl
      clear hg hc
      cases ho
      try clear hd
      simp only [putAll, Act.put, List.setIfInBounds_toArray, List.set_cons_succ, List.set_cons_zero, Nat.reduceAdd, Nat.zero_add, h4]
      go_wp2_with fail
      have q := HK.out (.agg gFT.cells) w2 (rfl) (Below.refl _ _)
      simp only [putAll, Act.put, List.setIfInBounds_toArray, List.set_cons_succ, List.set_cons_zero, Nat.reduceAdd, Nat.zero_add, h4] at q
      exact q
    · -- op 6
      have h4 : v 4 = .bool true := hd 4 (by kernel_rfl)
      have h5 : v 5 = .agg (gapOf false true).cells := hd 5 (by kernel_rfl)
      cases ho
      try clear hd
      simp only [putAll, Act.put, List.setIfInBounds_toArray, List.set_cons_succ, List.set_cons_zero, Nat.reduceAdd, Nat.zero_add, h4, h5]
      go_wp2_with fail
      have q := HK.out (.slice (some ⟨w2.heap.size, 0, none⟩) 1 1) (w2.alloc (.cells (([gFT] : List Gap).flatMap Gap.f).toArray 71)) (made_gaps w2 [gFT]) (below_alloc _ _)
      simp only [putAll, Act.put, List.setIfInBounds_toArray, List.set_cons_succ, List.set_cons_zero, Nat.reduceAdd, Nat.zero_add, h4, h5] at q
      exact q
    · -- op 7
      have h4 : v 4 = .bool true := hd 4 (by kernel_rfl)
      cases ho
      try clear hd
      simp only [putAll, Act.put, List.setIfInBounds_toArray, List.set_cons_succ, List.set_cons_zero, Nat.reduceAdd, Nat.zero_add, h4]
      go_wp2_with fail
      have q := HK.out (.slice (some ⟨w2.heap.size, 0, none⟩) 1 1) (w2.alloc (.cells (([false] : List Bool).map Value.bool).toArray 4)) (made_bools w2 [false]) (below_alloc _ _)
      simp only [putAll, Act.put, List.setIfInBounds_toArray, List.set_cons_succ, List.set_cons_zero, Nat.reduceAdd, Nat.zero_add, h4] at q
      exact q
    · -- op 8
      have h4 : v 4 = .bool true := hd 4 (by kernel_rfl)
      have hE1 : ∃ b, v 6 = .slice (some ⟨b, 0, none⟩) 1 1 ∧ w2.heap[b]? = some (.cells (([gFT] : List Gap).flatMap Gap.f).toArray 71 (0, 0)) := hd 6 (by kernel_rfl)
      have hE2 : ∃ b, v 7 = .slice (some ⟨b, 0, none⟩) 1 1 ∧ BoolBlk w2 b [false] := hd 7 (by kernel_rfl)
      clear hd
      obtain ⟨ba, ha, hga⟩ := hE1
      obtain ⟨bb, hb, hgb⟩ := hE2
      cases ho
      try clear hd
      simp only [putAll, Act.put, List.setIfInBounds_toArray, List.set_cons_succ, List.set_cons_zero, Nat.reduceAdd, Nat.zero_add, h4, ha, hb]
      go_wp2_with fail
      refine (Ls.are (some ⟨ba, 0, none⟩) (some ⟨bb, 0, none⟩) [gFT] [false] 1 1 0 w2 (row_gaps hga) hgb.rowAt nz8.out no8.out).mono ?_
      rintro e w3 ⟨rfl, b3⟩
      go_wp2_with fail
      have q := HK.out (.bool true) w3 (rfl) (b3)
      simp only [putAll, Act.put, List.setIfInBounds_toArray, List.set_cons_succ, List.set_cons_zero, Nat.reduceAdd, Nat.zero_add, h4, ha, hb] at q
      exact q
    · -- op 9
      have h4 : v 4 = .bool true := hd 4 (by kernel_rfl)
      have h8 : v 8 = .bool true := hd 8 (by kernel_rfl)
      cases ho
      try clear hd
      simp only [putAll, Act.put, List.setIfInBounds_toArray, List.set_cons_succ, List.set_cons_zero, Nat.reduceAdd, Nat.zero_add, h4, h8]
      go_wp2_with fail
      have q := HK.out (.bool true) w2 (rfl) (Below.refl _ _)
      simp only [putAll, Act.put, List.setIfInBounds_toArray, List.set_cons_succ, List.set_cons_zero, Nat.reduceAdd, Nat.zero_add, h4, h8] at q
      exact q
    · -- op 10
      have h9 : v 9 = .bool true := hd 9 (by kernel_rfl)
      cases ho
      try clear hd
      simp only [putAll, Act.put, List.setIfInBounds_toArray, List.set_cons_succ, List.set_cons_zero, Nat.reduceAdd, Nat.zero_add, h9]
      go_wp2_with fail
      have q := HK.out (.bool true) w2 (rfl) (Below.refl _ _)
      simp only [putAll, Act.put, List.setIfInBounds_toArray, List.set_cons_succ, List.set_cons_zero, Nat.reduceAdd, Nat.zero_add, h9] at q
      exact q
    · -- op 11
      have h10 : v 10 = .bool true := hd 10 (by kernel_rfl)
      cases ho
      try clear hd
      simp only [putAll, Act.put, List.setIfInBounds_toArray, List.set_cons_succ, List.set_cons_zero, Nat.reduceAdd, Nat.zero_add, h10]
      go_wp2_with fail
      refine (Ls.gap true true w2).mono ?_
      rintro e w3 ⟨rfl, b3⟩
      go_wp2_with fail
      have q := HK.out (.agg (gapOf true true).cells) w3 (rfl) (b3)
      simp only [putAll, Act.put, List.setIfInBounds_toArray, List.set_cons_succ, List.set_cons_zero, Nat.reduceAdd, Nat.zero_add, h10] at q
      exact q
    · -- op 12
      have h10 : v 10 = .bool true := hd 10 (by kernel_rfl)
      have hg := heap_below hb2 HG.out hG1
      have hc : ∀ j x, gFT.cells[j]? = some x → w2.cell? ⟨w1.heap.size, j, none⟩ = some x := fun j x hx => by simp [World.cell?, hg, hx]
      have c0 := hc 0 _ rfl
      have c1 := hc 1 _ rfl
      have c2 := hc 2 _ rfl
      have c3 := hc 3 _ rfl
      have c4 := hc 4 _ rfl
      have c5 := hc 5 _ rfl
      clear hg hc
      cases ho
      try clear hd
      simp only [putAll, Act.put, List.setIfInBounds_toArray, List.set_cons_succ, List.set_cons_zero, Nat.reduceAdd, Nat.zero_add, h10]
      go_wp2_with fail
      have q := HK.out (.agg gFT.cells) w2 (rfl) (Below.refl _ _)
      simp only [putAll, Act.put, List.setIfInBounds_toArray, List.set_cons_succ, List.set_cons_zero, Nat.reduceAdd, Nat.zero_add, h10] at q
      exact q
    · -- op 13
      have h10 : v 10 = .bool true := hd 10 (by kernel_rfl)
      have h11 : v 11 = .agg (gapOf true true).cells := hd 11 (by kernel_rfl)
      have h12 : v 12 = .agg (gapOf false true).cells := hd 12 (by kernel_rfl)
      cases ho
      try clear hd
      simp only [putAll, Act.put, List.setIfInBounds_toArray, List.set_cons_succ, List.set_cons_zero, Nat.reduceAdd, Nat.zero_add, h10, h11, h12]
      go_wp2_with fail
      have q := HK.out (.slice (some ⟨w2.heap.size, 0, none⟩) 2 2) (w2.alloc (.cells (([gapOf true true, gFT] : List Gap).flatMap Gap.f).toArray 71)) (made_gaps w2 [gapOf true true, gFT]) (below_alloc _ _)
      simp only [putAll, Act.put, List.setIfInBounds_toArray, List.set_cons_succ, List.set_cons_zero, Nat.reduceAdd, Nat.zero_add, h10, h11, h12] at q
      exact q
    · -- op 14
      have h10 : v 10 = .bool true := hd 10 (by kernel_rfl)
      cases ho
      try clear hd
      simp only [putAll, Act.put, List.setIfInBounds_toArray, List.set_cons_succ, List.set_cons_zero, Nat.reduceAdd, Nat.zero_add, h10]
      go_wp2_with fail
      have q := HK.out (.slice (some ⟨w2.heap.size, 0, none⟩) 2 2) (w2.alloc (.cells (([true, false] : List Bool).map Value.bool).toArray 4)) (made_bools w2 [true, false]) (below_alloc _ _)
      simp only [putAll, Act.put, List.setIfInBounds_toArray, List.set_cons_succ, List.set_cons_zero, Nat.reduceAdd, Nat.zero_add, h10] at q
      exact q
    · -- op 15
      have h10 : v 10 = .bool true := hd 10 (by kernel_rfl)
      have hE1 : ∃ b, v 13 = .slice (some ⟨b, 0, none⟩) 2 2 ∧ w2.heap[b]? = some (.cells (([gapOf true true, gFT] : List Gap).flatMap Gap.f).toArray 71 (0, 0)) := hd 13 (by kernel_rfl)
      have hE2 : ∃ b, v 14 = .slice (some ⟨b, 0, none⟩) 2 2 ∧ BoolBlk w2 b [true, false] := hd 14 (by kernel_rfl)
      clear hd
      obtain ⟨ba, ha, hga⟩ := hE1
      obtain ⟨bb, hb, hgb⟩ := hE2
      cases ho
      try clear hd
      simp only [putAll, Act.put, List.setIfInBounds_toArray, List.set_cons_succ, List.set_cons_zero, Nat.reduceAdd, Nat.zero_add, h10, ha, hb]
      go_wp2_with fail
      refine (Ls.are (some ⟨ba, 0, none⟩) (some ⟨bb, 0, none⟩) [gapOf true true, gFT] [true, false] 2 2 5 w2 (row_gaps hga) hgb.rowAt nz15.out no15.out).mono ?_
      rintro e w3 ⟨rfl, b3⟩
      go_wp2_with fail
      have q := HK.out (.bool true) w3 (rfl) (b3)
      simp only [putAll, Act.put, List.setIfInBounds_toArray, List.set_cons_succ, List.set_cons_zero, Nat.reduceAdd, Nat.zero_add, h10, ha, hb] at q
      exact q
    · -- op 16
      have h10 : v 10 = .bool true := hd 10 (by kernel_rfl)
      have h15 : v 15 = .bool true := hd 15 (by kernel_rfl)
      cases ho
      try clear hd
      simp only [putAll, Act.put, List.setIfInBounds_toArray, List.set_cons_succ, List.set_cons_zero, Nat.reduceAdd, Nat.zero_add, h10, h15]
      go_wp2_with fail
      have q := HK.out (.bool true) w2 (rfl) (Below.refl _ _)
      simp only [putAll, Act.put, List.setIfInBounds_toArray, List.set_cons_succ, List.set_cons_zero, Nat.reduceAdd, Nat.zero_add, h10, h15] at q
      exact q
    · -- op 17
      have h16 : v 16 = .bool true := hd 16 (by kernel_rfl)
      cases ho
      try clear hd
      simp only [putAll, Act.put, List.setIfInBounds_toArray, List.set_cons_succ, List.set_cons_zero, Nat.reduceAdd, Nat.zero_add, h16]
      go_wp2_with fail
      have q := HK.out (.bool true) w2 (rfl) (Below.refl _ _)
      simp only [putAll, Act.put, List.setIfInBounds_toArray, List.set_cons_succ, List.set_cons_zero, Nat.reduceAdd, Nat.zero_add, h16] at q
      exact q
    · -- op 18
      have h17 : v 17 = .bool true := hd 17 (by kernel_rfl)
      cases ho
      try clear hd
      simp only [putAll, Act.put, List.setIfInBounds_toArray, List.set_cons_succ, List.set_cons_zero, Nat.reduceAdd, Nat.zero_add, h17]
      go_wp2_with fail
      refine (Ls.gap false false w2).mono ?_
      rintro e w3 ⟨rfl, b3⟩
      go_wp2_with fail
      have q := HK.out (.agg (gapOf false false).cells) w3 (rfl) (b3)
      simp only [putAll, Act.put, List.setIfInBounds_toArray, List.set_cons_succ, List.set_cons_zero, Nat.reduceAdd, Nat.zero_add, h17] at q
      exact q
    · -- op 19
      have h17 : v 17 = .bool true := hd 17 (by kernel_rfl)
      cases ho
      try clear hd
      simp only [putAll, Act.put, List.setIfInBounds_toArray, List.set_cons_succ, List.set_cons_zero, Nat.reduceAdd, Nat.zero_add, h17]
      go_wp2_with fail
      refine (Ls.gap false false w2).mono ?_
      rintro e w3 ⟨rfl, b3⟩
      go_wp2_with fail
      have q := HK.out (.agg (gapOf false false).cells) w3 (rfl) (b3)
      simp only [putAll, Act.put, List.setIfInBounds_toArray, List.set_cons_succ, List.set_cons_zero, Nat.reduceAdd, Nat.zero_add, h17] at q
      exact q
    · -- op 20
      have h17 : v 17 = .bool true := hd 17 (by kernel_rfl)
      have h18 : v 18 = .agg (gapOf false false).cells := hd 18 (by kernel_rfl)
      have h19 : v 19 = .agg (gapOf false false).cells := hd 19 (by kernel_rfl)
      cases ho
      try clear hd
      simp only [putAll, Act.put, List.setIfInBounds_toArray, List.set_cons_succ, List.set_cons_zero, Nat.reduceAdd, Nat.zero_add, h17, h18, h19]
      go_wp2_with fail
      have q := HK.out (.slice (some ⟨w2.heap.size, 0, none⟩) 2 2) (w2.alloc (.cells (([gapOf false false, gapOf false false] : List Gap).flatMap Gap.f).toArray 71)) (made_gaps w2 [gapOf false false, gapOf false false]) (below_alloc _ _)
      simp only [putAll, Act.put, List.setIfInBounds_toArray, List.set_cons_succ, List.set_cons_zero, Nat.reduceAdd, Nat.zero_add, h17, h18, h19] at q
      exact q
    · -- op 21
      have h17 : v 17 = .bool true := hd 17 (by kernel_rfl)
      cases ho
      try clear hd
      simp only [putAll, Act.put, List.setIfInBounds_toArray, List.set_cons_succ, List.set_cons_zero, Nat.reduceAdd, Nat.zero_add, h17]
      go_wp2_with fail
      have q := HK.out (.slice (some ⟨w2.heap.size, 0, none⟩) 2 2) (w2.alloc (.cells (([false, false] : List Bool).map Value.bool).toArray 4)) (made_bools w2 [false, false]) (below_alloc _ _)
      simp only [putAll, Act.put, List.setIfInBounds_toArray, List.set_cons_succ, List.set_cons_zero, Nat.reduceAdd, Nat.zero_add, h17] at q
      exact q
    · -- op 22
      have h17 : v 17 = .bool true := hd 17 (by kernel_rfl)
      have hE1 : ∃ b, v 20 = .slice (some ⟨b, 0, none⟩) 2 2 ∧ w2.heap[b]? = some (.cells (([gapOf false false, gapOf false false] : List Gap).flatMap Gap.f).toArray 71 (0, 0)) := hd 20 (by kernel_rfl)
      have hE2 : ∃ b, v 21 = .slice (some ⟨b, 0, none⟩) 2 2 ∧ BoolBlk w2 b [false, false] := hd 21 (by kernel_rfl)
      clear hd
      obtain ⟨ba, ha, hga⟩ := hE1
      obtain ⟨bb, hb, hgb⟩ := hE2
      cases ho
      try clear hd
      simp only [putAll, Act.put, List.setIfInBounds_toArray, List.set_cons_succ, List.set_cons_zero, Nat.reduceAdd, Nat.zero_add, h17, ha, hb]
      go_wp2_with fail
      refine (Ls.are (some ⟨ba, 0, none⟩) (some ⟨bb, 0, none⟩) [gapOf false false, gapOf false false] [false, false] 2 2 200 w2 (row_gaps hga) hgb.rowAt nz22.out no22.out).mono ?_
      rintro e w3 ⟨rfl, b3⟩
      go_wp2_with fail
      have q := HK.out (.bool true) w3 (rfl) (b3)
      simp only [putAll, Act.put, List.setIfInBounds_toArray, List.set_cons_succ, List.set_cons_zero, Nat.reduceAdd, Nat.zero_add, h17, ha, hb] at q
      exact q
    · -- op 23
      have h17 : v 17 = .bool true := hd 17 (by kernel_rfl)
      have h22 : v 22 = .bool true := hd 22 (by kernel_rfl)
      cases ho
      try clear hd
      simp only [putAll, Act.put, List.setIfInBounds_toArray, List.set_cons_succ, List.set_cons_zero, Nat.reduceAdd, Nat.zero_add, h17, h22]
      go_wp2_with fail
      have q := HK.out (.bool true) w2 (rfl) (Below.refl _ _)
      simp only [putAll, Act.put, List.setIfInBounds_toArray, List.set_cons_succ, List.set_cons_zero, Nat.reduceAdd, Nat.zero_add, h17, h22] at q
      exact q
    · -- op 24
      have h23 : v 23 = .bool true := hd 23 (by kernel_rfl)
      cases ho
      try clear hd
      simp only [putAll, Act.put, List.setIfInBounds_toArray, List.set_cons_succ, List.set_cons_zero, Nat.reduceAdd, Nat.zero_add, h23]
      go_wp2_with fail
      have q := HK.out (.bool true) w2 (rfl) (Below.refl _ _)
      simp only [putAll, Act.put, List.setIfInBounds_toArray, List.set_cons_succ, List.set_cons_zero, Nat.reduceAdd, Nat.zero_add, h23] at q
      exact q
    · -- op 25
      have h24 : v 24 = .bool true := hd 24 (by kernel_rfl)
      have hg := heap_below hb2 HG.out hG1
      have hc : ∀ j x, gFT.cells[j]? = some x → w2.cell? ⟨w1.heap.size, j, none⟩ = some x := fun j x hx => by simp [World.cell?, hg, hx]
      have c0 := hc 0 _ rfl
      have c1 := hc 1 _ rfl
      have c2 := hc 2 _ rfl
      have c3 := hc 3 _ rfl
      have c4 := hc 4 _ rfl
      have c5 := hc 5 _ rfl
      clear hg hc
      cases ho
      try clear hd
      simp only [putAll, Act.put, List.setIfInBounds_toArray, List.set_cons_succ, List.set_cons_zero, Nat.reduceAdd, Nat.zero_add, h24]
      go_wp2_with fail
      have q := HK.out (.agg gFT.cells) w2 (rfl) (Below.refl _ _)
      simp only [putAll, Act.put, List.setIfInBounds_toArray, List.set_cons_succ, List.set_cons_zero, Nat.reduceAdd, Nat.zero_add, h24] at q
      exact q
    · -- op 26
      have h24 : v 24 = .bool true := hd 24 (by kernel_rfl)
      have hg := heap_below hb2 HG.out hG1
      have hc : ∀ j x, gFT.cells[j]? = some x → w2.cell? ⟨w1.heap.size, j, none⟩ = some x := fun j x hx => by simp [World.cell?, hg, hx]
      have c0 := hc 0 _ rfl
      have c1 := hc 1 _ rfl
      have c2 := hc 2 _ rfl
      have c3 := hc 3 _ rfl
      have c4 := hc 4 _ rfl
      have c5 := hc 5 _ rfl
      clear hg hc
      cases ho
      try clear hd
      simp only [putAll, Act.put, List.setIfInBounds_toArray, List.set_cons_succ, List.set_cons_zero, Nat.reduceAdd, Nat.zero_add, h24]
      go_wp2_with fail
      have q := HK.out (.agg gFT.cells) w2 (rfl) (Below.refl _ _)
      simp only [putAll, Act.put, List.setIfInBounds_toArray, List.set_cons_succ, List.set_cons_zero, Nat.reduceAdd, Nat.zero_add, h24] at q
      exact q
    · -- op 27
      have h24 : v 24 = .bool true := hd 24 (by kernel_rfl)
      have hg := heap_below hb2 HG.out hG1
      have hc : ∀ j x, gFT.cells[j]? = some x → w2.cell? ⟨w1.heap.size, j, none⟩ = some x := fun j x hx => by simp [World.cell?, hg, hx]
      have c0 := hc 0 _ rfl
      have c1 := hc 1 _ rfl
      have c2 := hc 2 _ rfl
      have c3 := hc 3 _ rfl
      have c4 := hc 4 _ rfl
      have c5 := hc 5 _ rfl
      clear hg hc
      cases ho
      try clear hd
      simp only [putAll, Act.put, List.setIfInBounds_toArray, List.set_cons_succ, List.set_cons_zero, Nat.reduceAdd, Nat.zero_add, h24]
      go_wp2_with fail
      have q := HK.out (.agg gFT.cells) w2 (rfl) (Below.refl _ _)
      simp only [putAll, Act.put, List.setIfInBounds_toArray, List.set_cons_succ, List.set_cons_zero, Nat.reduceAdd, Nat.zero_add, h24] at q
      exact q
    · -- op 28
      have h24 : v 24 = .bool true := hd 24 (by kernel_rfl)
      have h25 : v 25 = .agg (gapOf false true).cells := hd 25 (by kernel_rfl)
      have h26 : v 26 = .agg (gapOf false true).cells := hd 26 (by kernel_rfl)
      have h27 : v 27 = .agg (gapOf false true).cells := hd 27 (by kernel_rfl)
      cases ho
      try clear hd
      simp only [putAll, Act.put, List.setIfInBounds_toArray, List.set_cons_succ, List.set_cons_zero, Nat.reduceAdd, Nat.zero_add, h24, h25, h26, h27]
      go_wp2_with fail
      have q := HK.out (.slice (some ⟨w2.heap.size, 0, none⟩) 3 3) (w2.alloc (.cells (([gFT, gFT, gFT] : List Gap).flatMap Gap.f).toArray 71)) (made_gaps w2 [gFT, gFT, gFT]) (below_alloc _ _)
      simp only [putAll, Act.put, List.setIfInBounds_toArray, List.set_cons_succ, List.set_cons_zero, Nat.reduceAdd, Nat.zero_add, h24, h25, h26, h27] at q
      exact q
    · -- op 29
      have h24 : v 24 = .bool true := hd 24 (by kernel_rfl)
      cases ho
      try clear hd
      simp only [putAll, Act.put, List.setIfInBounds_toArray, List.set_cons_succ, List.set_cons_zero, Nat.reduceAdd, Nat.zero_add, h24]
      go_wp2_with fail
      have q := HK.out (.slice (some ⟨w2.heap.size, 0, none⟩) 3 3) (w2.alloc (.cells (([false, true, false] : List Bool).map Value.bool).toArray 4)) (made_bools w2 [false, true, false]) (below_alloc _ _)
      simp only [putAll, Act.put, List.setIfInBounds_toArray, List.set_cons_succ, List.set_cons_zero, Nat.reduceAdd, Nat.zero_add, h24] at q
      exact q
    · -- op 30
      have h24 : v 24 = .bool true := hd 24 (by kernel_rfl)
      have hE1 : ∃ b, v 28 = .slice (some ⟨b, 0, none⟩) 3 3 ∧ w2.heap[b]? = some (.cells (([gFT, gFT, gFT] : List Gap).flatMap Gap.f).toArray 71 (0, 0)) := hd 28 (by kernel_rfl)
      have hE2 : ∃ b, v 29 = .slice (some ⟨b, 0, none⟩) 3 3 ∧ BoolBlk w2 b [false, true, false] := hd 29 (by kernel_rfl)
      clear hd
      obtain ⟨ba, ha, hga⟩ := hE1
      obtain ⟨bb, hb, hgb⟩ := hE2
      cases ho
      try clear hd
      simp only [putAll, Act.put, List.setIfInBounds_toArray, List.set_cons_succ, List.set_cons_zero, Nat.reduceAdd, Nat.zero_add, h24, ha, hb]
      go_wp2_with fail
      refine (Ls.are (some ⟨ba, 0, none⟩) (some ⟨bb, 0, none⟩) [gFT, gFT, gFT] [false, true, false] 3 3 5 w2 (row_gaps hga) hgb.rowAt nz30.out no30.out).mono ?_
      rintro e w3 ⟨rfl, b3⟩
      go_wp2_with fail
      have q := HK.out (.bool true) w3 (rfl) (b3)
      simp only [putAll, Act.put, List.setIfInBounds_toArray, List.set_cons_succ, List.set_cons_zero, Nat.reduceAdd, Nat.zero_add, h24, ha, hb] at q
      exact q
    · -- op 31
      have h24 : v 24 = .bool true := hd 24 (by kernel_rfl)
      have h30 : v 30 = .bool true := hd 30 (by kernel_rfl)
      cases ho
      try clear hd
      simp only [putAll, Act.put, List.setIfInBounds_toArray, List.set_cons_succ, List.set_cons_zero, Nat.reduceAdd, Nat.zero_add, h24, h30]
      go_wp2_with fail
      have q := HK.out (.bool true) w2 (rfl) (Below.refl _ _)
      simp only [putAll, Act.put, List.setIfInBounds_toArray, List.set_cons_succ, List.set_cons_zero, Nat.reduceAdd, Nat.zero_add, h24, h30] at q
      exact q
    · -- op 32
      have h31 : v 31 = .bool true := hd 31 (by kernel_rfl)
      cases ho
      try clear hd
      simp only [putAll, Act.put, List.setIfInBounds_toArray, List.set_cons_succ, List.set_cons_zero, Nat.reduceAdd, Nat.zero_add, h31]
      go_wp2_with fail
      have q := HK.out (.bool true) w2 (rfl) (Below.refl _ _)
      simp only [putAll, Act.put, List.setIfInBounds_toArray, List.set_cons_succ, List.set_cons_zero, Nat.reduceAdd, Nat.zero_add, h31] at q
      exact q
    -- END2
  · intro v w2 hb2 hS
    have h32 : v 32 = .bool true := hS 32 (by decide)
    have HB2 := Lib.hid (HBW.out.trans (hb2.mono HBW.out.size))
    have hG2 := heap_below hb2 HG.out hG1
    have hlt2 : w1.heap.size < w2.heap.size := (Array.getElem?_eq_some_iff.1 hG2).1
    have HG2 := Lib.hid hG2
    clear hS hb2 HG HBW hG1 hG2
    simp only [putAll, Act.put, List.setIfInBounds_toArray, List.set_cons_succ, List.set_cons_zero, Nat.reduceAdd, Nat.zero_add, h32]
    clear h32
    go_wp2_with fail
    refine (Ls.ten w2).mono ?_
    rintro e w3 ⟨rfl, b3⟩
    go_wp2_with fail
    refine (Ls.best_bad (-1) none [] 0 tenS w3 (by simp) (.inl rfl) 2 ne3.out (by decide)).mono ?_
    rintro e w4 ⟨rfl, b4⟩
    have HB4 := Lib.hid (HB2.out.trans ((b3.trans (b4.mono b3.size)).mono HB2.out.size))
    have HG4 := Lib.hid (heap_below b4 (heap_below b3 HG2.out hlt2) (by have := b3.size; omega))
    clear b3 b4 HB2 HG2 hlt2
    have q4 := bt27.out
    go_wp2_with (refine wpList_build rfl 27 _ rfl (by simp [Act.eval, q4]) ?_)
    refine (Ls.best_bad 0 none [] 0 zeroS w4 (by simp) (.inl rfl) 90 ne4.out (by decide)).mono ?_
    rintro e w5 ⟨rfl, b5⟩
    have HB5 := Lib.hid (HB4.out.trans (b5.mono HB4.out.size))
    have hl4 := (Array.getElem?_eq_some_iff.1 HG4.out).1
    have HG5 := Lib.hid (heap_below b5 HG4.out hl4)
    clear b5 HB4 HG4 q4 hl4
    have q5 := bt71a.out
    go_wp2_with (refine wpList_build rfl 71 _ rfl (by simp [Act.eval, q5]) ?_)
    refine (Ls.ten _).mono ?_
    rintro e w6 ⟨rfl, b6⟩
    have hgs : w6.heap[w5.heap.size]? = some (.cells (([mustG] : List Gap).flatMap Gap.f).toArray 71 (0, 0)) := heap_below b6 (heap_alloc_new w5 _) (by simp)
    have hl5 := (Array.getElem?_eq_some_iff.1 HG5.out).1
    have HB6 := Lib.hid (HB5.out.trans (((below_alloc w5 _).trans (b6.mono (below_alloc w5 _).size)).mono HB5.out.size))
    have HG6 := Lib.hid (heap_below ((below_alloc w5 _).trans (b6.mono (below_alloc w5 _).size)) HG5.out hl5)
    clear b6 HB5 HG5 hl5
    have HGS := Lib.hid hgs
    clear hgs q5
    go_wp2_with fail
    refine (Ls.best_bad 0 (some ⟨w5.heap.size, 0, none⟩) [mustG] 1 tenS w6 (by simp) (row_gaps HGS.out) 2 ne5.out (by decide)).mono ?_
    rintro e w7 ⟨rfl, b7⟩
    have HB7 := Lib.hid (HB6.out.trans (b7.mono HB6.out.size))
    have HG7 := Lib.hid (heap_below b7 HG6.out (Array.getElem?_eq_some_iff.1 HG6.out).1)
    clear b7 HB6 HG6 HGS
    have q6 := bt71b.out
    go_wp2_with (refine wpList_build rfl 71 _ rfl (by simp [Act.eval, q6]) ?_)
    refine (Ls.ten _).mono ?_
    rintro e w8 ⟨rfl, b8⟩
    have hgs : w8.heap[w7.heap.size]? = some (.cells (([deepG] : List Gap).flatMap Gap.f).toArray 71 (0, 0)) := heap_below b8 (heap_alloc_new w7 _) (by simp)
    have hl7 := (Array.getElem?_eq_some_iff.1 HG7.out).1
    have HB8 := Lib.hid (HB7.out.trans (((below_alloc w7 _).trans (b8.mono (below_alloc w7 _).size)).mono HB7.out.size))
    have HG8 := Lib.hid (heap_below ((below_alloc w7 _).trans (b8.mono (below_alloc w7 _).size)) HG7.out hl7)
    clear b8 HB7 HG7 hl7
    have HGS := Lib.hid hgs
    clear hgs q6
    go_wp2_with fail
    refine (Ls.best_bad 0 (some ⟨w7.heap.size, 0, none⟩) [deepG] 1 tenS w8 (by simp) (row_gaps HGS.out) 2 ne6.out (by decide)).mono ?_
    rintro e w9 ⟨rfl, b9⟩
    have HB7 := Lib.hid (HB8.out.trans (b9.mono HB8.out.size))
    have HGx := Lib.hid (heap_below b9 HG8.out (Array.getElem?_eq_some_iff.1 HG8.out).1)
    have hGx := (Array.getElem?_eq_some_iff.1 HGx.out).1
    clear b9 HB8 HG8 HGS
    go_wp2_with fail
    refine wp_region_each (holdsAt kinds7) (by kernel_rfl) (by kernel_rfl) (holdsAt_mono kinds7) ?_ ?_
    · clear HB7
      intro i o ho v w2 hb2 hd K hK
      have hi : i < 10 := (List.getElem?_eq_some_iff.1 ho).1
      have HK := Lib.hid hK
      clear hK
      rcases lt10 i hi with rfl | rfl | rfl | rfl | rfl | rfl | rfl | rfl | rfl | rfl
    -- REGION7
      · -- op 0
        have hmk := big_made w2
        obtain ⟨M, hM⟩ : ∃ M, M = bigM := ⟨_, rfl⟩
        rw [← hM] at hmk
        have HM := Lib.hid hM
        clear hM
        cases ho
        try clear hd
        simp only [putAll, Act.put, List.setIfInBounds_toArray, List.set_cons_succ, List.set_cons_zero, Nat.reduceAdd, Nat.zero_add]
        go_wp2_with fail
        have q := HK.out (.slice (some ⟨w2.heap.size, 0, none⟩) 65537 65537) (w2.alloc (.cells M 71)) (⟨w2.heap.size, rfl, by rw [HM.out]; exact big_row w2⟩) (below_alloc _ _)
        simp only [putAll, Act.put, List.setIfInBounds_toArray, List.set_cons_succ, List.set_cons_zero, Nat.reduceAdd, Nat.zero_add] at q
        exact q
      · -- op 1
        cases ho
        try clear hd
        simp only [putAll, Act.put, List.setIfInBounds_toArray, List.set_cons_succ, List.set_cons_zero, Nat.reduceAdd, Nat.zero_add]
        go_wp2_with fail
        refine (Ls.ten w2).mono ?_
        rintro e w3 ⟨rfl, b3⟩
        go_wp2_with fail
        have q := HK.out (.agg tenS.cells) w3 (rfl) (b3)
        simp only [putAll, Act.put, List.setIfInBounds_toArray, List.set_cons_succ, List.set_cons_zero, Nat.reduceAdd, Nat.zero_add] at q
        exact q
      · -- op 2
        have h1 : v 1 = .agg tenS.cells := hd 1 (by kernel_rfl)
        obtain ⟨ba, ha, hra⟩ : ∃ b, v 0 = .slice (some ⟨b, 0, none⟩) 65537 65537 ∧ RowAt 6 Gap.f w2 (some ⟨b, 0, none⟩) bigL := hd 0 (by kernel_rfl)
        have hq := Ls.best_bad (-1) (some ⟨ba, 0, none⟩) bigL 65537 tenS w2 (by rw [bigL_len]; decide) hra 4 ne7.out (by decide)
        rw [bigL_len] at hq
        have HQ := Lib.hid hq
        clear hq hra
        cases ho
        try clear hd
        simp only [putAll, Act.put, List.setIfInBounds_toArray, List.set_cons_succ, List.set_cons_zero, Nat.reduceAdd, Nat.zero_add, h1, ha]
        go_wp2_with fail
        refine HQ.out.mono ?_
        rintro e w3 ⟨rfl, b3⟩
        go_wp2_with fail
        have q := HK.out (.tuple #[.slice none 0 0, .int .i64 0, .int .i64 4]) w3 (⟨_, _, rfl⟩) (b3)
        simp only [putAll, Act.put, List.setIfInBounds_toArray, List.set_cons_succ, List.set_cons_zero, Nat.reduceAdd, Nat.zero_add, h1, ha] at q
        exact q
      · -- op 3
        obtain ⟨tx, tc, ht⟩ : ∃ x c, v 2 = .tuple #[x, .int .i64 c, .int .i64 4] := hd 2 (by kernel_rfl)
        cases ho
        try clear hd
        simp only [putAll, Act.put, List.setIfInBounds_toArray, List.set_cons_succ, List.set_cons_zero, Nat.reduceAdd, Nat.zero_add, ht]
        go_wp2_with fail
        have q := HK.out (.tuple #[tx, .int .i64 tc, .int .i64 4]) w2 (⟨_, _, rfl⟩) (Below.refl _ _)
        simp only [putAll, Act.put, List.setIfInBounds_toArray, List.set_cons_succ, List.set_cons_zero, Nat.reduceAdd, Nat.zero_add, ht] at q
        exact q
      · -- op 4
        obtain ⟨tx, tc, ht⟩ : ∃ x c, v 3 = .tuple #[x, .int .i64 c, .int .i64 4] := hd 3 (by kernel_rfl)
        cases ho
        try clear hd
        simp only [putAll, Act.put, List.setIfInBounds_toArray, List.set_cons_succ, List.set_cons_zero, Nat.reduceAdd, Nat.zero_add, ht]
        go_wp2_with fail
        have q := HK.out (tx) w2 (trivial) (Below.refl _ _)
        simp only [putAll, Act.put, List.setIfInBounds_toArray, List.set_cons_succ, List.set_cons_zero, Nat.reduceAdd, Nat.zero_add, ht] at q
        exact q
      · -- op 5
        obtain ⟨tx, tc, ht⟩ : ∃ x c, v 3 = .tuple #[x, .int .i64 c, .int .i64 4] := hd 3 (by kernel_rfl)
        cases ho
        try clear hd
        simp only [putAll, Act.put, List.setIfInBounds_toArray, List.set_cons_succ, List.set_cons_zero, Nat.reduceAdd, Nat.zero_add, ht]
        go_wp2_with fail
        have q := HK.out (.int .i64 tc) w2 (trivial) (Below.refl _ _)
        simp only [putAll, Act.put, List.setIfInBounds_toArray, List.set_cons_succ, List.set_cons_zero, Nat.reduceAdd, Nat.zero_add, ht] at q
        exact q
      · -- op 6
        obtain ⟨tx, tc, ht⟩ : ∃ x c, v 3 = .tuple #[x, .int .i64 c, .int .i64 4] := hd 3 (by kernel_rfl)
        cases ho
        try clear hd
        simp only [putAll, Act.put, List.setIfInBounds_toArray, List.set_cons_succ, List.set_cons_zero, Nat.reduceAdd, Nat.zero_add, ht]
        go_wp2_with fail
        have q := HK.out (.int .i64 4) w2 (rfl) (Below.refl _ _)
        simp only [putAll, Act.put, List.setIfInBounds_toArray, List.set_cons_succ, List.set_cons_zero, Nat.reduceAdd, Nat.zero_add, ht] at q
        exact q
      · -- op 7
        cases ho
        try clear hd
        simp only [putAll, Act.put, List.setIfInBounds_toArray, List.set_cons_succ, List.set_cons_zero, Nat.reduceAdd, Nat.zero_add]
        go_wp2_with fail
        have q := HK.out (v 4) w2 (trivial) (Below.refl _ _)
        simp only [putAll, Act.put, List.setIfInBounds_toArray, List.set_cons_succ, List.set_cons_zero, Nat.reduceAdd, Nat.zero_add] at q
        exact q
      · -- op 8
        cases ho
        try clear hd
        simp only [putAll, Act.put, List.setIfInBounds_toArray, List.set_cons_succ, List.set_cons_zero, Nat.reduceAdd, Nat.zero_add]
        go_wp2_with fail
        have q := HK.out (v 5) w2 (trivial) (Below.refl _ _)
        simp only [putAll, Act.put, List.setIfInBounds_toArray, List.set_cons_succ, List.set_cons_zero, Nat.reduceAdd, Nat.zero_add] at q
        exact q
      · -- op 9
        have h6 : v 6 = .int .i64 4 := hd 6 (by kernel_rfl)
        cases ho
        try clear hd
        simp only [putAll, Act.put, List.setIfInBounds_toArray, List.set_cons_succ, List.set_cons_zero, Nat.reduceAdd, Nat.zero_add, h6]
        go_wp2_with fail
        have q := HK.out (.int .i64 4) w2 (rfl) (Below.refl _ _)
        simp only [putAll, Act.put, List.setIfInBounds_toArray, List.set_cons_succ, List.set_cons_zero, Nat.reduceAdd, Nat.zero_add, h6] at q
        exact q
    -- END7
    intro v7 w10 hb2 hS
    have e0 : v7 9 = .int .i64 4 := hS 9 (by decide)
    have HB8 := Lib.hid (HB7.out.trans (hb2.mono HB7.out.size))
    have HGy := Lib.hid (heap_below hb2 HGx.out hGx)
    have hGy := (Array.getElem?_eq_some_iff.1 HGy.out).1
    clear hS hb2 HB7 HGx hGx
    have HGx := HGy
    have hGx := hGy
    clear HGy hGy
    simp only [putAll, Act.put, List.setIfInBounds_toArray, List.set_cons_succ, List.set_cons_zero, Nat.reduceAdd, Nat.zero_add, e0]
    clear e0
    go_wp2_with fail
    refine wp_region_each (holdsAt kinds8) (by kernel_rfl) (by kernel_rfl) (holdsAt_mono kinds8) ?_ ?_
    · clear HB8
      intro i o ho v w2 hb2 hd K hK
      have hi : i < 9 := (List.getElem?_eq_some_iff.1 ho).1
      have HK := Lib.hid hK
      clear hK
      rcases lt9 i hi with rfl | rfl | rfl | rfl | rfl | rfl | rfl | rfl | rfl
    -- REGION8
      · -- op 0
        have hg := heap_below hb2 HGx.out hGx
        have hc : ∀ j x, gFT.cells[j]? = some x → w2.cell? ⟨w1.heap.size, j, none⟩ = some x := fun j x hx => by simp [World.cell?, hg, hx]
        have c0 := hc 0 _ rfl
        have c1 := hc 1 _ rfl
        have c2 := hc 2 _ rfl
        have c3 := hc 3 _ rfl
        have c4 := hc 4 _ rfl
        have c5 := hc 5 _ rfl
        clear hg hc
        cases ho
        try clear hd
        simp only [putAll, Act.put, List.setIfInBounds_toArray, List.set_cons_succ, List.set_cons_zero, Nat.reduceAdd, Nat.zero_add]
        go_wp2_with fail
        have q := HK.out (.agg gFT.cells) w2 (rfl) (Below.refl _ _)
        simp only [putAll, Act.put, List.setIfInBounds_toArray, List.set_cons_succ, List.set_cons_zero, Nat.reduceAdd, Nat.zero_add] at q
        exact q
      · -- op 1
        have h0 : v 0 = .agg (gapOf false true).cells := hd 0 (by kernel_rfl)
        cases ho
        try clear hd
        simp only [putAll, Act.put, List.setIfInBounds_toArray, List.set_cons_succ, List.set_cons_zero, Nat.reduceAdd, Nat.zero_add, h0]
        go_wp2_with fail
        have q := HK.out (.slice (some ⟨w2.heap.size, 0, none⟩) 1 1) (w2.alloc (.cells (([gFT] : List Gap).flatMap Gap.f).toArray 71)) (made_gaps w2 [gFT]) (below_alloc _ _)
        simp only [putAll, Act.put, List.setIfInBounds_toArray, List.set_cons_succ, List.set_cons_zero, Nat.reduceAdd, Nat.zero_add, h0] at q
        exact q
      · -- op 2
        cases ho
        try clear hd
        simp only [putAll, Act.put, List.setIfInBounds_toArray, List.set_cons_succ, List.set_cons_zero, Nat.reduceAdd, Nat.zero_add]
        go_wp2_with fail
        refine (Ls.ten w2).mono ?_
        rintro e w3 ⟨rfl, b3⟩
        go_wp2_with fail
        have q := HK.out (.agg tenS.cells) w3 (rfl) (b3)
        simp only [putAll, Act.put, List.setIfInBounds_toArray, List.set_cons_succ, List.set_cons_zero, Nat.reduceAdd, Nat.zero_add] at q
        exact q
      · -- op 3
        have h2 : v 2 = .agg tenS.cells := hd 2 (by kernel_rfl)
        obtain ⟨ba, ha, hga⟩ : ∃ b, v 1 = .slice (some ⟨b, 0, none⟩) 1 1 ∧ w2.heap[b]? = some (.cells (([gFT] : List Gap).flatMap Gap.f).toArray 71 (0, 0)) := hd 1 (by kernel_rfl)
        have hq := Sr.costAll 4 (some ⟨ba, 0, none⟩) none [gFT] [] 1 0 tenS w2 (by simp) (by simp) (row_gaps hga) (.inl rfl)
        rw [nc8.out] at hq
        have HQ := Lib.hid hq
        clear hq hga
        cases ho
        try clear hd
        simp only [putAll, Act.put, List.setIfInBounds_toArray, List.set_cons_succ, List.set_cons_zero, Nat.reduceAdd, Nat.zero_add, h2, ha]
        go_wp2_with fail
        refine HQ.out.mono ?_
        rintro e w3 ⟨rfl, b3⟩
        go_wp2_with fail
        have q := HK.out (.tuple #[.int .i64 0, .int .i64 2]) w3 (rfl) (b3)
        simp only [putAll, Act.put, List.setIfInBounds_toArray, List.set_cons_succ, List.set_cons_zero, Nat.reduceAdd, Nat.zero_add, h2, ha] at q
        exact q
      · -- op 4
        have h3 : v 3 = .tuple #[.int .i64 0, .int .i64 2] := hd 3 (by kernel_rfl)
        cases ho
        try clear hd
        simp only [putAll, Act.put, List.setIfInBounds_toArray, List.set_cons_succ, List.set_cons_zero, Nat.reduceAdd, Nat.zero_add, h3]
        go_wp2_with fail
        have q := HK.out (.tuple #[.int .i64 0, .int .i64 2]) w2 (rfl) (Below.refl _ _)
        simp only [putAll, Act.put, List.setIfInBounds_toArray, List.set_cons_succ, List.set_cons_zero, Nat.reduceAdd, Nat.zero_add, h3] at q
        exact q
      · -- op 5
        have h4 : v 4 = .tuple #[.int .i64 0, .int .i64 2] := hd 4 (by kernel_rfl)
        cases ho
        try clear hd
        simp only [putAll, Act.put, List.setIfInBounds_toArray, List.set_cons_succ, List.set_cons_zero, Nat.reduceAdd, Nat.zero_add, h4]
        go_wp2_with fail
        have q := HK.out (.int .i64 0) w2 (rfl) (Below.refl _ _)
        simp only [putAll, Act.put, List.setIfInBounds_toArray, List.set_cons_succ, List.set_cons_zero, Nat.reduceAdd, Nat.zero_add, h4] at q
        exact q
      · -- op 6
        have h4 : v 4 = .tuple #[.int .i64 0, .int .i64 2] := hd 4 (by kernel_rfl)
        cases ho
        try clear hd
        simp only [putAll, Act.put, List.setIfInBounds_toArray, List.set_cons_succ, List.set_cons_zero, Nat.reduceAdd, Nat.zero_add, h4]
        go_wp2_with fail
        have q := HK.out (.int .i64 2) w2 (rfl) (Below.refl _ _)
        simp only [putAll, Act.put, List.setIfInBounds_toArray, List.set_cons_succ, List.set_cons_zero, Nat.reduceAdd, Nat.zero_add, h4] at q
        exact q
      · -- op 7
        have h5 : v 5 = .int .i64 0 := hd 5 (by kernel_rfl)
        cases ho
        try clear hd
        simp only [putAll, Act.put, List.setIfInBounds_toArray, List.set_cons_succ, List.set_cons_zero, Nat.reduceAdd, Nat.zero_add, h5]
        go_wp2_with fail
        have q := HK.out (.int .i64 0) w2 (rfl) (Below.refl _ _)
        simp only [putAll, Act.put, List.setIfInBounds_toArray, List.set_cons_succ, List.set_cons_zero, Nat.reduceAdd, Nat.zero_add, h5] at q
        exact q
      · -- op 8
        have h6 : v 6 = .int .i64 2 := hd 6 (by kernel_rfl)
        cases ho
        try clear hd
        simp only [putAll, Act.put, List.setIfInBounds_toArray, List.set_cons_succ, List.set_cons_zero, Nat.reduceAdd, Nat.zero_add, h6]
        go_wp2_with fail
        have q := HK.out (.int .i64 2) w2 (rfl) (Below.refl _ _)
        simp only [putAll, Act.put, List.setIfInBounds_toArray, List.set_cons_succ, List.set_cons_zero, Nat.reduceAdd, Nat.zero_add, h6] at q
        exact q
    -- END8
    intro v8 w11 hb2 hS
    have e0 : v8 8 = .int .i64 2 := hS 8 (by decide)
    have HB9 := Lib.hid (HB8.out.trans (hb2.mono HB8.out.size))
    have HGy := Lib.hid (heap_below hb2 HGx.out hGx)
    clear hS hb2 HB8 HGx hGx
    simp only [putAll, Act.put, List.setIfInBounds_toArray, List.set_cons_succ, List.set_cons_zero, Nat.reduceAdd, Nat.zero_add, e0]
    clear e0
    go_wp2_with fail
    have HBo := HB9
    clear HB9
    have HB9 := Lib.hid (Below.refl w11.heap.size w11)
    refine (Ls.gap true true w11).mono ?_
    rintro e w12 ⟨rfl, bg⟩
    have HBg := Lib.hid (HB9.out.trans (bg.mono HB9.out.size))
    clear bg
    go_wp2_with fail
    obtain ⟨Y9, hY9⟩ : ∃ Y, Y = (w12.alloc (.cells ([gapOf true true].flatMap Gap.f).toArray 71)).alloc (.cells (([false] : List Bool).map Value.bool).toArray 4) := ⟨_, rfl⟩
    have hg1 : Y9.heap[w12.heap.size]? = some (.cells (([gapOf true true] : List Gap).flatMap Gap.f).toArray 71 (0, 0)) := by
      rw [hY9, Lib.alloc_old _ _ _ (by simp)]; exact heap_alloc_new _ _
    have hg2 : BoolBlk Y9 (w12.heap.size + 1) [false] := by
      rw [hY9]
      have := heap_alloc_new (w12.alloc (.cells ([gapOf true true].flatMap Gap.f).toArray 71)) (.cells (([false] : List Bool).map Value.bool).toArray 4)
      unfold BoolBlk
      simpa using this
    have HBy : Hid (Below w11.heap.size w11 Y9) := Lib.hid (by rw [hY9]; exact (HBg.out.alloc HBg.out.size _).alloc (by have := HBg.out.size; simp; omega) _)
    have HG1 := Lib.hid hg1
    have HG2 := Lib.hid hg2
    refine (show Calls Try.prog 42 #[] Y9 _ from ?_) |> (fun h => by rw [hY9] at h; exact h)
    clear hg1 hg2 hY9 HBg HB9
    refine (Ls.ten Y9).mono ?_
    rintro e w13 ⟨rfl, bt⟩
    have hq := Sr.costAll 4 (some ⟨w12.heap.size, 0, none⟩) (some ⟨w12.heap.size + 1, 0, none⟩) [gapOf true true] [false] 1 1 tenS w13 (by simp) (by simp) (row_gaps (heap_below bt HG1.out (Array.getElem?_eq_some_iff.1 HG1.out).1)) (BoolBlk.rowAt (show BoolBlk w13 _ _ from heap_below bt HG2.out HG2.out.lt))
    rw [nc9.out] at hq
    have HQ := Lib.hid hq
    have HBt := Lib.hid (HBy.out.trans (bt.mono HBy.out.size))
    clear hq bt HG1 HG2 HBy
    go_wp2_with fail
    refine HQ.out.mono ?_
    rintro e w14 ⟨rfl, bc⟩
    have HB10 := Lib.hid (HBt.out.trans (bc.mono HBt.out.size))
    clear bc HQ HBt
    go_wp2_with fail
    refine (Ls.gap false false w14).mono ?_
    rintro e w16 ⟨rfl, bg⟩
    have HBg := Lib.hid (HB10.out.trans (bg.mono HB10.out.size))
    clear bg
    go_wp2_with fail
    obtain ⟨Y10, hY10⟩ : ∃ Y, Y = (w16.alloc (.cells ([gapOf false false].flatMap Gap.f).toArray 71)).alloc (.cells (([true] : List Bool).map Value.bool).toArray 4) := ⟨_, rfl⟩
    have hg1 : Y10.heap[w16.heap.size]? = some (.cells (([gapOf false false] : List Gap).flatMap Gap.f).toArray 71 (0, 0)) := by
      rw [hY10, Lib.alloc_old _ _ _ (by simp)]; exact heap_alloc_new _ _
    have hg2 : BoolBlk Y10 (w16.heap.size + 1) [true] := by
      rw [hY10]
      have := heap_alloc_new (w16.alloc (.cells ([gapOf false false].flatMap Gap.f).toArray 71)) (.cells (([true] : List Bool).map Value.bool).toArray 4)
      unfold BoolBlk
      simpa using this
    have HBy : Hid (Below w11.heap.size w11 Y10) := Lib.hid (by rw [hY10]; exact (HBg.out.alloc HBg.out.size _).alloc (by have := HBg.out.size; simp; omega) _)
    have HG1 := Lib.hid hg1
    have HG2 := Lib.hid hg2
    refine (show Calls Try.prog 42 #[] Y10 _ from ?_) |> (fun h => by rw [hY10] at h; exact h)
    clear hg1 hg2 hY10 HBg HB10
    refine (Ls.ten Y10).mono ?_
    rintro e w17 ⟨rfl, bt⟩
    have hq := Sr.costAll 4 (some ⟨w16.heap.size, 0, none⟩) (some ⟨w16.heap.size + 1, 0, none⟩) [gapOf false false] [true] 1 1 tenS w17 (by simp) (by simp) (row_gaps (heap_below bt HG1.out (Array.getElem?_eq_some_iff.1 HG1.out).1)) (BoolBlk.rowAt (show BoolBlk w17 _ _ from heap_below bt HG2.out HG2.out.lt))
    rw [nc10.out] at hq
    have HQ := Lib.hid hq
    have HBt := Lib.hid (HBy.out.trans (bt.mono HBy.out.size))
    clear hq bt HG1 HG2 HBy
    go_wp2_with fail
    refine HQ.out.mono ?_
    rintro e w18 ⟨rfl, bc⟩
    have HB11 := Lib.hid (HBt.out.trans (bc.mono HBt.out.size))
    clear bc HQ HBt
    go_wp2_with fail
    have HB12 := Lib.hid (HBo.out.trans (HB11.out.mono HBo.out.size))
    have HGx := Lib.hid (heap_below HB11.out HGy.out (Array.getElem?_eq_some_iff.1 HGy.out).1)
    have hGx := (Array.getElem?_eq_some_iff.1 HGx.out).1
    clear HB11 HBo HGy
    refine wp_region_each (holdsAt kinds11) (by kernel_rfl) (by kernel_rfl) (holdsAt_mono kinds11) ?_ ?_
    · clear HB12
      intro i o ho v w2 hb2 hd K hK
      have hi : i < 11 := (List.getElem?_eq_some_iff.1 ho).1
      have HK := Lib.hid hK
      clear hK
      rcases lt11 i hi with rfl | rfl | rfl | rfl | rfl | rfl | rfl | rfl | rfl | rfl | rfl
    -- REGION11
      · -- op 0
        have hg := heap_below hb2 HGx.out hGx
        have hc : ∀ j x, gFT.cells[j]? = some x → w2.cell? ⟨w1.heap.size, j, none⟩ = some x := fun j x hx => by simp [World.cell?, hg, hx]
        have c0 := hc 0 _ rfl
        have c1 := hc 1 _ rfl
        have c2 := hc 2 _ rfl
        have c3 := hc 3 _ rfl
        have c4 := hc 4 _ rfl
        have c5 := hc 5 _ rfl
        clear hg hc
        cases ho
        try clear hd
        simp only [putAll, Act.put, List.setIfInBounds_toArray, List.set_cons_succ, List.set_cons_zero, Nat.reduceAdd, Nat.zero_add]
        go_wp2_with fail
        have q := HK.out (.agg gFT.cells) w2 (rfl) (Below.refl _ _)
        simp only [putAll, Act.put, List.setIfInBounds_toArray, List.set_cons_succ, List.set_cons_zero, Nat.reduceAdd, Nat.zero_add] at q
        exact q
      · -- op 1
        have hg := heap_below hb2 HGx.out hGx
        have hc : ∀ j x, gFT.cells[j]? = some x → w2.cell? ⟨w1.heap.size, j, none⟩ = some x := fun j x hx => by simp [World.cell?, hg, hx]
        have c0 := hc 0 _ rfl
        have c1 := hc 1 _ rfl
        have c2 := hc 2 _ rfl
        have c3 := hc 3 _ rfl
        have c4 := hc 4 _ rfl
        have c5 := hc 5 _ rfl
        clear hg hc
        cases ho
        try clear hd
        simp only [putAll, Act.put, List.setIfInBounds_toArray, List.set_cons_succ, List.set_cons_zero, Nat.reduceAdd, Nat.zero_add]
        go_wp2_with fail
        have q := HK.out (.agg gFT.cells) w2 (rfl) (Below.refl _ _)
        simp only [putAll, Act.put, List.setIfInBounds_toArray, List.set_cons_succ, List.set_cons_zero, Nat.reduceAdd, Nat.zero_add] at q
        exact q
      · -- op 2
        have h0 : v 0 = .agg (gapOf false true).cells := hd 0 (by kernel_rfl)
        have h1 : v 1 = .agg (gapOf false true).cells := hd 1 (by kernel_rfl)
        cases ho
        try clear hd
        simp only [putAll, Act.put, List.setIfInBounds_toArray, List.set_cons_succ, List.set_cons_zero, Nat.reduceAdd, Nat.zero_add, h0, h1]
        go_wp2_with fail
        have q := HK.out (.slice (some ⟨w2.heap.size, 0, none⟩) 2 2) (w2.alloc (.cells (([gFT, gFT] : List Gap).flatMap Gap.f).toArray 71)) (made_gaps w2 [gFT, gFT]) (below_alloc _ _)
        simp only [putAll, Act.put, List.setIfInBounds_toArray, List.set_cons_succ, List.set_cons_zero, Nat.reduceAdd, Nat.zero_add, h0, h1] at q
        exact q
      · -- op 3
        cases ho
        try clear hd
        simp only [putAll, Act.put, List.setIfInBounds_toArray, List.set_cons_succ, List.set_cons_zero, Nat.reduceAdd, Nat.zero_add]
        go_wp2_with fail
        have q := HK.out (.slice (some ⟨w2.heap.size, 0, none⟩) 2 2) (w2.alloc (.cells (([true, false] : List Bool).map Value.bool).toArray 4)) (made_bools w2 [true, false]) (below_alloc _ _)
        simp only [putAll, Act.put, List.setIfInBounds_toArray, List.set_cons_succ, List.set_cons_zero, Nat.reduceAdd, Nat.zero_add] at q
        exact q
      · -- op 4
        cases ho
        try clear hd
        simp only [putAll, Act.put, List.setIfInBounds_toArray, List.set_cons_succ, List.set_cons_zero, Nat.reduceAdd, Nat.zero_add]
        go_wp2_with fail
        refine (Ls.ten w2).mono ?_
        rintro e w3 ⟨rfl, b3⟩
        go_wp2_with fail
        have q := HK.out (.agg tenS.cells) w3 (rfl) (b3)
        simp only [putAll, Act.put, List.setIfInBounds_toArray, List.set_cons_succ, List.set_cons_zero, Nat.reduceAdd, Nat.zero_add] at q
        exact q
      · -- op 5
        have h4 : v 4 = .agg tenS.cells := hd 4 (by kernel_rfl)
        obtain ⟨ba, ha, hga⟩ : ∃ b, v 2 = .slice (some ⟨b, 0, none⟩) 2 2 ∧ w2.heap[b]? = some (.cells (([gFT, gFT] : List Gap).flatMap Gap.f).toArray 71 (0, 0)) := hd 2 (by kernel_rfl)
        obtain ⟨bb, hb, hgb⟩ : ∃ b, v 3 = .slice (some ⟨b, 0, none⟩) 2 2 ∧ BoolBlk w2 b [true, false] := hd 3 (by kernel_rfl)
        have hq := Sr.costAll 4 (some ⟨ba, 0, none⟩) (some ⟨bb, 0, none⟩) [gFT, gFT] [true, false] 2 2 tenS w2 (by simp) (by simp) (row_gaps hga) hgb.rowAt
        clear hgb
        rw [nc11.out] at hq
        have HQ := Lib.hid hq
        clear hq hga
        cases ho
        try clear hd
        simp only [putAll, Act.put, List.setIfInBounds_toArray, List.set_cons_succ, List.set_cons_zero, Nat.reduceAdd, Nat.zero_add, h4, ha, hb]
        go_wp2_with fail
        refine HQ.out.mono ?_
        rintro e w3 ⟨rfl, b3⟩
        go_wp2_with fail
        have q := HK.out (.tuple #[.int .i64 5, .int .i64 0]) w3 (rfl) (b3)
        simp only [putAll, Act.put, List.setIfInBounds_toArray, List.set_cons_succ, List.set_cons_zero, Nat.reduceAdd, Nat.zero_add, h4, ha, hb] at q
        exact q
      · -- op 6
        have h5 : v 5 = .tuple #[.int .i64 5, .int .i64 0] := hd 5 (by kernel_rfl)
        cases ho
        try clear hd
        simp only [putAll, Act.put, List.setIfInBounds_toArray, List.set_cons_succ, List.set_cons_zero, Nat.reduceAdd, Nat.zero_add, h5]
        go_wp2_with fail
        have q := HK.out (.tuple #[.int .i64 5, .int .i64 0]) w2 (rfl) (Below.refl _ _)
        simp only [putAll, Act.put, List.setIfInBounds_toArray, List.set_cons_succ, List.set_cons_zero, Nat.reduceAdd, Nat.zero_add, h5] at q
        exact q
      · -- op 7
        have h6 : v 6 = .tuple #[.int .i64 5, .int .i64 0] := hd 6 (by kernel_rfl)
        cases ho
        try clear hd
        simp only [putAll, Act.put, List.setIfInBounds_toArray, List.set_cons_succ, List.set_cons_zero, Nat.reduceAdd, Nat.zero_add, h6]
        go_wp2_with fail
        have q := HK.out (.int .i64 5) w2 (rfl) (Below.refl _ _)
        simp only [putAll, Act.put, List.setIfInBounds_toArray, List.set_cons_succ, List.set_cons_zero, Nat.reduceAdd, Nat.zero_add, h6] at q
        exact q
      · -- op 8
        have h6 : v 6 = .tuple #[.int .i64 5, .int .i64 0] := hd 6 (by kernel_rfl)
        cases ho
        try clear hd
        simp only [putAll, Act.put, List.setIfInBounds_toArray, List.set_cons_succ, List.set_cons_zero, Nat.reduceAdd, Nat.zero_add, h6]
        go_wp2_with fail
        have q := HK.out (.int .i64 0) w2 (rfl) (Below.refl _ _)
        simp only [putAll, Act.put, List.setIfInBounds_toArray, List.set_cons_succ, List.set_cons_zero, Nat.reduceAdd, Nat.zero_add, h6] at q
        exact q
      · -- op 9
        have h7 : v 7 = .int .i64 5 := hd 7 (by kernel_rfl)
        cases ho
        try clear hd
        simp only [putAll, Act.put, List.setIfInBounds_toArray, List.set_cons_succ, List.set_cons_zero, Nat.reduceAdd, Nat.zero_add, h7]
        go_wp2_with fail
        have q := HK.out (.int .i64 5) w2 (rfl) (Below.refl _ _)
        simp only [putAll, Act.put, List.setIfInBounds_toArray, List.set_cons_succ, List.set_cons_zero, Nat.reduceAdd, Nat.zero_add, h7] at q
        exact q
      · -- op 10
        have h8 : v 8 = .int .i64 0 := hd 8 (by kernel_rfl)
        cases ho
        try clear hd
        simp only [putAll, Act.put, List.setIfInBounds_toArray, List.set_cons_succ, List.set_cons_zero, Nat.reduceAdd, Nat.zero_add, h8]
        go_wp2_with fail
        have q := HK.out (.int .i64 0) w2 (rfl) (Below.refl _ _)
        simp only [putAll, Act.put, List.setIfInBounds_toArray, List.set_cons_succ, List.set_cons_zero, Nat.reduceAdd, Nat.zero_add, h8] at q
        exact q
    -- END11
    intro v9 w19 hb2 hS
    have e0 : v9 10 = .int .i64 0 := hS 10 (by decide)
    have e1 : v9 9 = .int .i64 5 := hS 9 (by decide)
    have HB13 := Lib.hid (HB12.out.trans (hb2.mono HB12.out.size))
    clear hS hb2 HB12 HGx hGx
    simp only [putAll, Act.put, List.setIfInBounds_toArray, List.set_cons_succ, List.set_cons_zero, Nat.reduceAdd, Nat.zero_add, e0, e1]
    clear e0 e1
    go_wp2_with fail
    go_ret
    exact ⟨rfl, HB13.out⟩
end Go.Proofs.Ytblooekephkojaa

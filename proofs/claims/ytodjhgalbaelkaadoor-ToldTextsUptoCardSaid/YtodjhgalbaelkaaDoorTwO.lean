/- told's laws: few, alive, great. -/
import Derived.Test.YtodjhgalbaelkaaDoorTwN
namespace Go.Proofs.YtodjhgalbaelkaaDoor
open Go.RowKit Go.BigFrame Go.Shelf
set_option linter.unusedVariables false

def fewE : Edi := ⟨1, 3, ⟨#[120, 10, 121]⟩⟩
def fewL (a : Option Addr) : List Chg := [⟨⟨#[97, 46, 99]⟩, a, 1, [fewE]⟩]
theorem few_ok (a : Option Addr) : okCs none (fewL a) = true := by
  show okCs none [⟨⟨#[97, 46, 99]⟩, none, 1, [fewE]⟩] = true
  decide
theorem few_text (a : Option Addr) : textB (fewL a) = [61, 32, 97, 46, 99, 10, 64, 32, 50, 32, 50, 32, 50, 10, 43, 120, 10, 43, 121, 10, 45, 10] := by
  have h1 : Lib.itoa 2 = [50] := by simp [Lib.itoa, Lib.decDigits]
  have h2 : lines (dl ⟨#[120, 10, 121]⟩) = [[120, 10], [121]] := by decide
  have h3 : dl (⟨#[97, 46, 99]⟩ : ByteArray) = [97, 46, 99] := rfl
  have h4 : ends (dl ⟨#[120, 10, 121]⟩) = false := by decide
  have h5 : (⟨#[120, 10, 121]⟩ : ByteArray).size ≠ 0 := by decide
  simp only [textB, fewL, textC, eqB, fewE, tellB, List.flatMap_cons, List.flatMap_nil, h2, h3, h4]
  rw [if_pos ⟨h5, trivial⟩]
  simp [h1]
set_option maxRecDepth 100000 in
theorem Td.few (w : World) : Calls Tryd.prog 16 #[] w fun e w' => e = .returned (.slice (some ⟨w.heap.size + 1, 0, none⟩) 1 1) ∧
    w' = (w.alloc (.cells #[.int .i64 1, .int .i64 3, .string ⟨#[120, 10, 121]⟩] 50)).alloc (.cells #[.string ⟨#[97, 46, 99]⟩, .slice (some ⟨w.heap.size, 0, none⟩) 1 1] 48) := by
  go_enter Tryd.func16, Tryd.ntmps16
  go_wp2
  go_ret
  exact ⟨rfl, rfl⟩
set_option maxRecDepth 100000 in
theorem Td.alive (w : World) (ht : Tab w) : Calls Tryd.prog 7 #[] w fun e w' => e = .returned (.bool true) ∧ Below w.heap.size w w' := by
  obtain ⟨W, hW⟩ : ∃ W, W = (w.alloc (.cells #[.int .i64 1, .int .i64 3, .string ⟨#[120, 10, 121]⟩] 50)).alloc (.cells #[.string ⟨#[97, 46, 99]⟩, .slice (some ⟨w.heap.size, 0, none⟩) 1 1] 48) := ⟨_, rfl⟩
  have hb : Below w.heap.size w W := by rw [hW]; exact ((Below.refl _ _).alloc (Nat.le_refl _) _).alloc (by simp) _
  have h1 : W.heap[w.heap.size]? = some (.cells #[.int .i64 1, .int .i64 3, .string ⟨#[120, 10, 121]⟩] 50 (0, 0)) := by
    rw [hW, Below.heap_alloc _ _ _ (by simp)]; exact heap_alloc_new _ _
  have h2 : W.heap[w.heap.size + 1]? = some (.cells #[.string ⟨#[97, 46, 99]⟩, .slice (some ⟨w.heap.size, 0, none⟩) 1 1] 48 (0, 0)) := by
    rw [hW]
    have := heap_alloc_new (w.alloc (.cells #[.int .i64 1, .int .i64 3, .string ⟨#[120, 10, 121]⟩] 50)) (.cells #[.string ⟨#[97, 46, 99]⟩, .slice (some ⟨w.heap.size, 0, none⟩) 1 1] 48)
    simpa using this
  have hs : W.heap.size = w.heap.size + 2 := by rw [hW]; simp
  have hch : ChsAt W (some ⟨w.heap.size + 1, 0, none⟩) (fewL (some ⟨w.heap.size, 0, none⟩)) := by
    refine ⟨.inr ⟨_, _, rfl, by omega, fun i hi => ?_⟩, fun c hc => ?_⟩
    · have : i = 0 := by simp [fewL] at hi; exact hi
      subst this
      exact CellsAt.of_heap h2
    · simp only [fewL, List.mem_singleton] at hc
      subst hc
      refine .inr ⟨_, _, rfl, by omega, fun i hi => ?_⟩
      have : i = 0 := by simp at hi; exact hi
      subst this
      exact CellsAt.of_heap h1
  have hbnd : Bnd (fewL (some ⟨w.heap.size, 0, none⟩)) := by
    refine ⟨by simp [fewL], fun c hc => ?_, fun c hc => ?_, fun c hc x hx => ?_⟩
    all_goals (simp only [fewL, List.mem_singleton] at hc; subst hc)
    · show (3 : Nat) ≤ 2000000; omega
    · simp
    · simp only [List.mem_singleton] at hx; subst hx; decide
  have htx : textV (fewL (some ⟨w.heap.size, 0, none⟩)) = .tuple #[.string ⟨#[61, 32, 97, 46, 99, 10, 64, 32, 50, 32, 50, 32, 50, 10, 43, 120, 10, 43, 121, 10, 45, 10]⟩, .int .i64 0] := by
    unfold textV; rw [if_pos (few_ok _), few_text]; rfl
  have ht2 := ht.on hb
  have HW := Lib.hid hW
  have HB := Lib.hid hb
  have HCH := Lib.hid hch
  have HBN := Lib.hid hbnd
  have HTX := Lib.hid htx
  have HT2 := Lib.hid ht2
  clear hW hb h1 h2 hch hbnd htx ht ht2
  go_enter Tryd.func7, Tryd.ntmps7
  go_wp2_with fail
  refine (Td.few w).mono ?_
  rintro e w1 ⟨rfl, rfl⟩
  rw [← HW.out]
  go_wp2_with fail
  refine (Td.text _ 1 (fewL (some ⟨w.heap.size, 0, none⟩)) W HCH.out HBN.out (by show (8 : Nat) ≤ 20000000; omega) HT2.out).mono ?_
  rintro e w2 ⟨rfl, b2⟩
  rw [HTX.out]
  have B2 := Lib.hid b2
  clear b2
  go_wp2_with fail
  go_ret
  exact ⟨rfl, HB.out.trans (B2.out.mono (by omega))⟩

set_option maxRecDepth 100000 in
set_option maxHeartbeats 4000000 in
theorem Td.great (a : Option Addr) (c : Nat) (l : List Chg) (w : World) (hr : ChsAt w a l) (hl : l.length ≤ 2000000) (hb : ∀ c ∈ l, c.es.length ≤ 2000000) :
    Calls Tryd.prog 8 #[.slice a l.length c] w fun e w' => (∃ b, e = .returned (.bool b)) ∧ Below w.heap.size w w' := by
  have HROW := Lib.hid hr
  have HB := Lib.hid hb
  clear hr hb
  go_enter Tryd.func8, Tryd.ntmps8
  go_wp2_with fail
  go_loopw [3, 4] (fun s3 s4 wr => ∃ (n : Int) (i : Nat), i ≤ l.length ∧ s3 = .int .i64 n ∧ s4 = .int .i64 i ∧ Below w.heap.size w wr) (fun _ s4 _ => l.length - (intOf s4).toNat)
  case atStart => exact ⟨0, 0, by omega, rfl, rfl, Below.refl _ _⟩
  case round =>
    obtain ⟨n, i, hi, rfl, rfl, hbel⟩ := hrel
    have HBEL := Lib.hid hbel
    by_cases hlt : i < l.length
    · obtain ⟨bb, off, rfl, hbw, hcc⟩ := HROW.out.1.at (by intro e; simp [e] at hlt)
      obtain ⟨g0, g1⟩ := Chg.at (w := wr) (b := bb) (o := off + i * 2) (c := l[i]) ((hcc i hlt).below hbel hbw)
      have hel := HB.out l[i] (List.getElem_mem hlt)
      have hed := HROW.out.2 l[i] (List.getElem_mem hlt)
      have HED := Lib.hid hed
      have HCC := Lib.hid (fun (u : World) (hu : Below w.heap.size w u) => Chg.at (w := u) (b := bb) (o := off + i * 2) (c := l[i]) ((hcc i hlt).below hu hbw))
      clear hcc hed hbel
      generalize l[i] = x at *
      obtain ⟨xn, xa, xc, xes⟩ := x
      simp only at *
      go_wp2_with fail
      go_loopw [3, 5] (fun s3 s5 wq => ∃ (n : Int) (j : Nat), j ≤ xes.length ∧ s3 = .int .i64 n ∧ s5 = .int .i64 j ∧ Below w.heap.size w wq) (fun _ s5 _ => xes.length - (intOf s5).toNat)
      case atStart => exact ⟨_, 0, by omega, rfl, rfl, HBEL.out⟩
      case round =>
        clear g0 g1
        obtain ⟨m, j, hj, rfl, rfl, hbel⟩ := hrel
        obtain ⟨g0, g1⟩ := HCC.out _ hbel
        have HBEL := Lib.hid hbel
        by_cases hjl : j < xes.length
        · obtain ⟨eb, eo, rfl, heb, hec⟩ := HED.out.at (by intro e; simp [e] at hjl)
          obtain ⟨q0, q1, q2⟩ := Edi.at (b := eb) (o := eo + j * 3) (x := xes[j]) ((hec j hjl).below hbel heb)
          clear hec hbel q0 q1 g0
          generalize xes[j] = y at *
          obtain ⟨ya, yb, yt⟩ := y
          simp only at *
          go_wp2_with fail
          go_roundw
          case rel => exact ⟨_, j + 1, by omega, rfl, by go_num, HBEL.out⟩
          case measure => simp [intOf]; omega
        · obtain rfl : j = xes.length := by omega
          clear hbel g0
          go_wp2_with fail
          go_roundw
          case rel => exact ⟨_, i + 1, by omega, rfl, by go_num, HBEL.out⟩
          case measure => simp [intOf]; omega
    · obtain rfl : i = l.length := by omega
      clear hbel
      go_wp2_with fail
      go_ret
      exact ⟨⟨_, rfl⟩, HBEL.out⟩
end Go.Proofs.YtodjhgalbaelkaaDoor

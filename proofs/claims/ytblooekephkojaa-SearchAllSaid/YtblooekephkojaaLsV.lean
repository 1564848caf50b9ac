/- The reference's Best: all ways, one by one. -/
import Derived.Test.YtblooekephkojaaLsU
import Derived.Test.YtblooekephkojaaLsS
import Derived.Test.YtblooekephkojaaSrF
namespace Go.Proofs.Ytblooekephkojaa
open Go.RowKit Go.BigFrame Go.Shelf
set_option linter.unusedVariables false

def wcost (s : Sty) (first : Int) (l : List Gap) (n : Nat) : Int := cost s first (l.zip (digs l n).1)
theorem Ls.wayCost (first : Int) (ga : Option Addr) (l : List Gap) (gc n b : Nat) (s : Sty) (w : World) (hz : chk first l s = 0) (hr : RowAt 6 Gap.f w ga l) (hY : BoolBlk w b (digs l n).1) :
    Calls Try.prog 18 #[.int .i64 first, .slice ga l.length gc, .slice (some ⟨b, 0, none⟩) l.length l.length, .agg s.cells] w fun e w' => e = .returned (.tuple #[.int .i64 (wcost s first l n), .bool true]) ∧ Below w.heap.size w w' := by
  obtain ⟨hS, hL, hF0, hF1, hV⟩ := chk_ok hz
  have hq := Sr.refCost_c first ga (some ⟨b, 0, none⟩) l (digs l n).1 gc l.length s w hL hr hY.rowAt hS hF0 hF1 hV (digs_len l n)
  rw [digs_fit l n hV, digs_len, if_pos rfl] at hq
  exact hq

theorem ByStyle.on {w w1 w2 : World} {s : Sty} (h : w1.heap[w.heap.size]? = some (.cells s.cells 27 (0, 0))) (hb : Below w1.heap.size w1 w2) : w2.heap[w.heap.size]? = some (.cells s.cells 27 (0, 0)) :=
  heap_below hb h (Array.getElem?_eq_some_iff.1 h).1

set_option maxRecDepth 100000 in
set_option maxHeartbeats 4000000 in
theorem Ls.refBest (first : Int) (ga : Option Addr) (l : List Gap) (gc : Nat) (s : Sty) (w : World) (hF : fr l ≤ 12) (hr : RowAt 6 Gap.f w ga l) (hz : chk first l s = 0) :
    Calls Try.prog 37 #[.int .i64 first, .slice ga l.length gc, .agg s.cells] w (LongOk first l s w) := by
  obtain ⟨hS, hL, hF0, hF1, hV⟩ := chk_ok hz
  obtain ⟨W, hW⟩ : ∃ W, W = w.alloc (.cells s.cells 27) := ⟨_, rfl⟩
  have hst : W.heap[w.heap.size]? = some (.cells s.cells 27 (0, 0)) := by rw [hW]; exact heap_alloc_new _ _
  have hB : Below w.heap.size w W := by rw [hW]; exact below_alloc _ _
  have HZ := Lib.hid hz
  have HV := Lib.hid hV
  have HR := Lib.hid hr
  have HW := Lib.hid hW
  have HS := Lib.hid hst
  have HB := Lib.hid hB
  obtain ⟨F, hFe⟩ : ∃ F, F = fr l := ⟨_, rfl⟩
  have HF := Lib.hid hFe
  rw [← hFe] at hF
  clear hz hV hr hW hst hB hFe hS
  go_enter Try.func37, Try.ntmps37
  go_wp2_with fail
  rw [← HW.out]
  go_loopw [8, 9] (fun s8 s9 wr => ∃ i : Nat, i ≤ F ∧ s9 = .int .i64 i ∧ s8 = .int .i64 (2 ^ i : Nat) ∧ Below w.heap.size w wr ∧ wr.heap[w.heap.size]? = some (.cells s.cells 27 (0, 0))) (fun _ s9 _ => F - (intOf s9).toNat)
  case atStart => exact ⟨0, Nat.zero_le _, rfl, rfl, HB.out, HS.out⟩
  case round =>
    obtain ⟨i, hi, rfl, rfl, hBr, hsr⟩ := hrel
    have hrr := HR.out.below hBr (Nat.le_refl _) hBr.size
    have HBR := Lib.hid hBr
    have HSR := Lib.hid hsr
    clear hBr hsr
    have hz1 : 1 ≤ 2 ^ i ∧ 2 ^ i ≤ 4096 := ⟨Nat.one_le_two_pow, by have := Nat.pow_le_pow_right (n := 2) (by omega) (show i ≤ 12 by omega); simpa using this⟩
    obtain ⟨z, hz⟩ : ∃ z, z = 2 ^ i := ⟨_, rfl⟩
    rw [← hz] at hz1 ⊢
    have HZZ := Lib.hid hz
    clear hz
    go_wp2_with fail
    refine (Ls.free ga l gc wr (by omega) hrr).mono ?_
    rintro e w1 ⟨rfl, b1⟩
    rw [← HF.out]
    have hB1 := HBR.out.trans (b1.mono HBR.out.size)
    have hs1 := ByStyle.on HSR.out b1
    have HB1 := Lib.hid hB1
    have HS1 := Lib.hid hs1
    clear hrr b1 hB1 hs1
    by_cases hlt : i < F
    · go_wp2_with fail
      go_roundw
      case rel => exact ⟨i + 1, by omega, by go_num, by rw [Nat.pow_succ, ← HZZ.out]; exact congrArg (Value.int .i64) (by omega), HB1.out, HS1.out⟩
      case measure => simp [intOf]; omega
    · obtain rfl : i = F := by omega
      have hr1 := HR.out.below HB1.out (Nat.le_refl _) HB1.out.size
      go_wp2_with fail
      refine (Ls.way ga l gc 0 w1 hL (by omega) hr1).mono ?_
      rintro e w2 ⟨b0, rfl, hY2, hb0, b2⟩
      have hB2 := HB1.out.trans (b2.mono HB1.out.size)
      have hs2 := ByStyle.on HS1.out b2
      have hr2 := hr1.below b2 (Nat.le_refl _) b2.size
      have HB2 := Lib.hid hB2
      clear hr1 hB2 b2
      go_wp2_with (with_reducible refine wpList_load_row rfl 27 _ rfl _ rfl 27 _ _ _ hs2 Try.underlying27 rfl (by kernel_rfl) ?_)
      refine (Ls.wayCost first ga l gc 0 b0 s w2 HZ.out hr2 hY2).mono ?_
      rintro e w3 ⟨rfl, b3⟩
      have hB3 := HB2.out.trans (b3.mono HB2.out.size)
      have hs3 := ByStyle.on hs2 b3
      have hY3 : BoolBlk w3 b0 (digs l 0).1 := heap_below b3 hY2 hY2.lt
      have HB3 := Lib.hid hB3
      have HS3 := Lib.hid hs3
      have HY3 := Lib.hid hY3
      clear hr2 b3 hB3 hs2 hY2 hs3 hY3 hb0
      obtain ⟨c0, hc0⟩ : ∃ c0, c0 = wcost s first l 0 := ⟨_, rfl⟩
      rw [← hc0]
      have HC0 := Lib.hid hc0
      clear hc0
      go_wp2_with fail
      go_loopw [10, 11, 13] (fun s10 s11 s13 wr => ∃ (n p b : Nat) (c : Int), 1 ≤ n ∧ n ≤ z ∧ s13 = .int .i64 n ∧ s11 = .int .i64 c ∧ s10 = .slice (some ⟨b, 0, none⟩) l.length l.length ∧ c = wcost s first l p ∧ FirstBest s first l n p ∧ BoolBlk wr b (digs l p).1 ∧ Below w.heap.size w wr ∧ wr.heap[w.heap.size]? = some (.cells s.cells 27 (0, 0))) (fun _ _ s13 _ => z - (intOf s13).toNat)
      case atStart => exact ⟨1, 0, b0, c0, Nat.le_refl _, hz1.1, rfl, rfl, rfl, HC0.out, FirstBest.one s first l, HY3.out, HB3.out, HS3.out⟩
      case round =>
        obtain ⟨n, p, b, c, hn1, hnz, rfl, rfl, rfl, hc, hfb, hY, hBr, hsr⟩ := hrel
        have HC := Lib.hid hc
        have HFB := Lib.hid hfb
        have HYY := Lib.hid hY
        have HBR := Lib.hid hBr
        have HSR := Lib.hid hsr
        have hrr := HR.out.below hBr (Nat.le_refl _) hBr.size
        clear hc hfb hY hBr hsr
        by_cases hlt2 : n < z
        · go_wp2_with fail
          refine (Ls.way ga l gc n wr hL (by omega) hrr).mono ?_
          rintro e w4 ⟨b', rfl, hY4, hb4, b4⟩
          have hB4 := HBR.out.trans (b4.mono HBR.out.size)
          have hs4 := ByStyle.on HSR.out b4
          have hr4 := hrr.below b4 (Nat.le_refl _) b4.size
          have hYo4 : BoolBlk w4 b (digs l p).1 := heap_below b4 HYY.out HYY.out.lt
          have HB4 := Lib.hid hB4
          have HYO4 := Lib.hid hYo4
          clear hrr hB4 b4 hb4 hYo4
          go_wp2_with (with_reducible refine wpList_load_row rfl 27 _ rfl _ rfl 27 _ _ _ hs4 Try.underlying27 rfl (by kernel_rfl) ?_)
          refine (Ls.wayCost first ga l gc n b' s w4 HZ.out hr4 hY4).mono ?_
          rintro e w5 ⟨rfl, b5⟩
          have hB5 := HB4.out.trans (b5.mono HB4.out.size)
          have hs5 := ByStyle.on hs4 b5
          have hY5 : BoolBlk w5 b' (digs l n).1 := heap_below b5 hY4 hY4.lt
          have hYo5 : BoolBlk w5 b (digs l p).1 := heap_below b5 HYO4.out HYO4.out.lt
          have HB5 := Lib.hid hB5
          have HS5 := Lib.hid hs5
          have HY5 := Lib.hid hY5
          have HYO5 := Lib.hid hYo5
          clear hr4 b5 hB5 hs4 hY4 hs5 hY5 hYo5
          obtain ⟨d, hd⟩ : ∃ d, d = wcost s first l n := ⟨_, rfl⟩
          rw [← hd]
          have HD := Lib.hid hd
          clear hd
          by_cases hdc : d < c
          · go_wp2_with fail
            go_roundw
            case rel => exact ⟨n + 1, n, b', d, by omega, by omega, by go_num, rfl, rfl, HD.out, HFB.out.take (by have h1 := HC.out; have h2 := HD.out; unfold wcost at h1 h2; omega), HY5.out, HB5.out, HS5.out⟩
            case measure => simp [intOf]; omega
          · go_wp2_with fail
            go_roundw
            case rel => exact ⟨n + 1, p, b, c, by omega, by omega, by go_num, rfl, rfl, HC.out, HFB.out.keep (by have h1 := HC.out; have h2 := HD.out; unfold wcost at h1 h2; omega), HYO5.out, HB5.out, HS5.out⟩
            case measure => simp [intOf]; omega
        · obtain rfl : n = z := by omega
          have hfb := HFB.out
          rw [HZZ.out, HF.out] at hfb
          have hopt := hfb.opt HV.out
          have HOPT := Lib.hid hopt
          clear hfb hopt
          go_wp2_with fail
          go_ret2
          exact ⟨(digs l p).1, c, b, by rw [HC.out]; exact HOPT.out, rfl, HYY.out, HBR.out⟩
end Go.Proofs.Ytblooekephkojaa

/- Search: what Cost answers, for every line, way and style. -/
import Derived.Test.YtblooekephkojaaSrL
namespace Go.Proofs.Ytblooekephkojaa
open Go.RowKit Go.BigFrame
set_option linter.unusedVariables false

theorem Sty.at {w : World} {b : Nat} {s : Sty} (h : w.heap[b]? = some (.cells s.cells 27 (0, 0))) :
    w.cell? ⟨b, 0, none⟩ = some (.int .i64 s.c) ∧ w.cell? ⟨b, 1, none⟩ = some (.int .i64 s.i1) ∧ w.cell? ⟨b, 2, none⟩ = some (.int .i64 s.i2) ∧ w.cell? ⟨b, 3, none⟩ = some (.int .i64 s.i3) ∧
    w.cell? ⟨b, 4, none⟩ = some (.bool s.b1) ∧ w.cell? ⟨b, 5, none⟩ = some (.bool s.b2) ∧ w.cell? ⟨b, 6, none⟩ = some (.bool s.b3) ∧ w.cell? ⟨b, 7, none⟩ = some (.int .i64 s.e) ∧
    w.cell? ⟨b, 8, none⟩ = some (.int .i64 s.o1) ∧ w.cell? ⟨b, 9, none⟩ = some (.int .i64 s.o2) ∧ w.cell? ⟨b, 10, none⟩ = some (.int .i64 s.o3) ∧ w.cell? ⟨b, 11, none⟩ = some (.int .i64 s.o4) ∧
    w.cell? ⟨b, 12, none⟩ = some (.int .i64 s.o5) ∧ w.cell? ⟨b, 13, none⟩ = some (.int .i64 s.o6) ∧ w.cell? ⟨b, 14, none⟩ = some (.int .i64 s.o7) ∧ w.cell? ⟨b, 15, none⟩ = some (.int .i64 s.o8) ∧
    w.cell? ⟨b, 16, none⟩ = some (.int .i64 s.o9) ∧ w.cell? ⟨b, 17, none⟩ = some (.int .i64 s.o10) := by
  simp [World.cell?, h]

set_option maxHeartbeats 4000000 in
set_option maxRecDepth 100000 in
theorem Sr.cost_a (first : Int) (a1 a2 : Option Addr) (l : List Gap) (ws : List Bool) (c1 c2 : Nat) (s : Sty) (w : World) (hl : l.length ≤ 9223372036854775807) (hl2 : ws.length ≤ 9223372036854775807)
    (hr : RowAt 6 Gap.f w a1 l) (hr2 : RowAt 1 boolF w a2 ws) (z : Int) (hz : chk first l s = z) (h0 : z ≠ 0) :
    Calls Try.prog 16 #[.int .i64 first, .slice a1 l.length c1, .slice a2 ws.length c2, .agg s.cells] w fun e w' =>
      e = .returned (.tuple #[.int .i64 0, .int .i64 z]) ∧ Below w.heap.size w w' := by
  have hst : (w.alloc (.cells s.cells 27)).heap[w.heap.size]? = some (.cells s.cells 27 (0, 0)) := heap_alloc_new _ _
  have hr' := hr.below (w' := w.alloc (.cells s.cells 27)) (below_alloc _ _) (Nat.le_refl _) (by simp)
  have HC := Lib.hid hz
  have hcb : (z != 0) = true := by simpa using h0
  clear hz h0
  go_enter Try.func16, Try.ntmps16
  go_wp2_with (with_reducible refine wpList_load_row rfl 27 _ rfl _ rfl 27 _ _ _ hst Try.underlying27 rfl (by kernel_rfl) ?_)
  refine (Sr.check first a1 l c1 s _ hl hr').mono ?_
  rintro e w1 ⟨rfl, b1⟩
  rw [HC.out]
  clear hr hr' hr2 hst
  go_wp2
  go_ret2
  exact ⟨rfl, (((Below.refl _ _).alloc (Nat.le_refl _) _).trans (b1.mono (by simp)))⟩

set_option maxHeartbeats 4000000 in
set_option maxRecDepth 100000 in
theorem Sr.cost_b (first : Int) (a1 a2 : Option Addr) (l : List Gap) (ws : List Bool) (c1 c2 : Nat) (s : Sty) (w : World) (hl : l.length ≤ 9223372036854775807) (hl2 : ws.length ≤ 9223372036854775807)
    (hr : RowAt 6 Gap.f w a1 l) (hr2 : RowAt 1 boolF w a2 ws) (hz : chk first l s = 0) (h0 : ws.length ≠ l.length) :
    Calls Try.prog 16 #[.int .i64 first, .slice a1 l.length c1, .slice a2 ws.length c2, .agg s.cells] w fun e w' =>
      e = .returned (.tuple #[.int .i64 0, .int .i64 2]) ∧ Below w.heap.size w w' := by
  have hst : (w.alloc (.cells s.cells 27)).heap[w.heap.size]? = some (.cells s.cells 27 (0, 0)) := heap_alloc_new _ _
  have hr' := hr.below (w' := w.alloc (.cells s.cells 27)) (below_alloc _ _) (Nat.le_refl _) (by simp)
  have HC := Lib.hid hz
  have hlb : ((ws.length : Int) != (l.length : Int)) = true := by rw [bne_iff_ne]; omega
  clear hz h0
  go_enter Try.func16, Try.ntmps16
  go_wp2_with (with_reducible refine wpList_load_row rfl 27 _ rfl _ rfl 27 _ _ _ hst Try.underlying27 rfl (by kernel_rfl) ?_)
  refine (Sr.check first a1 l c1 s _ hl hr').mono ?_
  rintro e w1 ⟨rfl, b1⟩
  rw [HC.out]
  clear hr hr' hr2 hst
  go_wp2
  go_ret2
  exact ⟨rfl, (((Below.refl _ _).alloc (Nat.le_refl _) _).trans (b1.mono (by simp)))⟩

set_option maxHeartbeats 4000000 in
set_option maxRecDepth 100000 in
theorem Sr.cost_c (first : Int) (a1 a2 : Option Addr) (l : List Gap) (ws : List Bool) (c1 c2 : Nat) (s : Sty) (w : World) (hl : l.length ≤ 9223372036854775807) (hl2 : ws.length ≤ 9223372036854775807)
    (hr : RowAt 6 Gap.f w a1 l) (hr2 : RowAt 1 boolF w a2 ws) (hz : chk first l s = 0) (h0 : ws.length = l.length) (hf : (l.zip ws).all fitB = true) :
    Calls Try.prog 16 #[.int .i64 first, .slice a1 l.length c1, .slice a2 ws.length c2, .agg s.cells] w fun e w' =>
      e = .returned (.tuple #[.int .i64 (cost s first (l.zip ws)), .int .i64 0]) ∧ Below w.heap.size w w' := by
  have hst : (w.alloc (.cells s.cells 27)).heap[w.heap.size]? = some (.cells s.cells 27 (0, 0)) := heap_alloc_new _ _
  have hr' := hr.below (w' := w.alloc (.cells s.cells 27)) (below_alloc _ _) (Nat.le_refl _) (by simp)
  obtain ⟨⟨hS1, hS2, hS3, hS4⟩, hL, hF0, hF1, hG⟩ := chk_ok hz
  have HC := Lib.hid hz
  have HG := Lib.hid hG
  have HF := Lib.hid hf
  have hlb : ((ws.length : Int) != (l.length : Int)) = false := by rw [bne_eq_false_iff_eq]; omega
  have HL := Lib.hid h0
  clear hz h0 hG hf
  go_enter Try.func16, Try.ntmps16
  go_wp2_with (with_reducible refine wpList_load_row rfl 27 _ rfl _ rfl 27 _ _ _ hst Try.underlying27 rfl (by kernel_rfl) ?_)
  refine (Sr.check first a1 l c1 s _ hl hr').mono ?_
  rintro e w1 ⟨rfl, b1⟩
  rw [HC.out]
  go_wp2
  have B1 : Below w.heap.size w w1 := ((Below.refl _ _).alloc (Nat.le_refl _) _).trans (b1.mono (by simp))
  have S1 : w1.heap[w.heap.size]? = some (.cells s.cells 27 (0, 0)) := heap_below b1 hst (by simp)
  go_loopw [31] (fun i wr => ∃ k : Nat, k ≤ l.length ∧ i = .int .i64 k ∧ Below (w.heap.size + 1) w1 wr) (fun i _ => l.length - (intOf i).toNat)
  case atStart => exact ⟨0, Nat.zero_le _, rfl, Below.refl _ _⟩
  case round =>
    obtain ⟨k, hk, rfl, hb⟩ := hrel
    have hz0 := b1.size
    simp only [World.size_alloc] at hz0
    have hz1 := hb.size
    by_cases hlt : k < l.length
    · obtain ⟨b, off, rfl, hbw, hc⟩ := hr.at (by intro e; simp [e] at hlt)
      have hlt2 : k < ws.length := by rw [HL.out]; exact hlt
      obtain ⟨d, of2, rfl, hdw, hd⟩ := hr2.at (by intro e; simp [e] at hlt2)
      obtain ⟨g0, g1, g2, g3, g4, g5⟩ := Gap.at (w := wr) (b := b) (o := off + k * 6) (g := l[k]) (((hc k hlt).below B1 hbw).below hb (by omega))
      have q0 : wr.cell? ⟨d, of2 + k, none⟩ = some (.bool ws[k]) := by
        have := (((hd k hlt2).below B1 hdw).below hb (by omega)) 0 _ rfl
        simpa using this
      have hfk : fitB (l[k], ws[k]) = true := List.all_eq_true.1 HF.out _ (by rw [List.mem_iff_getElem]; exact ⟨k, by simp; omega, by simp⟩)
      have HK := Lib.hid hfk
      have hdr : d < wr.heap.size := by omega
      clear hc hr hd hfk hr2 hr' hst S1
      generalize l[k] = g at *
      generalize ws[k] = q at *
      obtain ⟨gw, gb, gm, gy, gc, gi⟩ := g
      cases q <;> cases gm <;> cases gy <;> first
        | (exfalso; have hk' := HK.out; simp [fitB] at hk'; done)
        | (go_wp2
           go_roundw
           (case rel => exact ⟨k + 1, by omega, by go_num, hb.trans ((Below.refl _ _).alloc (by omega) _)⟩)
           (case measure => simp [intOf]; omega))
    · clear hr' hst
      go_wp2
      go_loopw [13, 14, 60] (fun q x i wr => ∃ k : Nat, k ≤ l.length ∧ i = .int .i64 k ∧ q = .int .i64 (cwalk s first ((l.zip ws).take k)).1 ∧ x = .int .i64 (cwalk s first ((l.zip ws).take k)).2 ∧ Below (w.heap.size + 1) w1 wr) (fun _ _ i _ => l.length - (intOf i).toNat)
      case atStart => exact ⟨0, Nat.zero_le _, rfl, rfl, rfl, hb⟩
      case round =>
        clear hlt hb hk hz1
        obtain ⟨k, hk, rfl, rfl, rfl, hb⟩ := hrel
        have hz1 := hb.size
        have S2 := heap_below hb S1 (by omega)
        have SC := CellsAt.of_heap S2
        have hbd := cwalk_bd s ⟨hS1, hS2, hS3, hS4⟩ first hF0 hF1 ((l.zip ws).take k) (fun p hp => HG.out p.1 (List.of_mem_zip (List.mem_of_mem_take hp)).1)
        have hkl : (((l.zip ws).take k).length : Int) ≤ k := by have := List.length_take_le k (l.zip ws); omega
        by_cases hlt : k < l.length
        · obtain ⟨b, off, rfl, hbw, hc⟩ := hr.at (by intro e; simp [e] at hlt)
          have hlt2 : k < ws.length := by rw [HL.out]; exact hlt
          obtain ⟨d, of2, rfl, hdw, hd⟩ := hr2.at (by intro e; simp [e] at hlt2)
          obtain ⟨g0, g1, g2, g3, g4, g5⟩ := Gap.at (w := wr) (b := b) (o := off + k * 6) (g := l[k]) (((hc k hlt).below B1 hbw).below hb (by omega))
          have q0 : wr.cell? ⟨d, of2 + k, none⟩ = some (.bool ws[k]) := by
            have := (((hd k hlt2).below B1 hdw).below hb (by omega)) 0 _ rfl
            simpa using this
          have hsn : cwalk s first ((l.zip ws).take (k + 1)) = cstep s (cwalk s first ((l.zip ws).take k)) (l[k], ws[k]) := by
            rw [zip_take_succ l ws k hlt hlt2, cwalk_snoc]
          have hvg : l[k].valid = true := HG.out _ (List.getElem_mem hlt)
          simp only [Gap.valid, Bool.and_eq_true, decide_eq_true_eq] at hvg
          obtain ⟨⟨v1, v2, v3, v4, v5, v6, v7, v8⟩, -⟩ := hvg
          have HN := Lib.hid hsn
          have hdr : d < wr.heap.size := by omega
          have hBr : w.heap.size < wr.heap.size := by omega
          have HSC := Lib.hid SC
          clear hc hr hd hr2 hsn SC S1 S2
          generalize l[k] = g at *
          generalize hcq : cwalk s first ((l.zip ws).take k) = cq at *
          have HCQ := Lib.hid hcq
          clear hcq
          obtain ⟨q, x⟩ := cq
          simp only at hbd
          obtain ⟨hb0, hb1, hb2⟩ := hbd
          have hb3 : x ≤ 17179869184 := by omega
          have hb4 : q ≤ 17179869184000000 := by omega
          cases hws : ws[k]
          · rw [hws] at q0
            have HW := Lib.hid hws
            clear hws
            obtain ⟨gw, gb, gm, gy, gc, gi⟩ := g
            simp only at *
            go_wp2
            go_roundw
            case rel =>
              refine ⟨k + 1, by omega, by go_num, ?_, ?_, hb.trans ((Below.refl _ _).alloc (by omega) _)⟩
              · rw [HN.out, HW.out]; rfl
              · rw [HN.out, HW.out]; rfl
            case measure => simp [intOf]; omega
          · rw [hws] at q0
            have HW := Lib.hid hws
            clear hws
            obtain ⟨gw, gb, gm, gy, gc, gi⟩ := g
            simp only at *
            have he := exc_le s x hS1 hS3 hS4 hb1
            have he1 : exc s x ≤ 17179869184000000 := by omega
            have he0 := he.1
            clear he
            go_wp2_with fail
            obtain ⟨W, hW⟩ : ∃ W, W = wr.alloc (.cells #[.int .i64 gw, .int .i64 gb, .bool gm, .bool gy, .int .i64 gc, .int .i64 gi] 71) := ⟨_, rfl⟩
            have HWW := Lib.hid hW
            have hsc : CellsAt W w.heap.size 0 s.cells.toList := by rw [hW]; exact HSC.out.below (below_alloc _ _) hBr
            have hgc : ∀ u : Ext W, u.w.cell? ⟨wr.heap.size, 4, none⟩ = some (.int .i64 gc) := fun u => u.cell (by rw [hW]; simp [go_sem])
            have hbe : 0 ≤ exc s x + gc := by omega
            have hbe2 : exc s x + gc ≤ 18000000000000000 := by omega
            rw [← hW]
            clear hW
            refine wp_region_quiet (C := fun w' => ∃ u : Ext W, w' = u.w) (by kernel_rfl) (by kernel_rfl) (Ext.drew W) ?_
            dsimp only []
            repeat (first
              | (go_big_quiet_want; (with_reducible refine quiet_load_at 27 _ rfl _ _ rfl s.cells.toList _ (fun w' hw' => by obtain ⟨u, rfl⟩ := hw'; exact u.cellsAt hsc) Try.underlying27 rfl (by kernel_rfl) ?_); go_big_quiet_on; simp only [Act.put, List.setIfInBounds_toArray, List.set_cons_succ, List.set_cons_zero])
              | go_big_quiet_step ((go_at_call 47; rename_i u; refine (Sr.excess s x _ hS1 hS2 hS3 hS4 hb1 hb3).mono ?_; rintro e w2 ⟨rfl, b2⟩; exact ⟨rfl, u.on b2⟩)))
            refine wpQuiet_nil ?_
            rintro w' ⟨u, rfl⟩
            have hu := u.below
            clear hgc hsc
            generalize u.w = uw at *
            clear u
            rw [HWW.out] at hu
            have hus := hu.size
            simp only [World.size_alloc] at hus
            have hgw : ∀ j v, (#[.int .i64 gw, .int .i64 gb, .bool gm, .bool gy, .int .i64 gc, .int .i64 gi] : Array Value).toList[j]? = some v → uw.cell? ⟨wr.heap.size, 0 + j, none⟩ = some v :=
              CellsAt.of_heap (heap_below hu (heap_alloc_new _ _) (by simp))
            have j0 : uw.cell? ⟨wr.heap.size, 0, none⟩ = some (.int .i64 gw) := hgw 0 _ rfl
            have j5 : uw.cell? ⟨wr.heap.size, 5, none⟩ = some (.int .i64 gi) := hgw 5 _ rfl
            clear hgw g0 g1 g2 g3 g4 g5 q0
            have HU : Hid (Below (w.heap.size + 1) w1 uw) := Lib.hid (hb.trans ((((Below.refl _ _).alloc (by omega) _).trans (hu.mono (by simp; omega)))))
            clear hu
            go_wp2
            go_roundw
            case rel =>
              refine ⟨k + 1, by omega, by go_num, ?_, ?_, HU.out⟩
              · rw [HN.out, HW.out]; rfl
              · rw [HN.out, HW.out]; rfl
            case measure => simp [intOf]; omega
        · generalize hcq : cwalk s first ((l.zip ws).take k) = cq at *
          have HCQ := Lib.hid hcq
          clear hcq
          obtain ⟨q, x⟩ := cq
          simp only at hbd
          obtain ⟨hb0, hb1, hb2⟩ := hbd
          have hb3 : x ≤ 17179869184 := by omega
          have hb4 : q ≤ 17179869184000000 := by omega
          have he := exc_le s x hS1 hS3 hS4 hb1
          have he1 : exc s x ≤ 17179869184000000 := by omega
          have he0 := he.1
          clear he
          go_wp2_with (with_reducible refine wpList_load_row rfl 27 _ rfl _ rfl 27 _ _ _ S2 Try.underlying27 rfl (by kernel_rfl) ?_)
          refine (Sr.excess s x _ hS1 hS2 hS3 hS4 hb1 hb3).mono ?_
          rintro e w2 ⟨rfl, b2⟩
          go_wp2
          go_ret2
          rw [List.take_of_length_le (by simp; omega)] at HCQ
          refine ⟨?_, (B1.trans (hb.mono (by omega))).trans (b2.mono (by omega))⟩
          simp only [cost, HCQ.out]
          rfl

set_option maxHeartbeats 4000000 in
set_option maxRecDepth 100000 in
theorem Sr.cost_d (first : Int) (a1 a2 : Option Addr) (l : List Gap) (ws : List Bool) (c1 c2 : Nat) (s : Sty) (w : World) (hl : l.length ≤ 9223372036854775807) (hl2 : ws.length ≤ 9223372036854775807)
    (hr : RowAt 6 Gap.f w a1 l) (hr2 : RowAt 1 boolF w a2 ws) (hz : chk first l s = 0) (h0 : ws.length = l.length) (hf : (l.zip ws).all fitB = false) :
    Calls Try.prog 16 #[.int .i64 first, .slice a1 l.length c1, .slice a2 ws.length c2, .agg s.cells] w fun e w' =>
      e = .returned (.tuple #[.int .i64 0, .int .i64 2]) ∧ Below w.heap.size w w' := by
  have hst : (w.alloc (.cells s.cells 27)).heap[w.heap.size]? = some (.cells s.cells 27 (0, 0)) := heap_alloc_new _ _
  have hr' := hr.below (w' := w.alloc (.cells s.cells 27)) (below_alloc _ _) (Nat.le_refl _) (by simp)
  obtain ⟨⟨hS1, hS2, hS3, hS4⟩, hL, hF0, hF1, hG⟩ := chk_ok hz
  have HC := Lib.hid hz
  have HG := Lib.hid hG
  have HF := Lib.hid hf
  have hlb : ((ws.length : Int) != (l.length : Int)) = false := by rw [bne_eq_false_iff_eq]; omega
  have HL := Lib.hid h0
  clear hz h0 hG hf
  go_enter Try.func16, Try.ntmps16
  go_wp2_with (with_reducible refine wpList_load_row rfl 27 _ rfl _ rfl 27 _ _ _ hst Try.underlying27 rfl (by kernel_rfl) ?_)
  refine (Sr.check first a1 l c1 s _ hl hr').mono ?_
  rintro e w1 ⟨rfl, b1⟩
  rw [HC.out]
  go_wp2
  have B1 : Below w.heap.size w w1 := ((Below.refl _ _).alloc (Nat.le_refl _) _).trans (b1.mono (by simp))
  have S1 : w1.heap[w.heap.size]? = some (.cells s.cells 27 (0, 0)) := heap_below b1 hst (by simp)
  go_loopw [31] (fun i wr => ∃ k : Nat, k ≤ l.length ∧ i = .int .i64 k ∧ ((l.zip ws).take k).all fitB = true ∧ Below (w.heap.size + 1) w1 wr) (fun i _ => l.length - (intOf i).toNat)
  case atStart => exact ⟨0, Nat.zero_le _, rfl, rfl, Below.refl _ _⟩
  case round =>
    obtain ⟨k, hk, rfl, hpf, hb⟩ := hrel
    have HPF := Lib.hid hpf
    clear hpf
    have hz0 := b1.size
    simp only [World.size_alloc] at hz0
    have hz1 := hb.size
    by_cases hlt : k < l.length
    · obtain ⟨b, off, rfl, hbw, hc⟩ := hr.at (by intro e; simp [e] at hlt)
      have hlt2 : k < ws.length := by rw [HL.out]; exact hlt
      obtain ⟨d, of2, rfl, hdw, hd⟩ := hr2.at (by intro e; simp [e] at hlt2)
      obtain ⟨g0, g1, g2, g3, g4, g5⟩ := Gap.at (w := wr) (b := b) (o := off + k * 6) (g := l[k]) (((hc k hlt).below B1 hbw).below hb (by omega))
      have q0 : wr.cell? ⟨d, of2 + k, none⟩ = some (.bool ws[k]) := by
        have := (((hd k hlt2).below B1 hdw).below hb (by omega)) 0 _ rfl
        simpa using this
      have hfk : ((l.zip ws).take (k + 1)).all fitB = fitB (l[k], ws[k]) := by
        rw [zip_take_succ l ws k hlt hlt2, List.all_append, HPF.out]; simp
      have HK := Lib.hid hfk
      have hdr : d < wr.heap.size := by omega
      clear hc hr hd hfk hr2 hr' hst S1
      generalize l[k] = g at *
      generalize ws[k] = q at *
      obtain ⟨gw, gb, gm, gy, gc, gi⟩ := g
      cases q <;> cases gm <;> cases gy <;> first
        | (have hkk : ((l.zip ws).take (k + 1)).all fitB = false := by rw [HK.out]; simp [fitB]; done
           clear hkk
           go_wp2
           go_ret2
           exact ⟨rfl, B1.trans ((hb.mono (by omega)).trans ((Below.refl _ _).alloc (by omega) _))⟩)
        | (go_wp2
           go_roundw
           (case rel => exact ⟨k + 1, by omega, by go_num, by rw [HK.out]; simp [fitB], hb.trans ((Below.refl _ _).alloc (by omega) _)⟩)
           (case measure => simp [intOf]; omega))
    · exfalso
      have h1 := HPF.out
      rw [List.take_of_length_le (by simp; omega), HF.out] at h1
      cases h1

/-- What Cost answers, for every line, way and style. -/
theorem Sr.costAll (first : Int) (a1 a2 : Option Addr) (l : List Gap) (ws : List Bool) (c1 c2 : Nat) (s : Sty) (w : World) (hl : l.length ≤ 9223372036854775807) (hl2 : ws.length ≤ 9223372036854775807)
    (hr : RowAt 6 Gap.f w a1 l) (hr2 : RowAt 1 boolF w a2 ws) :
    Calls Try.prog 16 #[.int .i64 first, .slice a1 l.length c1, .slice a2 ws.length c2, .agg s.cells] w fun e w' =>
      e = .returned (.tuple #[.int .i64 (costR first l ws s).1, .int .i64 (costR first l ws s).2]) ∧ Below w.heap.size w w' := by
  unfold costR
  by_cases h0 : chk first l s = 0
  · rw [if_neg (by simpa using h0)]
    by_cases h1 : ws.length = l.length
    · rw [if_neg (by simpa using h1)]
      cases h2 : (l.zip ws).all fitB
      · exact Sr.cost_d first a1 a2 l ws c1 c2 s w hl hl2 hr hr2 h0 h1 h2
      · exact Sr.cost_c first a1 a2 l ws c1 c2 s w hl hl2 hr hr2 h0 h1 h2
    · rw [if_pos h1]
      exact Sr.cost_b first a1 a2 l ws c1 c2 s w hl hl2 hr hr2 h0 h1
  · rw [if_pos h0]
    exact Sr.cost_a first a1 a2 l ws c1 c2 s w hl hl2 hr hr2 _ rfl h0

end Go.Proofs.Ytblooekephkojaa

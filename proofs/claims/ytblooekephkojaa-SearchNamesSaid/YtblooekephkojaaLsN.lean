/- search.Best: what it answers. -/
import Derived.Test.YtblooekephkojaaLtD
namespace Go.Proofs.Ytblooekephkojaa
open Go.RowKit Go.BigFrame Go.Shelf
set_option linter.unusedVariables false

def zb (n : Nat) : Array Value := ((List.replicate n false).map Value.bool).toArray
theorem zb_made (n : Nat) : madeCells (Value.bool false).cells (n * 1) = zb n := by
  apply Array.ext
  · simp [zb, madeCells]
  · intro i h1 h2
    simp only [madeCells, zb, Array.getElem_map, Array.getElem_range, List.map_replicate, List.getElem_toArray, List.getElem_replicate]
    show (#[Value.bool false] : Array Value)[i % 1]! = _
    rw [Nat.mod_one]; rfl
theorem infoBool4 : (Try.prog.info? 4).map (fun i => (i.zero, i.size, i.bytes)) = some (some (.bool false), 1, 1) := by kernel_rfl
theorem make_bools (n : Nat) (hn : n ≤ 1000000) (w : World) : (Instr.makeSlice 25 (.int .i64 n) (.int .i64 n)).run Try.prog w = .ok (.slice (some ⟨w.heap.size, 0, none⟩) n n) (w.alloc (.cells (zb n) 4)) := by
  obtain ⟨i0, hi, hz0, hz1, hz2⟩ := info_parts infoBool4
  have := run_make (P := Try.prog) (w := w) 25 4 i0 (.bool false) Try.underlying25 hi hz0 .i64 .i64 n n (by omega) (by omega) (by rw [hz2]; omega) (by omega)
  rw [this, hz1, Int.toNat_natCast, zb_made]

/-- A block that holds just these Bools. -/
def BoolBlk (w : World) (b : Nat) (y : List Bool) : Prop := w.heap[b]? = some (.cells (y.map Value.bool).toArray 4 (0, 0))
theorem BoolBlk.cell {w : World} {b : Nat} {y : List Bool} (h : BoolBlk w b y) (i : Nat) (hi : i < y.length) : w.cell? ⟨b, i, none⟩ = some (.bool y[i]) := by
  unfold BoolBlk at h
  simp only [World.cell?, h]
  simp [hi]
theorem BoolBlk.lt {w : World} {b : Nat} {y : List Bool} (h : BoolBlk w b y) : b < w.heap.size := (Array.getElem?_eq_some_iff.1 h).1
theorem BoolBlk.set {w : World} {b : Nat} {y : List Bool} (h : BoolBlk w b y) (i : Nat) (x : Bool) (hi : i < y.length) : BoolBlk (w.setCell ⟨b, i, none⟩ (.bool x)) b (y.set i x) := by
  unfold BoolBlk at *
  rw [heap_setCell_same w b i _ 4 _ h]
  simp [List.map_set]
theorem BoolBlk.rowAt {w : World} {b : Nat} {y : List Bool} (h : BoolBlk w b y) : RowAt 1 boolF w (some ⟨b, 0, none⟩) y :=
  .inr ⟨b, 0, rfl, h.lt, fun i hi j v hv => by
    simp [boolF] at hv
    obtain ⟨rfl, rfl⟩ : j = 0 ∧ v = .bool y[i] := by
      cases j with
      | zero => simpa using hv.symm
      | succ j => simp at hv
    have := h.cell i hi
    simpa using this⟩

theorem LineAt.other {w : World} {q : Ln} {l : List Gap} {s : Sty} {first : Int} {sum en cost : List Int} {z : Nat} {fv fb sv sb : List Int} (h : LineAt w q l s first sum en cost z fv fb sv sb) (p : Addr) (hp : ∀ b ∈ q.blocks, p.block ≠ b) (x : Value) :
    LineAt (w.setCell p x) q l s first sum en cost z fv fb sv sb :=
  ⟨by rw [Below.heap_setCell _ _ _ _ (fun e => hp q.L (by simp [Ln.blocks]) e.symm)]; exact h.hd, h.sum.other p (hp _ (by simp [Ln.blocks])) x, h.en.other p (hp _ (by simp [Ln.blocks])) x, h.cost.other p (hp _ (by simp [Ln.blocks])) x,
    h.flat.other p (hp _ (by simp [Ln.blocks])) (hp _ (by simp [Ln.blocks])) (hp _ (by simp [Ln.blocks])) x, h.steep.other p (hp _ (by simp [Ln.blocks])) (hp _ (by simp [Ln.blocks])) (hp _ (by simp [Ln.blocks])) x⟩

/-- What Best answers of a line that may be had. -/
def BestOk (first : Int) (l : List Gap) (s : Sty) (w : World) (e : Ending) (w' : World) : Prop :=
  ∃ (y : List Bool) (c : Int) (b : Nat), IsOpt s first l y c ∧ e = .returned (.tuple #[.slice (some ⟨b, 0, none⟩) l.length l.length, .int .i64 c, .int .i64 0]) ∧ BoolBlk w' b y ∧ w.heap.size ≤ b ∧ Below w.heap.size w w' ∧ 0 ≤ c ∧ c ≤ 100000000000000000

set_option maxRecDepth 100000 in
set_option maxHeartbeats 4000000 in
theorem Ls.best_bad (first : Int) (ga : Option Addr) (l : List Gap) (gc : Nat) (s : Sty) (w : World) (hl : l.length ≤ 9223372036854775807) (hr : RowAt 6 Gap.f w ga l) (z : Int) (hz : chk first l s = z) (h0 : z ≠ 0) :
    Calls Try.prog 35 #[.int .i64 first, .slice ga l.length gc, .agg s.cells] w fun e w' => e = .returned (.tuple #[.slice none 0 0, .int .i64 0, .int .i64 z]) ∧ Below w.heap.size w w' := by
  have hst : (w.alloc (.cells s.cells 27)).heap[w.heap.size]? = some (.cells s.cells 27 (0, 0)) := heap_alloc_new _ _
  have hr' := hr.below (w' := w.alloc (.cells s.cells 27)) (below_alloc _ _) (Nat.le_refl _) (by simp)
  have HC := Lib.hid hz
  have hcb : (z != 0) = true := by simpa using h0
  clear hz h0
  go_enter Try.func35, Try.ntmps35
  go_wp2_with (with_reducible refine wpList_load_row rfl 27 _ rfl _ rfl 27 _ _ _ hst Try.underlying27 rfl (by kernel_rfl) ?_)
  refine (Sr.check first ga l gc s _ hl hr').mono ?_
  rintro e w1 ⟨rfl, b1⟩
  rw [HC.out]
  clear hr hr' hst
  go_wp2
  go_ret3
  exact ⟨rfl, (below_alloc _ _).trans (b1.mono (by simp))⟩

set_option maxRecDepth 100000 in
set_option maxHeartbeats 4000000 in
theorem Ls.best_ok (first : Int) (ga : Option Addr) (l : List Gap) (gc : Nat) (s : Sty) (w : World) (hr : RowAt 6 Gap.f w ga l) (hz : chk first l s = 0) :
    Calls Try.prog 35 #[.int .i64 first, .slice ga l.length gc, .agg s.cells] w (BestOk first l s w) := by
  obtain ⟨hsty, hlen, hf0, hf1, hv⟩ := chk_ok hz
  have hst : (w.alloc (.cells s.cells 27)).heap[w.heap.size]? = some (.cells s.cells 27 (0, 0)) := heap_alloc_new _ _
  have hb0 : Below w.heap.size w (w.alloc (.cells s.cells 27)) := below_alloc _ _
  have hr' := hr.below (w' := w.alloc (.cells s.cells 27)) hb0 (Nat.le_refl _) (by simp)
  have HC := Lib.hid hz
  have HV := Lib.hid hv
  have hmk := fun wx => make_bools l.length (by omega) wx
  clear hz hv
  go_enter Try.func35, Try.ntmps35
  go_wp2_with (with_reducible refine wpList_load_row rfl 27 _ rfl _ rfl 27 _ _ _ hst Try.underlying27 rfl (by kernel_rfl) ?_)
  refine (Sr.check first ga l gc s _ (by omega) hr').mono ?_
  rintro e w1 ⟨rfl, b1⟩
  rw [HC.out]
  have hst1 := heap_below b1 hst (by simp)
  have hB1 : Below w.heap.size w w1 := hb0.trans (b1.mono (by simp))
  have hr1 := hr.below hB1 (Nat.le_refl _) hB1.size
  clear hst hb0 hr' b1
  go_wp2_with (with_reducible refine wpList_load_row rfl 27 _ rfl _ rfl 27 _ _ _ hst1 Try.underlying27 rfl (by kernel_rfl) ?_)
  refine (Ls.newLine first ga l gc s w1 hlen hr1 HV.out).mono ?_
  rintro e w2 ⟨q, k, rfl, hga, hgc, hnd, hge, hk1, hk2, hL2, hB2⟩
  subst hga
  have hC : LCtx w1 q l s first k := ⟨hnd, hge, hr1, hlen, HV.out, hsty, hf0, hf1, hk1, hk2⟩
  have CC := Lib.hid hC
  have hS : BInv w1 q l s first k (l.length + 1) w2 := BInv.start hC w2 hL2 hB2
  have HS := Lib.hid hS
  clear hC hS hnd hge hk1 hk2 hL2 hB2 hst1 hr
  go_wp2_with fail
  go_loopw [11, 12] (fun s11 s12 wr => ∃ m mo : Nat, m ≤ l.length + 1 ∧ s11 = .int .i64 mo ∧ s12 = .int .i64 ((m : Int) - 1) ∧ BInv w1 q l s first k m wr ∧ (if m ≤ l.length then IsMost l m mo else mo = l.length)) (fun _ s12 _ => (intOf s12 + 1).toNat)
  case atStart => exact ⟨l.length + 1, l.length, Nat.le_refl _, rfl, congrArg (Value.int .i64) (by omega), HS.out, by rw [if_neg (by omega)]⟩
  case round =>
    obtain ⟨m, mo, hm, rfl, rfl, hI, hmo⟩ := hrel
    have HI := Lib.hid hI
    have HM := Lib.hid hmo
    clear hI hmo
    by_cases hm0 : m = 0
    · subst hm0
      obtain ⟨en, cost, fv, fb, sv, sb, hL, hP, hT, hB⟩ := HI.out
      obtain ⟨E, hE⟩ : ∃ E : Nat → Nat, ∀ i, i ≤ l.length → atI en i = E i ∧ IsPick s first l (atI cost) i (E i) (atI cost i) := ⟨fun i => (atI en i).toNat, fun i hi => by
        obtain ⟨e, he, hp⟩ := hP.pick i (Nat.zero_le _) hi
        have : (atI en i).toNat = e := by omega
        exact ⟨by dsimp only; omega, by dsimp only; rw [this]; exact hp⟩⟩
      obtain ⟨-, -, -, -, -, c21, c22, -, -⟩ := hL.cells
      have hL0 : q.L < wr.heap.size := (Array.getElem?_eq_some_iff.1 hL.hd).1
      have hE0 := hL.en.lt
      have ce0 : wr.cell? ⟨q.E, 0, none⟩ = some (.int .i64 (E 0)) := by
        have h1 := hL.en.cell 0 (by rw [hP.el]; omega)
        have h2 := (hE 0 (Nat.zero_le _)).1
        unfold atI at h2
        rw [List.getD_eq_getElem?_getD, List.getElem?_eq_getElem (by rw [hP.el]; omega)] at h2
        rw [h1]; exact congrArg (fun x => some (Value.int .i64 x)) h2
      have HEE := Lib.hid hE
      have HLL := Lib.hid hL
      have HPP := Lib.hid hP
      have HBB := Lib.hid hB
      have h00 : ¬ ((0 : Nat) : Int) - 1 ≥ 0 := by omega
      have hi00 : (0 : Int) < (l.length : Int) + 1 := by omega
      clear hE hL hP hB hT
      go_wp2_with fail
      obtain ⟨B, hBw⟩ : ∃ B, B = wr.heap.size := ⟨_, rfl⟩
      have hL5 := HLL.out.below (below_alloc wr (.cells (zb l.length) 4))
      have hY5 : BoolBlk (wr.alloc (.cells (zb l.length) 4)) B (List.replicate l.length false) := by rw [hBw]; exact heap_alloc_new _ _
      have hB5 : Below w1.heap.size w1 (wr.alloc (.cells (zb l.length) 4)) := HBB.out.alloc HBB.out.size _
      have hlt : ∀ b ∈ q.blocks, b < B := fun b hb => by
        have h1 := HLL.out.sum.lt; have h2 := HLL.out.cost.lt; have h3 := HLL.out.flat.lt; have h4 := HLL.out.steep.lt
        simp only [Ln.blocks, List.mem_cons, List.not_mem_nil, or_false] at hb
        rcases hb with rfl | rfl | rfl | rfl | rfl | rfl | rfl | rfl | rfl | rfl <;> omega
      have hLB : q.L ≠ B := by omega
      have hEB : q.E ≠ B := by omega
      have hwB : w.heap.size ≤ B := by have := hB1.size; have := HBB.out.size; omega
      have hw1B : w1.heap.size ≤ B := by have := HBB.out.size; omega
      have HLT := Lib.hid hlt
      rw [← hBw]
      clear hBw hlt c21 c22 ce0 hL0 hE0 hmk
      go_loopw [14] (fun s14 wx => ∃ (r : Nat) (y : List Bool), CInv l E y r ∧ s14 = .int .i64 (E r) ∧ LineAt wx q l s first (sums l) en cost (2 ^ k) fv fb sv sb ∧ BoolBlk wx B y ∧ Below w1.heap.size w1 wx) (fun s14 _ => l.length + 1 - (intOf s14).toNat)
      case atStart => exact ⟨0, _, CInv.start l E, rfl, hL5, hY5, hB5⟩
      case round =>
        clear hL5 hY5 hB5
        obtain ⟨r, y, hc, rfl, hLx, hYx, hBx⟩ := hrel
        have hEr := (HEE.out r hc.le).2
        have hrE : r ≤ E r := by obtain ⟨_, _, h1, _⟩ := hEr; exact h1
        have hEn : E r ≤ l.length := by obtain ⟨m, hm, _, h2, _⟩ := hEr; have := hm.len; omega
        obtain ⟨-, -, -, -, -, c21, c22, -, -⟩ := hLx.cells
        by_cases ha : E r < l.length
        · have hce : wr.cell? ⟨q.E, E r + 1, none⟩ = some (.int .i64 (E (E r + 1))) := by
            have h1 := hLx.en.cell (E r + 1) (by rw [HPP.out.el]; omega)
            have h2 := (HEE.out (E r + 1) (by omega)).1
            unfold atI at h2
            rw [List.getD_eq_getElem?_getD, List.getElem?_eq_getElem (by rw [HPP.out.el]; omega)] at h2
            rw [h1]; exact congrArg (fun x => some (Value.int .i64 x)) h2
          obtain ⟨yo, hcy⟩ : ∃ yo, wr.cell? ⟨B, E r, none⟩ = some (.bool yo) := ⟨_, hYx.cell (E r) (by rw [hc.len]; exact ha)⟩
          have hfy : wr.frozen? ⟨B, E r, none⟩ = false := Lib.frozen_of_heap hYx _
          have hnext : E r + 1 ≤ E (E r + 1) := by obtain ⟨_, _, h1, _⟩ := (HEE.out (E r + 1) (by omega)).2; exact h1
          have hstep := Lib.hid (hc.step hrE ha)
          have hyl := Lib.hid hc.len
          have HLx := Lib.hid hLx
          have HYx := Lib.hid hYx
          clear hc hLx hYx hEr
          generalize hEr1 : E (E r + 1) = a1 at *
          have HA1 := Lib.hid hEr1
          clear hEr1
          generalize hEr2 : E r = a at *
          have HA := Lib.hid hEr2
          clear hEr2
          have i0 : (0 : Int) ≤ (a : Int) := by omega
          have i1 : (a : Int) < (l.length : Int) := by omega
          have i2 : (a : Int) + 1 < (l.length : Int) + 1 := by omega
          go_wp2_with fail
          go_roundw
          case rel =>
            refine ⟨a + 1, y.set a true, hstep.out, by rw [HA1.out], ?_, HYx.out.set a true (by rw [hyl.out]; exact ha), hBx.setCell hw1B _⟩
            exact HLx.out.other _ (fun b hb => by have := HLT.out b hb; dsimp only; omega) _
          case measure => simp [intOf]; omega
        · have hcc : wr.cell? ⟨q.C, 0, none⟩ = some (.int .i64 (atI cost 0)) := by
            have h1 := hLx.cost.cell 0 (by rw [HPP.out.cl]; omega)
            unfold atI
            rw [List.getD_eq_getElem?_getD, List.getElem?_eq_getElem (by rw [HPP.out.cl]; omega)]
            rw [h1]; rfl
          have hch := Lib.hid (hc.chain (by omega))
          have hyl := Lib.hid hc.len
          have ha2 : E r = l.length := by omega
          have HLx := Lib.hid hLx
          have HYx := Lib.hid hYx
          clear hc hLx hYx hEr
          rw [ha2]
          generalize hc0 : atI cost 0 = c0 at *
          have HC0 := Lib.hid hc0
          clear hc0 ha ha2 hrE hEn
          go_wp2_with fail
          go_quiet (fail)
          go_wp2_with fail
          go_ret3
          have hopt := chain_opt HV.out (atI cost) E (fun i hi => (HEE.out i hi).2) hyl.out hch.out
          rw [HC0.out] at hopt
          have hcb : 0 ≤ c0 ∧ c0 ≤ 100000000000000000 := by
            rw [← HC0.out]
            unfold atI
            rw [List.getD_eq_getElem?_getD, List.getElem?_eq_getElem (by rw [HPP.out.cl]; omega)]
            exact HPP.out.cb _ (List.getElem_mem _)
          exact ⟨y, c0, B, hopt, rfl, HYx.out, hwB, (hB1.trans (hBx.mono hB1.size)).trans (Ytblooekephkojaa.below_drewN _ _ _), hcb.1, hcb.2⟩
    · obtain ⟨i, rfl⟩ : ∃ i, m = i + 1 := ⟨m - 1, by omega⟩
      have hi : i ≤ l.length := by omega
      have hi2 : (((i + 1 : Nat) : Int) - 1) = (i : Int) := by omega
      rw [hi2]
      have hib : (i : Int) ≤ 65536 := by omega
      have hi0 : (0 : Int) ≤ (i : Int) := by omega
      -- the last place of the row, as it will be known
      obtain ⟨mo', hmo'⟩ : ∃ mo', mo' = (if i < l.length ∧ mustB l i = true then i else mo) := ⟨_, rfl⟩
      have hmost : IsMost l i mo' := by
        have h1 := HM.out
        by_cases hil : i < l.length
        · rw [if_pos (by omega)] at h1
          have := h1.step hi
          rw [hmo']
          simpa [hil] using this
        · have : i = l.length := by omega
          subst this
          rw [if_neg (by omega)] at h1
          rw [hmo', if_neg (by omega), h1]
          exact IsMost.last l
      have HMO := Lib.hid hmo'
      have HMS := Lib.hid hmost
      clear hmost hi2
      have hE := Lib.hid (Ls.endsB CC.out i hi wr HI.out)
      have hBg := Lib.hid (show (∀ w', EInv w1 q l s first k i w' → Calls Try.prog 56 #[.pointer (some ⟨q.L, 0, none⟩), .int .i64 i, .int .i64 mo'] w' fun e w'' => e = .returned (.tuple #[]) ∧ BInv w1 q l s first k i w'') from fun w' h => Ls.beginsB CC.out i mo' hi HMS.out w' h)
      have HX := Lib.hid HI.out
      have hwr : Below w1.heap.size w1 wr := by obtain ⟨_, _, _, _, _, _, _, _, _, hb⟩ := HI.out; exact hb
      have hrr := hr1.below hwr (Nat.le_refl _) hwr.size
      have HWR := Lib.hid hwr
      clear hwr
      have fin : ∀ w'', BInv w1 q l s first k i w'' → ∃ m mo : Nat, m ≤ l.length + 1 ∧ Value.int .i64 (mo' : Int) = .int .i64 mo ∧ Value.int .i64 ((i : Int) - 1) = .int .i64 ((m : Int) - 1) ∧ BInv w1 q l s first k m w'' ∧ (if m ≤ l.length then IsMost l m mo else mo = l.length) := fun w'' h =>
        ⟨i, mo', by omega, rfl, rfl, h, by rw [if_pos hi]; exact HMS.out⟩
      have FIN := Lib.hid fin
      clear fin
      by_cases hil : i < l.length
      · have hil2 : (i : Int) < (l.length : Int) := by omega
        obtain ⟨b, off, ha, hbw, hc⟩ := hrr.at (by intro e; simp [e] at hil)
        obtain ⟨-, -, g2, -⟩ := Gap.at (w := wr) (b := b) (o := off + i * 6) (g := l[i]) (hc i hil)
        rw [ha] at *
        cases hmu : l[i].must with
        | true =>
          rw [hmu] at g2
          have e2 : mo' = i := by rw [HMO.out, if_pos ⟨hil, by unfold mustB; rw [List.getElem?_eq_getElem hil]; exact hmu⟩]
          have E2 := Lib.hid e2
          clear hmu hc hrr hmo' e2
          go_wp2_with fail
          refine hE.out.mono ?_
          rintro e w3 ⟨rfl, hI3⟩
          have hB3 := hBg.out w3 hI3
          rw [E2.out] at hB3
          clear hI3 g2
          go_wp2_with fail
          refine hB3.mono ?_
          rintro e w4 ⟨rfl, hI4⟩
          have HI4 := Lib.hid hI4
          clear hI4
          go_wp2_with fail
          go_roundw
          case rel => have := FIN.out _ HI4.out; rw [E2.out] at this; exact this
          case measure => simp [intOf]
        | false =>
          rw [hmu] at g2
          have e2 : mo' = mo := by rw [HMO.out, if_neg (by rintro ⟨_, h⟩; unfold mustB at h; rw [List.getElem?_eq_getElem hil] at h; dsimp only at h; rw [hmu] at h; cases h)]
          have E2 := Lib.hid e2
          clear hmu hc hrr hmo' e2
          go_wp2_with fail
          refine hE.out.mono ?_
          rintro e w3 ⟨rfl, hI3⟩
          have hB3 := hBg.out w3 hI3
          rw [E2.out] at hB3
          clear hI3 g2
          go_wp2_with fail
          refine hB3.mono ?_
          rintro e w4 ⟨rfl, hI4⟩
          have HI4 := Lib.hid hI4
          clear hI4
          go_wp2_with fail
          go_roundw
          case rel => have := FIN.out _ HI4.out; rw [E2.out] at this; exact this
          case measure => simp [intOf]
      · have hil2 : decide ((i : Int) < (l.length : Int)) = false := by simp; omega
        have e2 : mo' = mo := by rw [HMO.out, if_neg (by rintro ⟨h, _⟩; exact hil h)]
        have E2 := Lib.hid e2
        clear hrr hmo' e2
        go_wp2_with fail
        refine hE.out.mono ?_
        rintro e w3 ⟨rfl, hI3⟩
        have hB3 := hBg.out w3 hI3
        rw [E2.out] at hB3
        clear hI3
        go_wp2_with fail
        refine hB3.mono ?_
        rintro e w4 ⟨rfl, hI4⟩
        have HI4 := Lib.hid hI4
        clear hI4
        go_wp2_with fail
        go_roundw
        case rel => have := FIN.out _ HI4.out; rw [E2.out] at this; exact this
        case measure => simp [intOf]
end Go.Proofs.Ytblooekephkojaa

/- The laws of told: same lists are found the same. -/
import Derived.Test.YtodjhgalbaelkaaDoorTqF
import Derived.Laws.StructEq
namespace Go.Proofs.YtodjhgalbaelkaaDoor
open Go.RowKit Go.BigFrame Go.Shelf
set_option linter.unusedVariables false

theorem row_cellsAt {w : World} {b off : Nat} {x : Edi} {i : Nat} (h : ∀ j v, (Edi.f x)[j]? = some v → w.cell? ⟨b, off + i * 3 + j, none⟩ = some v) : CellsAt w b (off + i * 3) (Edi.f x) := h

set_option maxRecDepth 100000 in
set_option maxHeartbeats 8000000 in
theorem Td.sameE (a b : Option Addr) (ca cb : Nat) (l : List Edi) (w : World) (hr : RowAt 3 Edi.f w a l) (hs : RowAt 3 Edi.f w b l) (hl : l.length ≤ 2000000) :
    Calls Tryd.prog 34 #[.slice a l.length ca, .slice b l.length cb] w fun e w' => e = .returned (.bool true) ∧ Below w.heap.size w w' := by
  have HR := Lib.hid hr
  have HS := Lib.hid hs
  clear hr hs
  have hne : ((l.length : Int) == (l.length : Int)) = true := by rw [beq_iff_eq]
  go_enter Tryd.func34, Tryd.ntmps34
  go_wp2_with fail
  go_loopw [5] (fun s5 wr => ∃ i : Nat, i ≤ l.length ∧ s5 = .int .i64 i ∧ Below w.heap.size w wr) (fun s5 _ => l.length - (intOf s5).toNat)
  case atStart => exact ⟨0, by omega, rfl, Below.refl _ _⟩
  case round =>
    obtain ⟨i, hi, rfl, hbel⟩ := hrel
    have HBEL := Lib.hid hbel
    have hsz := hbel.size
    by_cases hlt : i < l.length
    · obtain ⟨bb, off, rfl, hbw, hcc⟩ := HR.out.at (by intro e; simp [e] at hlt)
      obtain ⟨bd, ofd, rfl, hbd, hcd⟩ := HS.out.at (by intro e; simp [e] at hlt)
      have e1 := fun u : Ext wr => row_cellsAt (w := u.w) (b := bb) (off := off) (i := i) (x := l[i]) (((hcc i hlt).below hbel hbw).below u.below (by omega))
      have e2 := fun u : Ext wr => row_cellsAt (w := u.w) (b := bd) (off := ofd) (i := i) (x := l[i]) (((hcd i hlt).below hbel hbd).below u.below (by omega))
      have E1 := Lib.hid e1
      have E2 := Lib.hid e2
      clear hcc hcd hbel e1 e2
      generalize l[i] = x at *
      obtain ⟨xa, xb, xt⟩ := x
      go_wp2_with fail
      refine wp_region_quiet (C := fun w' => ∃ u : Ext wr, w' = u.w) (by kernel_rfl) (by kernel_rfl) (Ext.drew wr) ?_
      dsimp only []
      repeat (first
        | (go_big_quiet_want; (with_reducible refine quiet_load_at 50 _ rfl bb (off + i * 3) rfl (Edi.f ⟨xa, xb, xt⟩) _ (fun w' hw' => by obtain ⟨u, rfl⟩ := hw'; exact E1.out u) Tryd.underlying50 rfl (by kernel_rfl) ?_); go_big_quiet_on; simp only [Edi.f, Act.put, List.setIfInBounds_toArray, List.set_cons_succ, List.set_cons_zero])
        | (go_big_quiet_want; (with_reducible refine quiet_load_at 50 _ rfl bd (ofd + i * 3) rfl (Edi.f ⟨xa, xb, xt⟩) _ (fun w' hw' => by obtain ⟨u, rfl⟩ := hw'; exact E2.out u) Tryd.underlying50 rfl (by kernel_rfl) ?_); go_big_quiet_on; simp only [Edi.f, Act.put, List.setIfInBounds_toArray, List.set_cons_succ, List.set_cons_zero])
        | go_big_quiet_step (fail))
      refine wpQuiet_nil ?_
      rintro w' ⟨u, rfl⟩
      have HU := Lib.hid u.below
      generalize u.w = uw at *
      clear u
      go_wp2_with fail
      go_roundw
      case rel => exact ⟨i + 1, by omega, by go_num, HBEL.out.trans (HU.out.mono hsz)⟩
      case measure => simp [intOf]; omega
    · obtain rfl : i = l.length := by omega
      clear hbel
      go_wp2_with fail
      go_ret
      exact ⟨rfl, HBEL.out⟩

set_option maxRecDepth 100000 in
set_option maxHeartbeats 8000000 in
theorem Td.same (a b : Option Addr) (ca cb : Nat) (l m : List Chg) (w : World) (hr : ChsAt w a l) (hs : ChsAt w b m) (he : pcs l = pcs m) (hl : l.length ≤ 2000000) (hes : ∀ c ∈ l, c.es.length ≤ 2000000) :
    Calls Tryd.prog 15 #[.slice a l.length ca, .slice b m.length cb] w fun e w' => e = .returned (.bool true) ∧ Below w.heap.size w w' := by
  have hlm : l.length = m.length := by have := congrArg List.length he; simpa [pcs] using this
  have hat : ∀ i (h1 : i < l.length) (h2 : i < m.length), l[i].n = m[i].n ∧ l[i].es = m[i].es := fun i h1 h2 => by
    have h3 : (pcs l)[i]'(by simpa [pcs] using h1) = (pcs m)[i]'(by simpa [pcs] using h2) := by simp only [he]
    simp only [pcs, List.getElem_map, Prod.mk.injEq] at h3
    exact h3
  have HAT := Lib.hid hat
  have HR := Lib.hid hr
  have HS := Lib.hid hs
  have HES := Lib.hid hes
  have HLM := Lib.hid hlm
  clear hr hs hat he hes
  have hne : ((l.length : Int) == (l.length : Int)) = true := by rw [beq_iff_eq]
  rw [← hlm]
  clear hlm
  go_enter Tryd.func15, Tryd.ntmps15
  go_wp2_with fail
  go_loopw [5] (fun s5 wr => ∃ i : Nat, i ≤ l.length ∧ s5 = .int .i64 i ∧ Below w.heap.size w wr) (fun s5 _ => l.length - (intOf s5).toNat)
  case atStart => exact ⟨0, by omega, rfl, Below.refl _ _⟩
  case round =>
    obtain ⟨i, hi, rfl, hbel⟩ := hrel
    have HBEL := Lib.hid hbel
    have hsz := hbel.size
    by_cases hlt : i < l.length
    · have hlt2 : i < m.length := by have := HLM.out; omega
      obtain ⟨bb, off, rfl, hbw, hcc⟩ := HR.out.1.at (by intro e; simp [e] at hlt)
      obtain ⟨bd, ofd, rfl, hbd, hcd⟩ := HS.out.1.at (by intro e; simp [e] at hlt2)
      have g := fun u : Ext wr => Chg.at (w := u.w) (b := bb) (o := off + i * 2) (c := l[i]) (((hcc i hlt).below hbel hbw).below u.below (by omega))
      have k := fun u : Ext wr => Chg.at (w := u.w) (b := bd) (o := ofd + i * 2) (c := m[i]) (((hcd i hlt2).below hbel hbd).below u.below (by omega))
      obtain ⟨e1, e2⟩ := HAT.out i hlt hlt2
      have r1 := ((HR.out.2 l[i] (List.getElem_mem hlt)).below hbel (Nat.le_refl _) hsz)
      have r2 := ((HS.out.2 m[i] (List.getElem_mem hlt2)).below hbel (Nat.le_refl _) hsz)
      have hl1 := HES.out l[i] (List.getElem_mem hlt)
      rw [← e1, ← e2] at k
      rw [← e2] at r2
      have g0 := fun u => (g u).1
      have g1 := fun u => (g u).2
      have k0 := fun u => (k u).1
      have k1 := fun u => (k u).2
      have R1 := Lib.hid r1
      have R2 := Lib.hid r2
      clear hcc hcd hbel e1 e2 r1 r2 g k
      generalize l[i] = x at *
      generalize m[i] = y at *
      obtain ⟨xn, xa, xc, xes⟩ := x
      obtain ⟨yn, ya, yc, yes⟩ := y
      simp only at *
      go_wp2_with fail
      refine wp_region_quiet (C := fun w' => ∃ u : Ext wr, w' = u.w) (by kernel_rfl) (by kernel_rfl) (Ext.drew wr) ?_
      dsimp only []
      have hcall := fun u : Ext wr => Td.sameE xa ya xc yc xes u.w (R1.out.below u.below (Nat.le_refl _) u.below.size) (R2.out.below u.below (Nat.le_refl _) u.below.size) hl1
      have HCALL := Lib.hid hcall
      clear hcall
      repeat (go_big_quiet_step ((go_at_call 34; rename_i u; refine (HCALL.out u).mono ?_; rintro e w2 ⟨rfl, b2⟩; exact ⟨rfl, u.on b2⟩)))
      refine wpQuiet_nil ?_
      rintro w' ⟨u, rfl⟩
      have HU := Lib.hid u.below
      clear g0 g1 k0 k1 HCALL
      generalize u.w = uw at *
      clear u
      go_wp2_with fail
      go_roundw
      case rel => exact ⟨i + 1, by omega, by go_num, HBEL.out.trans (HU.out.mono hsz)⟩
      case measure => simp [intOf]; omega
    · obtain rfl : i = l.length := by omega
      clear hbel
      go_wp2_with fail
      go_ret
      exact ⟨rfl, HBEL.out⟩
end Go.Proofs.YtodjhgalbaelkaaDoor

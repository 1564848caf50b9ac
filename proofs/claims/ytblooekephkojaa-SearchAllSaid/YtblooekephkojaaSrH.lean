/- Search: the law SearchCosts, walked. -/
import Derived.Test.YtblooekephkojaaSrF
import Derived.Test.YtblooekephkojaaSrD
import Derived.Test.YtblooekephkojaaApp
namespace Go.Proofs.Ytblooekephkojaa
open Go.RowKit Go.BigFrame
set_option linter.unusedVariables false

theorem own_row {w : World} {base e : Nat} {v : Value} {n : Nat} {ws : List Bool} (h : w.ownsRow base e 1 v n (ws.map Value.bool)) : ∃ a cap, v = .slice a n cap ∧ ws.length = n ∧ RowAt 1 boolF w a ws := by
  obtain ⟨hl, h⟩ := h
  simp at hl
  rcases h with ⟨rfl, rfl⟩ | ⟨g, cap, cur, rfl, hb, hg, hn, hm, hc, ht⟩
  · exact ⟨none, 0, rfl, hl, .inl (List.length_eq_zero_iff.1 hl)⟩
  · refine ⟨_, cap, rfl, hl, .inr ⟨g, 0, rfl, (Array.getElem?_eq_some_iff.1 hg).1, fun i hi j v hv => ?_⟩⟩
    have hj : j = 0 := by
      cases j with
      | zero => rfl
      | succ j => simp [boolF] at hv
    subst hj
    simp [boolF] at hv
    subst hv
    simp only [World.cell?, hg]
    have : cur.toList[i]? = some (Value.bool ws[i]) := by
      have h1 : (cur.toList.take (n * 1))[i]? = some (Value.bool ws[i]) := by rw [ht]; simp [hi]
      rw [List.getElem?_take] at h1
      split at h1
      · exact h1
      · cases h1
    simpa using this

theorem cell_keep {w w' : World} {p : Addr} {v : Value} (hb : Below w.heap.size w w') (h : w.cell? p = some v) : w'.cell? p = some v := (hb.cell (World.block_lt_of_cell? w p h)).trans h
theorem boolF_flat (ws : List Bool) : ws.flatMap boolF = ws.map Value.bool := by
  induction ws with
  | nil => rfl
  | cons a l ih => rw [List.flatMap_cons, ih]; rfl

theorem infoBool : (Try.prog.info? 4).map (fun i => (i.zero, i.size, i.bytes)) = some (some (.bool false), 1, 1) := by kernel_rfl

abbrev wayCells (a : Option Addr) (n c : Nat) (s : Sty) : Array Value := #[.slice a n c, .int .i64 s.c, .int .i64 s.i1, .int .i64 s.i2, .int .i64 s.i3, .bool s.b1, .bool s.b2, .bool s.b3, .int .i64 s.e, .int .i64 s.o1, .int .i64 s.o2, .int .i64 s.o3, .int .i64 s.o4, .int .i64 s.o5, .int .i64 s.o6, .int .i64 s.o7, .int .i64 s.o8, .int .i64 s.o9, .int .i64 s.o10]

set_option maxHeartbeats 4000000 in
set_option maxRecDepth 100000 in
theorem Sr.law_costs (first : Int) (a1 a2 : Option Addr) (l : List Gap) (ws : List Bool) (c1 c2 : Nat) (s : Sty) (w : World) (hl : l.length ≤ 9223372036854775807) (hl2 : ws.length ≤ 140737488351232) (hn : a2 = none → ws = [] ∧ c2 = 0)
    (hr : RowAt 6 Gap.f w a1 l) (hr2 : RowAt 1 boolF w a2 ws) :
    Calls Try.prog 4 #[.int .i64 first, .slice a1 l.length c1, .agg (wayCells a2 ws.length c2 s)] w fun e w' => e = .returned (.bool true) ∧ Below w.heap.size w w' := by
  obtain ⟨i0, hi, hz0, hz1, hz2⟩ := info_parts infoBool
  have HN := Lib.hid hn
  -- the boxed way, and the slice that is made empty
  obtain ⟨W, hW⟩ : ∃ W, W = (w.alloc (.cells (wayCells a2 ws.length c2 s) 29)).alloc (.cells #[] 4) := ⟨_, rfl⟩
  have hBW : Below w.heap.size w W := by rw [hW]; exact ((Below.refl _ _).alloc (Nat.le_refl _) _).alloc (by simp) _
  have hWs : W.heap.size = w.heap.size + 2 := by rw [hW]; simp
  have hr2W := hr2.below hBW (Nat.le_refl _) (by omega)
  have hwayW : W.heap[w.heap.size]? = some (.cells (wayCells a2 ws.length c2 s) 29 (0, 0)) := by
    rw [hW, Lib.alloc_old _ _ _ (by simp)]; exact heap_alloc_new _ _
  have hownW : W.ownsRow (w.heap.size + 1) 4 1 (.slice (some ⟨w.heap.size + 1, 0, none⟩) 0 0) 0 [] := by
    refine ⟨rfl, .inr ⟨w.heap.size + 1, 0, #[], rfl, Nat.le_refl _, ?_, Nat.le_refl _, Nat.zero_le _, rfl, rfl⟩⟩
    rw [hW]
    have := heap_alloc_new (w.alloc (.cells (wayCells a2 ws.length c2 s) 29)) (.cells #[] 4)
    simpa using this
  have HW := Lib.hid hW
  clear hn
  go_enter Try.func4, Try.ntmps4
  go_wp2_with (at_builtin; rw [← hW]; refine wpList_append_rows boolF rfl _ _ 25 rfl (w.heap.size + 1) 4 i0 (.bool false) 1 1 Try.underlying25 hi hz0 hz1 hz2 rfl (by decide) (fun _ => rfl) (fun g u hu => by simp [boolF] at hu; subst hu; rfl) _ 0 [] rfl hownW a2 ws c2 rfl HN.out hr2W ?c1 ?c2 ?c3 ?_)
  case c1 => unfold maxLen; omega
  case c2 => omega
  case c3 => omega
  intro v' w1 hown' hgrow
  rw [← HW.out] at hgrow
  clear hW hownW
  have hown2 : w1.ownsRow (w.heap.size + 1) 4 1 v' ws.length (ws.map Value.bool) := by
    rw [← boolF_flat]; simpa using hown'
  obtain ⟨a3, c3, rfl, hl3, hr3⟩ := own_row hown2
  clear hown2
  have hg2 : w1.heap[w.heap.size]? = some (.cells (wayCells a2 ws.length c2 s) 29 (0, 0)) := by
    rw [hgrow.block w.heap.size (by omega) (by simp [Value.ownBlock])]; exact hwayW
  have B1 : Below w.heap.size w w1 := hBW.grown hgrow (by omega) (fun k hk => by simp [Value.ownBlock] at hk; omega)
  have hs1 : w.heap.size + 2 ≤ w1.heap.size := by have := hgrow.size; omega
  clear hgrow hown' hwayW hBW HW hr2W
  have hc27 : CellsAt w1 w.heap.size 1 s.cells.toList := by
    have := (CellsAt.of_heap hg2).part 1 18
    simpa using this
  have hc25 : w1.cell? ⟨w.heap.size, 0, none⟩ = some (.slice a2 ws.length c2) := CellsAt.of_heap hg2 0 _ rfl
  have hrA := hr.below B1 (Nat.le_refl _) (by omega)
  go_wp2_with (with_reducible refine wpList_load_at rfl 27 _ rfl _ _ rfl s.cells.toList _ hc27 Try.underlying27 rfl (by kernel_rfl) ?_)
  refine (Sr.costAll first a1 a3 l ws c1 c3 s _ hl (by omega) hrA hr3).mono ?_
  rintro e w2 ⟨rfl, b2⟩
  have B2 : Below w.heap.size w w2 := B1.trans (b2.mono (by omega))
  have hs2 := b2.size
  have hc27' : CellsAt w2 w.heap.size 1 s.cells.toList := hc27.below b2 (by omega)
  have hrB := hr.below B2 (Nat.le_refl _) (by omega)
  clear hrA hc27
  obtain ⟨z1, z2, hz⟩ : ∃ z1 z2, costR first l ws s = (z1, z2) := ⟨_, _, rfl⟩
  rw [hz]
  have HZ := Lib.hid hz
  clear hz
  go_wp2_with (with_reducible refine wpList_load_at rfl 27 _ rfl _ _ rfl s.cells.toList _ hc27' Try.underlying27 rfl (by kernel_rfl) ?_)
  refine (Sr.refCheck first a1 l c1 s _ hl hrB).mono ?_
  rintro e w3 ⟨rfl, b3⟩
  have B3 : Below w.heap.size w w3 := B2.trans (b3.mono (by omega))
  have hs3 := b3.size
  have hc27'' : CellsAt w3 w.heap.size 1 s.cells.toList := hc27'.below b3 (by omega)
  have hrC := hr.below B3 (Nat.le_refl _) (by omega)
  have hr2C := hr2.below B3 (Nat.le_refl _) (by omega)
  have hr3C := (hr3.below b2 (Nat.le_refl _) hs2).below b3 (Nat.le_refl _) hs3
  have hc25' : w3.cell? ⟨w.heap.size, 0, none⟩ = some (.slice a2 ws.length c2) := cell_keep b3 (cell_keep b2 hc25)
  clear hrB hc27' hr3 hg2 hc25
  obtain ⟨z, hzz⟩ : ∃ z, z = chk first l s := ⟨_, rfl⟩
  rw [← hzz]
  by_cases h0 : z = 0
  · subst h0
    obtain ⟨hS, hL, hF0, hF1, hG⟩ := chk_ok hzz.symm
    have HG := Lib.hid hG
    clear hG
    by_cases h1 : ws.length = l.length
    · have hcr : costR first l ws s = if (l.zip ws).all fitB then (cost s first (l.zip ws), 0) else (0, 2) := by
        unfold costR; rw [if_neg (by rw [← hzz]; simp), if_neg (by simpa using h1)]
      rw [HZ.out] at hcr
      have HR := Lib.hid hcr
      have HL := Lib.hid h1
      have HQ := Lib.hid hzz
      clear hcr h1 hzz
      go_wp2_with (with_reducible refine wpList_load_at rfl 27 _ rfl _ _ rfl s.cells.toList _ hc27'' Try.underlying27 rfl (by kernel_rfl) ?_)
      refine (Sr.refCost_c first a1 a2 l ws c1 c2 s _ hL hrC hr2C hS hF0 hF1 HG.out HL.out).mono ?_
      rintro e w4 ⟨rfl, b4⟩
      have B4 : Below w.heap.size w w4 := B3.trans (b4.mono (by omega))
      have hs4 := b4.size
      cases hfit : (l.zip ws).all fitB
      · have hr := HR.out
        rw [hfit] at hr
        simp only [Bool.false_eq_true, if_false, Prod.mk.injEq] at hr
        obtain ⟨rfl, rfl⟩ := hr
        clear hfit HR
        go_wp2
        go_ret
        exact ⟨rfl, B4⟩
      · have hr := HR.out
        rw [hfit] at hr
        simp only [if_true, Prod.mk.injEq] at hr
        obtain ⟨rfl, rfl⟩ := hr
        clear hfit HR HZ
        simp only [if_true]
        generalize cost s first (l.zip ws) = C
        have hc25'' : w4.cell? ⟨w.heap.size, 0, none⟩ = some (.slice a2 ws.length c2) := cell_keep b4 hc25'
        have hr2D := hr2.below B4 (Nat.le_refl _) (by omega)
        have hr3D := hr3C.below b4 (Nat.le_refl _) hs4
        clear hc25' hr2C hr3C hrC hr hr2
        go_wp2_with fail
        refine (Sr.same a3 a2 ws ws c3 c2 _ (by omega) hr3D hr2D).mono ?_
        rintro e w5 ⟨rfl, b5⟩
        rw [decide_eq_true rfl]
        go_wp2
        go_ret
        exact ⟨rfl, B4.trans (b5.mono (by omega))⟩
    · have hcr : costR first l ws s = (0, 2) := by
        unfold costR; rw [if_neg (by rw [← hzz]; simp), if_pos h1]
      rw [HZ.out] at hcr
      obtain ⟨rfl, rfl⟩ := Prod.mk.inj hcr
      have HL := Lib.hid h1
      have HQ := Lib.hid hzz
      clear hcr h1 hzz
      go_wp2_with (with_reducible refine wpList_load_at rfl 27 _ rfl _ _ rfl s.cells.toList _ hc27'' Try.underlying27 rfl (by kernel_rfl) ?_)
      refine (Sr.refCost_b first a1 a2 l ws c1 c2 s _ HL.out).mono ?_
      rintro e w4 ⟨rfl, b4⟩
      go_wp2
      go_ret
      exact ⟨rfl, B3.trans (b4.mono (by omega))⟩
  · have hcr : costR first l ws s = (0, z) := by
      unfold costR; rw [if_pos (by rw [← hzz]; exact h0), ← hzz]
    rw [HZ.out] at hcr
    obtain ⟨rfl, rfl⟩ := Prod.mk.inj hcr
    have hzb : (z2 != 0) = true := by simpa using h0
    have HQ := Lib.hid hzz
    clear hcr h0 hzz HZ
    go_wp2
    go_ret
    exact ⟨by simp, B3⟩
end Go.Proofs.Ytblooekephkojaa

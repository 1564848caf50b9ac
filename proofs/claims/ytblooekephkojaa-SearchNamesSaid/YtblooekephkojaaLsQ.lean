/- The law SearchWider. -/
import Derived.Test.YtblooekephkojaaLsP
import Derived.Test.YtblooekephkojaaLtE
import Derived.Test.YtblooekephkojaaSrG
namespace Go.Proofs.Ytblooekephkojaa
open Go.RowKit Go.BigFrame Go.Shelf
set_option linter.unusedVariables false

theorem alloc_setRow (w : World) (old cs : Array Value) (t : TypeId) : (w.alloc (.cells old t)).setRow w.heap.size cs = w.alloc (.cells cs t) := by
  have h : ((w.alloc (.cells old t)).setRow w.heap.size cs).heap = (w.alloc (.cells cs t)).heap := by
    apply Array.ext
    · simp
    · intro i h1 h2
      apply Option.some.inj
      rw [← Array.getElem?_eq_getElem h1, ← Array.getElem?_eq_getElem h2]
      by_cases hi : i = w.heap.size
      · subst hi
        rw [setRow_heap _ _ _ _ _ _ (heap_alloc_new w (.cells old t)), heap_alloc_new]
      · have hlt : i < w.heap.size := by simp at h2; omega
        rw [setRow_other _ _ _ _ hi, Lib.alloc_old _ _ _ hlt, Lib.alloc_old _ _ _ hlt]
  show ({ w.alloc (.cells old t) with heap := ((w.alloc (.cells old t)).setRow w.heap.size cs).heap } : World) = _
  rw [h]
  rfl

theorem alloc_setRow' {w : World} {g : Nat} (hg : w.heap.size = g) (old cs : Array Value) (t : TypeId) : (w.alloc (.cells old t)).setRow g cs = w.alloc (.cells cs t) := by
  subst hg; exact alloc_setRow w old cs t
theorem heap_alloc_at {w : World} {g : Nat} (hg : w.heap.size = g) (o : Obj) : (w.alloc o).heap[g]? = some o := by subst hg; exact heap_alloc_new _ _

/-- What Best answers, be the line had or not. -/
def BestAny (first : Int) (l : List Gap) (s : Sty) (w : World) (e : Ending) (w' : World) : Prop :=
  ∃ (v : Value) (c : Int), e = .returned (.tuple #[v, .int .i64 c, .int .i64 (chk first l s)]) ∧ (chk first l s = 0 → ∃ y, IsOpt s first l y c) ∧ Below w.heap.size w w'
theorem Ls.best_any (first : Int) (ga : Option Addr) (l : List Gap) (gc : Nat) (s : Sty) (w : World) (hl : l.length ≤ 9223372036854775807) (hr : RowAt 6 Gap.f w ga l) :
    Calls Try.prog 35 #[.int .i64 first, .slice ga l.length gc, .agg s.cells] w (BestAny first l s w) := by
  by_cases hz : chk first l s = 0
  · refine (Ls.best_ok first ga l gc s w hr hz).mono ?_
    rintro e w' ⟨y, c, b, ho, rfl, _, _, hb, _⟩
    exact ⟨_, c, by rw [hz], fun _ => ⟨y, ho⟩, hb⟩
  · refine (Ls.best_bad first ga l gc s w hl hr _ rfl hz).mono ?_
    rintro e w' ⟨rfl, hb⟩
    exact ⟨_, 0, rfl, fun h => absurd h hz, hb⟩

abbrev wideCells (s : Sty) (more : Int) : Array Value := #[.int .i64 s.c, .int .i64 s.i1, .int .i64 s.i2, .int .i64 s.i3, .bool s.b1, .bool s.b2, .bool s.b3, .int .i64 s.e, .int .i64 s.o1, .int .i64 s.o2, .int .i64 s.o3, .int .i64 s.o4, .int .i64 s.o5, .int .i64 s.o6, .int .i64 s.o7, .int .i64 s.o8, .int .i64 s.o9, .int .i64 s.o10, .int .i64 more]

theorem wide_cells {w : World} {b : Nat} {s : Sty} {more : Int} (h : w.heap[b]? = some (.cells (wideCells s more) 68 (0, 0))) : CellsAt w b 0 s.cells.toList ∧ w.cell? ⟨b, 18, none⟩ = some (.int .i64 more) := by
  have h1 := CellsAt.of_heap h
  refine ⟨?_, by simp [World.cell?, h, wideCells]⟩
  have := h1.part 0 18
  exact this

set_option maxRecDepth 100000 in
set_option maxHeartbeats 4000000 in
theorem Ls.law_wider (first : Int) (ga : Option Addr) (l : List Gap) (gc : Nat) (s : Sty) (more : Int) (w : World) (hl : l.length ≤ 9223372036854775807) (hr : RowAt 6 Gap.f w ga l) :
    Calls Try.prog 11 #[.int .i64 first, .slice ga l.length gc, .agg (wideCells s more)] w fun e w' => e = .returned (.bool true) ∧ Below w.heap.size w w' := by
  obtain ⟨W1, hW1⟩ : ∃ W1, W1 = w.alloc (.cells (wideCells s more) 68) := ⟨_, rfl⟩
  have hg : W1.heap[w.heap.size]? = some (.cells (wideCells s more) 68 (0, 0)) := by rw [hW1]; exact heap_alloc_new _ _
  have hB1 : Below w.heap.size w W1 := by rw [hW1]; exact below_alloc _ _
  have hs1 : W1.heap.size = w.heap.size + 1 := by rw [hW1]; simp
  have HW1 := Lib.hid hW1
  have HG := Lib.hid hg
  have HB1 := Lib.hid hB1
  clear hW1 hg hB1
  go_enter Try.func11, Try.ntmps11
  go_wp2_with fail
  rw [← HW1.out]
  refine (Ls.alive W1).mono ?_
  rintro e w2 ⟨rfl, b2⟩
  have hg2 := heap_below b2 HG.out (by omega)
  have hB2 : Below w.heap.size w w2 := HB1.out.trans (b2.mono (by omega))
  have hr2 := hr.below hB2 (Nat.le_refl _) hB2.size
  obtain ⟨hcl, hcm⟩ := wide_cells hg2
  have hsz2 := hB2.size
  have hlt2 : w.heap.size < w2.heap.size := by have := b2.size; omega
  have HB2 := Lib.hid hB2
  clear hr b2 hB2
  by_cases hbad : 2000 < l.length ∨ more < 0 ∨ 10000 < more
  · have HBAD := Lib.hid hbad
    clear hbad
    go_wp2_with fail
    all_goals (first | (exfalso; have h := HBAD.out; omega) | (go_ret; exact ⟨rfl, HB2.out⟩))
  · have n1 : (l.length : Int) ≤ 2000 := by omega
    have n2 : 0 ≤ more := by omega
    have n3 : more ≤ 10000 := by omega
    clear hbad
    go_wp2_with (with_reducible refine wpList_load_at rfl 27 _ rfl _ _ rfl s.cells.toList _ hcl Try.underlying27 rfl (by kernel_rfl) ?_)
    refine (Ls.best_any first ga l gc s w2 hl hr2).mono ?_
    rintro e w3 ⟨v1, k1, rfl, ho1, b3⟩
    have hg3 := heap_below b3 hg2 (by omega)
    have hB3 : Below w.heap.size w w3 := HB2.out.trans (b3.mono hsz2)
    have hr3 := hr2.below b3 (Nat.le_refl _) b3.size
    obtain ⟨hcl3, hcm3⟩ := wide_cells hg3
    have hsz3 := hB3.size
    have HB3 := Lib.hid hB3
    have HO1 := Lib.hid ho1
    have hb3 : w.heap.size < w3.heap.size := by have := b3.size; omega
    clear hr2 b3 hB3 hg2 hcl hcm ho1
    have hal := heap_alloc_new w3 (.cells #[.int .i64 0, .int .i64 0, .int .i64 0, .int .i64 0, .bool false, .bool false, .bool false, .int .i64 0, .int .i64 0, .int .i64 0, .int .i64 0, .int .i64 0, .int .i64 0, .int .i64 0, .int .i64 0, .int .i64 0, .int .i64 0, .int .i64 0] 27)
    have hBb : Below w3.heap.size w3 (w3.alloc (.cells #[.int .i64 (wrap64 (s.c + more)), .int .i64 s.i1, .int .i64 s.i2, .int .i64 s.i3, .bool s.b1, .bool s.b2, .bool s.b3, .int .i64 s.e, .int .i64 s.o1, .int .i64 s.o2, .int .i64 s.o3, .int .i64 s.o4, .int .i64 s.o5, .int .i64 s.o6, .int .i64 s.o7, .int .i64 s.o8, .int .i64 s.o9, .int .i64 s.o10] 27)) := below_alloc _ _
    have hclb := hcl3.below hBb hb3
    have hsb : (w3.alloc (.cells #[.int .i64 (wrap64 (s.c + more)), .int .i64 s.i1, .int .i64 s.i2, .int .i64 s.i3, .bool s.b1, .bool s.b2, .bool s.b3, .int .i64 s.e, .int .i64 s.o1, .int .i64 s.o2, .int .i64 s.o3, .int .i64 s.o4, .int .i64 s.o5, .int .i64 s.o6, .int .i64 s.o7, .int .i64 s.o8, .int .i64 s.o9, .int .i64 s.o10] 27)).heap.size = w3.heap.size + 1 := by simp
    have halb := heap_alloc_at hsb (.cells #[.int .i64 0, .int .i64 0, .int .i64 0, .int .i64 0, .bool false, .bool false, .bool false, .int .i64 0, .int .i64 0, .int .i64 0, .int .i64 0, .int .i64 0, .int .i64 0, .int .i64 0, .int .i64 0, .int .i64 0, .int .i64 0, .int .i64 0] 27)
    have hw4 : ((w3.alloc (.cells #[.int .i64 (wrap64 (s.c + more)), .int .i64 s.i1, .int .i64 s.i2, .int .i64 s.i3, .bool s.b1, .bool s.b2, .bool s.b3, .int .i64 s.e, .int .i64 s.o1, .int .i64 s.o2, .int .i64 s.o3, .int .i64 s.o4, .int .i64 s.o5, .int .i64 s.o6, .int .i64 s.o7, .int .i64 s.o8, .int .i64 s.o9, .int .i64 s.o10] 27)).alloc (.cells #[.int .i64 s.c, .int .i64 s.i1, .int .i64 s.i2, .int .i64 s.i3, .bool s.b1, .bool s.b2, .bool s.b3, .int .i64 (wrap64 (s.e + more)), .int .i64 s.o1, .int .i64 s.o2, .int .i64 s.o3, .int .i64 s.o4, .int .i64 s.o5, .int .i64 s.o6, .int .i64 s.o7, .int .i64 s.o8, .int .i64 s.o9, .int .i64 s.o10] 27)).heap[w3.heap.size]? = some (.cells #[.int .i64 (wrap64 (s.c + more)), .int .i64 s.i1, .int .i64 s.i2, .int .i64 s.i3, .bool s.b1, .bool s.b2, .bool s.b3, .int .i64 s.e, .int .i64 s.o1, .int .i64 s.o2, .int .i64 s.o3, .int .i64 s.o4, .int .i64 s.o5, .int .i64 s.o6, .int .i64 s.o7, .int .i64 s.o8, .int .i64 s.o9, .int .i64 s.o10] 27 (0, 0)) := by
      rw [Lib.alloc_old _ _ _ (by simp)]; exact heap_alloc_new _ _
    have hd4 := heap_alloc_at hsb (.cells #[.int .i64 s.c, .int .i64 s.i1, .int .i64 s.i2, .int .i64 s.i3, .bool s.b1, .bool s.b2, .bool s.b3, .int .i64 (wrap64 (s.e + more)), .int .i64 s.o1, .int .i64 s.o2, .int .i64 s.o3, .int .i64 s.o4, .int .i64 s.o5, .int .i64 s.o6, .int .i64 s.o7, .int .i64 s.o8, .int .i64 s.o9, .int .i64 s.o10] 27)
    have hB4 : Below w3.heap.size w3 ((w3.alloc (.cells #[.int .i64 (wrap64 (s.c + more)), .int .i64 s.i1, .int .i64 s.i2, .int .i64 s.i3, .bool s.b1, .bool s.b2, .bool s.b3, .int .i64 s.e, .int .i64 s.o1, .int .i64 s.o2, .int .i64 s.o3, .int .i64 s.o4, .int .i64 s.o5, .int .i64 s.o6, .int .i64 s.o7, .int .i64 s.o8, .int .i64 s.o9, .int .i64 s.o10] 27)).alloc (.cells #[.int .i64 s.c, .int .i64 s.i1, .int .i64 s.i2, .int .i64 s.i3, .bool s.b1, .bool s.b2, .bool s.b3, .int .i64 (wrap64 (s.e + more)), .int .i64 s.o1, .int .i64 s.o2, .int .i64 s.o3, .int .i64 s.o4, .int .i64 s.o5, .int .i64 s.o6, .int .i64 s.o7, .int .i64 s.o8, .int .i64 s.o9, .int .i64 s.o10] 27)) := hBb.alloc (by simp) _
    have HSB := Lib.hid hsb
    have HB4 := Lib.hid hB4
    clear hBb hsb hB4
    go_wp2_with (first
      | (with_reducible refine wpList_load_at rfl 27 _ rfl _ _ rfl s.cells.toList _ hcl3 Try.underlying27 rfl (by kernel_rfl) ?_)
      | (with_reducible refine wpList_store_row rfl 27 _ _ rfl w3.heap.size s.cells rfl rfl 27 _ hal (by kernel_rfl) (by kernel_rfl) (by kernel_rfl) ?_; rw [alloc_setRow])
      | (with_reducible refine wpList_load_at rfl 27 _ rfl _ _ rfl s.cells.toList _ hclb Try.underlying27 rfl (by kernel_rfl) ?_)
      | (with_reducible refine wpList_store_row rfl 27 _ _ rfl (w3.heap.size + 1) s.cells rfl rfl 27 _ halb (by kernel_rfl) (by kernel_rfl) (by kernel_rfl) ?_; rw [alloc_setRow' HSB.out])
      | (with_reducible refine wpList_load_row rfl 27 _ rfl _ rfl 27 _ _ _ hw4 Try.underlying27 rfl (by kernel_rfl) ?_))
    generalize hW4 : (w3.alloc (.cells #[.int .i64 (wrap64 (s.c + more)), .int .i64 s.i1, .int .i64 s.i2, .int .i64 s.i3, .bool s.b1, .bool s.b2, .bool s.b3, .int .i64 s.e, .int .i64 s.o1, .int .i64 s.o2, .int .i64 s.o3, .int .i64 s.o4, .int .i64 s.o5, .int .i64 s.o6, .int .i64 s.o7, .int .i64 s.o8, .int .i64 s.o9, .int .i64 s.o10] 27)).alloc (.cells #[.int .i64 s.c, .int .i64 s.i1, .int .i64 s.i2, .int .i64 s.i3, .bool s.b1, .bool s.b2, .bool s.b3, .int .i64 (wrap64 (s.e + more)), .int .i64 s.o1, .int .i64 s.o2, .int .i64 s.o3, .int .i64 s.o4, .int .i64 s.o5, .int .i64 s.o6, .int .i64 s.o7, .int .i64 s.o8, .int .i64 s.o9, .int .i64 s.o10] 27) = W4 at *
    clear hW4 hal hclb halb HSB hcl3 hcm3
    have hsz4 := HB4.out.size
    have hr4 := hr3.below HB4.out (Nat.le_refl _) hsz4
    refine (Ls.best_any first ga l gc { s with c := wrap64 (s.c + more) } W4 hl hr4).mono ?_
    rintro e w5 ⟨v2, k2, rfl, ho2, b5⟩
    have hd5 := heap_below b5 hd4 (Array.getElem?_eq_some_iff.1 hd4).1
    have hr5 := hr4.below b5 (Nat.le_refl _) b5.size
    have hB5 : Below w.heap.size w w5 := HB3.out.trans ((HB4.out.trans (b5.mono hsz4)).mono hsz3)
    have HB5 := Lib.hid hB5
    have HO2 := Lib.hid ho2
    clear b5 hB5 ho2 hr4 hr3 hw4 hd4 hg3
    go_wp2_with (with_reducible refine wpList_load_row rfl 27 _ rfl _ rfl 27 _ _ _ hd5 Try.underlying27 rfl (by kernel_rfl) ?_)
    refine (Ls.best_any first ga l gc { s with e := wrap64 (s.e + more) } w5 hl hr5).mono ?_
    rintro e w6 ⟨v3, k3, rfl, ho3, b6⟩
    have hB6 : Below w.heap.size w w6 := HB5.out.trans (b6.mono HB5.out.size)
    have HB6 := Lib.hid hB6
    have HO3 := Lib.hid ho3
    clear b6 hB6 ho3 hr5 hd5
    obtain ⟨z1, hz1⟩ : ∃ z1, z1 = chk first l s := ⟨_, rfl⟩
    obtain ⟨z2, hz2⟩ : ∃ z2, z2 = chk first l { s with c := wrap64 (s.c + more) } := ⟨_, rfl⟩
    obtain ⟨z3, hz3⟩ : ∃ z3, z3 = chk first l { s with e := wrap64 (s.e + more) } := ⟨_, rfl⟩
    rw [← hz1, ← hz2, ← hz3]
    have HZ1 := Lib.hid hz1
    have HZ2 := Lib.hid hz2
    have HZ3 := Lib.hid hz3
    clear hz1 hz2 hz3
    by_cases h1 : z1 = 0
    · obtain ⟨y1, o1⟩ := HO1.out (by rw [← HZ1.out]; exact h1)
      obtain ⟨⟨q1, q2, q3, q4⟩, -⟩ := chk_ok (HZ1.out.symm.trans h1)
      have e1 : wrap64 (s.c + more) = s.c + more := by unfold wrap64; omega
      have e2 : wrap64 (s.e + more) = s.e + more := by unfold wrap64; omega
      have hle : z2 = 0 → k2 ≤ k1 := fun hh => by
        obtain ⟨y2, o2⟩ := HO2.out (by rw [← HZ2.out]; exact hh)
        exact opt_mono (s := s) (s' := { s with c := wrap64 (s.c + more) }) (by dsimp only; omega) (Int.le_refl _) q3 o1 o2
      have hge : z3 = 0 → k1 ≤ k3 := fun hh => by
        obtain ⟨y3, o3⟩ := HO3.out (by rw [← HZ3.out]; exact hh)
        exact opt_mono (s := { s with e := wrap64 (s.e + more) }) (s' := s) (Int.le_refl _) (by dsimp only; omega) q3 o3 o1
      have d1 : (z1 != 0) = false := by simpa using h1
      clear q1 q2 q3 q4 e1 e2 o1
      by_cases h2 : z2 = 0
      · have d2 : (z2 != 0) = false := by simpa using h2
        have d2' : decide (k2 ≤ k1) = true := by simpa using hle h2
        by_cases h3 : z3 = 0
        · have d3 : (z3 != 0) = false := by simpa using h3
          have d3' : decide (k1 ≤ k3) = true := by simpa using hge h3
          clear hle hge h1 h2 h3
          go_wp2_with fail
          go_ret
          exact ⟨ret_bool (by simp), HB6.out⟩
        · have d3 : (z3 != 0) = true := by simpa using h3
          clear hle hge h1 h2 h3
          go_wp2_with fail
          go_ret
          exact ⟨ret_bool (by simp), HB6.out⟩
      · have d2 : (z2 != 0) = true := by simpa using h2
        by_cases h3 : z3 = 0
        · have d3 : (z3 != 0) = false := by simpa using h3
          have d3' : decide (k1 ≤ k3) = true := by simpa using hge h3
          clear hle hge h1 h2 h3
          go_wp2_with fail
          go_ret
          exact ⟨ret_bool (by simp), HB6.out⟩
        · have d3 : (z3 != 0) = true := by simpa using h3
          clear hle hge h1 h2 h3
          go_wp2_with fail
          go_ret
          exact ⟨ret_bool (by simp), HB6.out⟩
    · have d1 : (z1 != 0) = true := by simpa using h1
      go_wp2_with fail
      go_ret
      exact ⟨rfl, HB6.out⟩

theorem Cel.c68 : Try.prog.cellsOf 68 = 19 := by kernel_rfl
section
variable {H : Type} {enc : TypeId × Value → H} {w : World} {base : Nat} {spare : TypeId → Bool} {held : Bool}
theorem rd_wide {fuel : Nat} {cs : List Value} {x : DataW H × List MemPlace} (h : DataW.trod enc Try.prog w base spare held fuel 68 cs = some x) (hw : Fits Try.prog 68 x.1) :
    ∃ (s : Sty) (more : Int), cs = s.cells.toList ++ [.int .i64 more] := by
  obtain ⟨hl, hf⟩ := rd_fields Try.underlying68 h hw
  rw [Cel.c68] at hl
  obtain ⟨n0, y0, f0, w0⟩ := hf 0 27 0 rfl
  obtain ⟨n1, y1, f1, w1⟩ := hf 1 3 18 rfl
  simp only [Cel.c27, Cel.c3] at f0 f1
  obtain ⟨s, e0⟩ := rd_sty f0 w0
  obtain ⟨m, e1⟩ := rd_int3 f1
  refine ⟨s, m, ?_⟩
  rw [List.drop_zero] at e0
  rw [List.take_of_length_le (by simp; omega)] at e1
  rw [← e0, ← e1, List.take_append_drop]
end
end Go.Proofs.Ytblooekephkojaa

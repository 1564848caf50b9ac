/- search.least: of. -/
import Derived.Test.YtblooekephkojaaLsC
import Derived.RangeFuncFrom
namespace Go.Proofs.Ytblooekephkojaa
open Go.RowKit Go.BigFrame Go.Shelf
set_option linter.unusedVariables false
attribute [local go_sem] Oper.semAt_some

theorem ownFrom_mod {β : Type} {B : Nat} {I : β → World → Prop} (h : ∀ s W W', I s W → Mod (fun k => B ≤ k) W W' → I s W') : OwnFrom B I :=
  fun s W W' row hs hg hr => h s W W' hs ⟨hg.os, hg.tape, hg.output, hg.size, fun k hk hB => hg.block k hk (fun e => hB (hr k e.symm).1)⟩

/-- The best of some nodes. -/
def fold (v best : List Int) (l : List Nat) : Int := l.foldl (fun p x => better v p (best.getD x 0)) (-1)
theorem fold_snoc (v best : List Int) (l : List Nat) (x : Nat) : fold v best (l ++ [x]) = better v (fold v best l) (best.getD x 0) := by simp [fold]
theorem fold_lt (v best : List Int) (h : ∀ y ∈ best, y < (v.length : Int)) (h0 : 0 < v.length) (l : List Nat) : fold v best l < (v.length : Int) := by
  unfold fold
  suffices H : ∀ (l : List Nat) (p : Int), p < (v.length : Int) → l.foldl (fun p x => better v p (best.getD x 0)) p < (v.length : Int) from H l (-1) (by omega)
  intro l
  induction l with
  | nil => intro p hp; exact hp
  | cons x l ih => intro p hp; exact ih _ (better_lt hp (getD_lt h h0))

/-- What of answers. -/
def ofR (size : Nat) (v best : List Int) (x y : Nat) : Int × Int :=
  let p := fold v best (cov (size + y + 1) (size + x) (size + y))
  if p < 0 then (-1, 0) else (p, v.getD p.toNat 0)

set_option maxRecDepth 100000 in
set_option maxHeartbeats 4000000 in
theorem Ls.of (F V T size : Nat) (v best : List Int) (x y : Nat) (w : World) (hL : Least w F V T size v best) (hs : size ≤ 200000) (hx : x ≤ size) (hy : y ≤ size) (hvl : v.length ≤ 200000) (h0 : 0 < v.length) (hbl : best.length = 2 * size) (hb : ∀ z ∈ best, z < (v.length : Int)) :
    Calls Try.prog 65 #[.pointer (some ⟨F, 0, none⟩), .int .i64 x, .int .i64 y] w fun e w' => e = .returned (.tuple #[.int .i64 (ofR size v best x y).1, .int .i64 (ofR size v best x y).2]) ∧ Below w.heap.size w w' := by
  obtain ⟨z1, z2, hz⟩ : ∃ z1 z2, ofR size v best x y = (z1, z2) := ⟨_, _, rfl⟩
  rw [hz]
  have HZ := Lib.hid hz
  clear hz
  have HBL := Lib.hid hbl
  have HB := Lib.hid hb
  clear hbl hb
  refine (callsIn_wide (n := 5)).1 ?_
  refine callsIn_of_wp_marks Try.func65 rfl trivial ?_ rfl
  simp only [Try.ntmps65, List.size_toArray, List.length_cons, List.length_nil, Nat.reduceAdd, Nat.reduceSub, Array.replicate_succ, Array.replicate_zero, List.push_toArray, List.append_toArray, List.nil_append, List.cons_append]
  gi_wp2_with (refine ⟨trivial, ?_⟩; gi_at_call 68; refine (callsIn_wide.2 (Ls.covers F x y _)).mono ?_; rintro e w' ⟨rfl, rfl⟩)
  obtain ⟨W0, hW0⟩ : ∃ W0, W0 = ((((w.alloc (.cells #[.pointer (some ⟨F, 0, none⟩)] 106)).alloc (.cells #[.int .i64 (-1)] 3)).alloc (.cells #[.pointer (some ⟨F, 0, none⟩)] 106)).alloc (.cells #[.int .i64 x] 3)).alloc (.cells #[.int .i64 y] 3) := ⟨_, rfl⟩
  rw [← hW0]
  have hs0 : W0.heap.size = w.heap.size + 5 := by rw [hW0]; simp
  have hb0 : Below w.heap.size w W0 := by rw [hW0]; exact (((((Below.refl _ _).alloc (Nat.le_refl _) _).alloc (by simp) _).alloc (by simp; omega) _).alloc (by simp; omega) _).alloc (by simp; omega) _
  have c0 : W0.cell? ⟨w.heap.size, 0, none⟩ = some (.pointer (some ⟨F, 0, none⟩)) := by rw [hW0]; simp [go_sem]
  have h1 : W0.heap[w.heap.size + 1]? = some (.cells #[.int .i64 (-1)] 3 (0, 0)) := by
    rw [hW0, Lib.alloc_old _ _ _ (by simp), Lib.alloc_old _ _ _ (by simp), Lib.alloc_old _ _ _ (by simp)]
    have := heap_alloc_new (w.alloc (.cells #[.pointer (some ⟨F, 0, none⟩)] 106)) (.cells #[.int .i64 (-1)] 3)
    simpa using this
  have c2 : W0.cell? ⟨w.heap.size + 2, 0, none⟩ = some (.pointer (some ⟨F, 0, none⟩)) := by rw [hW0]; simp [go_sem]
  have c3 : W0.cell? ⟨w.heap.size + 2 + 1, 0, none⟩ = some (.int .i64 x) := by rw [hW0]; simp [go_sem]
  have c4 : W0.cell? ⟨w.heap.size + 2 + 2, 0, none⟩ = some (.int .i64 y) := by rw [hW0]; simp [go_sem]
  have hLt : F < w.heap.size ∧ V < w.heap.size ∧ T < w.heap.size := ⟨(Array.getElem?_eq_some_iff.1 hL.f).1, hL.v.lt, hL.t.lt⟩
  have hL0 : Least W0 F V T size v best := ⟨heap_below hb0 hL.f hLt.1, heap_below hb0 hL.v hLt.2.1, heap_below hb0 hL.t hLt.2.2⟩
  clear hW0
  refine wpIn_rangeFunc_ownF rfl (by omega) (gf := 69) (lb := #[.pointer (some ⟨w.heap.size + 2, 0, none⟩), .pointer (some ⟨w.heap.size + 2 + 1, 0, none⟩), .pointer (some ⟨w.heap.size + 2 + 2, 0, none⟩)]) rfl trivial (enters_of Try.func69 (by kernel_rfl) rfl)
    (Ls.covers_stops 4 F V T size v best (w.heap.size + 2) x y W0 hL0 c2 c3 c4 hs hx hy) (fun _ _ => trivial) (fun _ _ _ _ _ _ _ _ => trivial) (Below.refl _ _) (fun _ => rfl)
    (fun pre W => Mod (fun k => k = w.heap.size + 1 ∨ W0.heap.size ≤ k) W0 W ∧ W.heap[w.heap.size + 1]? = some (.cells #[.int .i64 (fold v best (pre.map (·.1)))] 3 (0, 0)))
    (fun _ _ _ => False)
    (ownFrom_mod fun s W W' hs hm => ⟨hs.1.trans (hm.mono (fun k _ hk => .inr hk)), hm.keep hs.2 (by omega)⟩)
    (fun _ _ _ _ _ hs _ _ => hs)
    ⟨Mod.refl _ _, by rw [h1]; rfl⟩
    (fun z : Fin (2 * size) => { tmps := #[.pointer (some ⟨F, 0, none⟩), .int .i64 x, .int .i64 y, .pointer (some ⟨w.heap.size, 0, none⟩), undef, undef, .int .i64 0, .int .i64 0, .pointer (some ⟨w.heap.size + 1, 0, none⟩), .int .i64 ((z.1 : Nat) : Int), .pointer (some ⟨F, 0, none⟩), .int .i64 x, .int .i64 y, .func (.func 69) #[] #[.pointer (some ⟨w.heap.size + 1 + 1, 0, none⟩), .pointer (some ⟨w.heap.size + 1 + 1 + 1, 0, none⟩), .pointer (some ⟨w.heap.size + 1 + 1 + 2, 0, none⟩)], .int .i64 ((z.1 : Nat) : Int), undef, undef, undef, undef, undef, undef, undef, undef, undef, undef, undef, undef, undef, undef, undef, undef, undef, undef, undef, undef], defers := [] })
    ?assign ?body ?done ?stop
  case assign =>
    intro l z W K hK
    gi_wp2
    exact hK
  case body =>
    rintro l pre z W ⟨hM, hc⟩ _
    have hLW : Least W F V T size v best := ⟨hM.keep hL0.f (by omega), hM.keep hL0.v (by omega), hM.keep hL0.t (by omega)⟩
    have d0 : W.cell? ⟨w.heap.size, 0, none⟩ = some (.pointer (some ⟨F, 0, none⟩)) := by
      have := hM.block w.heap.size (by omega) (by omega)
      rw [← c0]; simp only [World.cell?, this]
    have d1 : W.cell? ⟨w.heap.size + 1, 0, none⟩ = some (.int .i64 (fold v best (pre.map (·.1)))) := by simp [World.cell?, hc]
    have hzl : z.1 < best.length := by rw [HBL.out]; exact z.2
    have dt := hLW.t.cell z.1 hzl
    have g2 := hLW.f2
    have k0 : (0 : Int) ≤ ((z.1 : Nat) : Int) := by omega
    have k1 : ((z.1 : Nat) : Int) < (best.length : Int) := by omega
    have hfl := fold_lt v best HB.out h0 (pre.map (·.1))
    have hzb : best[z.1] < (v.length : Int) := HB.out _ (List.getElem_mem _)
    have hsn : fold v best ((pre ++ [z]).map (·.1)) = Ytblooekephkojaa.better v (fold v best (pre.map (·.1))) best[z.1] := by
      rw [List.map_append, List.map_cons, List.map_nil, fold_snoc, List.getD_eq_getElem?_getD, List.getElem?_eq_getElem hzl]; rfl
    have HSN := Lib.hid hsn
    have HLW := Lib.hid hLW
    have HM := Lib.hid hM
    have HC := Lib.hid hc
    clear hsn hLW hM hc
    generalize fold v best (pre.map (·.1)) = p at *
    generalize best[z.1] = q at *
    have hf1 : W.frozen? ⟨w.heap.size + 1, 0, none⟩ = false := Lib.frozen_of_heap HC.out 0
    gi_wp2
    refine wpIn_region_tail (C := fun w' => ∃ n, w' = W.drewN n) 10 (by kernel_rfl) (by kernel_rfl) ⟨1, rfl⟩ ?_
    simp only [List.take_succ_cons, List.take_zero, List.drop_succ_cons, List.drop_zero]
    repeat (go_big_quiet_step ((go_at_call 67; exact Calls.quiet_of (Ls.better F V T size v best p q _ (HLW.out.drewN _) hfl hzb (by omega)))))
    refine wpQuiet_nil ?_
    rintro w' ⟨nq, rfl⟩
    go_wp2
    refine NoOut.normal ?_
    gi_wp2
    have hko : KeepsOthers W (W.drewN nq) := ⟨Nat.le_refl _, fun _ _ h _ => h⟩
    refine ⟨hko.trans (KeepsOthers.setCell _ _ _), trivial, (HM.out.trans (Mod.drewN _ _ nq)).setCell _ (.inr (.inl rfl)) _, ?_⟩
    rw [HSN.out, heap_setCell_same (W.drewN nq) (w.heap.size + 1) 0 _ 3 _ HC.out]
    rfl
  case done =>
    rintro D zs W hD hzs ⟨hM, hc⟩ hK
    have hLW : Least W F V T size v best := ⟨hM.keep hL0.f (by omega), hM.keep hL0.v (by omega), hM.keep hL0.t (by omega)⟩
    have hBW : Below w.heap.size w W := hb0.trans (hM.below (by omega) (fun k hk => by omega))
    have d0 : W.cell? ⟨w.heap.size, 0, none⟩ = some (.pointer (some ⟨F, 0, none⟩)) := by
      have := hM.block w.heap.size (by omega) (by omega)
      rw [← c0]; simp only [World.cell?, this]
    rw [hzs] at hc
    have d1 : W.cell? ⟨w.heap.size + 1, 0, none⟩ = some (.int .i64 (fold v best (cov (size + y + 1) (size + x) (size + y)))) := by simp [World.cell?, hc]
    have hfl := fold_lt v best HB.out h0 (cov (size + y + 1) (size + x) (size + y))
    have hzr := HZ.out
    unfold ofR at hzr
    simp only at hzr
    have HZR := Lib.hid hzr
    have g1 := hLW.f1
    clear hc hzr hzs hM
    generalize fold v best (cov (size + y + 1) (size + x) (size + y)) = p at *
    by_cases hp : p < 0
    · have hzz := HZR.out
      rw [if_pos hp] at hzz
      obtain ⟨rfl, rfl⟩ := Prod.mk.inj hzz
      clear hzz HZR HZ
      gi_wp2
      refine ⟨by simp, .inl ⟨_, _, rfl, run_takeDeferred hK, ?_⟩⟩
      exact ⟨_, results_tmp2 rfl _ _ _, rfl, hBW.trans (belowK_b (w := w) (Nat.le_refl _) W D _ _ (by omega) hK rfl rfl)⟩
    · obtain ⟨i, rfl⟩ := Int.eq_ofNat_of_zero_le (by omega : 0 ≤ p)
      have hi : i < v.length := by omega
      have ci := hLW.v.cell i hi
      have hzz := HZR.out
      rw [if_neg hp, Int.toNat_natCast, List.getD_eq_getElem?_getD, List.getElem?_eq_getElem hi] at hzz
      obtain ⟨h1, h2⟩ := Prod.mk.inj hzz
      simp only [Option.getD_some] at h2
      subst h1 h2
      have hi0 : (0 : Int) ≤ (i : Int) := by omega
      clear hzz HZR HZ
      gi_wp2
      refine wpIn_wide.2 ?_
      refine wp_region_quiet_lit (by kernel_rfl) (by kernel_rfl) ?_
      repeat (go_big_quiet_step (fail))
      refine wpQuiet_nil ?_
      rintro w' ⟨nq, rfl⟩
      gi_wp2
      refine ⟨by simp, .inl ⟨_, _, rfl, run_takeDeferred (w := W.drewN nq) hK, ?_⟩⟩
      exact ⟨_, results_tmp2 rfl _ _ _, rfl, (hBW.trans (below_drewN _ W nq)).trans (belowK_b (w := w) (Nat.le_refl _) (W.drewN nq) D _ _ (by omega) hK rfl rfl)⟩
  case stop =>
    rintro D c pre W _ _ h _
    exact h.elim
end Go.Proofs.Ytblooekephkojaa

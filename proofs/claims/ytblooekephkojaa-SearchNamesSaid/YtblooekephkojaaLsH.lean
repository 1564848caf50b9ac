/- search: ends, behind the last gap. -/
import Derived.Test.YtblooekephkojaaLsG
namespace Go.Proofs.Ytblooekephkojaa
open Go.RowKit Go.BigFrame Go.Shelf
set_option linter.unusedVariables false

set_option maxRecDepth 100000 in
set_option maxHeartbeats 4000000 in
theorem Ls.ends_last (q : Ln) (l : List Gap) (s : Sty) (first : Int) (en cost : List Int) (z : Nat) (fv fb sv sb : List Int) (i : Nat) (w : World) (h : LineAt w q l s first (sums l) en cost z fv fb sv sb)
    (hnd : q.blocks.Nodup) (hr : RowAt 6 Gap.f w q.ga l) (hl : l.length ≤ 65536) (hi : i = l.length) (hv : ∀ g ∈ l, g.valid = true) (hs : StyOk s)
    (hz : l.length + 1 ≤ z) (hz2 : z ≤ 200000) (t1 : TreeOk (l.length + 1) z fv fb) (t2 : TreeOk (l.length + 1) z sv sb) (hcl : cost.length = l.length + 1) (hcb : ∀ x ∈ cost, 0 ≤ x ∧ x ≤ 100000000000000000) :
    Calls Try.prog 55 #[.pointer (some ⟨q.L, 0, none⟩), .int .i64 i] w
      (EndsPost q l s first (sums l) en cost z fv fb sv sb i 0 (s.e * psum l i) w) := by
  subst hi
  obtain ⟨c0, c1, c8, -, c20, c21, c22, c23, c24⟩ := h.cells
  have i0 : (0 : Int) ≤ (l.length : Int) := by omega
  have i2 : (l.length : Int) < (l.length : Int) + 1 := by omega
  have hps := psum_bd l hv l.length (by omega)
  obtain ⟨-, -, he1, he2⟩ := hs
  obtain ⟨ex, hex⟩ : ∃ ex, ex = s.e := ⟨_, rfl⟩
  rw [← hex] at he1 he2 c8 ⊢
  have HEX := Lib.hid hex
  clear hex
  have hmul : 0 ≤ ex * psum l l.length ∧ ex * psum l l.length ≤ 8589934592000000 := by
    have h1 : ex * psum l l.length ≤ 1000000 * psum l l.length := Int.mul_le_mul_of_nonneg_right he2 hps.1
    exact ⟨Int.mul_nonneg he1 hps.1, by omega⟩
  obtain ⟨m1, m2⟩ := hmul
  have ca : w.cell? ⟨q.A, l.length, none⟩ = some (.int .i64 (psum l l.length)) := by
    have := h.sum.cell l.length (by simp [sums])
    simpa [sums] using this
  have HH := Lib.hid h
  have HZ := Lib.hid hz
  have hlt := HH.out.flat.lt
  have hL0 : q.L < w.heap.size := (Array.getElem?_eq_some_iff.1 HH.out.hd).1
  have hA0 := HH.out.sum.lt
  have hne := Lib.hid (Ln.ne2 hnd)
  clear h hr hcb hps hv hnd
  generalize psum l l.length = ps at *
  go_enter Try.func55, Try.ntmps55
  go_wp2_with fail
  refine (Ls.put q.FF q.FV q.FT z fv fb l.length 0 w HH.out.flat (by rw [t1.lv]; omega) (by rw [t1.lv]; exact HZ.out) hz2 t1.lb (by rw [t1.lv]; exact t1.lt) (by simp [hne.out]) (by simp [hne.out]) (by simp [hne.out])).mono ?_
  rintro e w1 ⟨rfl, hL1, hM1⟩
  have d1 : w1.cell? ⟨q.L, 8, none⟩ = some (.int .i64 ex) := by have := hM1.keep HH.out.hd (by simp [hne.out]); simp [World.cell?, this, lineRow, ← HEX.out]
  have d20 : w1.cell? ⟨q.L, 20, none⟩ = some (.slice (some ⟨q.A, 0, none⟩) (l.length + 1) (l.length + 1)) := by have := hM1.keep HH.out.hd (by simp [hne.out]); simp [World.cell?, this, lineRow]
  have d24 : w1.cell? ⟨q.L, 24, none⟩ = some (.pointer (some ⟨q.GF, 0, none⟩)) := by have := hM1.keep HH.out.hd (by simp [hne.out]); simp [World.cell?, this, lineRow]
  have da : w1.cell? ⟨q.A, l.length, none⟩ = some (.int .i64 ps) := by
    have h1 : w1.heap[q.A]? = w.heap[q.A]? := hM1.block _ hA0 (by simp [hne.out])
    rw [← ca]; simp only [World.cell?, h1]
  have hG1 : Least w1 q.GF q.GV q.GT z sv sb := HH.out.steep.mod hM1 (by simp [hne.out]) (by simp [hne.out]) (by simp [hne.out])
  have HL1 := Lib.hid hL1
  have HG1 := Lib.hid hG1
  have HM1 := Lib.hid hM1
  clear c0 c1 c8 c20 c21 c22 c23 c24 hL1 hG1 hM1
  go_wp2_with fail
  refine wp_region_tail (C := fun w' => ∃ n, w' = w1.drewN n) 20 (by kernel_rfl) (by kernel_rfl) ⟨1, rfl⟩ ?_
  simp only [List.take_succ_cons, List.take_zero, List.drop_succ_cons, List.drop_zero]
  repeat (go_big_quiet_step (fail))
  refine wpQuiet_nil ?_
  rintro w' ⟨nq, rfl⟩
  go_wp2_with fail
  refine (Ls.put q.GF q.GV q.GT z sv sb l.length (ex * ps) (w1.drewN nq) (HG1.out.drewN nq) (by rw [t2.lv]; omega) (by rw [t2.lv]; exact HZ.out) hz2 t2.lb (by rw [t2.lv]; exact t2.lt) (by simp [hne.out]) (by simp [hne.out]) (by simp [hne.out])).mono ?_
  rintro e w2 ⟨rfl, hL2, hM2⟩
  go_wp2
  go_end0
  have hM3 : Mod (fun k => k = q.GV ∨ k = q.GT) w1 w2 := (Mod.drewN _ w1 nq).trans hM2
  have hM4 : Mod q.trees w w2 := (HM1.out.mono (fun k _ hk => by rcases hk with hk | hk <;> simp [Ln.trees, hk])).trans (hM3.mono (fun k _ hk => by rcases hk with hk | hk <;> simp [Ln.trees, hk]))
  have hn := hne.out
  exact ⟨rfl, ⟨hM4.keep HH.out.hd (by simp [Ln.trees, hn]), HH.out.sum.mod hM4 (by simp [Ln.trees, hn]), HH.out.en.mod hM4 (by simp [Ln.trees, hn]), HH.out.cost.mod hM4 (by simp [Ln.trees, hn]),
    HL1.out.mod hM3 (by simp [hn]) (by simp [hn]) (by simp [hn]), hL2⟩, hM4⟩
end Go.Proofs.Ytblooekephkojaa

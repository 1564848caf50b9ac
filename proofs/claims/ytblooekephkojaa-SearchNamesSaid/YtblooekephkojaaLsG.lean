/- search: ends. -/
import Derived.Test.YtblooekephkojaaLsF
namespace Go.Proofs.Ytblooekephkojaa
open Go.RowKit Go.BigFrame Go.Shelf
set_option linter.unusedVariables false

structure TreeOk (n z : Nat) (v best : List Int) : Prop where
  lv : v.length = n
  lb : best.length = 2 * z
  lt : ∀ y ∈ best, y < (n : Int)

theorem up_lt (v : List Int) (n : Int) (h0 : 0 < n) : ∀ (f node : Nat) (best : List Int), (∀ y ∈ best, y < n) → ∀ y ∈ up v f node best, y < n
  | 0, _, _, h => h
  | f + 1, node, best, h => by
    have hd : ∀ i, best.getD i 0 < n := fun i => by
      by_cases hi : i < best.length
      · rw [List.getD_eq_getElem?_getD, List.getElem?_eq_getElem hi]; exact h _ (List.getElem_mem hi)
      · rw [List.getD_eq_getElem?_getD, List.getElem?_eq_none (by omega)]; simpa using h0
    unfold up
    split
    · refine up_lt v n h0 f _ _ (fun y hy => ?_)
      rcases List.mem_or_eq_of_mem_set hy with hy | hy
      · exact h y hy
      · rw [hy]; exact better_lt (hd _) (hd _)
    · exact h

/-- A tree when a place has been given a number. -/
def putV (v : List Int) (i : Nat) (x : Int) : List Int := v.set i x
def putB (z : Nat) (v best : List Int) (i : Nat) (x : Int) : List Int := up (v.set i x) (z + i) (z + i) (best.set (z + i) (i : Int))
theorem TreeOk.put {n z : Nat} {v best : List Int} (h : TreeOk n z v best) (i : Nat) (x : Int) (hi : i < n) : TreeOk n z (putV v i x) (putB z v best i x) :=
  ⟨by simp [putV, h.lv], by simp [putB, up_len, h.lb], up_lt _ _ (by omega) _ _ _ (fun y hy => by
    rcases List.mem_or_eq_of_mem_set hy with hy | hy
    · exact h.lt y hy
    · omega)⟩

theorem IntBlk.mod {w w' : World} {b ty : Nat} {l : List Int} {S : Nat → Prop} (h : IntBlk w b ty l) (hm : Mod S w w') (hs : ¬ S b) : IntBlk w' b ty l := hm.keep h hs
theorem Least.mod {w w' : World} {F V T size : Nat} {v best : List Int} {S : Nat → Prop} (h : Least w F V T size v best) (hm : Mod S w w') (h1 : ¬ S F) (h2 : ¬ S V) (h3 : ¬ S T) : Least w' F V T size v best :=
  ⟨hm.keep h.f h1, h.v.mod hm h2, h.t.mod hm h3⟩

theorem Ln.ne {q : Ln} (h : q.blocks.Nodup) :
    (q.L ≠ q.A ∧ q.L ≠ q.E ∧ q.L ≠ q.C ∧ q.L ≠ q.FF ∧ q.L ≠ q.FV ∧ q.L ≠ q.FT ∧ q.L ≠ q.GF ∧ q.L ≠ q.GV ∧ q.L ≠ q.GT) ∧
    (q.A ≠ q.E ∧ q.A ≠ q.C ∧ q.A ≠ q.FF ∧ q.A ≠ q.FV ∧ q.A ≠ q.FT ∧ q.A ≠ q.GF ∧ q.A ≠ q.GV ∧ q.A ≠ q.GT) ∧
    (q.E ≠ q.C ∧ q.E ≠ q.FF ∧ q.E ≠ q.FV ∧ q.E ≠ q.FT ∧ q.E ≠ q.GF ∧ q.E ≠ q.GV ∧ q.E ≠ q.GT) ∧
    (q.C ≠ q.FF ∧ q.C ≠ q.FV ∧ q.C ≠ q.FT ∧ q.C ≠ q.GF ∧ q.C ≠ q.GV ∧ q.C ≠ q.GT) ∧
    (q.FF ≠ q.FV ∧ q.FF ≠ q.FT ∧ q.FF ≠ q.GF ∧ q.FF ≠ q.GV ∧ q.FF ≠ q.GT) ∧ (q.FV ≠ q.FT ∧ q.FV ≠ q.GF ∧ q.FV ≠ q.GV ∧ q.FV ≠ q.GT) ∧
    (q.FT ≠ q.GF ∧ q.FT ≠ q.GV ∧ q.FT ≠ q.GT) ∧ (q.GF ≠ q.GV ∧ q.GF ≠ q.GT) ∧ q.GV ≠ q.GT := by
  simp only [Ln.blocks, List.nodup_cons, List.mem_cons, List.not_mem_nil, or_false, not_or, List.nodup_nil, and_true, not_false_eq_true] at h
  exact h

theorem Ln.ne2 {q : Ln} (h : q.blocks.Nodup) :
    (q.L ≠ q.A ∧ q.L ≠ q.E ∧ q.L ≠ q.C ∧ q.L ≠ q.FF ∧ q.L ≠ q.FV ∧ q.L ≠ q.FT ∧ q.L ≠ q.GF ∧ q.L ≠ q.GV ∧ q.L ≠ q.GT) ∧
    (q.A ≠ q.L ∧ q.A ≠ q.E ∧ q.A ≠ q.C ∧ q.A ≠ q.FF ∧ q.A ≠ q.FV ∧ q.A ≠ q.FT ∧ q.A ≠ q.GF ∧ q.A ≠ q.GV ∧ q.A ≠ q.GT) ∧
    (q.E ≠ q.L ∧ q.E ≠ q.A ∧ q.E ≠ q.C ∧ q.E ≠ q.FF ∧ q.E ≠ q.FV ∧ q.E ≠ q.FT ∧ q.E ≠ q.GF ∧ q.E ≠ q.GV ∧ q.E ≠ q.GT) ∧
    (q.C ≠ q.L ∧ q.C ≠ q.A ∧ q.C ≠ q.E ∧ q.C ≠ q.FF ∧ q.C ≠ q.FV ∧ q.C ≠ q.FT ∧ q.C ≠ q.GF ∧ q.C ≠ q.GV ∧ q.C ≠ q.GT) ∧
    (q.FF ≠ q.L ∧ q.FF ≠ q.A ∧ q.FF ≠ q.E ∧ q.FF ≠ q.C ∧ q.FF ≠ q.FV ∧ q.FF ≠ q.FT ∧ q.FF ≠ q.GF ∧ q.FF ≠ q.GV ∧ q.FF ≠ q.GT) ∧
    (q.FV ≠ q.L ∧ q.FV ≠ q.A ∧ q.FV ≠ q.E ∧ q.FV ≠ q.C ∧ q.FV ≠ q.FF ∧ q.FV ≠ q.FT ∧ q.FV ≠ q.GF ∧ q.FV ≠ q.GV ∧ q.FV ≠ q.GT) ∧
    (q.FT ≠ q.L ∧ q.FT ≠ q.A ∧ q.FT ≠ q.E ∧ q.FT ≠ q.C ∧ q.FT ≠ q.FF ∧ q.FT ≠ q.FV ∧ q.FT ≠ q.GF ∧ q.FT ≠ q.GV ∧ q.FT ≠ q.GT) ∧
    (q.GF ≠ q.L ∧ q.GF ≠ q.A ∧ q.GF ≠ q.E ∧ q.GF ≠ q.C ∧ q.GF ≠ q.FF ∧ q.GF ≠ q.FV ∧ q.GF ≠ q.FT ∧ q.GF ≠ q.GV ∧ q.GF ≠ q.GT) ∧
    (q.GV ≠ q.L ∧ q.GV ≠ q.A ∧ q.GV ≠ q.E ∧ q.GV ≠ q.C ∧ q.GV ≠ q.FF ∧ q.GV ≠ q.FV ∧ q.GV ≠ q.FT ∧ q.GV ≠ q.GF ∧ q.GV ≠ q.GT) ∧
    (q.GT ≠ q.L ∧ q.GT ≠ q.A ∧ q.GT ≠ q.E ∧ q.GT ≠ q.C ∧ q.GT ≠ q.FF ∧ q.GT ≠ q.FV ∧ q.GT ≠ q.FT ∧ q.GT ≠ q.GF ∧ q.GT ≠ q.GV) := by
  obtain ⟨⟨h01, h02, h03, h04, h05, h06, h07, h08, h09⟩, ⟨h12, h13, h14, h15, h16, h17, h18, h19⟩, ⟨h23, h24, h25, h26, h27, h28, h29⟩, ⟨h34, h35, h36, h37, h38, h39⟩, ⟨h45, h46, h47, h48, h49⟩, ⟨h56, h57, h58, h59⟩, ⟨h67, h68, h69⟩, ⟨h78, h79⟩, h89⟩ := Ln.ne h
  exact ⟨⟨h01, h02, h03, h04, h05, h06, h07, h08, h09⟩, ⟨Ne.symm h01, h12, h13, h14, h15, h16, h17, h18, h19⟩, ⟨Ne.symm h02, Ne.symm h12, h23, h24, h25, h26, h27, h28, h29⟩, ⟨Ne.symm h03, Ne.symm h13, Ne.symm h23, h34, h35, h36, h37, h38, h39⟩, ⟨Ne.symm h04, Ne.symm h14, Ne.symm h24, Ne.symm h34, h45, h46, h47, h48, h49⟩, ⟨Ne.symm h05, Ne.symm h15, Ne.symm h25, Ne.symm h35, Ne.symm h45, h56, h57, h58, h59⟩, ⟨Ne.symm h06, Ne.symm h16, Ne.symm h26, Ne.symm h36, Ne.symm h46, Ne.symm h56, h67, h68, h69⟩, ⟨Ne.symm h07, Ne.symm h17, Ne.symm h27, Ne.symm h37, Ne.symm h47, Ne.symm h57, Ne.symm h67, h78, h79⟩, ⟨Ne.symm h08, Ne.symm h18, Ne.symm h28, Ne.symm h38, Ne.symm h48, Ne.symm h58, Ne.symm h68, Ne.symm h78, h89⟩, ⟨Ne.symm h09, Ne.symm h19, Ne.symm h29, Ne.symm h39, Ne.symm h49, Ne.symm h59, Ne.symm h69, Ne.symm h79, Ne.symm h89⟩⟩

/-- The blocks of the trees' numbers and nodes. -/
def Ln.trees (q : Ln) (k : Nat) : Prop := k = q.FV ∨ k = q.FT ∨ k = q.GV ∨ k = q.GT

theorem LineAt.cells {w : World} {q : Ln} {l : List Gap} {s : Sty} {first : Int} {sum en cost : List Int} {z : Nat} {fv fb sv sb : List Int} (h : LineAt w q l s first sum en cost z fv fb sv sb) :
    w.cell? ⟨q.L, 0, none⟩ = some (.slice q.ga l.length q.gc) ∧ w.cell? ⟨q.L, 1, none⟩ = some (.int .i64 s.c) ∧ w.cell? ⟨q.L, 8, none⟩ = some (.int .i64 s.e) ∧ w.cell? ⟨q.L, 19, none⟩ = some (.int .i64 first) ∧
    w.cell? ⟨q.L, 20, none⟩ = some (.slice (some ⟨q.A, 0, none⟩) (l.length + 1) (l.length + 1)) ∧ w.cell? ⟨q.L, 21, none⟩ = some (.slice (some ⟨q.E, 0, none⟩) (l.length + 1) (l.length + 1)) ∧ w.cell? ⟨q.L, 22, none⟩ = some (.slice (some ⟨q.C, 0, none⟩) (l.length + 1) (l.length + 1)) ∧
    w.cell? ⟨q.L, 23, none⟩ = some (.pointer (some ⟨q.FF, 0, none⟩)) ∧ w.cell? ⟨q.L, 24, none⟩ = some (.pointer (some ⟨q.GF, 0, none⟩)) := by
  simp [World.cell?, h.hd, lineRow]

/-- What ends leaves where a row may end. -/
def EndsPost (q : Ln) (l : List Gap) (s : Sty) (first : Int) (sum en cost : List Int) (z : Nat) (fv fb sv sb : List Int) (i : Nat) (x y : Int) (w : World) (e : Ending) (w' : World) : Prop :=
  e = .returned (.tuple #[]) ∧ LineAt w' q l s first sum en cost z (putV fv i x) (putB z fv fb i x) (putV sv i y) (putB z sv sb i y) ∧ Mod q.trees w w'

set_option maxRecDepth 100000 in
set_option maxHeartbeats 4000000 in
theorem Ls.ends_no (q : Ln) (l : List Gap) (s : Sty) (first : Int) (sum en cost : List Int) (z : Nat) (fv fb sv sb : List Int) (i : Nat) (w : World) (h : LineAt w q l s first sum en cost z fv fb sv sb)
    (hr : RowAt 6 Gap.f w q.ga l) (hl : l.length ≤ 65536) (hi : i < l.length) (hm : l[i].may = false) :
    Calls Try.prog 55 #[.pointer (some ⟨q.L, 0, none⟩), .int .i64 i] w fun e w' => e = .returned (.tuple #[]) ∧ w' = w := by
  obtain ⟨c0, c1, c8, -, c20, c21, c22, c23, c24⟩ := h.cells
  obtain ⟨b, off, ha, hbw, hc⟩ := hr.at (by intro e; simp [e] at hi)
  obtain ⟨g0, g1, g2, g3, g4, g5⟩ := Gap.at (w := w) (b := b) (o := off + i * 6) (g := l[i]) (hc i hi)
  rw [hm] at g3
  rw [ha] at c0
  have i0 : (0 : Int) ≤ (i : Int) := by omega
  have i1 : (i : Int) < (l.length : Int) := by omega
  clear h hr hc
  go_enter Try.func55, Try.ntmps55
  go_wp2
  refine bodyPost_ret (results_none rfl _ _ _) rfl ?_
  exact ⟨rfl, rfl⟩

set_option maxRecDepth 100000 in
set_option maxHeartbeats 4000000 in
theorem Ls.ends_mid (q : Ln) (l : List Gap) (s : Sty) (first : Int) (en cost : List Int) (z : Nat) (fv fb sv sb : List Int) (i : Nat) (w : World) (h : LineAt w q l s first (sums l) en cost z fv fb sv sb)
    (hnd : q.blocks.Nodup) (hr : RowAt 6 Gap.f w q.ga l) (hl : l.length ≤ 65536) (hi : i < l.length) (hm : l[i].may = true) (hv : ∀ g ∈ l, g.valid = true) (hs : StyOk s)
    (hz : l.length + 1 ≤ z) (hz2 : z ≤ 200000) (t1 : TreeOk (l.length + 1) z fv fb) (t2 : TreeOk (l.length + 1) z sv sb) (hcl : cost.length = l.length + 1) (hcb : ∀ x ∈ cost, 0 ≤ x ∧ x ≤ 100000000000000000) :
    Calls Try.prog 55 #[.pointer (some ⟨q.L, 0, none⟩), .int .i64 i] w
      (EndsPost q l s first (sums l) en cost z fv fb sv sb i (l[i].cost + cost[i + 1]) (l[i].cost + cost[i + 1] + s.e * psum l i) w) := by
  obtain ⟨c0, c1, c8, -, c20, c21, c22, c23, c24⟩ := h.cells
  obtain ⟨b, off, ha, hbw, hc⟩ := hr.at (by intro e; simp [e] at hi)
  obtain ⟨g0, g1, g2, g3, g4, g5⟩ := Gap.at (w := w) (b := b) (o := off + i * 6) (g := l[i]) (hc i hi)
  rw [hm] at g3
  rw [ha] at c0
  have i0 : (0 : Int) ≤ (i : Int) := by omega
  have i1 : (i : Int) < (l.length : Int) := by omega
  have i2 : (i : Int) + 1 < (l.length : Int) + 1 := by omega
  have cc := h.cost.cell (i + 1) (by omega)
  obtain ⟨cb1, cb2⟩ := hcb _ (List.getElem_mem (show i + 1 < cost.length by omega))
  have hbd := valid_bd (hv _ (List.getElem_mem hi))
  obtain ⟨-, -, -, -, w5, w6, -⟩ := hbd
  have hps := psum_bd l hv i (by omega)
  obtain ⟨-, -, he1, he2⟩ := hs
  obtain ⟨ex, hex⟩ : ∃ ex, ex = s.e := ⟨_, rfl⟩
  rw [← hex] at he1 he2 c8 ⊢
  have HEX := Lib.hid hex
  clear hex
  have hmul : 0 ≤ ex * psum l i ∧ ex * psum l i ≤ 8589934592000000 := by
    have h1 : ex * psum l i ≤ 1000000 * psum l i := Int.mul_le_mul_of_nonneg_right he2 hps.1
    exact ⟨Int.mul_nonneg he1 hps.1, by omega⟩
  obtain ⟨m1, m2⟩ := hmul
  have ca : w.cell? ⟨q.A, i, none⟩ = some (.int .i64 (psum l i)) := by
    have := h.sum.cell i (by simp [sums]; omega)
    simpa [sums] using this
  have HH := Lib.hid h
  have HZ := Lib.hid hz
  have hlt := HH.out.flat.lt
  have hL0 : q.L < w.heap.size := (Array.getElem?_eq_some_iff.1 HH.out.hd).1
  have hA0 := HH.out.sum.lt
  have hne := Lib.hid (Ln.ne2 hnd)
  clear h hr hc hcb hps hv hnd
  generalize cost[i + 1]'_ = cst at *
  generalize psum l i = ps at *
  generalize l[i].cost = gco at *
  go_enter Try.func55, Try.ntmps55
  go_wp2_with fail
  refine wp_region_quiet_lit (by kernel_rfl) (by kernel_rfl) ?_
  repeat (go_big_quiet_step (fail))
  refine wpQuiet_nil ?_
  rintro w' ⟨nq1, rfl⟩
  go_wp2_with fail
  refine (Ls.put q.FF q.FV q.FT z fv fb i (gco + cst) (w.drewN nq1) (HH.out.flat.drewN nq1) (by rw [t1.lv]; omega) (by rw [t1.lv]; exact HZ.out) hz2 t1.lb (by rw [t1.lv]; exact t1.lt) (by simp [hne.out]) (by simp [hne.out]) (by simp [hne.out])).mono ?_
  rintro e w1 ⟨rfl, hL1, hM1'⟩
  have hM1 := (Mod.drewN _ w nq1).trans hM1'
  clear hM1'
  have d1 : w1.cell? ⟨q.L, 8, none⟩ = some (.int .i64 ex) := by have := hM1.keep HH.out.hd (by simp [hne.out]); simp [World.cell?, this, lineRow, ← HEX.out]
  have d20 : w1.cell? ⟨q.L, 20, none⟩ = some (.slice (some ⟨q.A, 0, none⟩) (l.length + 1) (l.length + 1)) := by have := hM1.keep HH.out.hd (by simp [hne.out]); simp [World.cell?, this, lineRow]
  have d24 : w1.cell? ⟨q.L, 24, none⟩ = some (.pointer (some ⟨q.GF, 0, none⟩)) := by have := hM1.keep HH.out.hd (by simp [hne.out]); simp [World.cell?, this, lineRow]
  have da : w1.cell? ⟨q.A, i, none⟩ = some (.int .i64 ps) := by
    have h1 : w1.heap[q.A]? = w.heap[q.A]? := hM1.block _ hA0 (by simp [hne.out])
    rw [← ca]; simp only [World.cell?, h1]
  have hG1 : Least w1 q.GF q.GV q.GT z sv sb := HH.out.steep.mod hM1 (by simp [hne.out]) (by simp [hne.out]) (by simp [hne.out])
  have HL1 := Lib.hid hL1
  have HG1 := Lib.hid hG1
  have HM1 := Lib.hid hM1
  clear c0 c1 c8 c20 c21 c22 c23 c24 g0 g1 g2 g3 g4 g5 cc hL1 hG1 hM1
  go_wp2_with fail
  refine wp_region_tail (C := fun w' => ∃ n, w' = w1.drewN n) 20 (by kernel_rfl) (by kernel_rfl) ⟨1, rfl⟩ ?_
  simp only [List.take_succ_cons, List.take_zero, List.drop_succ_cons, List.drop_zero]
  repeat (go_big_quiet_step (fail))
  refine wpQuiet_nil ?_
  rintro w' ⟨nq, rfl⟩
  go_wp2_with fail
  refine (Ls.put q.GF q.GV q.GT z sv sb i ((gco + cst) + ex * ps) (w1.drewN nq) (HG1.out.drewN nq) (by rw [t2.lv]; omega) (by rw [t2.lv]; exact HZ.out) hz2 t2.lb (by rw [t2.lv]; exact t2.lt) (by simp [hne.out]) (by simp [hne.out]) (by simp [hne.out])).mono ?_
  rintro e w2 ⟨rfl, hL2, hM2⟩
  go_wp2
  go_end0
  have hM3 : Mod (fun k => k = q.GV ∨ k = q.GT) w1 w2 := (Mod.drewN _ w1 nq).trans hM2
  have hM4 : Mod q.trees w w2 := (HM1.out.mono (fun k _ hk => by rcases hk with hk | hk <;> simp [Ln.trees, hk])).trans (hM3.mono (fun k _ hk => by rcases hk with hk | hk <;> simp [Ln.trees, hk]))
  have hn := hne.out
  exact ⟨rfl, ⟨hM4.keep HH.out.hd (by simp [Ln.trees, hn]), HH.out.sum.mod hM4 (by simp [Ln.trees, hn]), HH.out.en.mod hM4 (by simp [Ln.trees, hn]), HH.out.cost.mod hM4 (by simp [Ln.trees, hn]),
    HL1.out.mod hM3 (by simp [hn]) (by simp [hn]) (by simp [hn]), hL2⟩, hM4⟩
end Go.Proofs.Ytblooekephkojaa

/- edit: Lines. -/
import Derived.Test.YtodjhgalbaelkaaDoorTwE
namespace Go.Proofs.YtodjhgalbaelkaaDoor
open Go.RowKit Go.BigFrame Go.Shelf
set_option linter.unusedVariables false
attribute [local go_sem] Oper.semAt_some

theorem ownsRow_mod {w w' : World} {base e size : Nat} {v : Value} {n : Nat} {xs : List Value} {S : Nat → Prop} (h : w.ownsRow base e size v n xs) (hm : Mod S w w') (hs : ∀ k, v.ownBlock = some k → ¬ S k) : w'.ownsRow base e size v n xs := by
  refine ⟨h.1, ?_⟩
  rcases h.2 with hn | ⟨g, cap, cur, rfl, hb, hg, rest⟩
  · exact .inl hn
  · exact .inr ⟨g, cap, cur, rfl, hb, hm.keep hg (hs g rfl), rest⟩
theorem row_shape {w : World} {base e size : Nat} {v : Value} {n : Nat} {xs : List Value} (h : w.ownsRow base e size v n xs) : ∃ a cap, v = .slice a n cap := by
  rcases h.2 with ⟨rfl, rfl⟩ | ⟨g, cap, cur, rfl, _⟩
  · exact ⟨none, 0, rfl⟩
  · exact ⟨_, cap, rfl⟩
theorem row_cells {w : World} {base e size k : Nat} {v : Value} {n : Nat} {xs : List Value} (h : w.ownsRow base e size v n xs) (hk : v.ownBlock = some k) : base ≤ k ∧ ∃ cur, w.heap[k]? = some (.cells cur e (0, 0)) := by
  rcases h.2 with ⟨rfl, _⟩ | ⟨g, cap, cur, rfl, hb, hg, _⟩
  · simp [Value.ownBlock] at hk
  · simp only [Value.ownBlock, Option.some.injEq] at hk
    subst hk
    exact ⟨hb, cur, hg⟩
theorem not_nc {w : World} {k : Nat} {c : Array Value} {t : TypeId} {fz : Nat × Nat} (h : w.heap[k]? = some (.cells c t fz)) : ¬ nc w k := by
  rintro ⟨o, ho, hc⟩
  rw [h] at ho
  simp only [Option.some.injEq] at ho
  subst ho
  cases hc
theorem infoStr : (Tryd.prog.info? 9).map (fun i => (i.zero, i.size, i.bytes)) = some (some (.string ⟨#[]⟩), 1, 16) := by kernel_rfl

/-- Amid Lines. -/
def LinI (w : World) (pre : List ByteArray) (W : World) : Prop :=
  ∃ v, W.heap[w.heap.size]? = some (.cells #[v] 70 (0, 0)) ∧ W.ownsRow (w.heap.size + 2) 9 1 v pre.length (pre.map Value.string) ∧ Below w.heap.size w W ∧ w.heap.size + 2 ≤ W.heap.size
def LinPost (s : ByteArray) (w : World) (e : Ending) (w' : World) : Prop :=
  ∃ (v : Value) (xs : List ByteArray), e = .returned v ∧ xs.map dl = lines (dl s) ∧ w'.ownsRow w.heap.size 9 1 v xs.length (xs.map Value.string) ∧ Below w.heap.size w w'
theorem lines_le (l : Bs) : (lines l).length ≤ l.length := by
  rw [count_lines]
  rcases List.eq_nil_or_concat l with rfl | ⟨m, c, rfl⟩
  · decide
  · rw [List.concat_eq_append, List.count_append, List.length_append]
    have := List.count_le_length (a := (10 : UInt8)) (l := m)
    by_cases hc : c = 10
    · subst hc
      have he : ends (m ++ [10]) = true := by simp [ends]
      rw [he]; simp; omega
    · have h1 : List.count (10 : UInt8) [c] = 0 := List.count_eq_zero_of_not_mem (by simp; exact fun e => hc e.symm)
      rw [h1]; simp only [List.length_singleton]; split <;> omega

/-- Behind the append of a line. -/
theorem lin_mid {w W0 W W1 : World} {pre : List ByteArray} {x : ByteArray} {v v' : Value} {o : Obj} (hs0 : W0.heap.size = w.heap.size + 2) (h1 : W.heap[w.heap.size]? = some (.cells #[v] 70 (0, 0))) (h2 : W.ownsRow (w.heap.size + 2) 9 1 v pre.length (pre.map Value.string)) (h4 : w.heap.size + 2 ≤ W.heap.size)
    (hown : W1.ownsRow (w.heap.size + 2) 9 1 v' (pre.length + 1) (pre.map Value.string ++ [.string x])) (hg : (W.alloc o).grownBy W1 v.ownBlock) :
    Hid (W1.heap[w.heap.size]? = some (.cells #[v] 70 (0, 0))) ∧ w.heap.size < W1.heap.size ∧ Hid (KeepsFrom W0.heap.size W W1) ∧ Hid (Mod (fun k => k = w.heap.size ∨ W0.heap.size ≤ k) W W1) ∧ Hid (W1.ownsRow (w.heap.size + 2) 9 1 v' (pre.length + 1) ((pre ++ [x]).map Value.string)) := by
  have hv : ∀ k, v.ownBlock = some k → w.heap.size + 2 ≤ k := fun k hk => (h2.lt k hk).1
  have hm : Mod (fun k => v.ownBlock = some k) W W1 := (Mod.of_below (below_alloc W o)).trans ((show Mod (fun k => v.ownBlock = some k) (W.alloc o) W1 from ⟨hg.os, hg.tape, hg.output, hg.size, fun k hk hn => hg.block k hk (fun e => hn e.symm)⟩))
  have hlt := (Array.getElem?_eq_some_iff.1 h1).1
  refine ⟨Lib.hid (hm.keep h1 (fun e => by have := hv _ e; omega)), by have := hm.size; omega, Lib.hid ⟨hm.size, fun k o hk ho hc => hm.keep ho (fun e => ?_)⟩, Lib.hid (hm.mono (fun k _ hk => .inr (by have := hv k hk; omega))), Lib.hid (by rw [List.map_append]; exact hown)⟩
  obtain ⟨_, cur, q⟩ := row_cells h2 e
  rw [ho] at q
  simp only [Option.some.injEq] at q
  subst q
  cases hc

set_option maxRecDepth 100000 in
set_option maxHeartbeats 4000000 in
theorem Ed.getLines (s : ByteArray) (w : World) (hs : s.size ≤ 1000000000) : Calls Tryd.prog 37 #[.string s] w (LinPost s w) := by
  obtain ⟨W0, hW0⟩ : ∃ W0, W0 = (w.alloc (.cells #[.slice none 0 0] 70)).alloc (.cells #[.string s] 9) := ⟨_, rfl⟩
  have hs0 : W0.heap.size = w.heap.size + 2 := by rw [hW0]; simp
  have hb0 : Below w.heap.size w W0 := by rw [hW0]; exact ((Below.refl _ _).alloc (Nat.le_refl _) _).alloc (by simp) _
  have e0 : W0.heap[w.heap.size]? = some (.cells #[.slice none 0 0] 70 (0, 0)) := by
    rw [hW0, Lib.alloc_old _ _ _ (by simp)]
    exact heap_alloc_new _ _
  have e1 : W0.heap[w.heap.size + 1]? = some (.cells #[.string s] 9 (0, 0)) := by
    rw [hW0]
    have := heap_alloc_new (w.alloc (.cells #[.slice none 0 0] 70)) (.cells #[.string s] 9)
    simpa using this
  have hseq := Ed.seq 4 (w.heap.size + 1) s W0 (fun k => k = w.heap.size ∨ W0.heap.size ≤ k) e1 (by omega) (by omega)
  have hI0 : LinI w [] W0 := ⟨_, e0, World.ownsRow_nil _ _ _ _, hb0, by omega⟩
  have hll : (lines (dl s)).length ≤ s.size := by rw [size_dl]; exact lines_le _
  have HLL := Lib.hid hll
  have HSEQ := Lib.hid hseq
  have HS0 := Lib.hid hs0
  have HI0 := Lib.hid hI0
  have HW0 := Lib.hid hW0
  obtain ⟨i0, hi, hz0, hz1, hz2⟩ := info_parts infoStr
  have HI := Lib.hid hi
  have HZ0 := Lib.hid hz0
  have HZ1 := Lib.hid hz1
  have HZ2 := Lib.hid hz2
  clear hW0 hs0 hb0 e0 e1 hseq hI0 hi hz0 hz1 hz2 hll
  refine (callsIn_wide (n := 5)).1 ?_
  refine callsIn_of_wp_marks Tryd.func37 rfl trivial ?_ rfl
  simp only [Tryd.ntmps37, List.size_toArray, List.length_cons, List.length_nil, Nat.reduceAdd, Nat.reduceSub, Array.replicate_succ, Array.replicate_zero, List.push_toArray, List.append_toArray, List.nil_append, List.cons_append]
  gi_wp2_with (fail)
  refine ⟨trivial, ?_⟩
  refine (callsIn_wide.2 (Ed.each s _)).mono ?_
  rintro e w2 ⟨rfl, rfl⟩
  rw [← HW0.out]
  gi_wp2_with (fail)
  refine wpIn_rangeFunc_gen rfl (by omega) (gf := 67) (lb := #[.pointer (some ⟨w.heap.size + 1, 0, none⟩)]) rfl trivial (enters_of Tryd.func67 (by kernel_rfl) rfl)
    HSEQ.out (fun k hk => by have := HS0.out; omega) (fun h k => h.trans k) (fun W l o o' hl hW ho _ => ⟨rfl, rfl, rfl, by simp, fun k hk hn => World.putObj_heap_other (by omega)⟩) (Below.refl _ _) (fun _ => rfl)
    (LinI w) (fun _ _ _ => False)
    (fun t A B ⟨v, h1, h2, h3, h4⟩ hm => by
      have hs0 := HS0.out
      refine ⟨v, hm.keep h1 (by omega), ownsRow_mod h2 hm (fun k hk e => ?_), h3.trans (hm.below (by have := h3.size; omega) (fun k hk => by rcases hk with hk | hk; omega; omega)), by have := hm.size; omega⟩
      obtain ⟨q1, cur, q2⟩ := row_cells h2 hk
      rcases e with e | e
      · omega
      · exact not_nc q2 e.2)
    (fun c t A B h _ => h)
    HI0.out
    (fun x : ByteArray => { tmps := #[.string s, undef, .slice none 0 0, .pointer (some ⟨w.heap.size, 0, none⟩), .string x, .string s, .func (.func 67) #[] #[.pointer (some ⟨w.heap.size + 1, 0, none⟩)], .string x, undef, undef, undef, undef, undef], defers := [] })
    ?assign ?body ?done ?stop
  case assign =>
    intro l z W K hK
    gi_wp2
    exact hK
  case body =>
    rintro l pre x W ⟨v, h1, h2, h3, h4⟩ ⟨r, hr⟩
    have hpl : pre.length < s.size := by
      have q := HLL.out
      rw [hr] at q; simp at q; omega
    have c1 : W.cell? ⟨w.heap.size, 0, none⟩ = some v := by simp [World.cell?, h1]
    have f1 : W.frozen? ⟨w.heap.size, 0, none⟩ = false := Lib.frozen_of_heap h1 0
    have l1 := (Array.getElem?_eq_some_iff.1 h1).1
    have H1 := Lib.hid h1
    have H2 := Lib.hid h2
    have H3 := Lib.hid h3
    clear h1 h2 h3 hr
    gi_wp2_with (gi_at_builtin; refine wpListIn_append_own _ rfl _ _ 70 rfl (w.heap.size + 2) 9 i0 (.string ⟨#[]⟩) 1 16 Tryd.underlying70 HI.out HZ0.out HZ1.out HZ2.out rfl (by decide) _ _ _ rfl (H2.out.alloc _) ⟨W.heap.size, 0, none⟩ 1 1 [.string x] rfl rfl (cell_one_new _ _ _) (by simp [Value.oneCell']) (by unfold maxLen; omega) (by omega) (by simp; omega) ?_; intro v' W1 hown' hgrow _; obtain ⟨hd1, hl1, hkf, hmod, HO1⟩ := lin_mid (x := x) HS0.out H1.out H2.out h4 hown' hgrow; obtain ⟨g', cap', hv'⟩ := ownsRow_succ HO1.out; subst hv'; have d1 : W1.cell? ⟨w.heap.size, 0, none⟩ = some v := (by simp [World.cell?, hd1.out]); have g1 : W1.frozen? ⟨w.heap.size, 0, none⟩ = false := Lib.frozen_of_heap hd1.out 0; clear hown' hgrow)
    have hset := heap_setCell_same W1 w.heap.size 0 _ _ (.slice (some ⟨g', 0, none⟩) (pre.length + 1) cap') hd1.out
    have hms : Mod (fun k => k = w.heap.size) W1 (W1.setCell ⟨w.heap.size, 0, none⟩ (.slice (some ⟨g', 0, none⟩) (pre.length + 1) cap')) := Mod.setCell (Mod.refl (fun k => k = w.heap.size) W1) _ (.inr rfl) _
    refine ⟨hkf.out.trans ⟨by simp, fun k o hk ho _ => by
      rw [Below.heap_setCell _ _ _ _ (by have := HS0.out; simp; omega)]; exact ho⟩, hmod.out.trans (hms.mono (fun k _ hk => .inl hk)), _, by simpa using hset, ?_, ?_, by have := hmod.out.size; simp; omega⟩
    · have := ownsRow_mod HO1.out hms (fun k hk e => by have := (HO1.out.lt k hk).1; omega)
      simpa using this
    · exact (H3.out.trans (hmod.out.below (by omega) (fun k hk => by have := HS0.out; omega))).setCell (p := ⟨w.heap.size, 0, none⟩) (by simp) _
  case done =>
    rintro Dd zs W hD hzs ⟨v, h1, h2, h3, h4⟩ hK
    have c1 : W.cell? ⟨w.heap.size, 0, none⟩ = some v := by simp [World.cell?, h1]
    obtain ⟨a, cap, rfl⟩ := row_shape h2
    have H2 := Lib.hid h2
    have H3 := Lib.hid h3
    have HK := Lib.hid hK
    have HZS := Lib.hid hzs
    clear h1 h2 h3 h4 hK hzs
    gi_wp2
    refine ⟨by simp, .inl ⟨_, _, rfl, run_takeDeferred HK.out, ?_⟩⟩
    have hp : Mod (fun k => k = Dd) W (W.putObj Dd (.deferred none)) := ⟨rfl, rfl, rfl, by simp, fun k hk hn => World.putObj_heap_other (fun e => hn (by omega))⟩
    refine ⟨_, results_tmp rfl _ _ _, _, zs, rfl, HZS.out, ?_, H3.out.trans (belowK_b (w := w) (Nat.le_refl _) W Dd _ _ (by have := HS0.out; omega) HK.out rfl rfl)⟩
    have h2 := ownsRow_mod H2.out hp (fun k hk e => by
      obtain ⟨_, cur, q⟩ := row_cells H2.out hk
      subst e
      rw [HK.out] at q; cases q)
    refine ⟨h2.1, ?_⟩
    rcases h2.2 with hn | ⟨g, cap, cur, q1, q2, rest⟩
    · exact .inl hn
    · exact .inr ⟨g, cap, cur, q1, by omega, rest⟩
  case stop =>
    rintro Dd c pre W hD _ h _
    exact h.elim
end Go.Proofs.YtodjhgalbaelkaaDoor

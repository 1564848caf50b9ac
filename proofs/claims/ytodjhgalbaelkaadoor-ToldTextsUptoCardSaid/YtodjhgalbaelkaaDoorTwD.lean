/- tree.Path. -/
import Derived.Test.YtodjhgalbaelkaaDoorTwC
namespace Go.Proofs.YtodjhgalbaelkaaDoor
open Go.RowKit Go.BigFrame Go.Shelf
set_option linter.unusedVariables false
attribute [local go_sem] Oper.semAt_some

theorem isPath_true {l : Bs} {zs : List Bs} (h : zs = parts l) (h1 : zs.length ≤ 20) (h2 : zs.all isName = true) : isPath l = true := by
  subst h; unfold isPath; rw [h2]; simp [h1]
theorem isPath_false {l : Bs} {zs r : List Bs} {x : Bs} (h : parts l = (zs ++ [x]) ++ r) (h1 : 20 < (zs ++ [x]).length ∨ isName x = false) : isPath l = false := by
  unfold isPath
  rcases h1 with h1 | h1
  · have : ¬ (parts l).length ≤ 20 := by rw [h, List.length_append]; omega
    simp [this]
  · have : (parts l).all isName = false := by rw [h]; simp [h1]
    rw [this]; simp

/-- Amid Path: the parts so far are names, no more than 20. -/
def PathI (w : World) (pre : List ByteArray) (W : World) : Prop :=
  W.heap[w.heap.size]? = some (.cells #[.bool false] 4 (0, 0)) ∧ W.heap[w.heap.size + 1]? = some (.cells #[.int .i64 pre.length] 3 (0, 0)) ∧ pre.length ≤ 20 ∧ (pre.map dl).all isName = true ∧ Below w.heap.size w W
def PathX (w : World) (c : Code) (pre : List ByteArray) (W : World) : Prop :=
  c = .ret ∧ W.heap[w.heap.size]? = some (.cells #[.bool false] 4 (0, 0)) ∧ (∃ m x, pre = m ++ [x] ∧ (20 < (m ++ [x]).length ∨ isName (dl x) = false)) ∧ Below w.heap.size w W

set_option maxRecDepth 100000 in
set_option maxHeartbeats 4000000 in
theorem Td.path (s : ByteArray) (w : World) (hs : s.size ≤ 140737488355328) : Calls Tryd.prog 35 #[.string s] w fun e w' => e = .returned (.bool (isPath (dl s))) ∧ Below w.heap.size w w' := by
  obtain ⟨rr, hrr⟩ : ∃ rr, isPath (dl s) = rr := ⟨_, rfl⟩
  rw [hrr]
  have HRR := Lib.hid hrr
  clear hrr
  obtain ⟨W0, hW0⟩ : ∃ W0, W0 = ((((w.alloc (.cells #[.bool false] 4)).alloc (.cells #[.int .i64 0] 3)).alloc (.cells #[.string s] 9)).alloc (.cells #[.string ⟨#[47]⟩] 9)).alloc (.cells #[.int .i64 0] 3) := ⟨_, rfl⟩
  have hs0 : W0.heap.size = w.heap.size + 5 := by rw [hW0]; simp
  have hb0 : Below w.heap.size w W0 := by rw [hW0]; exact (((((Below.refl _ _).alloc (Nat.le_refl _) _).alloc (by simp) _).alloc (by simp; omega) _).alloc (by simp; omega) _).alloc (by simp; omega) _
  have e0 : W0.heap[w.heap.size]? = some (.cells #[.bool false] 4 (0, 0)) := by
    rw [hW0, Lib.alloc_old _ _ _ (by simp; omega), Lib.alloc_old _ _ _ (by simp; omega), Lib.alloc_old _ _ _ (by simp; omega), Lib.alloc_old _ _ _ (by simp)]
    exact heap_alloc_new _ _
  have e1 : W0.heap[w.heap.size + 1]? = some (.cells #[.int .i64 0] 3 (0, 0)) := by
    rw [hW0, Lib.alloc_old _ _ _ (by simp), Lib.alloc_old _ _ _ (by simp), Lib.alloc_old _ _ _ (by simp)]
    have := heap_alloc_new (w.alloc (.cells #[.bool false] 4)) (.cells #[.int .i64 0] 3)
    simpa using this
  have e2 : W0.heap[w.heap.size + 2]? = some (.cells #[.string s] 9 (0, 0)) := by
    rw [hW0, Lib.alloc_old _ _ _ (by simp), Lib.alloc_old _ _ _ (by simp)]
    have := heap_alloc_new ((w.alloc (.cells #[.bool false] 4)).alloc (.cells #[.int .i64 0] 3)) (.cells #[.string s] 9)
    simpa using this
  have e3 : W0.heap[w.heap.size + 2 + 1]? = some (.cells #[.string ⟨#[47]⟩] 9 (0, 0)) := by
    rw [hW0, Lib.alloc_old _ _ _ (by simp)]
    have := heap_alloc_new (((w.alloc (.cells #[.bool false] 4)).alloc (.cells #[.int .i64 0] 3)).alloc (.cells #[.string s] 9)) (.cells #[.string ⟨#[47]⟩] 9)
    simpa using this
  have e4 : W0.heap[w.heap.size + 2 + 2]? = some (.cells #[.int .i64 0] 3 (0, 0)) := by
    rw [hW0]
    have := heap_alloc_new ((((w.alloc (.cells #[.bool false] 4)).alloc (.cells #[.int .i64 0] 3)).alloc (.cells #[.string s] 9)).alloc (.cells #[.string ⟨#[47]⟩] 9)) (.cells #[.int .i64 0] 3)
    simpa using this
  have hseq := Sp.seq 4 (w.heap.size + 2) s W0 (fun k => k = w.heap.size ∨ k = w.heap.size + 1 ∨ W0.heap.size ≤ k) e2 e3 e4 ⟨by omega, by omega, by omega⟩ hs
  have hI0 : PathI w [] W0 := ⟨e0, e1, by simp, by simp, hb0⟩
  have HSEQ := Lib.hid hseq
  have HS0 := Lib.hid hs0
  have HI0 := Lib.hid hI0
  have HW0 := Lib.hid hW0
  clear hW0 hs0 hb0 e0 e1 e2 e3 e4 hseq hI0
  refine (callsIn_wide (n := 5)).1 ?_
  refine callsIn_of_wp_marks Tryd.func35 rfl trivial ?_ rfl
  simp only [Tryd.ntmps35, List.size_toArray, List.length_cons, List.length_nil, Nat.reduceAdd, Nat.reduceSub, Array.replicate_succ, Array.replicate_zero, List.push_toArray, List.append_toArray, List.nil_append, List.cons_append]
  gi_wp2_with (fail)
  refine ⟨trivial, ?_⟩
  refine (callsIn_wide.2 (Sp.split s _)).mono ?_
  rintro e w2 ⟨rfl, rfl⟩
  rw [← HW0.out]
  gi_wp2_with (fail)
  refine wpIn_rangeFunc_gen rfl (by omega) (gf := 72) (lb := #[.pointer (some ⟨w.heap.size + 2 + 1, 0, none⟩), .pointer (some ⟨w.heap.size + 2, 0, none⟩), .pointer (some ⟨w.heap.size + 2 + 2, 0, none⟩)]) rfl trivial (enters_of Tryd.func72 (by kernel_rfl) rfl)
    HSEQ.out (fun k hk => by have := HS0.out; omega) (fun h k => h.trans k) (fun W l o o' hl hW ho _ => ⟨rfl, rfl, rfl, by simp, fun k hk hn => World.putObj_heap_other (by omega)⟩) (Below.refl _ _) (fun _ => rfl)
    (PathI w) (PathX w)
    (fun t A B h hm => by
      have hs0 := HS0.out
      refine ⟨hm.keep h.1 (by omega), hm.keep h.2.1 (by omega), h.2.2.1, h.2.2.2.1, h.2.2.2.2.trans (hm.below (by have := h.2.2.2.2.size; omega) (fun k hk => by rcases hk with hk | hk; omega; omega))⟩)
    (fun c t A B h hm => by
      have hs0 := HS0.out
      refine ⟨h.1, hm.keep h.2.1 (by omega), h.2.2.1, h.2.2.2.trans (hm.below (by have := h.2.2.2.size; omega) (fun k hk => by omega))⟩)
    HI0.out
    (fun x : ByteArray => { tmps := #[.string s, undef, .pointer (some ⟨w.heap.size, 0, none⟩), .pointer (some ⟨w.heap.size + 1, 0, none⟩), .string x, .string s, .func (.func 72) #[] #[.pointer (some ⟨w.heap.size + 2 + 1, 0, none⟩), .pointer (some ⟨w.heap.size + 2, 0, none⟩), .pointer (some ⟨w.heap.size + 2 + 2, 0, none⟩)], .string x, undef, undef, undef, undef, undef, undef, undef, undef, undef], defers := [] })
    ?assign ?body ?done ?stop
  case assign =>
    intro l z W K hK
    gi_wp2
    exact hK
  case body =>
    rintro l pre x W ⟨h0, h1, h2, h3, h4⟩ ⟨r, hr⟩
    have hxl : x.size ≤ 140737488355328 := by
      have := parts_len (dl s) (dl x) (by rw [hr]; simp)
      rw [size_dl] at hs ⊢; omega
    have c0 : W.cell? ⟨w.heap.size, 0, none⟩ = some (.bool false) := by simp [World.cell?, h0]
    have c1 : W.cell? ⟨w.heap.size + 1, 0, none⟩ = some (.int .i64 pre.length) := by simp [World.cell?, h1]
    have f0 : W.frozen? ⟨w.heap.size, 0, none⟩ = false := Lib.frozen_of_heap h0 0
    have f1 : W.frozen? ⟨w.heap.size + 1, 0, none⟩ = false := Lib.frozen_of_heap h1 0
    have l0 := (Array.getElem?_eq_some_iff.1 h0).1
    have l1 := (Array.getElem?_eq_some_iff.1 h1).1
    have k0 : (0 : Int) ≤ (pre.length : Int) := by omega
    have k1 : (pre.length : Int) ≤ 20 := by omega
    have H0 := Lib.hid h0
    have H1 := Lib.hid h1
    have H3 := Lib.hid h3
    have H4 := Lib.hid h4
    have HS := HS0
    have hlen : ((pre ++ [x]).length : Int) = (pre.length : Int) + 1 := by simp
    have HLEN := Lib.hid hlen
    have hm1 : Mod (fun k => k = w.heap.size + 1) W (W.setCell ⟨w.heap.size + 1, 0, none⟩ (.int .i64 ((pre.length : Int) + 1))) := Mod.setCell (Mod.refl (fun k => k = w.heap.size + 1) W) _ (.inr rfl) _
    have HM1 := Lib.hid hm1
    clear h0 h1 h3 h4 hr hlen hm1
    have hkf : KeepsFrom W0.heap.size W (W.setCell ⟨w.heap.size + 1, 0, none⟩ (.int .i64 ((pre.length : Int) + 1))) := ⟨by simp, fun k o hk ho _ => by
      rw [Below.heap_setCell _ _ _ _ (by have := HS.out; simp; omega)]; exact ho⟩
    have HKF := Lib.hid hkf
    clear hkf
    have HX1 := Lib.hid (show (pre ++ [x]).length = pre.length + 1 by simp)
    by_cases hp : pre.length = 20
    · have k2 : (20 : Int) < (pre.length : Int) + 1 := by omega
      have HP := Lib.hid hp
      clear hp
      gi_wp2_with (fail)
      refine ⟨trivial, ?_⟩
      gi_wp2
      have hw := HKF.out
      have hm := HM1.out
      have q0 := hm.keep H0.out (by omega)
      refine ⟨hw.trans ⟨by simp, fun k o hk ho _ => by
        rw [Below.heap_setCell _ _ _ _ (by have := HS.out; simp; omega)]; exact ho⟩, rfl, ?_, ⟨pre, x, rfl, .inl (by have := HX1.out; have := HP.out; omega)⟩, ?_⟩
      · have := heap_setCell_same _ w.heap.size 0 _ _ (.bool false) q0
        simpa using this
      · exact (H4.out.setCell (p := ⟨w.heap.size + 1, 0, none⟩) (by simp) _).setCell (p := ⟨w.heap.size, 0, none⟩) (by simp) _
    · have k2 : ¬ (20 : Int) < (pre.length : Int) + 1 := by omega
      have HP := Lib.hid hp
      clear hp
      gi_wp2_with (fail)
      refine ⟨trivial, ?_⟩
      refine (CallsIn.inRound l (callsIn_wide.2 (Td.name x _ hxl))).mono ?_
      rintro e W2 ⟨rfl, rfl⟩
      rw [show x.data.toList = dl x from rfl]
      cases hn : isName (dl x)
      · have HN := Lib.hid hn
        clear hn
        gi_wp2
        have hw := HKF.out
        have hm := HM1.out
        have q0 := hm.keep H0.out (by omega)
        refine ⟨hw.trans ⟨by simp, fun k o hk ho _ => by
          rw [Below.heap_setCell _ _ _ _ (by have := HS.out; simp; omega)]; exact ho⟩, rfl, ?_, ⟨pre, x, rfl, .inr HN.out⟩, ?_⟩
        · have := heap_setCell_same _ w.heap.size 0 _ _ (.bool false) q0
          simpa using this
        · exact (H4.out.setCell (p := ⟨w.heap.size + 1, 0, none⟩) (by simp) _).setCell (p := ⟨w.heap.size, 0, none⟩) (by simp) _
      · have HN := Lib.hid hn
        clear hn
        gi_wp2
        refine ⟨HKF.out, HM1.out.mono (fun k _ hk => .inr (.inl hk)), HM1.out.keep H0.out (by omega), ?_, by have := HX1.out; have := HP.out; omega, ?_, H4.out.setCell (p := ⟨w.heap.size + 1, 0, none⟩) (by simp) _⟩
        · have := heap_setCell_same W (w.heap.size + 1) 0 _ _ (.int .i64 ((pre.length : Int) + 1)) H1.out
          rw [HLEN.out]
          simpa using this
        · rw [List.map_append, List.all_append, H3.out]; simp [HN.out]
  case done =>
    rintro Dd zs W hD hzs ⟨h0, h1, h2, h3, h4⟩ hK
    have hr : isPath (dl s) = true := isPath_true hzs (by simpa using h2) h3
    obtain rfl : rr = true := HRR.out.symm.trans hr
    have c0 : W.cell? ⟨w.heap.size, 0, none⟩ = some (.bool false) := by simp [World.cell?, h0]
    have f0 : W.frozen? ⟨w.heap.size, 0, none⟩ = false := Lib.frozen_of_heap h0 0
    have l0 := (Array.getElem?_eq_some_iff.1 h0).1
    have H0 := Lib.hid h0
    have H4 := Lib.hid h4
    have HK := Lib.hid hK
    clear hr h0 h1 h2 h3 h4 hK hzs
    gi_wp2
    have hc : (W.setCell ⟨w.heap.size, 0, none⟩ (.bool true)).heap[w.heap.size]? = some (.cells #[.bool true] 4 (0, 0)) := by
      have := heap_setCell_same W w.heap.size 0 _ _ (.bool true) H0.out
      simpa using this
    have hd : (W.setCell ⟨w.heap.size, 0, none⟩ (.bool true)).heap[Dd]? = some (.deferred (some [])) := by
      rw [Below.heap_setCell _ _ _ _ (by have := HS0.out; simp; omega)]; exact HK.out
    refine ⟨by simp, .inl ⟨_, _, rfl, run_takeDeferred hd, ?_⟩⟩
    have hc2 : ((W.setCell ⟨w.heap.size, 0, none⟩ (.bool true)).putObj Dd (.deferred none)).cell? ⟨w.heap.size, 0, none⟩ = some (.bool true) := by
      simp only [World.cell?, World.putObj_heap_other (show w.heap.size ≠ Dd by have := HS0.out; omega)]
      simp [hc]
    refine ⟨.bool true, by simp [results, Tryd.results35, go_sem, hc2], rfl, ?_⟩
    exact (H4.out.setCell (p := ⟨w.heap.size, 0, none⟩) (by simp) _).trans (belowK_b (w := w) (Nat.le_refl _) _ Dd _ _ (by have := HS0.out; omega) hd rfl rfl)
  case stop =>
    rintro Dd c pre W hD ⟨r, hr⟩ ⟨rfl, h0, ⟨m, x, rfl, hx⟩, h4⟩ hK
    have c0 : W.cell? ⟨w.heap.size, 0, none⟩ = some (.bool false) := by simp [World.cell?, h0]
    have hfalse : isPath (dl s) = false := isPath_false (zs := m.map dl) (x := dl x) (r := r) (by rw [hr]; simp) (by
      rcases hx with hx | hx
      · exact .inl (by simpa using hx)
      · exact .inr hx)
    obtain rfl : rr = false := HRR.out.symm.trans hfalse
    have H4 := Lib.hid h4
    have HK := Lib.hid hK
    clear hr hx h0 h4 hfalse hK
    gi_wp2
    refine ⟨by simp, .inl ⟨_, _, rfl, run_takeDeferred HK.out, ?_⟩⟩
    have hc2 : (W.putObj Dd (.deferred none)).cell? ⟨w.heap.size, 0, none⟩ = some (.bool false) := by
      rw [← c0]
      simp only [World.cell?, World.putObj_heap_other (show w.heap.size ≠ Dd by have := HS0.out; omega)]
    refine ⟨.bool false, by simp [results, Tryd.results35, go_sem, hc2], rfl, ?_⟩
    exact H4.out.trans (belowK_b (w := w) (Nat.le_refl _) W Dd _ _ (by have := HS0.out; omega) HK.out rfl rfl)
end Go.Proofs.YtodjhgalbaelkaaDoor

/- edit: each, the iterator over a text's lines; Lines. -/
import Derived.Test.YtodjhgalbaelkaaDoorTwD
import Derived.Maps.AppendAt
namespace Go.Proofs.YtodjhgalbaelkaaDoor
open Go.RowKit Go.BigFrame Go.Shelf
set_option linter.unusedVariables false
attribute [local go_sem] Oper.semAt_some

theorem Ed.each (s : ByteArray) (w : World) : Calls Tryd.prog 53 #[.string s] w fun e w' => e = .returned (.func (.func 67) #[] #[.pointer (some ⟨w.heap.size, 0, none⟩)]) ∧ w' = w.alloc (.cells #[.string s] 9) := by
  go_enter Tryd.func53, Tryd.ntmps53
  go_wp2
  go_ret
  exact ⟨rfl, rfl⟩

set_option maxRecDepth 100000 in
set_option maxHeartbeats 4000000 in
theorem Ed.seq (n B : Nat) (s : ByteArray) (w : World) (K : Nat → Prop) (h0 : w.heap[B]? = some (.cells #[.string s] 9 (0, 0))) (hK : ¬ K B) (hs : s.size ≤ 140737488355328) :
    SeqG Fence.wide n Tryd.prog 67 #[.pointer (some ⟨B, 0, none⟩)] (fun x : ByteArray => #[.string x]) (fun W W' => Mod K W W') (fun pre x => ∃ r, lines (dl s) = pre.map dl ++ dl x :: r) (fun k => k = B)
      (fun zs => zs.map dl = lines (dl s)) (fun zs => ∃ r, lines (dl s) = zs.map dl ++ r) w := fun l J Jx W hW hJ hJx hY hj0 => by
  have g0 := heap_below hW h0 (Array.getElem?_eq_some_iff.1 h0).1
  have HJ := Lib.hid hJ
  have G0 := Lib.hid g0
  clear h0 hJ hJx g0
  refine callsIn_of_wp Tryd.func67 rfl trivial ?_ rfl
  simp only [Tryd.ntmps67, List.size_toArray, List.length_cons, List.length_nil, Nat.reduceAdd, Nat.reduceSub, Array.replicate_succ, Array.replicate_zero, List.push_toArray, List.append_toArray, List.nil_append, List.cons_append]
  gi_wp2
  gi_loopw [3] (fun _ wr => ∃ (pre : List ByteArray) (y : ByteArray), lines (dl s) = pre.map dl ++ lines (dl y) ∧ y.size ≤ s.size ∧ wr.heap[B]? = some (.cells #[.string y] 9 (0, 0)) ∧ J pre wr) (fun _ wr => strLen B wr)
  case atStart => exact ⟨[], s, rfl, Nat.le_refl _, G0.out, hj0⟩
  case round =>
    clear hj0 G0
    obtain ⟨pre, y, hp, hy, g0, hjp⟩ := hrel
    have c0 : wr.cell? ⟨B, 0, none⟩ = some (.string y) := by simp [World.cell?, g0]
    have hsl : strLen B wr = y.size := by unfold strLen; rw [c0]
    have HSL := Lib.hid hsl
    have HP := Lib.hid hp
    have G0 := Lib.hid g0
    by_cases hy0 : y.size = 0
    · have hd : dl y = [] := List.length_eq_zero_iff.1 (by rw [← size_dl]; exact hy0)
      have hall : pre.map dl = lines (dl s) := by rw [hp, hd]; simp [lines]
      have HA := Lib.hid hall
      have HJP := Lib.hid hjp
      have h1 : ¬ (0 : Int) < (y.size : Int) := by omega
      have h2 : ¬ 0 < y.size := by omega
      clear hd hall hjp hp g0 hsl
      gi_wp2
      go_end0
      exact ⟨⟨_, rfl⟩, .inl ⟨_, HA.out, HJP.out⟩⟩
    · have hne : dl y ≠ [] := data_ne hy0
      have hq := lines_step hne
      have hfp := fl_pos hne
      have hfl := fl_le (dl y)
      rw [← size_dl] at hfl
      have hidx := fl_index (dl y)
      have hnone := fl_none (dl y)
      rw [← size_dl] at hnone
      have hz : dl (y.extract 0 (fl (dl y))) = (dl y).take (fl (dl y)) := by rw [ext_from]; simp [dl]
      have hz2 : dl (y.extract (fl (dl y)) y.size) = (dl y).drop (fl (dl y)) := by rw [ext_to]; simp [dl]
      obtain ⟨fn1, tm1, as1, bo1, hyy1, hR1⟩ := hY pre (y.extract 0 (fl (dl y))) wr hjp ⟨lines ((dl y).drop (fl (dl y))), by rw [hp, hq, hz]⟩
      have hfz : wr.frozen? ⟨B, 0, none⟩ = false := Lib.frozen_of_heap g0 0
      have hrest : lines (dl s) = (pre ++ [y.extract 0 (fl (dl y))]).map dl ++ lines (dl (y.extract (fl (dl y)) y.size)) := by
        rw [hp, hq, hz2, List.map_append, List.map_cons, List.map_nil, hz, List.append_assoc]; rfl
      have hlen2 : (y.extract (fl (dl y)) y.size).size = y.size - fl (dl y) := by rw [size_dl, hz2, List.length_drop, ← size_dl]
      have HREST := Lib.hid hrest
      have HLEN2 := Lib.hid hlen2
      have hcase : (Lib.indexByte (dl y) 10 = (fl (dl y) : Int) - 1) ∨ (Lib.indexByte (dl y) 10 = -1 ∧ fl (dl y) = y.size) := by
        rw [hidx]
        by_cases hm : (10 : UInt8) ∈ dl y
        · rw [if_pos hm]; exact .inl rfl
        · rw [if_neg hm]; exact .inr ⟨rfl, hnone hm⟩
      clear hjp g0 hsl hp hq hz hz2 hidx hnone hrest hlen2 hne
      have i0 : (0 : Int) < (y.size : Int) := by omega
      have i0' : 0 < y.size := by omega
      have i2 : (y.size : Int) ≤ 140737488355328 := by omega
      generalize hf : fl (dl y) = f at *
      have HF := Lib.hid hf
      clear hf
      rcases hcase with hi | ⟨hi, hfy⟩
      · have HI := Lib.hid hi
        have i3 : (0 : Int) ≤ (f : Int) := by omega
        have i4 : (f : Int) ≤ (y.size : Int) := by omega
        have i5 : ((f : Int) == 0) = false := by rw [beq_eq_false_iff_ne]; omega
        clear hi
        gi_wp2_with (fail)
        refine ⟨trivial, (fun hh => by cases hh), (callsIn_wide.2 (Tryd.strings_IndexByte y 10 wr)).mono ?_⟩
        rintro e w1 ⟨rfl, rfl⟩
        rw [show Lib.indexByte y.data.toList (10 : Int).toNat.toUInt8 = (f : Int) - 1 from HI.out]
        gi_wp2_with (fail)
        refine ⟨(fun hh => by cases hh), hR1.mono ?_⟩
        rintro e W1 (⟨rfl, hJ1, hk1⟩ | ⟨rfl, hx1⟩)
        · have e0 := hk1.keep G0.out hK
          have c0 : W1.cell? ⟨B, 0, none⟩ = some (.string y) := by simp [World.cell?, e0]
          have f0 : W1.frozen? ⟨B, 0, none⟩ = false := Lib.frozen_of_heap e0 0
          have hBl := (Array.getElem?_eq_some_iff.1 e0).1
          have E0 := Lib.hid e0
          have HJ1 := Lib.hid hJ1
          clear hJ1 hk1 hyy1 hR1 e0
          gi_wp2
          go_roundw
          case rel =>
            have hm : Mod (fun k => k = B) W1 (W1.setCell ⟨B, 0, none⟩ (.string (y.extract f y.size))) := Mod.setCell (Mod.refl (fun k => k = B) W1) _ (.inr rfl) _
            refine ⟨pre ++ [y.extract 0 f], y.extract f y.size, HREST.out, ?_, ?_, HJ.out _ _ _ HJ1.out (hm.mono (fun k _ hk => .inl hk))⟩
            · rw [HLEN2.out]; omega
            · have := heap_setCell_same W1 B 0 _ _ (.string (y.extract f y.size)) E0.out
              simpa using this
          case measure =>
            rw [HSL.out]
            unfold strLen
            rw [World.cell?_setCell_same' _ _ _ (by rw [c0]; rfl)]
            simp only
            rw [HLEN2.out]; omega
        · have HX1 := Lib.hid hx1
          clear hx1 hyy1 hR1
          gi_wp2
          refine bodyPost_ret (results_none rfl _ _ _) rfl ?_
          exact ⟨⟨_, rfl⟩, .inr ⟨_, ⟨_, HREST.out⟩, HX1.out⟩⟩
      · subst hfy
        have hex : y.extract 0 y.size = y := by simp
        have hrest2 := HREST.out
        have hex2 : y.extract y.size y.size = ByteArray.empty := by simp
        rw [hex] at hyy1 hR1 hrest2
        rw [hex2] at hrest2
        have HREST2 := Lib.hid hrest2
        have HI := Lib.hid hi
        clear hex hex2 hrest2
        have i4 : (0 : Int) ≤ (y.size : Int) := by omega
        clear hi
        gi_wp2_with (fail)
        refine ⟨trivial, (fun hh => by cases hh), (callsIn_wide.2 (Tryd.strings_IndexByte y 10 wr)).mono ?_⟩
        rintro e w1 ⟨rfl, rfl⟩
        rw [show Lib.indexByte y.data.toList (10 : Int).toNat.toUInt8 = -1 from HI.out]
        gi_wp2_with (fail)
        refine ⟨(fun hh => by cases hh), hR1.mono ?_⟩
        rintro e W1 (⟨rfl, hJ1, hk1⟩ | ⟨rfl, hx1⟩)
        · have e0 := hk1.keep G0.out hK
          have c0 : W1.cell? ⟨B, 0, none⟩ = some (.string y) := by simp [World.cell?, e0]
          have f0 : W1.frozen? ⟨B, 0, none⟩ = false := Lib.frozen_of_heap e0 0
          have hBl := (Array.getElem?_eq_some_iff.1 e0).1
          have E0 := Lib.hid e0
          have HJ1 := Lib.hid hJ1
          clear hJ1 hk1 hyy1 hR1 e0
          gi_wp2
          go_roundw
          case rel =>
            have hm : Mod (fun k => k = B) W1 (W1.setCell ⟨B, 0, none⟩ (.string ByteArray.empty)) := Mod.setCell (Mod.refl (fun k => k = B) W1) _ (.inr rfl) _
            refine ⟨pre ++ [y], ByteArray.empty, HREST2.out, ?_, ?_, HJ.out _ _ _ HJ1.out (hm.mono (fun k _ hk => .inl hk))⟩
            · show 0 ≤ _; omega
            · have := heap_setCell_same W1 B 0 _ _ (.string ByteArray.empty) E0.out
              simpa using this
          case measure =>
            rw [HSL.out]
            unfold strLen
            rw [World.cell?_setCell_same' _ _ _ (by rw [c0]; rfl)]
            simp only
            show 0 < _; omega
        · have HX1 := Lib.hid hx1
          clear hx1 hyy1 hR1
          gi_wp2
          refine bodyPost_ret (results_none rfl _ _ _) rfl ?_
          exact ⟨⟨_, rfl⟩, .inr ⟨_, ⟨_, HREST2.out⟩, HX1.out⟩⟩
end Go.Proofs.YtodjhgalbaelkaaDoor

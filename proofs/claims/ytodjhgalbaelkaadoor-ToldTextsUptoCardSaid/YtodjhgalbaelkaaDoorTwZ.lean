/- told: numbered, the iterator over numbered lines. -/
import Derived.Test.YtodjhgalbaelkaaDoorTwY
namespace Go.Proofs.YtodjhgalbaelkaaDoor
open Go.RowKit Go.BigFrame Go.Shelf
set_option linter.unusedVariables false
attribute [local go_sem] Oper.semAt_some

theorem Nm.make (s : ByteArray) (w : World) : Calls Tryd.prog 28 #[.string s] w fun e w' => e = .returned (.func (.func 42) #[] #[.pointer (some ⟨w.heap.size, 0, none⟩)]) ∧ w' = w.alloc (.cells #[.string s] 9) := by
  go_enter Tryd.func28, Tryd.ntmps28
  go_wp2
  go_ret
  exact ⟨rfl, rfl⟩
theorem own9 {w w' : World} {X sz n : Nat} {v : Value} {xs : List Value} (h : w.ownsRow X 9 sz v n xs) (hk : KC w w') : w'.ownsRow X 9 sz v n xs := by
  refine ⟨h.1, ?_⟩
  rcases h.2 with hn | ⟨g, cap, cur, rfl, hb, hg, rest⟩
  · exact .inl hn
  · exact .inr ⟨g, cap, cur, rfl, hb, hk g cur 9 (.inl rfl) hg, rest⟩
/-- The first j lines, with their places. -/
def pref (xs : List ByteArray) (j : Nat) : List (Nat × ByteArray) := (List.range j).map fun i => (i, xs.getD i ⟨#[]⟩)
theorem pref_succ (xs : List ByteArray) (j : Nat) (h : j < xs.length) : pref xs (j + 1) = pref xs j ++ [(j, xs[j])] := by
  unfold pref
  rw [List.range_succ, List.map_append]
  simp [List.getD, h]
theorem pref_len (xs : List ByteArray) (j : Nat) : (pref xs j).length = j := by simp [pref]
theorem pref_snd (xs : List ByteArray) : ∀ j, j ≤ xs.length → (pref xs j).map (fun p => dl p.2) = (xs.take j).map dl
  | 0, _ => by simp [pref]
  | j + 1, h => by
    rw [pref_succ xs j (by omega), List.map_append, pref_snd xs j (by omega), List.take_succ_eq_append_getElem (by omega), List.map_append]
    rfl
def NmOk (s : ByteArray) (pre : List (Nat × ByteArray)) (x : Nat × ByteArray) : Prop := x.1 = pre.length ∧ ∃ r, lines (dl s) = pre.map (fun p => dl p.2) ++ dl x.2 :: r

set_option maxRecDepth 100000 in
set_option maxHeartbeats 4000000 in
theorem Nm.seq (n B : Nat) (s : ByteArray) (w : World) (h0 : w.heap[B]? = some (.cells #[.string s] 9 (0, 0))) (hs : s.size ≤ 1000000000) :
    SeqG Fence.wide n Tryd.prog 42 #[.pointer (some ⟨B, 0, none⟩)] (fun x : Nat × ByteArray => #[.int .i64 ((x.1 : Int) + 1), .string x.2]) KC (NmOk s) (fun _ => False)
      (fun zs => zs.map (fun p => dl p.2) = lines (dl s)) (fun zs => ∃ r, lines (dl s) = zs.map (fun p => dl p.2) ++ r) w := fun l J Jx W hW hJ hJx hY hj0 => by
  have g0 := heap_below hW h0 (Array.getElem?_eq_some_iff.1 h0).1
  have c0 : W.cell? ⟨B, 0, none⟩ = some (.string s) := by simp [World.cell?, g0]
  have HJ := Lib.hid hJ
  have HY := Lib.hid hY
  have HJ0 := Lib.hid hj0
  clear h0 hJ hJx g0 hY hj0
  refine callsIn_of_wp Tryd.func42 rfl trivial ?_ rfl
  simp only [Tryd.ntmps42, List.size_toArray, List.length_cons, List.length_nil, Nat.reduceAdd, Nat.reduceSub, Array.replicate_succ, Array.replicate_zero, List.push_toArray, List.append_toArray, List.nil_append, List.cons_append]
  gi_wp2_with (fail)
  refine ⟨trivial, (fun hh => by cases hh), (callsIn_wide.2 (Ed.getLines s W hs)).mono ?_⟩
  rintro e w1 ⟨v, xs, rfl, hxs, hown, b1⟩
  obtain ⟨a0, cap, rfl⟩ := row_shape hown
  have hj1 := HJ.out [] W w1 HJ0.out (Mod.of_below b1)
  have HJ1 := Lib.hid hj1
  have HOWN := Lib.hid hown
  have HXS := Lib.hid hxs
  have hxl : xs.length ≤ 1000000000 := by
    have h1 : xs.length = (lines (dl s)).length := by rw [← hxs]; simp
    have h2 := lines_le (dl s)
    rw [← size_dl] at h2
    omega
  clear hj1 hown hxs b1 c0 HJ0
  gi_wp2_with (fail)
  gi_loopw [8] (fun s8 wr => ∃ j : Nat, j ≤ xs.length ∧ s8 = .int .i64 j ∧ J (pref xs j) wr ∧ wr.ownsRow W.heap.size 9 1 (.slice a0 xs.length cap) xs.length (xs.map Value.string)) (fun s8 _ => xs.length - (intOf s8).toNat)
  case atStart => exact ⟨0, by omega, rfl, by simpa [pref] using HJ1.out, HOWN.out⟩
  case round =>
    clear HJ1 HOWN
    obtain ⟨j, hj, rfl, hjp, hown⟩ := hrel
    have HOWN := Lib.hid hown
    by_cases hjl : j < xs.length
    · obtain ⟨-, -, hrow, -⟩ := row_at_of_owns hown
      obtain ⟨gb, go, rfl, hgb, hgc⟩ := hrow.at (by intro e; simp [e] at hjl)
      have gc := strF_at (hgc j hjl)
      rw [Nat.mul_one] at gc
      have hps := pref_succ xs j hjl
      have hok : NmOk s (pref xs j) (j, xs[j]) := ⟨(pref_len xs j).symm, (xs.drop (j + 1)).map dl, by
        rw [pref_snd xs j hj, ← HXS.out]
        conv => lhs; rw [← List.take_append_drop j xs, List.map_append, List.drop_eq_getElem_cons hjl, List.map_cons]⟩
      obtain ⟨fn1, tm1, as1, bo1, hyy1, hR1⟩ := HY.out (pref xs j) (j, xs[j]) wr hjp hok
      have HPS := Lib.hid hps
      have HOK := Lib.hid hok
      clear hrow hgc hps hok hown hjp
      generalize xs[j] = x at *
      have hjb : (j : Int) ≤ 1000000000 := by omega
      gi_wp2_with (fail)
      refine ⟨(fun hh => by cases hh), hR1.mono ?_⟩
      rintro e W1 (⟨rfl, hJ2, hk2⟩ | ⟨rfl, hx2⟩)
      · have hown2 := own9 HOWN.out hk2
        have HOWN2 := Lib.hid hown2
        have HJ2 := Lib.hid hJ2
        clear hJ2 hk2 hown2 hyy1 hR1 gc
        gi_wp2
        go_roundw
        case rel => exact ⟨j + 1, by omega, by go_num, by rw [HPS.out]; exact HJ2.out, HOWN2.out⟩
        case measure => simp [intOf]; omega
      · have HX2 := Lib.hid hx2
        clear hx2 hyy1 hR1 gc
        gi_wp2
        refine bodyPost_ret (results_none rfl _ _ _) rfl ?_
        obtain ⟨r', hr'⟩ := HOK.out.2
        exact ⟨⟨_, rfl⟩, .inr ⟨_, ⟨r', by rw [hr', List.map_append, List.append_assoc]; rfl⟩, HX2.out⟩⟩
    · obtain rfl : j = xs.length := by omega
      have hfin : (pref xs xs.length).map (fun p => dl p.2) = lines (dl s) := by rw [pref_snd xs _ (Nat.le_refl _), List.take_length, HXS.out]
      have HF := Lib.hid hfin
      have HJP := Lib.hid hjp
      clear hfin hjp hown
      gi_wp2
      go_end0
      exact ⟨⟨_, rfl⟩, .inl ⟨_, HF.out, HJP.out⟩⟩
end Go.Proofs.YtodjhgalbaelkaaDoor

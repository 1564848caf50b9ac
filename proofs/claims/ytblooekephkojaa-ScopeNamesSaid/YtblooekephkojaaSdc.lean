/- The law ScopeNames (closed), walked. -/
import Derived.Test.YtblooekephkojaaScS
namespace Go.Proofs.Ytblooekephkojaa
open Go.RowKit Go.BigFrame Go.Shelf Go.ChangeMaps Go.WideMaps
set_option linter.unusedVariables false

set_option maxRecDepth 100000 in
theorem Sc.made_nil (w : World) : Calls Try.prog 50 #[.pointer none] w fun e w' => e = .returned (.bool false) ∧ w' = w := by
  go_enter Try.func50, Try.ntmps50
  go_wp2
  go_ret
  exact ⟨rfl, rfl⟩
theorem run_eql_nil_ptr {P : Program} (w : World) {tp te : TypeId} (a : Addr) (hp : P.underlying tp = some (.pointer te)) : (binOp .eql tp (.pointer none) (.pointer (some a))).run P w = .ok (.bool false) w := by
  have h : ∀ d : Nat, (Op.equalIn (d + 1) tp (.pointer none) (.pointer (some a))).run P w = .ok false w := fun d => by
    simp [Op.equalIn, run_underlying hp]
  simp only [binOp]
  simp [Op.equal, Op.maxDepth, h 9999]
def Zero (Z : Nat) (w : World) : Prop := w.heap[Z]? = some (.cells #[.pointer none, .map none, .slice none 0 0] 57 (0, 0))
set_option maxRecDepth 100000 in
theorem Sc.made_zero (Z : Nat) (w : World) (h : Zero Z w) : Calls Try.prog 50 #[.pointer (some ⟨Z, 0, none⟩)] w fun e w' => e = .returned (.bool false) ∧ w' = w := by
  have c0 : w.cell? ⟨Z, 0, none⟩ = some (.pointer none) := by unfold Zero at h; simp [World.cell?, h]
  have he := run_eql_nil_ptr (P := Try.prog) w ⟨Z, 0, none⟩ Try.underlying42
  clear h
  go_enter Try.func50, Try.ntmps50
  go_wp2
  go_ret
  exact ⟨rfl, rfl⟩
theorem Zero.on {Z : Nat} {w w' : World} (h : Zero Z w) (hb : Below w.heap.size w w') : Zero Z w' := heap_below hb h (Array.getElem?_eq_some_iff.1 h).1
set_option maxRecDepth 100000 in
theorem Sc.open_nil (w : World) : Calls Try.prog 22 #[.pointer none] w fun e w' => e = .returned (.int .i64 1) ∧ w' = w := by
  go_enter Try.func22, Try.ntmps22
  go_wp2_with fail
  refine (Sc.made_nil w).mono ?_
  rintro e w1 ⟨rfl, rfl⟩
  go_wp2_with fail
  go_ret
  exact ⟨rfl, rfl⟩
set_option maxRecDepth 100000 in
theorem Sc.declare_nil (x : ByteArray) (t : Bool) (w : World) : Calls Try.prog 23 #[.pointer none, .string x, .bool t] w fun e w' => e = .returned (.int .i64 1) ∧ w' = w := by
  go_enter Try.func23, Try.ntmps23
  go_wp2_with fail
  refine (Sc.made_nil w).mono ?_
  rintro e w1 ⟨rfl, rfl⟩
  go_wp2_with fail
  go_ret
  exact ⟨rfl, rfl⟩
set_option maxRecDepth 100000 in
theorem Sc.isType_nil (x : ByteArray) (w : World) : Calls Try.prog 25 #[.pointer none, .string x] w fun e w' => e = .returned (.bool false) ∧ w' = w := by
  go_enter Try.func25, Try.ntmps25
  go_wp2_with fail
  refine (Sc.made_nil w).mono ?_
  rintro e w1 ⟨rfl, rfl⟩
  go_wp2_with fail
  go_ret
  exact ⟨rfl, rfl⟩
set_option maxRecDepth 100000 in
theorem Sc.blocks_zero (Z : Nat) (w : World) (h : Zero Z w) : Calls Try.prog 31 #[.pointer (some ⟨Z, 0, none⟩)] w fun e w' => e = .returned (.int .i64 0) ∧ w' = w := by
  have H := Lib.hid h
  clear h
  go_enter Try.func31, Try.ntmps31
  go_wp2_with fail
  refine (Sc.made_zero Z w H.out).mono ?_
  rintro e w1 ⟨rfl, rfl⟩
  go_wp2_with fail
  go_ret
  exact ⟨rfl, rfl⟩
set_option maxRecDepth 100000 in
theorem Sc.copy_zero (Z : Nat) (w : World) (h : Zero Z w) : Calls Try.prog 24 #[.pointer (some ⟨Z, 0, none⟩)] w fun e w' => e = .returned (.pointer none) ∧ w' = w := by
  have H := Lib.hid h
  clear h
  go_enter Try.func24, Try.ntmps24
  go_wp2_with fail
  refine (Sc.made_zero Z w H.out).mono ?_
  rintro e w1 ⟨rfl, rfl⟩
  go_wp2_with fail
  go_ret
  exact ⟨rfl, rfl⟩
set_option maxRecDepth 100000 in
set_option maxHeartbeats 1000000 in
theorem Sc.close_zero (Z : Nat) (w : World) (h : Zero Z w) : Calls Try.prog 28 #[.pointer (some ⟨Z, 0, none⟩)] w fun e w' => e = .returned (.int .i64 1) ∧ Below w.heap.size w w' := by
  obtain ⟨W0, hW0⟩ : ∃ W0, W0 = w.alloc (.cells #[.pointer (some ⟨Z, 0, none⟩)] 42) := ⟨_, rfl⟩
  have hb0 : Below w.heap.size w W0 := by rw [hW0]; exact (Below.refl _ _).alloc (Nat.le_refl _) _
  have c0 : W0.cell? ⟨w.heap.size, 0, none⟩ = some (.pointer (some ⟨Z, 0, none⟩)) := by rw [hW0]; simp [go_sem]
  have hz := h.on hb0
  have HZ := Lib.hid hz
  have HB := Lib.hid hb0
  have HW0 := Lib.hid hW0
  clear h hb0 hW0 hz
  refine (callsIn_wide (n := 5)).1 ?_
  refine callsIn_of_wp_marks Try.func28 rfl trivial ?_ rfl
  simp only [Try.ntmps28, List.size_toArray, List.length_cons, List.length_nil, Nat.reduceAdd, Nat.reduceSub, Array.replicate_succ, Array.replicate_zero, List.push_toArray, List.append_toArray, List.nil_append, List.cons_append]
  gi_wp2_with (fail)
  rw [← HW0.out]
  refine ⟨trivial, ?_⟩
  refine (callsIn_wide.2 (Sc.made_zero Z W0 HZ.out)).mono ?_
  rintro e w1 ⟨rfl, rfl⟩
  gi_wp2_with (fail)
  exact ⟨_, results_tmp rfl _ _ _, rfl, HB.out⟩

theorem tIs4 : isTy [[(tName, true)]] tName = true := by decide
set_option maxRecDepth 100000 in
set_option maxHeartbeats 16000000 in
theorem Sc.law_names (W : World) : Calls Try.prog 7 #[] W fun e w' => e = .returned (.bool true) ∧ Below W.heap.size W w' := by
  go_enter Try.func7, Try.ntmps7
  go_wp2_with fail
  refine (So.new W).mono ?_
  rintro e w1 ⟨A, rfl, o1⟩
  have O1 := Lib.hid o1
  clear o1
  go_wp2_with fail
  refine (So.declare tName true O1.out (by decide) (by decide)).mono ?_
  rintro e w2 ⟨rfl, o2⟩
  rw [if_neg (show ¬ tName.size = 0 from by decide)]
  have O2 : Hid (SO (fun k => W.heap.size ≤ k) W A (0 + 2) [[(tName, true)]] w2) := Lib.hid o2
  clear o2 O1
  go_wp2_with fail
  refine (So.opens O2.out).mono ?_
  rintro e w3 ⟨rfl, o3⟩
  have O3 : Hid (SO (fun k => W.heap.size ≤ k) W A (0 + 2) [[(tName, true)], []] w3) := Lib.hid o3
  clear o3 O2
  rw [if_neg (show ¬ 65536 ≤ ([[(tName, true)]] : List Frm).length from by decide)]
  go_wp2_with fail
  refine (So.declare tName false O3.out (by decide) (by decide)).mono ?_
  rintro e w4 ⟨rfl, o4⟩
  rw [if_neg (show ¬ tName.size = 0 from by decide)]
  have O4 : Hid (SO (fun k => W.heap.size ≤ k) W A (0 + 2 + 2) [[(tName, true)], [(tName, false)]] w4) := Lib.hid o4
  clear o4 O3
  go_wp2_with fail
  refine (So.close O4.out (by decide)).mono ?_
  rintro e w5 ⟨rfl, o5⟩
  rw [if_neg (show ¬ ([[(tName, true)], [(tName, false)]] : List Frm).length = 1 from by decide)]
  have O5 : Hid (SO (fun k => W.heap.size ≤ k) W A (0 + 2 + 2) [[(tName, true)]] w5) := Lib.hid o5
  clear o5 O4
  go_wp2_with fail
  refine (So.isType tName O5.out (by decide)).mono ?_
  rintro e w6 ⟨rfl, rfl⟩
  rw [tIs4]
  go_wp2_with fail
  refine (So.close O5.out (by decide)).mono ?_
  rintro e w7 ⟨rfl, o7⟩
  rw [if_pos (show ([[(tName, true)]] : List Frm).length = 1 from by decide)]
  have O7 : Hid (SO (fun k => W.heap.size ≤ k) W A (0 + 2 + 2) [[(tName, true)]] w7) := Lib.hid o7
  clear o7 O5
  go_wp2_with fail
  refine (So.declare ⟨#[]⟩ true O7.out (by decide) (by decide)).mono ?_
  rintro e w8 ⟨rfl, o8⟩
  rw [if_pos (show (⟨#[]⟩ : ByteArray).size = 0 from by decide)]
  have hb8 : Below W.heap.size W w8 := o8.mod.below (Nat.le_refl _) (fun k hk => hk)
  have HB8 := Lib.hid hb8
  clear o8 O7 hb8
  go_wp2_with fail
  obtain ⟨w9, hw9⟩ : ∃ w9, w9 = w8.alloc (.cells #[.pointer none, .map none, .slice none 0 0] 57) := ⟨_, rfl⟩
  obtain ⟨Z, hZ⟩ : ∃ Z, Z = w8.heap.size := ⟨_, rfl⟩
  have hz9 : Zero Z w9 := by unfold Zero; rw [hw9, hZ]; exact heap_alloc_new _ _
  have hb9 : Below W.heap.size W w9 := by rw [hw9]; exact HB8.out.alloc HB8.out.size _
  rw [← hw9, ← hZ]
  have Z9 := Lib.hid hz9
  have HB9 := Lib.hid hb9
  clear hw9 hZ hz9 hb9 HB8
  refine (Sc.open_nil w9).mono ?_
  rintro e w10 ⟨rfl, rfl⟩
  go_wp2_with fail
  refine (Sc.close_zero Z w10 Z9.out).mono ?_
  rintro e w11 ⟨rfl, b11⟩
  have HB11 := Lib.hid (HB9.out.trans (b11.mono HB9.out.size))
  have Z11 := Lib.hid (Z9.out.on b11)
  clear b11
  go_wp2_with fail
  refine (Sc.declare_nil _ _ w11).mono ?_
  rintro e w12 ⟨rfl, rfl⟩
  go_wp2_with fail
  refine (Sc.copy_zero Z w12 Z11.out).mono ?_
  rintro e w13 ⟨rfl, rfl⟩
  go_wp2_with fail
  refine (So.new w13).mono ?_
  rintro e w14 ⟨M, rfl, o14⟩
  have O14 := Lib.hid o14
  clear o14
  go_wp2_with fail
  go_loopw [13] (fun s13 wr => ∃ (i : Nat) (F : List Frm), i ≤ 65535 ∧ s13 = .int .i64 i ∧ F.length = i + 1 ∧ SO (fun k => w13.heap.size ≤ k) w13 M 0 F wr) (fun s13 _ => 65535 - (intOf s13).toNat)
  case atStart => exact ⟨0, _, by omega, rfl, rfl, O14.out⟩
  case round =>
    clear O14
    obtain ⟨i, F, hi, rfl, hF, ow⟩ := hrel
    have HO := Lib.hid ow
    have HFF := Lib.hid hF
    clear ow hF
    by_cases hlt : i < 65535
    · have hl1 : ((i : Int) < 65535) := by omega
      go_wp2_with fail
      refine (So.opens HO.out).mono ?_
      rintro e w15 ⟨rfl, o15⟩
      have hl : ¬ 65536 ≤ F.length := by rw [HFF.out]; omega
      rw [if_neg hl]
      have O15 := Lib.hid o15
      have HLL := Lib.hid hl
      clear o15 hl
      go_wp2_with fail
      go_roundw
      case rel => exact ⟨i + 1, _, by omega, by go_num, by have := HLL.out; unfold Ytblooekephkojaa.opens; rw [if_neg this]; simp [HFF.out], O15.out⟩
      case measure => simp [intOf]; omega
    · obtain rfl : i = 65535 := by omega
      clear hlt hi
      go_wp2_with fail
      refine (So.opens HO.out).mono ?_
      rintro e w15 ⟨rfl, o15⟩
      rw [if_pos (show 65536 ≤ F.length from by have := HFF.out; omega)]
      have O15 : Hid (SO (fun k => w13.heap.size ≤ k) w13 M 0 F w15) := Lib.hid (by unfold Ytblooekephkojaa.opens at o15; rwa [if_pos (show 65536 ≤ F.length from by have := HFF.out; omega)] at o15)
      clear o15 HO
      go_wp2_with fail
      refine (Sc.alive _).mono ?_
      rintro e w16 ⟨rfl, b16⟩
      have O16 := Lib.hid (O15.out.on b16)
      clear b16 O15
      go_wp2_with fail
      refine (Sc.isType_nil _ _).mono ?_
      rintro e w17 ⟨rfl, rfl⟩
      go_wp2_with fail
      have hb17 : Below w13.heap.size w13 w17 := O16.out.mod.below (Nat.le_refl _) (fun k hk => hk)
      refine (Sc.blocks_zero Z w17 (Z11.out.on hb17)).mono ?_
      rintro e w18 ⟨rfl, rfl⟩
      have HB17 := Lib.hid hb17
      clear hb17
      go_wp2_with fail
      refine (So.blocks O16.out).mono ?_
      rintro e w19 ⟨rfl, rfl⟩
      rw [HFF.out]
      go_wp2_with fail
      go_ret
      exact ⟨rfl, HB11.out.trans (HB17.out.mono HB11.out.size)⟩
end Go.Proofs.Ytblooekephkojaa

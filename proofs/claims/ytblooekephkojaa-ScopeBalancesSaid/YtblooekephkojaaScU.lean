/- The law ScopeBalances, walked. -/
import Derived.Test.YtblooekephkojaaScT
namespace Go.Proofs.Ytblooekephkojaa
open Go.RowKit Go.BigFrame Go.Shelf Go.ChangeMaps Go.WideMaps
set_option linter.unusedVariables false

theorem SO.below {N : Nat → Prop} {W w : World} {A m B : Nat} {F : List Frm} (h : SO N W A m F w) (hB : B ≤ W.heap.size) (hN : ∀ k, N k → B ≤ k) : Below B W w := h.mod.below hB hN
theorem opens_small {F : List Frm} (h : F.length < 65536) : opens F = F ++ [[]] := by unfold opens; rw [if_neg (by omega)]
theorem pst_len (F : List Frm) (h : 0 < F.length) (s : Stp) : (pst F s).length ≤ F.length + 1 := by
  unfold pst opens decl
  split
  · split <;> simp
  split
  · split
    · omega
    · obtain ⟨G, f, rfl⟩ := snoc_of_pos F h
      rw [declare_snoc]; simp
  · omega

set_option maxRecDepth 100000 in
set_option maxHeartbeats 8000000 in
theorem Sc.law_balances (a a' : Option Addr) (c c' : Nat) (l m : List Stp) (nm : ByteArray) (W : World) (hr : RowAt 3 Stp.f W a l) (hl : ∀ s ∈ l, s.x.size ≤ maxLen) (hr' : RowAt 3 Stp.f W a' m) (hm : ∀ s ∈ m, s.x.size ≤ maxLen) (hnm : nm.size ≤ maxLen) (hll : l.length ≤ maxLen) (hmm : m.length ≤ maxLen) :
    Calls Try.prog 8 #[.slice a l.length c, .slice a' m.length c', .string nm] W fun e w' => e = .returned (.bool true) ∧ Below W.heap.size W w' := by
  by_cases hbig : 1000 < l.length
  · have h1 : (1000 : Int) < (l.length : Int) := by omega
    clear hr hl hr' hm
    go_enter Try.func8, Try.ntmps8
    go_wp2_with fail
    refine (Sc.alive _).mono ?_
    rintro e w1 ⟨rfl, b1⟩
    go_wp2_with fail
    go_ret
    exact ⟨rfl, b1⟩
  have h1 : ¬ (1000 : Int) < (l.length : Int) := by omega
  by_cases hbig2 : 1000 < m.length
  · have h2 : (1000 : Int) < (m.length : Int) := by omega
    clear hr hl hr' hm
    go_enter Try.func8, Try.ntmps8
    go_wp2_with fail
    refine (Sc.alive _).mono ?_
    rintro e w1 ⟨rfl, b1⟩
    go_wp2_with fail
    go_ret
    exact ⟨rfl, b1⟩
  have h2 : ¬ (1000 : Int) < (m.length : Int) := by omega
  have HL := Lib.hid hl
  have HM := Lib.hid hm
  have HR := Lib.hid hr
  have HR' := Lib.hid hr'
  clear hr hl hr' hm
  go_enter Try.func8, Try.ntmps8
  go_wp2_with fail
  refine (Sc.alive _).mono ?_
  rintro e w1 ⟨rfl, b1⟩
  have hsz1 := b1.size
  have B1 := Lib.hid b1
  clear b1
  go_wp2_with fail
  refine (So.new w1).mono ?_
  rintro e w2 ⟨A, rfl, o2⟩
  have O2 := Lib.hid o2
  clear o2
  go_wp2_with fail
  go_loopw [9] (fun s9 wr => ∃ (i : Nat) (F : List Frm), i ≤ l.length ∧ s9 = .int .i64 i ∧ SO (fun k => w1.heap.size ≤ k) w1 A (2 * i) F wr ∧ F.length ≤ i + 1) (fun s9 _ => l.length - (intOf s9).toNat)
  case atStart => exact ⟨0, _, by omega, rfl, O2.out, by simp⟩
  case round =>
    clear O2
    obtain ⟨i, F, hi, rfl, ow, hFl⟩ := hrel
    have HO := Lib.hid ow
    by_cases hlt : i < l.length
    · have hbel : Below W.heap.size W wr := B1.out.trans (ow.below (B := W.heap.size) hsz1 (fun k hk => by omega))
      obtain ⟨b, off, rfl, hbw, hc⟩ := HR.out.at (by intro e; simp [e] at hlt)
      obtain ⟨g0, g1, g2⟩ := Stp.at (w := wr) (b := b) (o := off + i * 3) (s := l[i]) ((hc i hlt).below hbel hbw)
      have hx := HL.out l[i] (List.getElem_mem hlt)
      have HX := Lib.hid hx
      have hpl := pst_len F ow.wf.pos l[i]
      unfold pst at hpl
      have HPL := Lib.hid hpl
      clear hc hx ow HL HR HM HR' hbel hpl
      generalize l[i] = s at *
      by_cases k0 : s.k = 0
      · have HK := Lib.hid k0
        rw [k0] at g0
        clear k0
        go_wp2_with fail
        refine (So.opens HO.out).mono ?_
        rintro e w3 ⟨rfl, o3⟩
        have O3 := Lib.hid o3
        clear o3
        go_wp2_with fail
        go_roundw
        case rel => exact ⟨i + 1, _, by omega, by go_num, O3.out.mono (by omega), by have := HPL.out; rw [if_pos HK.out] at this; omega⟩
        case measure => simp [intOf]; omega
      · by_cases k1 : 1 < s.k
        · have HK := Lib.hid k0
          go_wp2_with fail
          refine wp_region_tail (C := fun w' => ∃ n, w' = wr.drewN n) 11 (by kernel_rfl) (by kernel_rfl) ⟨1, rfl⟩ ?_
          simp only [List.take_succ_cons, List.take_zero, List.drop_succ_cons, List.drop_zero]
          repeat (go_big_quiet_step (fail))
          refine wpQuiet_nil ?_
          rintro w' ⟨nq, rfl⟩
          go_wp2_with fail
          refine (So.declare s.x s.t (HO.out.drewN nq) HX.out (by omega)).mono ?_
          rintro e w3 ⟨rfl, o3⟩
          have O3 := Lib.hid o3
          clear o3
          go_wp2_with fail
          go_roundw
          case rel => exact ⟨i + 1, _, by omega, by go_num, O3.out.mono (by omega), by have := HPL.out; rw [if_neg HK.out, if_pos k1] at this; omega⟩
          case measure => simp [intOf]; omega
        · go_wp2_with fail
          go_roundw
          case rel => exact ⟨i + 1, _, by omega, by go_num, HO.out.mono (by omega), by omega⟩
          case measure => simp [intOf]; omega
    · obtain rfl : i = l.length := by omega
      have hpos := ow.wf.pos
      clear ow HL HR
      go_wp2_with fail
      refine (So.copy HO.out (by omega)).mono ?_
      rintro e w3 ⟨T, rfl, N1, hN1, o3, hm3, ht3⟩
      have O3 := Lib.hid o3
      have HT := Lib.hid ht3
      have HM3 := Lib.hid hm3
      have HN1 := Lib.hid hN1
      clear o3 ht3 hm3 hN1 HO
      go_wp2_with fail
      refine (So.opens O3.out).mono ?_
      rintro e w4 ⟨rfl, o4⟩
      rw [opens_small (by omega)] at o4
      have O4 := Lib.hid o4
      clear o4
      go_wp2_with fail
      refine (So.play a' c' m N1 w3 A (2 * l.length) F (F ++ [[]]) w4 O4.out ⟨[], [], rfl⟩ (by simp) (fun w' hw => ?_) HM.out (by omega) (by omega)).mono ?_
      · have hb3 : Below W.heap.size W w' := B1.out.trans ((HM3.out.trans (hw.mono (fun k _ hk => HN1.out k hk))).below hsz1 (fun k hk => by omega))
        exact HR'.out.below hb3 (Nat.le_refl _) hb3.size
      rintro e w5 ⟨rfl, f, o5⟩
      have O5 := Lib.hid o5
      clear o5
      go_wp2_with fail
      refine (So.close O5.out (by omega)).mono ?_
      rintro e w6 ⟨rfl, o6⟩
      rw [closed_snoc F f hpos] at o6
      rw [if_neg (show ¬ (F ++ [f]).length = 1 from by rw [List.length_append, List.length_singleton]; omega)]
      have t6 := HT.out w6 o6.mod
      have O6 := Lib.hid o6
      have T6 := Lib.hid t6
      clear o6 t6 O3 O4 O5 HT
      go_wp2_with fail
      go_loopw [11] (fun s11 wq => ∃ j : Nat, j ≤ m.length ∧ s11 = .int .i64 j ∧ SO N1 w3 A (2 * l.length + 2 * m.length) F wq ∧ SO (fun k => w1.heap.size ≤ k) w1 T (2 * l.length) F wq) (fun s11 _ => m.length - (intOf s11).toNat)
      case atStart => exact ⟨0, by omega, rfl, O6.out, T6.out⟩
      case round =>
        clear O6 T6
        obtain ⟨j, hj, rfl, oa, ot⟩ := hrel
        have OA := Lib.hid oa
        have OT := Lib.hid ot
        have hbel : Below W.heap.size W wr := B1.out.trans (ot.below (B := W.heap.size) hsz1 (fun k hk => by omega))
        by_cases hlt : j < m.length
        · obtain ⟨b, off, rfl, hbw, hc⟩ := HR'.out.at (by intro e; simp [e] at hlt)
          obtain ⟨g0, g1, g2⟩ := Stp.at (w := wr) (b := b) (o := off + j * 3) (s := m[j]) ((hc j hlt).below hbel hbw)
          have hx := HM.out m[j] (List.getElem_mem hlt)
          have cA : ∀ n, Calls Try.prog 25 #[.pointer (some ⟨A, 0, none⟩), .string m[j].x] (wr.drewN n) fun e w' => e = .returned (.bool (isTy F m[j].x)) ∧ w' = wr.drewN n := fun n => So.isType _ (oa.drewN n) hx
          have cT : ∀ n, Calls Try.prog 25 #[.pointer (some ⟨T, 0, none⟩), .string m[j].x] (wr.drewN n) fun e w' => e = .returned (.bool (isTy F m[j].x)) ∧ w' = wr.drewN n := fun n => So.isType _ (ot.drewN n) hx
          have CA := Lib.hid cA
          have CT := Lib.hid cT
          clear hc hx oa ot HM HR' hbel cA cT g0 g2
          generalize m[j] = s at *
          go_wp2_with fail
          refine wp_region_quiet_lit (by kernel_rfl) (by kernel_rfl) ?_
          repeat (go_big_quiet_step (fail))
          go_big_quiet_step ((go_at_call 25; exact Calls.quiet_of_same (CA.out _)))
          repeat (go_big_quiet_step (fail))
          go_big_quiet_step ((go_at_call 25; exact Calls.quiet_of_same (CT.out _)))
          repeat (go_big_quiet_step (fail))
          refine wpQuiet_nil ?_
          rintro w' ⟨nq, rfl⟩
          go_wp2_with fail
          go_roundw
          case rel => exact ⟨j + 1, by omega, by go_num, OA.out.drewN nq, OT.out.drewN nq⟩
          case measure => simp [intOf]; omega
        · have HB := Lib.hid hbel
          clear HM HR' oa ot hbel
          go_wp2_with fail
          refine (So.blocks OA.out).mono ?_
          rintro e w7 ⟨rfl, rfl⟩
          go_wp2_with fail
          refine (So.blocks OT.out).mono ?_
          rintro e w8 ⟨rfl, rfl⟩
          go_wp2_with fail
          refine (So.isType nm OA.out hnm).mono ?_
          rintro e w9 ⟨rfl, rfl⟩
          go_wp2_with fail
          refine (So.isType nm OT.out hnm).mono ?_
          rintro e w10 ⟨rfl, rfl⟩
          go_wp2_with fail
          go_ret
          exact ⟨rfl, HB.out⟩
end Go.Proofs.Ytblooekephkojaa

/- The law ScopeLast, walked. -/
import Derived.Test.YtblooekephkojaaScM
import Derived.Test.YtblooekephkojaaScI
namespace Go.Proofs.Ytblooekephkojaa
open Go.RowKit Go.BigFrame Go.ChangeMaps Go.WideMaps
set_option linter.unusedVariables false

theorem str_ne {x y : ByteArray} (h : x ≠ y) : (x.toList == y.toList) = false := by
  rw [beq_eq_false_iff_ne]
  intro e
  rw [Lib.toList_data, Lib.toList_data] at e
  exact h (by cases x; cases y; simp only at e; rw [Array.toList_inj.1 e])

set_option maxRecDepth 100000 in
set_option maxHeartbeats 4000000 in
theorem Sc.law_last (a : Option Addr) (c : Nat) (l : List Stp) (nm other : ByteArray) (kd : Int) (ty : Bool) (W : World) (hr : RowAt 3 Stp.f W a l) (hl : ∀ s ∈ l, s.x.size ≤ maxLen) (hnm : nm.size ≤ maxLen) (hot : other.size ≤ maxLen) (hll : l.length ≤ maxLen) :
    Calls Try.prog 5 #[.slice a l.length c, .agg #[.int .i64 kd, .string nm, .bool ty], .string other] W fun e w' => e = .returned (.bool true) ∧ Below W.heap.size W w' := by
  by_cases hbig : 1000 < l.length
  · have h1 : (1000 : Int) < (l.length : Int) := by omega
    clear hr hl
    go_enter Try.func5, Try.ntmps5
    go_wp2_with fail
    refine (Sc.alive _).mono ?_
    rintro e w1 ⟨rfl, b1⟩
    go_wp2_with fail
    go_ret
    exact ⟨rfl, (below_alloc W _).trans (b1.mono (by simp))⟩
  have h1 : ¬ (1000 : Int) < (l.length : Int) := by omega
  by_cases h0 : nm.size = 0
  · obtain rfl := str_empty h0
    clear hr hl
    go_enter Try.func5, Try.ntmps5
    go_wp2_with fail
    refine (Sc.alive _).mono ?_
    rintro e w1 ⟨rfl, b1⟩
    have c1 : w1.cell? ⟨W.heap.size, 1, none⟩ = some (.string ⟨#[]⟩) := by
      rw [b1.cell (p := ⟨W.heap.size, 1, none⟩) (by simp)]
      unfold World.cell?
      rw [heap_alloc_new]
      rfl
    go_wp2_with fail
    go_ret
    exact ⟨rfl, (below_alloc W _).trans (b1.mono (by simp))⟩
  have hne := str_some h0
  have hsm := Sml.rung hl
  have HSM := Lib.hid hsm
  have HL := Lib.hid hl
  have HNE := Lib.hid h0
  clear hl hsm h0
  go_enter Try.func5, Try.ntmps5
  go_wp2_with fail
  obtain ⟨W1, hW1⟩ : ∃ W1, W1 = W.alloc (.cells #[.int .i64 kd, .string nm, .bool ty] 40) := ⟨_, rfl⟩
  have hB1 : W1.heap[W.heap.size]? = some (.cells #[.int .i64 kd, .string nm, .bool ty] 40 (0, 0)) := by rw [hW1]; exact heap_alloc_new _ _
  have hlt1 : W.heap.size < W1.heap.size := (Array.getElem?_eq_some_iff.1 hB1).1
  have hbW : Below W.heap.size W W1 := by rw [hW1]; exact below_alloc _ _
  have hr1 : RowAt 3 Stp.f W1 a l := hr.below hbW (Nat.le_refl _) hbW.size
  have HW1 := Lib.hid hW1
  have HBW := Lib.hid hbW
  rw [← hW1]
  clear hr hW1 hbW
  have hbox : ∀ w, Below W1.heap.size W1 w → w.cell? ⟨W.heap.size, 1, none⟩ = some (.string nm) ∧ w.cell? ⟨W.heap.size, 2, none⟩ = some (.bool ty) := fun w hw => by
    have := hw.block _ hlt1
    rw [hB1] at this
    simp [World.cell?, this]
  have HBOX := Lib.hid hbox
  clear hbox hB1
  refine (Sc.alive _).mono ?_
  rintro e w1 ⟨rfl, b1⟩
  obtain ⟨n1, n2⟩ := HBOX.out w1 b1
  go_wp2_with fail
  refine (Ow.new W1 w1 b1).mono ?_
  rintro e w2 ⟨A, rfl, o2⟩
  clear n1 n2 b1
  go_wp2_with fail
  go_loopw [9] (fun s9 wr => ∃ i : Nat, i ≤ l.length ∧ s9 = .int .i64 i ∧ Own W1 A i (rung l i) wr) (fun s9 _ => l.length - (intOf s9).toNat)
  case atStart => exact ⟨0, by omega, rfl, o2⟩
  case round =>
    obtain ⟨i, hi, rfl, ow⟩ := hrel
    have HS := HSM.out i hi
    have HO := Lib.hid ow
    by_cases hlt : i < l.length
    · obtain ⟨b, off, rfl, hbw, hc⟩ := hr1.at (by intro e; simp [e] at hlt)
      obtain ⟨g0, g1, g2⟩ := Stp.at (w := wr) (b := b) (o := off + i * 3) (s := l[i]) ((hc i hlt).below ow.below hbw)
      have hsucc := rung_succ l i hlt
      have hx := HL.out l[i] (List.getElem_mem hlt)
      have HX := Lib.hid hx
      have HU := Lib.hid hsucc
      have HSS := Lib.hid HS
      clear hc hr1 hx hsucc HS ow HL HSM
      generalize l[i] = s at *
      generalize rung l i = F at *
      by_cases k0 : s.k = 0
      · rw [k0] at g0
        have HK := Lib.hid k0
        clear k0
        go_wp2_with fail
        refine (Ow.opens W1 A i F wr HO.out).mono ?_
        rintro e w3 ⟨rfl, o3⟩
        have O3 := Lib.hid o3
        clear o3
        go_wp2_with fail
        go_roundw
        case rel =>
          refine ⟨i + 1, by omega, by go_num, ?_⟩
          rw [HU.out]
          unfold pst
          rw [if_pos HK.out]
          obtain ⟨S, q1, q2, q3⟩ := O3.out
          exact ⟨S, q1.mono (by omega), q2, q3⟩
        case measure => simp [intOf]; omega
      · by_cases k1 : 1 < s.k
        · have HK := Lib.hid k0
          go_wp2_with fail
          refine wp_region_tail (C := fun w' => ∃ n, w' = wr.drewN n) 11 (by kernel_rfl) (by kernel_rfl) ⟨1, rfl⟩ ?_
          simp only [List.take_succ_cons, List.take_zero, List.drop_succ_cons, List.drop_zero]
          repeat (go_big_quiet_step (fail))
          refine wpQuiet_nil ?_
          rintro w' ⟨nq, rfl⟩
          go_wp2_with fail
          refine (Ow.declare W1 A i F s.x s.t _ (HO.out.drewN nq) HX.out (by have := HSS.out.len; omega) (fun f hf => by have := HSS.out.fr f hf; omega) (by omega)).mono ?_
          rintro e w3 ⟨rfl, o3⟩
          have O3 := Lib.hid o3
          clear o3
          go_wp2_with fail
          go_roundw
          case rel =>
            refine ⟨i + 1, by omega, by go_num, ?_⟩
            rw [HU.out]
            unfold pst
            rw [if_neg HK.out, if_pos k1]
            exact O3.out
          case measure => simp [intOf]; omega
        · have HK := Lib.hid k0
          go_wp2_with fail
          go_roundw
          case rel =>
            refine ⟨i + 1, by omega, by go_num, ?_⟩
            rw [HU.out]
            unfold pst
            rw [if_neg HK.out, if_neg k1]
            obtain ⟨S, q1, q2, q3⟩ := HO.out
            exact ⟨S, q1.mono (by omega), q2, q3⟩
          case measure => simp [intOf]; omega
    · obtain rfl : i = l.length := by omega
      clear hr1 HL HSM
      have HSS := Lib.hid HS
      clear HS ow
      generalize rung l l.length = F at *
      obtain ⟨S, s1, s2, s3⟩ := HO.out
      have S1 := Lib.hid s1
      have S2 := Lib.hid s2
      have S3 := Lib.hid s3
      clear s1 s2 s3
      go_wp2_with fail
      refine (Sc.copy A l.length S F wr S1.out (by have := HSS.out.len; omega) (fun f hf => by have := HSS.out.fr f hf; omega) (by omega) HSS.out.big).mono ?_
      rintro e w3 ⟨T, rfl, t1, t2⟩
      have hlt2 := S3.out.size
      have b3 : Below W1.heap.size W1 w3 := S3.out.trans (t2.mono hlt2)
      obtain ⟨n1, n2⟩ := HBOX.out w3 b3
      have B3 := Lib.hid b3
      have hs3 : Sco w3 A l.length S F := S1.out.keep (T := fun _ => False) (Mod.of_below t2) (fun _ _ h => h)
      have HS3 := Lib.hid hs3
      have T1 := Lib.hid t1
      have hS : ∀ k, S k → k < wr.heap.size := by obtain ⟨M, vB, vs, mv, D, _, _, h3⟩ := S1.out; exact h3
      have HSL := Lib.hid hS
      clear b3 hs3 t1 hS
      go_wp2_with fail
      refine (Sc.isType A _ S F nm w3 HS3.out hnm (by have := HSS.out.len; omega)).mono ?_
      rintro e w4 ⟨rfl, rfl⟩
      go_wp2_with fail
      refine (Sc.isType A _ S F other w4 HS3.out hot (by have := HSS.out.len; omega)).mono ?_
      rintro e w5 ⟨rfl, rfl⟩
      go_wp2_with fail
      refine (Sc.declare A l.length S F nm ty w5 HS3.out hnm (by have := HSS.out.len; omega) (fun f hf => by have := HSS.out.fr f hf; omega) (by omega)).mono ?_
      rw [if_neg HNE.out, if_neg HNE.out]
      rintro e w6 ⟨rfl, S6, l1, l2, l3⟩
      have ht6 : Sco w6 T l.length (fun k => wr.heap.size ≤ k ∧ k < w5.heap.size) F := T1.out.keep l3 (fun k hk hk2 => by have := HSL.out k hk2; omega)
      have b6 : Below W1.heap.size W1 w6 := B3.out.trans (l3.below B3.out.size S2.out)
      obtain ⟨m1, m2⟩ := HBOX.out w6 b6
      have B6 := Lib.hid b6
      have L1 := Lib.hid l1
      have HT6 := Lib.hid ht6
      have hsame := isTy_same (F := F) HSS.out.pos nm ty
      have HSA := Lib.hid hsame
      clear l1 l2 l3 ht6 b6 hsame n1 n2 t2
      have hF0 : F.length ≤ 9223372036854775807 := by have := HSS.out.len; omega
      have hF1 : (Ytblooekephkojaa.declare F nm ty).length ≤ 9223372036854775807 := by
        obtain ⟨G, f, hG⟩ := snoc_of_pos F HSS.out.pos
        rw [hG, declare_snoc]
        rw [hG] at hF0
        simp at hF0 ⊢; omega
      have cN : ∀ n, Calls Try.prog 25 #[.pointer (some ⟨A, 0, none⟩), .string nm] (w6.drewN n) fun e w' => e = .returned (.bool ty) ∧ w' = w6.drewN n := fun n => by
        have := Sc.isType A _ S6 _ nm _ (L1.out.keep (T := fun _ => False) (Mod.drewN _ _ n) (fun _ _ h => h)) hnm hF1
        rw [HSA.out] at this
        exact this
      have cT : ∀ n, Calls Try.prog 25 #[.pointer (some ⟨T, 0, none⟩), .string nm] (w6.drewN n) fun e w' => e = .returned (.bool (isTy F nm)) ∧ w' = w6.drewN n := fun n =>
        Sc.isType T _ _ F nm _ (HT6.out.keep (T := fun _ => False) (Mod.drewN _ _ n) (fun _ _ h => h)) hnm hF0
      by_cases hon : other = nm
      · subst hon
        have CN := Lib.hid cN
        have CT := Lib.hid cT
        clear cN cT
        go_wp2_with fail
        refine wp_region_quiet_lit (by kernel_rfl) (by kernel_rfl) ?_
        repeat (go_big_quiet_step (fail))
        go_big_quiet_step ((go_at_call 25; exact Calls.quiet_of_same (CN.out _)))
        repeat (go_big_quiet_step (fail))
        go_big_quiet_step ((go_at_call 25; exact Calls.quiet_of_same (CT.out _)))
        repeat (go_big_quiet_step (fail))
        refine wpQuiet_nil ?_
        rintro w' ⟨nq, rfl⟩
        go_wp2
        go_ret
        exact ⟨rfl, HBW.out.trans ((B6.out.mono HBW.out.size).trans (below_drewN _ _ _))⟩
      · have cO : ∀ n, Calls Try.prog 25 #[.pointer (some ⟨A, 0, none⟩), .string other] (w6.drewN n) fun e w' => e = .returned (.bool (isTy F other)) ∧ w' = w6.drewN n := fun n => by
          have := Sc.isType A _ S6 _ other _ (L1.out.keep (T := fun _ => False) (Mod.drewN _ _ n) (fun _ _ h => h)) hot hF1
          rw [isTy_other HSS.out.pos nm other ty hon] at this
          exact this
        have hns := str_ne hon
        have CN := Lib.hid cN
        have CT := Lib.hid cT
        have CO := Lib.hid cO
        clear cN cT cO
        go_wp2_with fail
        refine wp_region_quiet_lit (by kernel_rfl) (by kernel_rfl) ?_
        repeat (go_big_quiet_step (fail))
        go_big_quiet_step ((go_at_call 25; exact Calls.quiet_of_same (CN.out _)))
        repeat (go_big_quiet_step (fail))
        go_big_quiet_step ((go_at_call 25; exact Calls.quiet_of_same (CT.out _)))
        repeat (go_big_quiet_step (fail))
        go_big_quiet_step ((go_at_call 25; exact Calls.quiet_of_same (CO.out _)))
        repeat (go_big_quiet_step (fail))
        refine wpQuiet_nil ?_
        rintro w' ⟨nq, rfl⟩
        go_wp2
        go_ret
        exact ⟨rfl, HBW.out.trans ((B6.out.mono HBW.out.size).trans (below_drewN _ _ _))⟩
end Go.Proofs.Ytblooekephkojaa

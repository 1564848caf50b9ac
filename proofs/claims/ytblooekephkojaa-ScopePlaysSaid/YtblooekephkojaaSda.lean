/- The law ScopePlays, walked (printed by wip/plays_gen.py). -/
import Derived.Test.YtblooekephkojaaScZ
import Derived.Laws.Concat
namespace Go.Proofs.Ytblooekephkojaa
open Go.RowKit Go.BigFrame Go.ChangeMaps Go.WideMaps
set_option linter.unusedVariables false

theorem Rf.drewN {base B many : Nat} {L : List Sd} {w : World} (h : Rf base B many L w) (n : Nat) : Rf base B many L (w.drewN n) := h.keepNs (T := fun _ => False) (Mod.drewN _ _ n) (fun _ h => h.elim)
theorem pl_quiet {N : Nat → Prop} {W w : World} {A B m base : Nat} {F : List Frm} {L : List Sd} {x y : ByteArray} (h : SO N W A m F w) (hr : Rf base B F.length L w) (he : Rel F L) (hx : x.size ≤ maxLen) (hy : y.size ≤ maxLen) (hL : L.length ≤ 1000000) :
    Hid (∀ n, Calls Try.prog 31 #[.pointer (some ⟨A, 0, none⟩)] (w.drewN n) fun e w' => e = .returned (.int .i64 F.length) ∧ w' = w.drewN n) ∧
    Hid (∀ n, Calls Try.prog 25 #[.pointer (some ⟨A, 0, none⟩), .string x] (w.drewN n) fun e w' => e = .returned (.bool (isTy F x)) ∧ w' = w.drewN n) ∧
    Hid (∀ n, Calls Try.prog 32 #[.pointer (some ⟨B, 0, none⟩), .string x] (w.drewN n) fun e w' => e = .returned (.bool (isTy F x)) ∧ w' = w.drewN n) ∧
    Hid (∀ n, Calls Try.prog 25 #[.pointer (some ⟨A, 0, none⟩), .string y] (w.drewN n) fun e w' => e = .returned (.bool (isTy F y)) ∧ w' = w.drewN n) ∧
    Hid (∀ n, Calls Try.prog 32 #[.pointer (some ⟨B, 0, none⟩), .string y] (w.drewN n) fun e w' => e = .returned (.bool (isTy F y)) ∧ w' = w.drewN n) := by
  have hb : ∀ e ∈ L, e.b ≤ 1000000 := fun e h' => by have := he.lt e h'; have := h.wf.len; omega
  refine ⟨Lib.hid (fun n => So.blocks (h.drewN n)), Lib.hid (fun n => So.isType x (h.drewN n) hx), Lib.hid (fun n => ?_), Lib.hid (fun n => So.isType y (h.drewN n) hy), Lib.hid (fun n => ?_)⟩
  · rw [he.isTy x]; exact Rf.isType base B F.length L x _ (hr.drewN n) hL hx hb
  · rw [he.isTy y]; exact Rf.isType base B F.length L y _ (hr.drewN n) hL hy hb
theorem opens_len (F : List Frm) : (opens F).length = if 65536 ≤ F.length then F.length else F.length + 1 := by
  unfold opens; split <;> simp
theorem decl_len (F : List Frm) (h : 0 < F.length) (x : ByteArray) (t : Bool) : (decl F x t).length = F.length := by
  unfold decl
  split
  · rfl
  · obtain ⟨G, f, rfl⟩ := snoc_of_pos F h
    rw [declare_snoc]; simp
theorem closed_len (F : List Frm) : (closed F).length = if F.length = 1 then F.length else F.length - 1 := by
  unfold closed; split <;> simp_all
theorem rel_closed {F : List Frm} {L : List Sd} (h : Rel F L) (h0 : 0 < F.length) : Rel (closed F) (if F.length = 1 then L else L.filter (ltB (F.length - 1))) := by
  by_cases h1 : F.length = 1
  · unfold closed; rw [if_pos h1, if_pos h1]; exact h
  · obtain ⟨G, f, rfl⟩ := snoc_of_pos F h0
    rw [closed_snoc G f (by simp at h1; exact List.length_pos_iff.2 h1), if_neg h1, List.length_append, List.length_singleton, Nat.add_sub_cancel]
    exact h.closed
theorem rel_decl {F : List Frm} {L : List Sd} (h : Rel F L) (h0 : 0 < F.length) (x : ByteArray) (t : Bool) : Rel (decl F x t) (if x.size = 0 then L else L ++ [⟨F.length - 1, x, t⟩]) := by
  by_cases h1 : x.size = 0
  · unfold decl; rw [if_pos h1, if_pos h1]; exact h
  · unfold decl; rw [if_neg h1, if_neg h1]; exact h.declare h0 x t

set_option maxRecDepth 100000 in
set_option maxHeartbeats 16000000 in
theorem Sc.law_plays (a : Option Addr) (c : Nat) (l : List Stp) (ask : ByteArray) (W : World) (hr : RowAt 3 Stp.f W a l) (hl : ∀ s ∈ l, s.x.size ≤ reachBytes) (hask : ask.size ≤ maxLen) (hll : l.length ≤ maxLen) :
    Calls Try.prog 6 #[.slice a l.length c, .string ask] W fun e w' => e = .returned (.bool true) ∧ Below W.heap.size W w' := by
  by_cases hbig : 1000 < l.length
  · have h1 : (1000 : Int) < (l.length : Int) := by omega
    clear hr hl
    go_enter Try.func6, Try.ntmps6
    go_wp2_with fail
    go_ret
    exact ⟨rfl, Below.refl _ _⟩
  have h1 : ¬ (1000 : Int) < (l.length : Int) := by omega
  have HL := Lib.hid hl
  have HR := Lib.hid hr
  clear hr hl
  go_enter Try.func6, Try.ntmps6
  go_wp2_with fail
  refine (So.new W).mono ?_
  rintro e w2 ⟨A0, rfl, o2⟩
  have O2 := Lib.hid o2
  clear o2
  go_wp2_with fail
  refine (Rf.new w2).mono ?_
  rintro e w3 ⟨rfl, b3⟩
  have B3 := Lib.hid b3
  clear b3
  go_wp2_with fail
  obtain ⟨W4, hW4⟩ : ∃ W4, W4 = w3.alloc (.cells #[.int .i64 1, .slice none 0 0] 49) := ⟨_, rfl⟩
  obtain ⟨B, hB⟩ : ∃ B, B = w3.heap.size := ⟨_, rfl⟩
  have o4 : SO (fun k => W.heap.size ≤ k) W A0 0 [[]] W4 := by rw [hW4]; exact (O2.out.on B3.out).on (below_alloc _ _)
  have r4 : Rf W.heap.size B ([[]] : List Frm).length [] W4 := by
    have q1 := O2.out.mod.size
    have q2 := B3.out.size
    refine ⟨.slice none 0 0, ?_, World.ownsRow_nil _ _ _ _, by omega⟩
    rw [hW4, hB]
    exact heap_alloc_new _ _
  rw [← hW4, ← hB]
  have O4 := Lib.hid o4
  have R4 := Lib.hid r4
  clear hW4 hB o4 r4 O2 B3
  go_loopw [5, 7] (fun s5 s7 wr => ∃ (i A : Nat) (F : List Frm) (L : List Sd), i ≤ l.length ∧ s5 = .pointer (some ⟨A, 0, none⟩) ∧ s7 = .int .i64 i ∧ SO (fun k => W.heap.size ≤ k) W A (2 * i) F wr ∧ Rf W.heap.size B F.length L wr ∧ Rel F L ∧ L.length ≤ i) (fun _ s7 _ => l.length - (intOf s7).toNat)
  case atStart => exact ⟨0, A0, _, [], by omega, rfl, rfl, O4.out, R4.out, Rel.one, by simp⟩
  case round =>
    clear O4 R4
    obtain ⟨i, A, F, L, hi, rfl, rfl, ow, rf, rel, hLl⟩ := hrel
    have hbel : Below W.heap.size W wr := ow.mod.below (Nat.le_refl _) (fun k hk => hk)
    by_cases hlt : i < l.length
    · obtain ⟨b, off, rfl, hbw, hc⟩ := HR.out.at (by intro e; simp [e] at hlt)
      obtain ⟨g0, g1, g2⟩ := Stp.at (w := wr) (b := b) (o := off + i * 3) (s := l[i]) ((hc i hlt).below hbel hbw)
      have hx := HL.out l[i] (List.getElem_mem hlt)
      have hxm : l[i].x.size ≤ maxLen := by unfold reachBytes at hx; unfold maxLen; omega
      have HX := Lib.hid hxm
      have HXR := Lib.hid hx
      obtain ⟨W5, hW5⟩ : ∃ W5, W5 = wr.alloc (.cells #[.int .i64 l[i].k, .string l[i].x, .bool l[i].t] 40) := ⟨_, rfl⟩
      have hbx : W5.heap[wr.heap.size]? = some (.cells #[.int .i64 l[i].k, .string l[i].x, .bool l[i].t] 40 (0, 0)) := by rw [hW5]; exact heap_alloc_new _ _
      have o5 : SO (fun k => W.heap.size ≤ k) W A (2 * i) F W5 := by rw [hW5]; exact ow.on (below_alloc _ _)
      have r5 : Rf W.heap.size B F.length L W5 := by rw [hW5]; exact rf.keepNs (T := fun _ => False) (Mod.of_below (below_alloc _ _)) (fun _ h => h.elim)
      have hs5 : W.heap.size ≤ W5.heap.size := o5.mod.size
      have hpos := ow.wf.pos
      have hlen := ow.wf.len
      have hwr5 : wr.heap.size < W5.heap.size := by rw [hW5]; simp
      have HW5 := Lib.hid hW5
      have HBX := Lib.hid hbx
      have O5 := Lib.hid o5
      have R5 := Lib.hid r5
      have REL := Lib.hid rel
      have hLb : ∀ e ∈ L, e.b ≤ 1000000 := fun e h' => by have := rel.lt e h'; omega
      have HLB := Lib.hid hLb
      have b0 : W5.cell? ⟨wr.heap.size, 0, none⟩ = some (.int .i64 l[i].k) := by simp [World.cell?, hbx]
      have b1 : W5.cell? ⟨wr.heap.size, 1, none⟩ = some (.string l[i].x) := by simp [World.cell?, hbx]
      have b2 : W5.cell? ⟨wr.heap.size, 2, none⟩ = some (.bool l[i].t) := by simp [World.cell?, hbx]
      clear hc hx hxm ow rf rel hbel hW5 hbx o5 r5 hLb HR HL
      generalize l[i] = s at *
      by_cases k0 : s.k = 0
      · obtain ⟨ev, hev⟩ : ∃ ev : Int, ev = if 65536 ≤ F.length then 4 else 0 := ⟨_, rfl⟩
        have hC := SO.call O5.out (fun N' W' h' => So.opens (N := N') (W := W') h')
        rw [← hev] at hC
        have HC := Lib.hid hC
        have HEV := Lib.hid hev
        have HKK := Lib.hid k0
        rw [k0] at g0 b0
        clear k0 hC hev
        go_wp2_with fail
        rw [show wr.alloc (.cells #[.int .i64 0, .string s.x, .bool s.t] 40) = W5 from by rw [HW5.out, HKK.out]]
        clear b1 b2
        refine HC.out.mono ?_
        rintro e w6 ⟨rfl, o6, T6, m6, n6⟩
        have r6 := R5.out.keepNs m6 n6
        have x6 := box_keep m6 n6 HBX.out (by decide)
        have hR := Rf.opens W.heap.size B F.length L w6 r6 hlen
        rw [← HEV.out, ← opens_len] at hR
        have HRC := Lib.hid hR
        have O6 := Lib.hid o6
        have X6 := Lib.hid x6
        clear o6 m6 n6 r6 x6 hR b0
        go_wp2_with fail
        refine HRC.out.mono ?_
        rintro e w7 ⟨rfl, r7, m7⟩
        have HO2 := Lib.hid (O6.out.keepRf m7)
        have HR2 := Lib.hid r7
        have HE2 := Lib.hid REL.out.opens
        have HBX2 := Lib.hid (box_keepRf m7 X6.out (by decide))
        have hL2 : L.length ≤ 1000000 := by omega
        clear r7 m7 O6 X6 HC HRC O5 R5 HBX
        obtain ⟨CB, CA, RA, CX, RX⟩ := pl_quiet HO2.out HR2.out HE2.out hask HX.out hL2
        have hcl := HBX2.out
        have b1 : w7.cell? ⟨wr.heap.size, 1, none⟩ = some (.string s.x) := by simp [World.cell?, hcl]
        have r0 : w7.cell? ⟨B, 0, none⟩ = some (.int .i64 (Ytblooekephkojaa.opens F).length) := by obtain ⟨v, hv⟩ := HR2.out; exact hv.cells.1
        clear hcl
        generalize hFF : Ytblooekephkojaa.opens F = F2 at *
        have HFF := Lib.hid hFF
        clear hFF
        go_wp2_with fail
        refine wp_region_quiet_lit (by kernel_rfl) (by kernel_rfl) ?_
        repeat (go_big_quiet_step (fail))
        go_big_quiet_step ((go_at_call 31; exact Calls.quiet_of_same (CB.out _)))
        repeat (go_big_quiet_step (fail))
        go_big_quiet_step ((go_at_call 25; exact Calls.quiet_of_same (CA.out _)))
        repeat (go_big_quiet_step (fail))
        go_big_quiet_step ((go_at_call 32; exact Calls.quiet_of_same (RA.out _)))
        repeat (go_big_quiet_step (fail))
        go_big_quiet_step ((go_at_call 25; exact Calls.quiet_of_same (CX.out _)))
        repeat (go_big_quiet_step (fail))
        go_big_quiet_step ((go_at_call 32; exact Calls.quiet_of_same (RX.out _)))
        repeat (go_big_quiet_step (fail))
        refine wpQuiet_nil ?_
        rintro w' ⟨nq, rfl⟩
        go_wp2_with fail
        go_roundw
        case rel => exact ⟨i + 1, A, F2, L, by omega, rfl, by go_num, (HO2.out.drewN nq).mono (by omega), HR2.out.drewN nq, HE2.out, by have := hL2; omega⟩
        case measure => simp [intOf]; omega
      by_cases k1 : s.k = 1
      · obtain ⟨ev, hev⟩ : ∃ ev : Int, ev = if F.length = 1 then 100 else 0 := ⟨_, rfl⟩
        have hC := SO.call O5.out (fun N' W' h' => So.close (N := N') (W := W') h' (by omega))
        rw [← hev] at hC
        have HC := Lib.hid hC
        have HEV := Lib.hid hev
        have HKK := Lib.hid k1
        rw [k1] at g0 b0
        clear k0 k1 hC hev
        go_wp2_with fail
        rw [show wr.alloc (.cells #[.int .i64 1, .string s.x, .bool s.t] 40) = W5 from by rw [HW5.out, HKK.out]]
        clear b1 b2
        refine HC.out.mono ?_
        rintro e w6 ⟨rfl, o6, T6, m6, n6⟩
        have r6 := R5.out.keepNs m6 n6
        have x6 := box_keep m6 n6 HBX.out (by decide)
        have hR := Rf.closes W.heap.size B F.length L w6 r6 (by omega) HLB.out (by omega) hlen o6.mod.size
        rw [← HEV.out, ← closed_len] at hR
        have HRC := Lib.hid hR
        have O6 := Lib.hid o6
        have X6 := Lib.hid x6
        clear o6 m6 n6 r6 x6 hR b0
        go_wp2_with fail
        refine HRC.out.mono ?_
        rintro e w7 ⟨rfl, r7, m7⟩
        have HO2 := Lib.hid (O6.out.keepRf m7)
        have hE2 := rel_closed REL.out hpos
        have hL2' : (if F.length = 1 then L else L.filter (ltB (F.length - 1))).length ≤ L.length := by
          split
          · omega
          · exact List.length_filter_le _ _
        generalize (if F.length = 1 then L else L.filter (ltB (F.length - 1))) = L2 at *
        have HR2 := Lib.hid r7
        have HE2 := Lib.hid hE2
        have HBX2 := Lib.hid (box_keepRf m7 X6.out (by decide))
        have hL2 : L2.length ≤ 1000000 := by omega
        clear r7 m7 O6 X6 HC HRC O5 R5 HBX hE2
        obtain ⟨CB, CA, RA, CX, RX⟩ := pl_quiet HO2.out HR2.out HE2.out hask HX.out hL2
        have hcl := HBX2.out
        have b1 : w7.cell? ⟨wr.heap.size, 1, none⟩ = some (.string s.x) := by simp [World.cell?, hcl]
        have r0 : w7.cell? ⟨B, 0, none⟩ = some (.int .i64 (closed F).length) := by obtain ⟨v, hv⟩ := HR2.out; exact hv.cells.1
        clear hcl
        generalize hFF : closed F = F2 at *
        have HFF := Lib.hid hFF
        clear hFF
        go_wp2_with fail
        refine wp_region_quiet_lit (by kernel_rfl) (by kernel_rfl) ?_
        repeat (go_big_quiet_step (fail))
        go_big_quiet_step ((go_at_call 31; exact Calls.quiet_of_same (CB.out _)))
        repeat (go_big_quiet_step (fail))
        go_big_quiet_step ((go_at_call 25; exact Calls.quiet_of_same (CA.out _)))
        repeat (go_big_quiet_step (fail))
        go_big_quiet_step ((go_at_call 32; exact Calls.quiet_of_same (RA.out _)))
        repeat (go_big_quiet_step (fail))
        go_big_quiet_step ((go_at_call 25; exact Calls.quiet_of_same (CX.out _)))
        repeat (go_big_quiet_step (fail))
        go_big_quiet_step ((go_at_call 32; exact Calls.quiet_of_same (RX.out _)))
        repeat (go_big_quiet_step (fail))
        refine wpQuiet_nil ?_
        rintro w' ⟨nq, rfl⟩
        go_wp2_with fail
        go_roundw
        case rel => exact ⟨i + 1, A, F2, L2, by omega, rfl, by go_num, (HO2.out.drewN nq).mono (by omega), HR2.out.drewN nq, HE2.out, by have := hL2; omega⟩
        case measure => simp [intOf]; omega
      by_cases k2 : s.k = 2
      · obtain ⟨N', o5', ns5, back⟩ := O5.out.tight
        have hC := So.copy o5' (by omega)
        have HC := Lib.hid hC
        have HNS := Lib.hid ns5
        have hBK : ∀ {A' m' : Nat} {G : List Frm} {w' : World}, SO N' W5 A' m' G w' → SO (fun k => W.heap.size ≤ k) W A' m' G w' := back
        have BK : Hid (∀ (A' m' : Nat) (G : List Frm) (w' : World), SO N' W5 A' m' G w' → SO (fun k => W.heap.size ≤ k) W A' m' G w') := Lib.hid (fun A' m' G w' h => hBK h)
        have HKK := Lib.hid k2
        rw [k2] at g0 b0
        clear k0 k1 k2 hC back ns5 o5' hBK
        go_wp2_with fail
        rw [show wr.alloc (.cells #[.int .i64 2, .string s.x, .bool s.t] 40) = W5 from by rw [HW5.out, HKK.out]]
        clear b1 b2
        refine HC.out.mono ?_
        rintro e w6 ⟨T, rfl, N1, hN1, o6, m6, ht6⟩
        have O6 := Lib.hid o6
        have HT6 := Lib.hid ht6
        have M6 := Lib.hid m6
        have HN1 := Lib.hid hN1
        clear o6 ht6 m6 hN1 b0
        have hk1 : ∀ w'', Mod N1 w6 w'' → w''.cell? ⟨wr.heap.size, 1, none⟩ = some (.string s.x) ∧ w''.cell? ⟨wr.heap.size, 2, none⟩ = some (.bool s.t) := fun w'' hm => by
          have := box_keep (M6.out.trans (hm.mono (fun k _ hk => HN1.out k hk))) HNS.out HBX.out (by decide)
          simp [World.cell?, this]
        have HK1 := Lib.hid hk1
        clear hk1
        go_wp2_with fail
        refine (So.opens O6.out).mono ?_
        rintro e w7 ⟨rfl, o7⟩
        obtain ⟨y1, -⟩ := HK1.out w7 o7.mod
        have O7 := Lib.hid o7
        have hadd := run_string_add_sum (P := Try.prog) w7 s.x ⟨#[120]⟩ (by have := HXR.out; unfold reachBytes at this; show _ + 1 ≤ _; omega)
        have hxx : (s.x ++ (⟨#[120]⟩ : ByteArray)).size ≤ maxLen := by
          have := HXR.out
          rw [ByteArray.size_append]
          unfold reachBytes at this
          unfold maxLen
          show _ + 1 ≤ _
          omega
        generalize s.x ++ (⟨#[120]⟩ : ByteArray) = y at hadd hxx
        have HXX := Lib.hid hxx
        obtain ⟨ev, hev⟩ : ∃ ev : Int, ev = if 65536 ≤ F.length then 4 else 0 := ⟨_, rfl⟩
        rw [← hev]
        clear o7 hxx O6 hev
        go_wp2_with fail
        clear hadd
        refine (So.declare y true O7.out HXX.out (by omega)).mono ?_
        rintro e w8 ⟨rfl, o8⟩
        obtain ⟨-, y2⟩ := HK1.out w8 o8.mod
        have O8 := Lib.hid o8
        obtain ⟨ev2, hev2⟩ : ∃ ev2 : Int, ev2 = if y.size = 0 then 100 else 0 := ⟨_, rfl⟩
        rw [← hev2]
        clear o8 O7 y1 hev2
        go_wp2_with fail
        refine (So.declare ask (!s.t) O8.out hask (by omega)).mono ?_
        rintro e w9 ⟨rfl, o9⟩
        have t9 := HT6.out w9 o9.mod
        have HO2 := Lib.hid (BK.out _ _ _ _ t9)
        have HR2 := Lib.hid (R5.out.keepNs t9.mod HNS.out)
        have HE2 := REL
        have HBX2 := Lib.hid (box_keep t9.mod HNS.out HBX.out (by decide))
        have hL2 : L.length ≤ 1000000 := by omega
        obtain ⟨ev3, hev3⟩ : ∃ ev3 : Int, ev3 = if ask.size = 0 then 100 else 0 := ⟨_, rfl⟩
        rw [← hev3]
        clear o9 t9 O8 y2 hev3 HT6 HK1 HC O5 R5 HBX BK
        obtain ⟨CB, CA, RA, CX, RX⟩ := pl_quiet HO2.out HR2.out HE2.out hask HX.out hL2
        have hcl := HBX2.out
        have b1 : w9.cell? ⟨wr.heap.size, 1, none⟩ = some (.string s.x) := by simp [World.cell?, hcl]
        have r0 : w9.cell? ⟨B, 0, none⟩ = some (.int .i64 (F).length) := by obtain ⟨v, hv⟩ := HR2.out; exact hv.cells.1
        clear hcl
        generalize hFF : F = F2 at *
        have HFF := Lib.hid hFF
        clear hFF
        go_wp2_with fail
        refine wp_region_quiet_lit (by kernel_rfl) (by kernel_rfl) ?_
        repeat (go_big_quiet_step (fail))
        go_big_quiet_step ((go_at_call 31; exact Calls.quiet_of_same (CB.out _)))
        repeat (go_big_quiet_step (fail))
        go_big_quiet_step ((go_at_call 25; exact Calls.quiet_of_same (CA.out _)))
        repeat (go_big_quiet_step (fail))
        go_big_quiet_step ((go_at_call 32; exact Calls.quiet_of_same (RA.out _)))
        repeat (go_big_quiet_step (fail))
        go_big_quiet_step ((go_at_call 25; exact Calls.quiet_of_same (CX.out _)))
        repeat (go_big_quiet_step (fail))
        go_big_quiet_step ((go_at_call 32; exact Calls.quiet_of_same (RX.out _)))
        repeat (go_big_quiet_step (fail))
        refine wpQuiet_nil ?_
        rintro w' ⟨nq, rfl⟩
        go_wp2_with fail
        go_roundw
        case rel => exact ⟨i + 1, T, F2, L, by omega, rfl, by go_num, (HO2.out.drewN nq).mono (by omega), HR2.out.drewN nq, HE2.out, by have := hL2; omega⟩
        case measure => simp [intOf]; omega
      · obtain ⟨ev, hev⟩ : ∃ ev : Int, ev = if s.x.size = 0 then 100 else 0 := ⟨_, rfl⟩
        have hC := SO.call O5.out (fun N' W' h' => So.declare s.x s.t (N := N') (W := W') h' HX.out (by omega))
        rw [← hev] at hC
        have HC := Lib.hid hC
        have HEV := Lib.hid hev
        have j0 : (s.k == 0) = false := by rw [beq_eq_false_iff_ne]; exact k0
        have j1 : (s.k == 1) = false := by rw [beq_eq_false_iff_ne]; exact k1
        have j2 : (s.k == 2) = false := by rw [beq_eq_false_iff_ne]; exact k2
        clear k0 k1 k2 hC hev
        go_wp2_with fail
        rw [← HW5.out]
        refine HC.out.mono ?_
        rintro e w6 ⟨rfl, o6, T6, m6, n6⟩
        have r6 := R5.out.keepNs m6 n6
        have x6 := box_keep m6 n6 HBX.out (by decide)
        have hR := Rf.declare W.heap.size B F.length L s.x s.t w6 r6 (by omega) (by omega) hlen o6.mod.size
        rw [← HEV.out] at hR
        have HRC := Lib.hid hR
        have O6 := Lib.hid o6
        have X6 := Lib.hid x6
        have y1 : w6.cell? ⟨wr.heap.size, 1, none⟩ = some (.string s.x) := by simp [World.cell?, x6]
        have y2 : w6.cell? ⟨wr.heap.size, 2, none⟩ = some (.bool s.t) := by simp [World.cell?, x6]
        clear o6 m6 n6 r6 x6 hR b0 b1 b2
        go_wp2_with fail
        refine HRC.out.mono ?_
        rintro e w7 ⟨rfl, r7, m7⟩
        have HO2 := Lib.hid (O6.out.keepRf m7)
        have hE2 := rel_decl REL.out hpos s.x s.t
        have hL2' : (if s.x.size = 0 then L else L ++ [⟨F.length - 1, s.x, s.t⟩]).length ≤ L.length + 1 := by
          split
          · omega
          · simp
        generalize (if s.x.size = 0 then L else L ++ [⟨F.length - 1, s.x, s.t⟩]) = L2 at *
        rw [← decl_len F hpos s.x s.t] at r7
        have HR2 := Lib.hid r7
        have HE2 := Lib.hid hE2
        have HBX2 := Lib.hid (box_keepRf m7 X6.out (by decide))
        have hL2 : L2.length ≤ 1000000 := by omega
        clear r7 m7 O6 X6 HC HRC O5 R5 HBX hE2 y1 y2
        obtain ⟨CB, CA, RA, CX, RX⟩ := pl_quiet HO2.out HR2.out HE2.out hask HX.out hL2
        have hcl := HBX2.out
        have b1 : w7.cell? ⟨wr.heap.size, 1, none⟩ = some (.string s.x) := by simp [World.cell?, hcl]
        have r0 : w7.cell? ⟨B, 0, none⟩ = some (.int .i64 (decl F s.x s.t).length) := by obtain ⟨v, hv⟩ := HR2.out; exact hv.cells.1
        clear hcl
        generalize hFF : decl F s.x s.t = F2 at *
        have HFF := Lib.hid hFF
        clear hFF
        go_wp2_with fail
        refine wp_region_quiet_lit (by kernel_rfl) (by kernel_rfl) ?_
        repeat (go_big_quiet_step (fail))
        go_big_quiet_step ((go_at_call 31; exact Calls.quiet_of_same (CB.out _)))
        repeat (go_big_quiet_step (fail))
        go_big_quiet_step ((go_at_call 25; exact Calls.quiet_of_same (CA.out _)))
        repeat (go_big_quiet_step (fail))
        go_big_quiet_step ((go_at_call 32; exact Calls.quiet_of_same (RA.out _)))
        repeat (go_big_quiet_step (fail))
        go_big_quiet_step ((go_at_call 25; exact Calls.quiet_of_same (CX.out _)))
        repeat (go_big_quiet_step (fail))
        go_big_quiet_step ((go_at_call 32; exact Calls.quiet_of_same (RX.out _)))
        repeat (go_big_quiet_step (fail))
        refine wpQuiet_nil ?_
        rintro w' ⟨nq, rfl⟩
        go_wp2_with fail
        go_roundw
        case rel => exact ⟨i + 1, A, F2, L2, by omega, rfl, by go_num, (HO2.out.drewN nq).mono (by omega), HR2.out.drewN nq, HE2.out, by have := hL2; omega⟩
        case measure => simp [intOf]; omega
    · obtain rfl : i = l.length := by omega
      have O6 := Lib.hid ow
      have R6 := Lib.hid rf
      have E6 := Lib.hid rel
      clear ow rf rel hbel
      go_wp2_with fail
      go_loopw [12] (fun s12 wq => ∃ j : Nat, j ≤ l.length ∧ s12 = .int .i64 j ∧ SO (fun k => W.heap.size ≤ k) W A (2 * l.length) F wq ∧ Rf W.heap.size B F.length L wq) (fun s12 _ => l.length - (intOf s12).toNat)
      case atStart => exact ⟨0, by omega, rfl, O6.out, R6.out⟩
      case round =>
        clear O6 R6
        obtain ⟨j, hj, rfl, oa, rf⟩ := hrel
        have hbel : Below W.heap.size W wr := oa.mod.below (Nat.le_refl _) (fun k hk => hk)
        have OA := Lib.hid oa
        have RA := Lib.hid rf
        by_cases hlt : j < l.length
        · obtain ⟨b, off, rfl, hbw, hc⟩ := HR.out.at (by intro e; simp [e] at hlt)
          obtain ⟨g0, g1, g2⟩ := Stp.at (w := wr) (b := b) (o := off + j * 3) (s := l[j]) ((hc j hlt).below hbel hbw)
          have hx := HL.out l[j] (List.getElem_mem hlt)
          have hxm : l[j].x.size ≤ maxLen := by unfold reachBytes at hx; unfold maxLen; omega
          obtain ⟨_, _, _, CX, RX⟩ := pl_quiet oa rf E6.out hask hxm (by omega)
          clear hc hx hxm oa rf hbel HL HR g0 g2
          generalize l[j] = s at *
          go_wp2_with fail
          refine wp_region_quiet_lit (by kernel_rfl) (by kernel_rfl) ?_
          repeat (go_big_quiet_step (fail))
          go_big_quiet_step ((go_at_call 25; exact Calls.quiet_of_same (CX.out _)))
          repeat (go_big_quiet_step (fail))
          go_big_quiet_step ((go_at_call 32; exact Calls.quiet_of_same (RX.out _)))
          repeat (go_big_quiet_step (fail))
          refine wpQuiet_nil ?_
          rintro w' ⟨nq, rfl⟩
          go_wp2_with fail
          go_roundw
          case rel => exact ⟨j + 1, by omega, by go_num, OA.out.drewN nq, RA.out.drewN nq⟩
          case measure => simp [intOf]; omega
        · obtain ⟨CB, _, _, _, _⟩ := pl_quiet (y := ask) oa rf E6.out hask hask (by omega)
          have r0 : wr.cell? ⟨B, 0, none⟩ = some (.int .i64 F.length) := by obtain ⟨v, hv⟩ := rf; exact hv.cells.1
          have HB := Lib.hid hbel
          clear HL HR oa rf hbel
          go_wp2_with fail
          refine wp_region_quiet_lit (by kernel_rfl) (by kernel_rfl) ?_
          repeat (go_big_quiet_step (fail))
          go_big_quiet_step ((go_at_call 31; exact Calls.quiet_of_same (CB.out _)))
          repeat (go_big_quiet_step (fail))
          refine wpQuiet_nil ?_
          rintro w' ⟨nq, rfl⟩
          go_wp2_with fail
          go_ret
          exact ⟨rfl, HB.out.trans ((below_drewN _ _ _).mono HB.out.size)⟩
end Go.Proofs.Ytblooekephkojaa

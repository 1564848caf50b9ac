/- Search: the reference's Cost, of a line that may be had. -/
import Derived.Test.YtblooekephkojaaSrE
namespace Go.Proofs.Ytblooekephkojaa
open Go.RowKit Go.BigFrame
set_option linter.unusedVariables false

/-- A loop's step in the reference's order comes to the same. -/
theorem cstep_t (s : Sty) (q x : Int) (g : Gap) : cstep s (q, x) (g, true) = (q + exc s x + g.cost, g.ind + g.w) := by simp [cstep]; omega
theorem cstep_f (s : Sty) (q x : Int) (g : Gap) : cstep s (q, x) (g, false) = (q, x + g.b + g.w) := by simp [cstep]; omega

set_option maxHeartbeats 4000000 in
set_option maxRecDepth 100000 in
theorem Sr.refCost_b (first : Int) (a1 a2 : Option Addr) (l : List Gap) (ws : List Bool) (c1 c2 : Nat) (s : Sty) (w : World) (h0 : ws.length ≠ l.length) :
    Calls Try.prog 18 #[.int .i64 first, .slice a1 l.length c1, .slice a2 ws.length c2, .agg s.cells] w fun e w' =>
      e = .returned (.tuple #[.int .i64 0, .bool false]) ∧ Below w.heap.size w w' := by
  have hlb : ((ws.length : Int) != (l.length : Int)) = true := by rw [bne_iff_ne]; omega
  clear h0
  go_enter Try.func18, Try.ntmps18
  go_wp2
  go_ret2
  exact ⟨rfl, below_alloc _ _⟩

set_option maxHeartbeats 8000000 in
set_option maxRecDepth 100000 in
theorem Sr.refCost_c (first : Int) (a1 a2 : Option Addr) (l : List Gap) (ws : List Bool) (c1 c2 : Nat) (s : Sty) (w : World) (hl : l.length ≤ 65536)
    (hr : RowAt 6 Gap.f w a1 l) (hr2 : RowAt 1 boolF w a2 ws) (hS : StyOk s) (hF0 : 0 ≤ first) (hF1 : first ≤ 65536) (hG : ∀ g ∈ l, g.valid = true) (h0 : ws.length = l.length) :
    Calls Try.prog 18 #[.int .i64 first, .slice a1 l.length c1, .slice a2 ws.length c2, .agg s.cells] w fun e w' =>
      e = .returned (.tuple #[.int .i64 (if (l.zip ws).all fitB then cost s first (l.zip ws) else 0), .bool ((l.zip ws).all fitB)]) ∧ Below w.heap.size w w' := by
  obtain ⟨hS1, hS2, hS3, hS4⟩ := hS
  obtain ⟨R1, hR1⟩ : ∃ R1, R1 = (if (l.zip ws).all fitB then cost s first (l.zip ws) else 0) := ⟨_, rfl⟩
  obtain ⟨R2, hR2⟩ : ∃ R2, R2 = (l.zip ws).all fitB := ⟨_, rfl⟩
  rw [← hR1, ← hR2]
  have HR1 := Lib.hid hR1
  have HR2 := Lib.hid hR2
  have HG := Lib.hid hG
  have HL := Lib.hid h0
  have hlb : ((ws.length : Int) != (l.length : Int)) = false := by rw [bne_eq_false_iff_eq]; omega
  clear h0 hG hR1 hR2
  go_enter Try.func18, Try.ntmps18
  go_wp2
  go_loopw [10, 11, 12] (fun x q i wr => ∃ k : Nat, k ≤ l.length ∧ i = .int .i64 k ∧ ((l.zip ws).take k).all fitB = true ∧ q = .int .i64 (cwalk s first ((l.zip ws).take k)).1 ∧ x = .int .i64 (cwalk s first ((l.zip ws).take k)).2 ∧ Below (w.heap.size + 1) (w.alloc (.cells s.cells 27)) wr) (fun _ _ i _ => l.length - (intOf i).toNat)
  case atStart => exact ⟨0, Nat.zero_le _, rfl, rfl, rfl, rfl, Below.refl _ _⟩
  case round =>
    obtain ⟨k, hk, rfl, hpf, rfl, rfl, hb⟩ := hrel
    have HPF := Lib.hid hpf
    clear hpf
    have hz1 := hb.size
    simp only [World.size_alloc] at hz1
    have B1 : Below w.heap.size w wr := (below_alloc _ _).trans (hb.mono (by omega))
    have S2 : wr.heap[w.heap.size]? = some (.cells s.cells 27 (0, 0)) := heap_below hb (heap_alloc_new _ _) (by omega)
    have hsc := CellsAt.of_heap S2
    have hbd := cwalk_bd s ⟨hS1, hS2, hS3, hS4⟩ first hF0 hF1 ((l.zip ws).take k) (fun p hp => HG.out p.1 (List.of_mem_zip (List.mem_of_mem_take hp)).1)
    have hkl : (((l.zip ws).take k).length : Int) ≤ k := by have := List.length_take_le k (l.zip ws); omega
    by_cases hlt : k < l.length
    · obtain ⟨b, off, rfl, hbw, hc⟩ := hr.at (by intro e; simp [e] at hlt)
      have hlt2 : k < ws.length := by rw [HL.out]; exact hlt
      obtain ⟨d, of2, rfl, hdw, hd⟩ := hr2.at (by intro e; simp [e] at hlt2)
      have hgc := (hc k hlt).below B1 hbw
      obtain ⟨g0, g1, g2, g3, g4, g5⟩ := Gap.at (w := wr) (b := b) (o := off + k * 6) (g := l[k]) hgc
      have q0 : wr.cell? ⟨d, of2 + k, none⟩ = some (.bool ws[k]) := by
        have := ((hd k hlt2).below B1 hdw) 0 _ rfl
        simpa using this
      have hsn : cwalk s first ((l.zip ws).take (k + 1)) = cstep s (cwalk s first ((l.zip ws).take k)) (l[k], ws[k]) := by
        rw [zip_take_succ l ws k hlt hlt2, cwalk_snoc]
      have hfk : ((l.zip ws).take (k + 1)).all fitB = fitB (l[k], ws[k]) := by
        rw [zip_take_succ l ws k hlt hlt2, List.all_append, HPF.out]; simp
      have hnf : fitB (l[k], ws[k]) = false → (l.zip ws).all fitB = false := fun h => by
        rw [List.all_eq_false]; exact ⟨(l[k], ws[k]), by rw [List.mem_iff_getElem]; exact ⟨k, by simp; omega, by simp⟩, by simp [h]⟩
      have hvg : l[k].valid = true := HG.out _ (List.getElem_mem hlt)
      simp only [Gap.valid, Bool.and_eq_true, decide_eq_true_eq] at hvg
      obtain ⟨⟨v1, v2, v3, v4, v5, v6, v7, v8⟩, -⟩ := hvg
      have HN := Lib.hid hsn
      have HK := Lib.hid hfk
      have HF := Lib.hid hnf
      have hdr : d < wr.heap.size := by omega
      have hbr : b < wr.heap.size := by omega
      have hBr : w.heap.size < wr.heap.size := by omega
      have HSC := Lib.hid hsc
      have HGC := Lib.hid hgc
      have hki : (k : Int) < (l.length : Int) := by omega
      have hki0 : (0 : Int) ≤ (k : Int) := by omega
      have hki2 : (k : Int) < (ws.length : Int) := by omega
      clear hc hr hd hr2 hsn hsc S2 hfk hnf hgc
      generalize l[k] = g at *
      generalize hcq : cwalk s first ((l.zip ws).take k) = cq at *
      have HCQ := Lib.hid hcq
      clear hcq
      obtain ⟨q, x⟩ := cq
      simp only at hbd
      obtain ⟨hb0, hb1, hb2⟩ := hbd
      have hb3 : x ≤ 17179869184 := by omega
      have hb4 : q ≤ 17179869184000000 := by omega
      have he := exc_le s x hS1 hS3 hS4 hb1
      have he1 : exc s x ≤ 17179869184000000 := by omega
      have he0 := he.1
      clear he
      obtain ⟨gw, gb, gm, gy, gc, gi⟩ := g
      simp only at *
      generalize ws[k] = p at *
      have stop : fitB (({ w := gw, b := gb, must := gm, may := gy, cost := gc, ind := gi } : Gap), p) = false → R1 = 0 ∧ R2 = false := fun h => by
        rw [HR1.out, HR2.out, HF.out h]; exact ⟨rfl, rfl⟩
      have STOP := Lib.hid stop
      clear stop
      cases p <;> cases gm <;> cases gy
      case false.true.true | false.true.false | true.false.false | true.true.false =>
        obtain ⟨r1, r2⟩ := STOP.out rfl
        subst r1 r2
        go_wp2
        go_ret2
        exact ⟨rfl, B1⟩
      case false.false.false | false.false.true =>
        go_wp2
        go_roundw
        case rel => exact ⟨k + 1, by omega, by go_num, by rw [HK.out]; rfl, by rw [HN.out, cstep_f], by rw [HN.out, cstep_f], hb⟩
        case measure => simp [intOf]; omega
      case true.false.true | true.true.true =>
        go_wp2_with fail
        have hgu : ∀ u : Ext wr, u.w.cell? ⟨b, off + k * 6 + 4, none⟩ = some (.int .i64 gc) := fun u => u.cell g4
        have hbe2 : q + gc ≤ 18000000000000000 := by omega
        refine wp_region_quiet (C := fun w' => ∃ u : Ext wr, w' = u.w) (by kernel_rfl) (by kernel_rfl) (Ext.drew wr) ?_
        dsimp only []
        repeat (first
          | (go_big_quiet_want; (with_reducible refine quiet_load_at 27 _ rfl _ _ rfl s.cells.toList _ (fun w' hw' => by obtain ⟨u, rfl⟩ := hw'; exact u.cellsAt HSC.out) Try.underlying27 rfl (by kernel_rfl) ?_); go_big_quiet_on; simp only [Act.put, List.setIfInBounds_toArray, List.set_cons_succ, List.set_cons_zero])
          | go_big_quiet_step ((go_at_call 49; rename_i u; refine (Sr.row s x _ hS1 hS2 hS3 hS4 hb1 hb3).mono ?_; rintro e w2 ⟨rfl, b2⟩; exact ⟨rfl, u.on b2⟩)))
        refine wpQuiet_nil ?_
        rintro w' ⟨u, rfl⟩
        have U0 := u.cell g0
        have U5 := u.cell g5
        have hub := u.below
        clear hgu g0 g1 g2 g3 g4 g5
        generalize u.w = uw at *
        clear u
        have HU : Hid (Below (w.heap.size + 1) (w.alloc (.cells s.cells 27)) uw) := Lib.hid (hb.trans (hub.mono (by omega)))
        go_wp2
        go_roundw
        case rel => exact ⟨k + 1, by omega, by go_num, by rw [HK.out]; rfl, by rw [HN.out, cstep_t]; exact congrArg (Value.int .i64) (by simp only; omega), by rw [HN.out, cstep_t], HU.out⟩
        case measure => simp [intOf]; omega
    · have hpa : (l.zip ws).all fitB = true := by
        have h1 := HPF.out
        rwa [List.take_of_length_le (by simp; omega)] at h1
      have hcz : (cwalk s first ((l.zip ws).take k)) = cwalk s first (l.zip ws) := by rw [List.take_of_length_le (by simp; omega)]
      have r2 := HR2.out
      have r1 := HR1.out
      rw [hpa] at r2 r1
      rw [if_pos rfl] at r1
      have HZ := Lib.hid hcz
      have HR := Lib.hid r1
      clear hpa hcz HR1 HR2 r1
      subst r2
      generalize hcq : cwalk s first ((l.zip ws).take k) = cq at *
      have HCQ := Lib.hid hcq
      clear hcq
      obtain ⟨q, x⟩ := cq
      simp only at hbd
      obtain ⟨hb0, hb1, hb2⟩ := hbd
      have hb3 : x ≤ 17179869184 := by omega
      have hb4 : q ≤ 17179869184000000 := by omega
      have he := exc_le s x hS1 hS3 hS4 hb1
      have he1 : exc s x ≤ 17179869184000000 := by omega
      have he0 := he.1
      clear he
      go_wp2_with (with_reducible refine wpList_load_row rfl 27 _ rfl _ rfl 27 _ _ _ S2 Try.underlying27 rfl (by kernel_rfl) ?_)
      refine (Sr.row s x _ hS1 hS2 hS3 hS4 hb1 hb3).mono ?_
      rintro e w2 ⟨rfl, b2⟩
      go_wp2
      go_ret2
      refine ⟨?_, B1.trans (b2.mono (by omega))⟩
      simp only [HR.out, cost, ← HZ.out]
      rfl

/-- Are two lists of Bools one? -/
theorem Sr.same (a1 a2 : Option Addr) (l m : List Bool) (c1 c2 : Nat) (w : World) (hl : l.length ≤ 9223372036854775807) (hr : RowAt 1 boolF w a1 l) (hr2 : RowAt 1 boolF w a2 m) :
    Calls Try.prog 19 #[.slice a1 l.length c1, .slice a2 m.length c2] w fun e w' => e = .returned (.bool (decide (l = m))) ∧ Below w.heap.size w w' := by
  obtain ⟨z, hz⟩ : ∃ z, z = decide (l = m) := ⟨_, rfl⟩
  rw [← hz]
  have HZ := Lib.hid hz
  clear hz
  by_cases hlen : l.length = m.length
  · have hlb : ((l.length : Int) != (m.length : Int)) = false := by rw [bne_eq_false_iff_eq]; omega
    have HL := Lib.hid hlen
    have hle : l.length ≤ m.length := by omega
    clear hlen
    go_enter Try.func19, Try.ntmps19
    go_wp2
    go_loopw [5] (fun i wr => ∃ k : Nat, k ≤ l.length ∧ i = .int .i64 k ∧ l.take k = m.take k ∧ Below w.heap.size w wr) (fun i _ => l.length - (intOf i).toNat)
    case atStart => exact ⟨0, Nat.zero_le _, rfl, rfl, Below.refl _ _⟩
    case round =>
      obtain ⟨k, hk, rfl, ht, hb⟩ := hrel
      have HT := Lib.hid ht
      clear ht
      by_cases hlt : k < l.length
      · obtain ⟨b, off, rfl, hbw, hc⟩ := hr.at (by intro e; simp [e] at hlt)
        have hlt2 : k < m.length := by omega
        obtain ⟨d, of2, rfl, hdw, hd⟩ := hr2.at (by intro e; simp [e] at hlt2)
        have p0 : wr.cell? ⟨b, off + k, none⟩ = some (.bool l[k]) := by
          have := ((hc k hlt).below hb hbw) 0 _ rfl
          simpa using this
        have q0 : wr.cell? ⟨d, of2 + k, none⟩ = some (.bool m[k]) := by
          have := ((hd k hlt2).below hb hdw) 0 _ rfl
          simpa using this
        have hki : (k : Int) < (l.length : Int) := by omega
        have hki0 : (0 : Int) ≤ (k : Int) := by omega
        have hki2 : (k : Int) < (m.length : Int) := by omega
        have hn1 : l.take (k + 1) = l.take k ++ [l[k]] := List.take_succ_eq_append_getElem hlt
        have hn2 : m.take (k + 1) = m.take k ++ [m[k]] := List.take_succ_eq_append_getElem hlt2
        have hne : l[k] ≠ m[k] → l ≠ m := fun h e => h (by subst e; rfl)
        have H1 := Lib.hid hn1
        have H2 := Lib.hid hn2
        have HN := Lib.hid hne
        clear hc hd hr hr2 hn1 hn2 hne
        generalize l[k] = x at *
        generalize m[k] = y at *
        cases x <;> cases y
        case false.false | true.true =>
          go_wp2_with fail
          go_quiet (fail)
          go_wp2
          go_roundw
          case rel => exact ⟨k + 1, by omega, by go_num, by rw [H1.out, H2.out, HT.out], hb.trans (below_drewN _ _ _)⟩
          case measure => simp [intOf]; omega
        case false.true | true.false =>
          go_wp2_with fail
          go_quiet (fail)
          go_wp2
          go_ret
          refine ⟨ret_bool ?_, ?_⟩
          · rw [HZ.out]; symm; exact decide_eq_false (HN.out (by simp))
          · exact hb.trans (below_drewN _ _ _)
      · have hh := HT.out
        rw [List.take_of_length_le (by omega), List.take_of_length_le (by have := HL.out; omega)] at hh
        have hz1 := HZ.out
        rw [decide_eq_true hh] at hz1
        clear hh HT HZ
        subst hz1
        go_wp2
        go_ret
        exact ⟨rfl, hb⟩
  · have hlb : ((l.length : Int) != (m.length : Int)) = true := by rw [bne_iff_ne]; omega
    have hz1 := HZ.out
    rw [decide_eq_false (fun e => hlen (by rw [e]))] at hz1
    clear hlen HZ
    subst hz1
    go_enter Try.func19, Try.ntmps19
    go_wp2
    go_ret
    exact ⟨rfl, Below.refl _ _⟩
end Go.Proofs.Ytblooekephkojaa

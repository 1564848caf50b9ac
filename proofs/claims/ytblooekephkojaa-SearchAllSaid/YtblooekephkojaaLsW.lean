/- The reference's SameGaps; the law SearchAll. -/
import Derived.Test.YtblooekephkojaaLsV
import Derived.Test.YtblooekephkojaaSrH
import Derived.Test.YtblooekephkojaaLsP
namespace Go.Proofs.Ytblooekephkojaa
open Go.RowKit Go.BigFrame Go.Shelf
set_option linter.unusedVariables false

set_option maxRecDepth 100000 in
set_option maxHeartbeats 4000000 in
theorem Ls.sameGaps (a1 a2 : Option Addr) (l : List Gap) (c1 c2 : Nat) (w : World) (hl : l.length ≤ 65536) (hr1 : RowAt 6 Gap.f w a1 l) (hr2 : RowAt 6 Gap.f w a2 l) :
    Calls Try.prog 36 #[.slice a1 l.length c1, .slice a2 l.length c2] w fun e w' => e = .returned (.bool true) ∧ Below w.heap.size w w' := by
  go_enter Try.func36, Try.ntmps36
  go_wp2_with fail
  go_loopw [5] (fun s5 wr => ∃ i : Nat, i ≤ l.length ∧ s5 = .int .i64 i ∧ ∃ n, wr = w.drewN n) (fun s5 _ => l.length - (intOf s5).toNat)
  case atStart => exact ⟨0, Nat.zero_le _, rfl, 0, rfl⟩
  case round =>
    obtain ⟨i, hi, rfl, n0, rfl⟩ := hrel
    by_cases hlt : i < l.length
    · obtain ⟨b, o, rfl, hb, hc⟩ := hr1.at (by intro e; rw [e] at hlt; simp at hlt)
      obtain ⟨b2, o2, rfl, hb2, hc2⟩ := hr2.at (by intro e; rw [e] at hlt; simp at hlt)
      have hd1 : CellsAt w b (o + i * 6) l[i].cells.toList := hc i hlt
      have hd2 : CellsAt w b2 (o2 + i * 6) l[i].cells.toList := hc2 i hlt
      have e1 : ∀ n, CellsAt ((w.drewN n0).drewN n) b (o + i * 6) l[i].cells.toList := fun n => hd1
      have e2 : ∀ n, CellsAt ((w.drewN n0).drewN n) b2 (o2 + i * 6) l[i].cells.toList := fun n => hd2
      have i0 : (0 : Int) ≤ (i : Int) := by omega
      have i1 : (i : Int) < (l.length : Int) := by omega
      have HR1 := Lib.hid hr1
      have HR2 := Lib.hid hr2
      clear hc hc2 hr1 hr2
      generalize l[i] = g at *
      go_wp2_with fail
      refine wp_region_quiet_lit (by kernel_rfl) (by kernel_rfl) ?_
      repeat (first
        | (go_big_quiet_want; (with_reducible refine quiet_load_at 71 _ rfl b (o + i * 6) rfl g.cells.toList _ (fun w' hw' => by obtain ⟨n, rfl⟩ := hw'; exact e1 n) Try.underlying71 rfl (by kernel_rfl) ?_); go_big_quiet_on; simp only [Act.put, List.setIfInBounds_toArray, List.set_cons_succ, List.set_cons_zero])
        | (go_big_quiet_want; (with_reducible refine quiet_load_at 71 _ rfl b2 (o2 + i * 6) rfl g.cells.toList _ (fun w' hw' => by obtain ⟨n, rfl⟩ := hw'; exact e2 n) Try.underlying71 rfl (by kernel_rfl) ?_); go_big_quiet_on; simp only [Act.put, List.setIfInBounds_toArray, List.set_cons_succ, List.set_cons_zero])
        | go_big_quiet_step (fail))
      refine wpQuiet_nil ?_
      rintro w' ⟨nq, rfl⟩
      go_wp2_with fail
      go_roundw
      case rel => exact ⟨i + 1, by omega, by go_num, _, rfl⟩
      case measure => simp [intOf]; omega
    · obtain rfl : i = l.length := by omega
      go_wp2_with fail
      go_ret
      exact ⟨rfl, Ytblooekephkojaa.below_drewN _ _ _⟩

theorem own_gaps {w : World} {base e : Nat} {v : Value} {n : Nat} {l : List Gap} (hn : n = l.length) (h : w.ownsRow base e 6 v n (l.flatMap Gap.f)) : ∃ a cap, v = .slice a l.length cap ∧ RowAt 6 Gap.f w a l := by
  subst hn
  obtain ⟨hl, h⟩ := h
  rcases h with ⟨rfl, h0⟩ | ⟨g, cap, cur, rfl, hb, hg, hn, hm, hc, ht⟩
  · exact ⟨none, 0, by rw [h0], .inl (List.length_eq_zero_iff.1 h0)⟩
  · refine ⟨_, cap, rfl, .inr ⟨g, 0, rfl, (Array.getElem?_eq_some_iff.1 hg).1, fun i hi j v hv => ?_⟩⟩
    have h1 := flat_get l i hi j v hv
    rw [← ht, List.getElem?_take] at h1
    split at h1
    · simp only [World.cell?, hg, Nat.zero_add]
      simpa using h1
    · cases h1

theorem infoGap : (Try.prog.info? 71).map (fun i => (i.zero, i.size, i.bytes)) = some (some (.agg #[.int .i64 0, .int .i64 0, .bool false, .bool false, .int .i64 0, .int .i64 0]), 6, 40) := by kernel_rfl

set_option maxRecDepth 100000 in
set_option maxHeartbeats 4000000 in
theorem Ls.law_all (first : Int) (ga : Option Addr) (l : List Gap) (gc : Nat) (s : Sty) (w : World) (hl : l.length ≤ 9223372036854775807) (hn : ga = none → l = [] ∧ gc = 0) (hr : RowAt 6 Gap.f w ga l) :
    Calls Try.prog 9 #[.int .i64 first, .slice ga l.length gc, .agg s.cells] w fun e w' => e = .returned (.bool true) ∧ Below w.heap.size w w' := by
  obtain ⟨i0, hi, hz0, hz1, hz2⟩ := info_parts infoGap
  have HI := Lib.hid hi
  have HZ0 := Lib.hid hz0
  have HZ1 := Lib.hid hz1
  have HZ2 := Lib.hid hz2
  have HN := Lib.hid hn
  obtain ⟨W, hW⟩ : ∃ W, W = w.alloc (.cells s.cells 27) := ⟨_, rfl⟩
  have hst : W.heap[w.heap.size]? = some (.cells s.cells 27 (0, 0)) := by rw [hW]; exact heap_alloc_new _ _
  have hB : Below w.heap.size w W := by rw [hW]; exact below_alloc _ _
  have hrW := hr.below hB (Nat.le_refl _) hB.size
  have HW := Lib.hid hW
  have HB := Lib.hid hB
  have HR := Lib.hid hr
  have HS := Lib.hid hst
  obtain ⟨F, hFe⟩ : ∃ F, F = fr l := ⟨_, rfl⟩
  have HF := Lib.hid hFe
  clear hi hz0 hz1 hz2 hW hB hr hn hst
  go_enter Try.func9, Try.ntmps9
  go_wp2_with fail
  rw [← HW.out]
  refine (Ls.free ga l gc W hl hrW).mono ?_
  rintro e w1 ⟨rfl, b1⟩
  rw [← HF.out]
  have hB1 := HB.out.trans (b1.mono HB.out.size)
  have hs1 := ByStyle.on HS.out b1
  have HB1 := Lib.hid hB1
  have HS1 := Lib.hid hs1
  clear hFe hrW b1 hB1 hs1
  by_cases hbig : 12 < F
  · have d1 : decide ((12 : Int) < (F : Int)) = true := by simp; omega
    clear hbig
    go_wp2_with fail
    go_ret
    exact ⟨rfl, HB1.out⟩
  have d1 : decide ((12 : Int) < (F : Int)) = false := by simp; omega
  by_cases hlong : 300 < l.length
  · have d2 : decide ((300 : Int) < (l.length : Int)) = true := by simp; omega
    clear hbig hlong
    go_wp2_with fail
    go_ret
    exact ⟨rfl, HB1.out⟩
  have d2 : decide ((300 : Int) < (l.length : Int)) = false := by simp; omega
  have hF12 : Hid (fr l ≤ 12) := Lib.hid (by rw [← HF.out]; omega)
  have hlen : (l.length : Int) ≤ 300 := by omega
  clear hbig hlong
  obtain ⟨X, hX⟩ : ∃ X, X = w1.alloc (.cells #[] 71) := ⟨_, rfl⟩
  have hownX : X.ownsRow w1.heap.size 71 6 (.slice (some ⟨w1.heap.size, 0, none⟩) 0 0) 0 [] := by
    rw [hX]; exact World.ownsRow_made w1 #[] 0 (Nat.le_refl _) (Nat.zero_le _) rfl
  have hBX : Below w.heap.size w X := by rw [hX]; exact HB1.out.alloc HB1.out.size _
  have hsX : X.heap[w.heap.size]? = some (.cells s.cells 27 (0, 0)) := by rw [hX, Lib.alloc_old _ _ _ (Array.getElem?_eq_some_iff.1 HS1.out).1]; exact HS1.out
  have hXs : X.heap.size = w1.heap.size + 1 := by rw [hX]; simp
  have hrX := HR.out.below hBX (Nat.le_refl _) hBX.size
  have hw1 : w.heap.size < w1.heap.size := (Array.getElem?_eq_some_iff.1 HS1.out).1
  have HX := Lib.hid hX
  have HBX := Lib.hid hBX
  have HSX := Lib.hid hsX
  clear hX hBX hsX
  go_wp2_with (at_builtin; rw [← HX.out]; refine wpList_append_rows Gap.f rfl _ _ 24 rfl w1.heap.size 71 i0 _ 6 40 Try.underlying24 HI.out HZ0.out HZ1.out HZ2.out rfl (by decide) (fun _ => rfl) (fun g u hu => by simp [Gap.f] at hu; rcases hu with rfl | rfl | rfl | rfl | rfl | rfl <;> rfl) _ 0 [] rfl hownX ga l gc rfl HN.out hrX ?c1 ?c2 ?c3 ?_)
  case c1 => unfold maxLen; omega
  case c2 => omega
  case c3 => omega
  intro v' w2 hown' hgrow
  have hB2 : Below w.heap.size w w2 := HBX.out.grown hgrow (by omega) (fun k hk => by simp [Value.ownBlock] at hk; omega)
  have hs2 : w2.heap[w.heap.size]? = some (.cells s.cells 27 (0, 0)) := by
    rw [hgrow.block w.heap.size (by omega) (by simp [Value.ownBlock]; omega)]; exact HSX.out
  have hown2 : w2.ownsRow w1.heap.size 71 6 v' l.length (l.flatMap Gap.f) := by simpa using hown'
  obtain ⟨a3, c3, rfl, hr3⟩ := own_gaps rfl hown2
  have hr2 := HR.out.below hB2 (Nat.le_refl _) hB2.size
  have HB2 := Lib.hid hB2
  clear hown' hown2 hgrow hownX hrX hB2
  obtain ⟨z, hz⟩ : ∃ z, z = chk first l s := ⟨_, rfl⟩
  have HZ := Lib.hid hz
  clear hz
  by_cases h0 : z = 0
  · subst h0
    go_wp2_with (with_reducible refine wpList_load_row rfl 27 _ rfl _ rfl 27 _ _ _ hs2 Try.underlying27 rfl (by kernel_rfl) ?_)
    refine (Ls.best_ok first a3 l c3 s w2 hr3 HZ.out.symm).mono ?_
    rintro e w4 ⟨y, c, b, ho, rfl, hY, hb, b4, hc0, hc1⟩
    have hs4 := ByStyle.on hs2 b4
    have hr4 := hr2.below b4 (Nat.le_refl _) b4.size
    have hr34 := hr3.below b4 (Nat.le_refl _) b4.size
    have hB4 := HB2.out.trans (b4.mono HB2.out.size)
    have HO := Lib.hid ho
    have HB4 := Lib.hid hB4
    clear hs2 hr2 hr3 b4 hB4 ho
    go_wp2_with fail
    refine (Ls.sameGaps a3 ga l c3 gc w4 (by omega) hr34 hr4).mono ?_
    rintro e w5 ⟨rfl, b5⟩
    have hs5 := ByStyle.on hs4 b5
    have hr5 := hr4.below b5 (Nat.le_refl _) b5.size
    have hB5 := HB4.out.trans (b5.mono HB4.out.size)
    have hY5 : BoolBlk w5 b y := heap_below b5 hY hY.lt
    have HB5 := Lib.hid hB5
    clear hs4 hr4 hr34 b5 hB5 hY
    go_wp2_with (with_reducible refine wpList_load_row rfl 27 _ rfl _ rfl 27 _ _ _ hs5 Try.underlying27 rfl (by kernel_rfl) ?_)
    refine (Sr.refCheck first ga l gc s w5 hl hr5).mono ?_
    rintro e w6 ⟨rfl, b6⟩
    rw [← HZ.out]
    have hs6 := ByStyle.on hs5 b6
    have hr6 := hr5.below b6 (Nat.le_refl _) b6.size
    have hB6 := HB5.out.trans (b6.mono HB5.out.size)
    have hY6 : BoolBlk w6 b y := heap_below b6 hY5 hY5.lt
    have HB6 := Lib.hid hB6
    clear hs5 hr5 b6 hB6 hY5
    go_wp2_with (with_reducible refine wpList_load_row rfl 27 _ rfl _ rfl 27 _ _ _ hs6 Try.underlying27 rfl (by kernel_rfl) ?_)
    refine (Ls.refBest first ga l gc s w6 hF12.out hr6 HZ.out.symm).mono ?_
    rintro e w7 ⟨y', c', b', ho', rfl, hY', b7⟩
    obtain ⟨rfl, rfl⟩ := ho'.unique HO.out
    have hY7 : BoolBlk w7 b y' := heap_below b7 hY6 hY6.lt
    have hB7 := HB6.out.trans (b7.mono HB6.out.size)
    have HB7 := Lib.hid hB7
    have hyl := HO.out.len
    have hq := Sr.same (some ⟨b, 0, none⟩) (some ⟨b', 0, none⟩) y' y' l.length l.length w7 (by omega) hY7.rowAt hY'.rowAt
    rw [decide_eq_true rfl, hyl] at hq
    have HQ := Lib.hid hq
    clear hq hyl hY7 hY' hY6 b7 hB7 ho' hs6 hr6
    go_wp2_with fail
    refine HQ.out.mono ?_
    rintro e w8 ⟨rfl, b8⟩
    go_wp2_with fail
    go_ret
    exact ⟨rfl, HB7.out.trans (b8.mono HB7.out.size)⟩
  · have hzb : (z != 0) = true := by simpa using h0
    have H0 := Lib.hid h0
    clear h0
    go_wp2_with (with_reducible refine wpList_load_row rfl 27 _ rfl _ rfl 27 _ _ _ hs2 Try.underlying27 rfl (by kernel_rfl) ?_)
    refine (Ls.best_bad first a3 l c3 s w2 hl hr3 z HZ.out.symm H0.out).mono ?_
    rintro e w4 ⟨rfl, b4⟩
    have hs4 := ByStyle.on hs2 b4
    have hr4 := hr2.below b4 (Nat.le_refl _) b4.size
    have hr34 := hr3.below b4 (Nat.le_refl _) b4.size
    have hB4 := HB2.out.trans (b4.mono HB2.out.size)
    have HB4 := Lib.hid hB4
    clear hs2 hr2 hr3 b4 hB4
    go_wp2_with fail
    refine (Ls.sameGaps a3 ga l c3 gc w4 (by omega) hr34 hr4).mono ?_
    rintro e w5 ⟨rfl, b5⟩
    have hs5 := ByStyle.on hs4 b5
    have hr5 := hr4.below b5 (Nat.le_refl _) b5.size
    have hB5 := HB4.out.trans (b5.mono HB4.out.size)
    have HB5 := Lib.hid hB5
    clear hs4 hr4 hr34 b5 hB5
    go_wp2_with (with_reducible refine wpList_load_row rfl 27 _ rfl _ rfl 27 _ _ _ hs5 Try.underlying27 rfl (by kernel_rfl) ?_)
    refine (Sr.refCheck first ga l gc s w5 hl hr5).mono ?_
    rintro e w6 ⟨rfl, b6⟩
    rw [← HZ.out]
    go_wp2_with fail
    go_ret
    exact ⟨ret_bool (by simp), HB5.out.trans (b6.mono HB5.out.size)⟩
end Go.Proofs.Ytblooekephkojaa

/- scope: Close of regletref10. -/
import Derived.Test.YtblooekephkojaaScX
namespace Go.Proofs.Ytblooekephkojaa
open Go.RowKit Go.BigFrame Go.ChangeMaps Go.WideMaps
set_option linter.unusedVariables false

def ltB (k : Nat) (e : Sd) : Bool := decide (e.b < k)
theorem filter_take (k : Nat) (L : List Sd) (i : Nat) (h : i < L.length) : (L.take (i + 1)).filter (ltB k) = (L.take i).filter (ltB k) ++ if L[i].b < k then [L[i]] else [] := by
  rw [List.take_succ_eq_append_getElem h, List.filter_append]
  congr 1
  by_cases hb : L[i].b < k
  · rw [if_pos hb, List.filter_cons_of_pos (by simpa [ltB] using hb), List.filter_nil]
  · rw [if_neg hb, List.filter_cons_of_neg (by simpa [ltB] using hb), List.filter_nil]

set_option maxRecDepth 100000 in
set_option maxHeartbeats 4000000 in
theorem Rf.closes (base B many : Nat) (L : List Sd) (w : World) (h : Rf base B many L w) (hL : L.length ≤ 1000000) (hb : ∀ e ∈ L, e.b ≤ 1000000) (hm1 : 1 ≤ many) (hm : many ≤ 65536) (hbase : base ≤ w.heap.size) :
    Calls Try.prog 29 #[.pointer (some ⟨B, 0, none⟩)] w fun e w' => e = .returned (.int .i64 (if many = 1 then 100 else 0)) ∧ RfLeaves base B (if many = 1 then many else many - 1) (if many = 1 then L else L.filter (ltB (many - 1))) w w' := by
  obtain ⟨v, h⟩ := h
  obtain ⟨a, cap, rfl⟩ := row_shape h.row
  obtain ⟨c0, c1⟩ := h.cells
  by_cases h1 : many = 1
  · subst h1
    have H := Lib.hid h
    clear h hb
    go_enter Try.func29, Try.ntmps29
    go_wp2
    go_ret
    exact ⟨rfl, ⟨_, H.out⟩, Mod.refl _ _⟩
  obtain ⟨k, rfl⟩ : ∃ k, many = k + 1 := ⟨many - 1, by omega⟩
  rw [if_neg h1, if_neg h1, if_neg h1, Nat.add_sub_cancel]
  have hk : ((k : Int) + 1 == 1) = false := by rw [beq_eq_false_iff_ne]; omega
  have hf : w.frozen? ⟨B, 0, none⟩ = false := Lib.frozen_of_heap h.hd 0
  have hBl := (Array.getElem?_eq_some_iff.1 h.hd).1
  have hkb : (k : Int) + 1 ≤ 65536 := by omega
  obtain ⟨w1, hw1⟩ : ∃ w1, w1 = w.setCell ⟨B, 0, none⟩ (.int .i64 k) := ⟨_, rfl⟩
  have hd1 : w1.heap[B]? = some (.cells #[.int .i64 k, .slice a L.length cap] 49 (0, 0)) := by
    rw [hw1]
    have := heap_setCell_same w B 0 _ _ (.int .i64 k) h.hd
    simpa using this
  have hm1' : Mod (fun j => j = B) w w1 := by rw [hw1]; exact Mod.setCell (Mod.refl (fun j => j = B) w) _ (.inr rfl) _
  have hs1 : w1.heap.size = w.heap.size := by rw [hw1]; simp
  have h1w : RfAt w1 base B k (.slice a L.length cap) L := ⟨hd1, ownsRow_mod h.row hm1' (fun j hj e => h.B_ne (by rw [← e]; exact hj)), h.le⟩
  have hrow0 : 0 < L.length → ∃ g cap', Value.slice a L.length cap = .slice (some ⟨g, 0, none⟩) L.length cap' ∧ g < w1.heap.size ∧ ∀ i (hi : i < L.length), w1.cell? ⟨g, i * 3, none⟩ = some (.int .i64 L[i].b) ∧ w1.cell? ⟨g, i * 3 + 1, none⟩ = some (.string L[i].x) ∧ w1.cell? ⟨g, i * 3 + 2, none⟩ = some (.bool L[i].t) := h1w.row_at
  obtain ⟨i0, hi, hz0, hz1, hz2⟩ := info_parts infoSd
  have HI := Lib.hid hi
  have HZ0 := Lib.hid hz0
  have HZ1 := Lib.hid hz1
  have HZ2 := Lib.hid hz2
  have H := Lib.hid h
  have HROW := Lib.hid hrow0
  have H1 := Lib.hid h1w
  have HB := Lib.hid hb
  have HW1 := Lib.hid hw1
  have HM1 := Lib.hid hm1'
  have HS1 := Lib.hid hs1
  have HD1 := Lib.hid hd1
  clear h hb hi hz0 hz1 hz2 h1 hw1 hd1 hm1' hs1 h1w hrow0
  go_enter Try.func29, Try.ntmps29
  go_wp2
  rw [← HW1.out]
  clear c0 c1 hf hk
  go_loopw [3, 4] (fun s3 s4 wr => ∃ i : Nat, i ≤ L.length ∧ s4 = .int .i64 i ∧ wr.ownsRow w.heap.size 99 3 s3 ((L.take i).filter (ltB k)).length (((L.take i).filter (ltB k)).flatMap Sd.f) ∧ Below w.heap.size w1 wr) (fun _ s4 _ => L.length - (intOf s4).toNat)
  case atStart => exact ⟨0, by omega, rfl, World.ownsRow_nil _ _ _ _, Below.refl _ _⟩
  case round =>
    obtain ⟨i, hi, rfl, hown, hbel⟩ := hrel
    have hdr := heap_below hbel HD1.out hBl
    have c0 : wr.cell? ⟨B, 0, none⟩ = some (.int .i64 k) := by simp [World.cell?, hdr]
    have c1 : wr.cell? ⟨B, 1, none⟩ = some (.slice a L.length cap) := by simp [World.cell?, hdr]
    have hsz := hbel.size
    have HO := Lib.hid hown
    have HBE := Lib.hid hbel
    have HDR := Lib.hid hdr
    have hFl : ((L.take i).filter (ltB k)).length ≤ i := Nat.le_trans (List.length_filter_le _ _) (List.length_take_le _ _)
    by_cases hlt : i < L.length
    · obtain ⟨g, cap', hv, hg, hc⟩ := HROW.out (by omega)
      simp only [Value.slice.injEq] at hv
      obtain ⟨rfl, _, _⟩ := hv
      obtain ⟨k0, k1, k2⟩ := hc i hlt
      rw [← hbel.cell (p := ⟨g, _, none⟩) (by have := HS1.out; simp; omega)] at k0 k1 k2
      have hs := filter_take k L i hlt
      have hwr : w.heap.size ≤ wr.heap.size := by have := HS1.out; omega
      have HS := Lib.hid hs
      have hi3 : (i : Int) ≤ 1000000 := by omega
      clear hown hbel hdr hc hs H HB HROW H1
      generalize L[i] = e at *
      generalize (L.take i).filter (ltB k) = F at *
      by_cases hek : e.b < k
      · have hek1 : (e.b : Int) < (k : Int) := by omega
        have HE := Lib.hid hek
        clear hek
        go_wp2
        refine wp_region_quiet_lit (by kernel_rfl) (by kernel_rfl) ?_
        repeat (go_big_quiet_step (fail))
        refine wpQuiet_nil ?_
        rintro w' ⟨nq, rfl⟩
        go_wp2_with (at_builtin; refine wpList_append_own_at _ rfl _ _ 47 rfl w.heap.size 99 i0 (.agg #[.int .i64 0, .string ⟨#[]⟩, .bool false]) 3 32 Try.underlying47 HI.out HZ0.out HZ1.out HZ2.out rfl (by decide) _ _ _ rfl (World.ownsRow.alloc (w := wr.drewN nq) HO.out _) ⟨wr.heap.size, 0, none⟩ 1 1 [.int .i64 e.b, .string e.x, .bool e.t] rfl rfl (three_cells _ _ _ _ 99) (fun u hu => by simp at hu; rcases hu with rfl | rfl | rfl <;> rfl) (by unfold maxLen; omega) (by omega) (by have := HS1.out; simp; omega) ?_; intro v2 w2 hown2 hgrow2 _ _; have HO2 := Lib.hid hown2; have HG2 := Lib.hid hgrow2; clear hown2 hgrow2)
        go_roundw
        case rel =>
          refine ⟨i + 1, by omega, by go_num, ?_, ?_⟩
          · rw [HS.out, if_pos HE.out, List.length_append, List.length_singleton, flatMap_snoc]
            exact HO2.out
          · have hq : Below w.heap.size w1 (wr.drewN nq) := HBE.out.trans ((below_drewN _ _ _).mono (by have := HS1.out; omega))
            refine (hq.alloc hwr _).trans ((Mod.of_grown HG2.out).below (by simp; omega) (fun j hj => (HO.out.lt j hj).1))
        case measure => simp [intOf]; omega
      · have hek1 : decide (e.b < k) = false := by simpa using hek
        have HE := Lib.hid hek
        clear hi3
        go_wp2
        refine wp_region_quiet_lit (by kernel_rfl) (by kernel_rfl) ?_
        repeat (go_big_quiet_step (fail))
        refine wpQuiet_nil ?_
        rintro w' ⟨nq, rfl⟩
        go_wp2
        go_roundw
        case rel =>
          refine ⟨i + 1, by omega, by go_num, ?_, ?_⟩
          · rw [HS.out, if_neg HE.out, List.append_nil]
            exact HO.out
          · exact HBE.out.trans ((below_drewN _ _ _).mono (by have := HS1.out; omega))
        case measure => simp [intOf]; omega
    · obtain rfl : i = L.length := by omega
      rw [List.take_length] at hown
      obtain ⟨a2, c2, rfl⟩ := row_shape hown
      have HO2 := Lib.hid hown
      have hf2 : wr.frozen? ⟨B, 1, none⟩ = false := Lib.frozen_of_heap hdr 1
      have hBr := (Array.getElem?_eq_some_iff.1 hdr).1
      clear hown hbel hdr HO hFl
      go_wp2
      go_ret
      have hs1 := HS1.out
      have hp := H1.out.put (L' := L.filter (ltB k)) (v' := .slice a2 (L.filter (ltB k)).length c2) (w1 := wr) (by rw [hs1]; exact HBE.out) (by rw [hs1]; exact HO2.out) (by rw [hs1]; exact hbase)
      refine ⟨rfl, hp.1, ?_⟩
      refine (HM1.out.mono (fun j _ hj => by subst hj; exact ⟨H.out.le, _, _, _, H.out.hd, .inl rfl⟩)).trans (hp.2.mono (fun j hj hr => ?_))
      by_cases hjB : j = B
      · subst hjB; exact ⟨H.out.le, _, _, _, H.out.hd, .inl rfl⟩
      · obtain ⟨hbj, c, t, fz, hh, ht⟩ := hr
        rw [HM1.out.block j (by omega) hjB] at hh
        exact ⟨hbj, c, t, fz, hh, ht⟩
end Go.Proofs.Ytblooekephkojaa

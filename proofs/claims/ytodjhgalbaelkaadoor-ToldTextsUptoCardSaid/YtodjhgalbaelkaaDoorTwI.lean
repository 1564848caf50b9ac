/- edit: Apply. -/
import Derived.Test.YtodjhgalbaelkaaDoorTwH
namespace Go.Proofs.YtodjhgalbaelkaaDoor
open Go.RowKit Go.BigFrame Go.Shelf
set_option linter.unusedVariables false

theorem okB_bounds {s : Bs} {n : Nat} {last : Int} {x : Edi} (h : okB s n last x = true) : last < x.a ∧ 0 ≤ x.a ∧ x.a ≤ x.b ∧ x.b ≤ (n : Int) := by
  unfold okB at h
  rw [Bool.and_eq_true] at h
  have := h.1
  simp at this
  omega
/-- What Apply returns. -/
def ApPost (s : ByteArray) (l : List Edi) (w : World) (e : Ending) (w' : World) : Prop :=
  (match applyE (dl s) l with
    | some r => e = .returned (.tuple #[.string (str r), .int .i64 0])
    | none => e = .returned (.tuple #[.string ⟨#[]⟩, .int .i64 180])) ∧ Below w.heap.size w w'

set_option maxRecDepth 100000 in
set_option maxHeartbeats 16000000 in
theorem Ed.apply (s : ByteArray) (a : Option Addr) (c : Nat) (l : List Edi) (w : World) (hr : RowAt 3 Edi.f w a l) (hs : s.size ≤ 2000000) (hl : l.length ≤ 2000000) (ht : ∀ x ∈ l, x.t.size ≤ 2000000) :
    Calls Tryd.prog 20 #[.string s, .slice a l.length c] w (ApPost s l w) := by
  have HROW := Lib.hid hr
  have HT := Lib.hid ht
  clear hr ht
  have HLL := Lib.hid (lines_le (dl s))
  have HFL := Lib.hid (lines_flat (dl s))
  go_enter Tryd.func20, Tryd.ntmps20
  go_wp2_with fail
  refine (Ed.getLines s w (by omega)).mono ?_
  rintro e w1 ⟨v, xs, rfl, hxs, hown, b1⟩
  obtain ⟨a0, cap, rfl⟩ := row_shape hown
  obtain ⟨-, hcap, hrow, hbase⟩ := row_at_of_owns hown
  have hn : xs.length = (lines (dl s)).length := by rw [← hxs]; simp
  have hnl : xs.length ≤ 2000000 := by
    have := HLL.out
    rw [← hn, ← size_dl] at this; omega
  have HXS := Lib.hid hxs
  have HRW := Lib.hid hrow
  have HB1 := Lib.hid b1
  have hsz1 := b1.size
  have HN := Lib.hid hn
  have hr1 := HROW.out.below b1 (Nat.le_refl _) b1.size
  have HR1 := Lib.hid hr1
  clear hxs hown hrow hbase b1 hn hr1
  go_wp2_with fail
  refine (Ed.fit s xs.length a c l w1 HR1.out (by omega) (by omega) (by omega) (fun x hx => by have := HT.out x hx; omega)).mono ?_
  rintro e w2 ⟨rfl, b2⟩
  have hsz2 := b2.size
  have HB2 := Lib.hid b2
  have HR2 := Lib.hid (HR1.out.below b2 (Nat.le_refl _) b2.size)
  have HRW2 := Lib.hid (HRW.out.below b2 (Nat.le_refl _) b2.size)
  clear b2 HR1 HRW
  cases hfit : fitB (dl s) xs.length (-1) l
  · have HF := Lib.hid hfit
    clear hfit
    go_wp2_with fail
    go_ret2
    refine ⟨?_, HB1.out.trans (HB2.out.mono hsz1)⟩
    unfold applyE
    rw [← HN.out, HF.out]; rfl
  · have HF := Lib.hid hfit
    clear hfit
    go_wp2_with fail
    have hB0 := Bw.new w2
    go_loopw [8, 25] (fun s8 s25 wr => ∃ (i at' : Nat) (last : Int) (acc : Bs), i ≤ l.length ∧ s8 = .int .i64 at' ∧ s25 = .int .i64 i ∧ fitB (dl s) xs.length last (l.drop i) = true ∧ (at' : Int) ≤ last + 1 ∧ at' ≤ xs.length ∧ apL (lines (dl s)) 0 l = acc ++ apL (lines (dl s)) at' (l.drop i) ∧ acc.length ≤ i * 4000000 ∧ Bw w2.heap.size w2.heap.size acc wr ∧ Below w2.heap.size w2 wr) (fun _ s25 _ => l.length - (intOf s25).toNat)
    case atStart => exact ⟨0, 0, -1, [], by omega, rfl, rfl, HF.out, by omega, by omega, rfl, by simp, hB0, below_alloc _ _⟩
    case round =>
      clear hB0
      obtain ⟨i, at', last, acc, hi, rfl, rfl, hfit, hat, hatn, hap, hacc, hbw, hbel⟩ := hrel
      have HFIT := Lib.hid hfit
      have hap0 := hap
      have HAP := Lib.hid hap
      have HBW := Lib.hid hbw
      have HBEL := Lib.hid hbel
      have hsz := hbel.size
      clear hfit hap hbw
      by_cases hlt : i < l.length
      · have hst := fitB_at (dl s) xs.length last l i hlt
        rw [HFIT.out] at hst
        obtain ⟨hok, hfit2⟩ := Bool.and_eq_true_iff.1 hst.symm
        obtain ⟨q1, q2, q3, q4⟩ := okB_bounds hok
        have hdrop : l.drop i = l[i] :: l.drop (i + 1) := List.drop_eq_getElem_cons hlt
        have hap2 := HAP.out
        rw [hdrop, apL] at hap2
        obtain ⟨b, off, rfl, hbw2, hc⟩ := HR2.out.at (by intro e; simp [e] at hlt)
        obtain ⟨g0, g1, g2⟩ := Edi.at (w := wr) (b := b) (o := off + i * 3) (x := l[i]) ((hc i hlt).below hbel hbw2)
        have htl := HT.out l[i] (List.getElem_mem hlt)
        have HFIT2 := Lib.hid hfit2
        have HAP2 := Lib.hid hap2
        clear hst hok hfit2 hdrop hap2 hap0 hc hbel HROW HR2 HT HFIT HAP
        generalize l[i] = x at *
        obtain ⟨xa, xb, xt⟩ := x
        simp only at *
        obtain ⟨fa, rfl⟩ := Int.eq_ofNat_of_zero_le q2
        obtain ⟨tb, rfl⟩ := Int.eq_ofNat_of_zero_le (show 0 ≤ xb by omega)
        have j1 : at' ≤ fa := by omega
        have j2 : fa ≤ tb := by omega
        have j3 : tb ≤ xs.length := by omega
        have j1i : (at' : Int) ≤ (fa : Int) := by omega
        have j2i : (fa : Int) ≤ (cap : Int) := by omega
        have j0i : (0 : Int) ≤ (at' : Int) := by omega
        obtain ⟨a', hif⟩ : ∃ a', (if cap = at' then a0 else a0.map (fun q => q.add at')) = a' := ⟨_, rfl⟩
        have hseg := seg_row HRW2.out j1 (by omega : fa ≤ xs.length) hcap
        rw [hif] at hseg
        have hsegl : ((xs.take fa).drop at').length = fa - at' := by simp; omega
        have hsegd : ((xs.take fa).drop at').map dl = ((lines (dl s)).take fa).drop at' := by rw [← HXS.out, List.map_drop, List.map_take]
        have HSG := Lib.hid hseg
        have HSGL := Lib.hid hsegl
        have HSGD := Lib.hid hsegd
        clear hseg hsegl hsegd
        go_wp2_with fail
        clear hif g0 g1 g2
        obtain ⟨W5, hW5⟩ : ∃ W5, W5 = wr.alloc (.cells #[.int .i64 fa, .int .i64 tb, .string xt] 50) := ⟨_, rfl⟩
        obtain ⟨X, hX⟩ : ∃ X, X = wr.heap.size := ⟨_, rfl⟩
        have hbx : W5.heap[X]? = some (.cells #[.int .i64 fa, .int .i64 tb, .string xt] 50 (0, 0)) := by rw [hW5, hX]; exact heap_alloc_new _ _
        have hb5 : Below w2.heap.size w2 W5 := by rw [hW5]; exact HBEL.out.alloc hsz _
        have hw5 : Bw w2.heap.size w2.heap.size acc W5 := by rw [hW5]; exact HBW.out.on (below_alloc _ _)
        rw [← hW5, ← hX]
        have hXb : X ≠ w2.heap.size := by have := HBW.out.lt; omega
        have hX2 : w2.heap.size ≤ X := by omega
        have HBX := Lib.hid hbx
        have HB5 := Lib.hid hb5
        have HW5 := Lib.hid hw5
        have HXB := Lib.hid hXb
        clear hW5 hX hbx hb5 hw5 hXb
        generalize hsg : (xs.take fa).drop at' = seg at *
        have HSEQ := Lib.hid hsg
        clear hsg
        rw [← HSGL.out]
        go_loopw [35] (fun s35 wq => ∃ j : Nat, j ≤ seg.length ∧ s35 = .int .i64 j ∧ Bw w2.heap.size w2.heap.size (acc ++ ((seg.map dl).take j).flatten) wq ∧ Below w2.heap.size w2 wq ∧ wq.heap[X]? = some (.cells #[.int .i64 fa, .int .i64 tb, .string xt] 50 (0, 0))) (fun s35 _ => seg.length - (intOf s35).toNat)
        case atStart => exact ⟨0, by omega, rfl, by simpa using HW5.out, HB5.out, HBX.out⟩
        case round =>
          clear HW5 HB5 HBX
          obtain ⟨j, hj, rfl, kw, kb, kx⟩ := hrel
          have KW := Lib.hid kw
          have KB := Lib.hid kb
          have KX := Lib.hid kx
          have hksz := kb.size
          by_cases hjl : j < seg.length
          · obtain ⟨gb, go, rfl, hgb, hgc⟩ := HSG.out.at (by intro e; simp [e] at hjl)
            have gc := strF_at ((hgc j hjl).below kb hgb)
            rw [Nat.mul_one] at gc
            have hfl := flat_le (lines (dl s)) at' fa (j + 1)
            have hfs := flat_seg (lines (dl s)) at' fa j (by rw [← HSGD.out, List.length_map]; exact hjl)
            rw [hfs, HFL.out, List.length_append, ← size_dl] at hfl
            have hmj : (((lines (dl s)).take fa).drop at')[j]'(by rw [← HSGD.out, List.length_map]; exact hjl) = dl seg[j] := by
              have := congrArg (fun q => q[j]?) HSGD.out
              simp only [List.getElem?_map, List.getElem?_eq_getElem hjl, Option.map_some] at this
              rw [List.getElem?_eq_getElem (by rw [← HSGD.out, List.length_map]; exact hjl)] at this
              exact (Option.some.inj this).symm
            rw [hmj] at hfs hfl
            rw [← size_dl] at hfl
            rw [← HSGD.out] at hfs hfl
            have HFS := Lib.hid hfs
            have hlen : (acc ++ ((seg.map dl).take j).flatten).length + seg[j].size ≤ 140737488355328 := by
              rw [List.length_append]
              have : i * 4000000 ≤ 2000000 * 4000000 := Nat.mul_le_mul_right _ (by omega)
              omega
            have HLEN := Lib.hid hlen
            have hjb : (j : Int) < 2000000 := by have := HSGL.out; omega
            have hj0 : (0 : Int) ≤ (j : Int) := by omega
            clear hfl hfs hmj hlen kw kb kx hgc
            generalize seg[j] = xj at *
            go_wp2_with fail
            refine (Bw.writeString xj KW.out HLEN.out hksz).mono ?_
            rintro e w6 ⟨rfl, h6, b6, k6⟩
            have H6 := Lib.hid h6
            have B6 := Lib.hid b6
            have K6 := Lib.hid (k6 X _ KX.out (by simpa using HXB.out) (by intro c fz e; cases e))
            clear h6 b6 k6
            go_wp2_with fail
            go_roundw
            case rel => exact ⟨j + 1, by omega, by go_num, by rw [HFS.out, ← List.append_assoc]; exact H6.out, KB.out.trans B6.out, K6.out⟩
            case measure => simp [intOf]; omega
          · obtain rfl : j = seg.length := by omega
            have c1 : wr.cell? ⟨X, 1, none⟩ = some (.int .i64 tb) := by simp [World.cell?, kx]
            have c2 : wr.cell? ⟨X, 2, none⟩ = some (.string xt) := by simp [World.cell?, kx]
            have hfl := flat_le (lines (dl s)) at' fa seg.length
            rw [← HSGD.out, HFL.out, ← size_dl] at hfl
            have hlen : (acc ++ ((seg.map dl).take seg.length).flatten).length + xt.size ≤ 140737488355328 ∧ (acc ++ ((seg.map dl).take seg.length).flatten).length + xt.size ≤ (i + 1) * 4000000 := by
              rw [List.length_append, Nat.add_mul]
              have : i * 4000000 ≤ 2000000 * 4000000 := Nat.mul_le_mul_right _ (by omega)
              omega
            have HLEN := Lib.hid hlen
            clear hfl hlen kw kb
            go_wp2_with fail
            refine (Bw.writeString xt KW.out HLEN.out.1 hksz).mono ?_
            rintro e w6 ⟨rfl, h6, b6, k6⟩
            have H6 := Lib.hid h6
            have B6 := Lib.hid b6
            have K6 := k6 X _ kx (by simpa using HXB.out) (by intro c fz e; cases e)
            have d1 : w6.cell? ⟨X, 1, none⟩ = some (.int .i64 tb) := by simp [World.cell?, K6]
            clear h6 b6 k6 kx K6 c1 c2
            go_wp2_with fail
            go_roundw
            case rel =>
              refine ⟨i + 1, tb, tb, (acc ++ ((seg.map dl).take seg.length).flatten) ++ dl xt, by omega, rfl, by go_num, HFIT2.out, by omega, j3, ?_, ?_, H6.out, KB.out.trans B6.out⟩
              · rw [HAP2.out, Int.toNat_natCast, Int.toNat_natCast, ← HSGD.out, List.take_of_length_le (by simp), List.append_assoc, List.append_assoc]
              · rw [List.length_append, ← size_dl]; exact HLEN.out.2
            case measure => simp [intOf]; omega
      · obtain rfl : i = l.length := by omega
        rw [List.drop_length, apL] at hap0
        obtain ⟨a', hif⟩ : ∃ a', (if cap = at' then a0 else a0.map (fun q => q.add at')) = a' := ⟨_, rfl⟩
        have hseg := seg_row HRW2.out hatn (Nat.le_refl _) hcap
        rw [hif] at hseg
        have hsegl : ((xs.take xs.length).drop at').length = xs.length - at' := by simp
        have hsegd : ((xs.take xs.length).drop at').map dl = ((lines (dl s)).take xs.length).drop at' := by rw [← HXS.out, List.map_drop, List.map_take]
        have hsegd2 : ((xs.take xs.length).drop at').map dl = (lines (dl s)).drop at' := by rw [hsegd, HN.out, List.take_length]
        have HSG := Lib.hid hseg
        have HSGL := Lib.hid hsegl
        have HSGD := Lib.hid hsegd
        have HSGD2 := Lib.hid hsegd2
        have HAP0 := Lib.hid hap0
        have j0i : (0 : Int) ≤ (at' : Int) := by omega
        have j1i : (at' : Int) ≤ (xs.length : Int) := by omega
        clear hseg hsegl hsegd hsegd2 hap0 hbel
        go_wp2_with fail
        clear hif
        generalize hsg : (xs.take xs.length).drop at' = seg at *
        have HSEQ := Lib.hid hsg
        clear hsg
        rw [← HSGL.out]
        go_loopw [52] (fun s52 wq => ∃ j : Nat, j ≤ seg.length ∧ s52 = .int .i64 j ∧ Bw w2.heap.size w2.heap.size (acc ++ ((seg.map dl).take j).flatten) wq ∧ Below w2.heap.size w2 wq) (fun s52 _ => seg.length - (intOf s52).toNat)
        case atStart => exact ⟨0, by omega, rfl, by simpa using HBW.out, HBEL.out⟩
        case round =>
          clear HBW HBEL
          obtain ⟨j, hj, rfl, kw, kb⟩ := hrel
          have KW := Lib.hid kw
          have KB := Lib.hid kb
          have hksz := kb.size
          by_cases hjl : j < seg.length
          · obtain ⟨gb, go, rfl, hgb, hgc⟩ := HSG.out.at (by intro e; simp [e] at hjl)
            have gc := strF_at ((hgc j hjl).below kb hgb)
            rw [Nat.mul_one] at gc
            have hfl := flat_le (lines (dl s)) at' xs.length (j + 1)
            have hfs := flat_seg (lines (dl s)) at' xs.length j (by rw [← HSGD.out, List.length_map]; exact hjl)
            rw [hfs, HFL.out, List.length_append, ← size_dl] at hfl
            have hmj : (((lines (dl s)).take xs.length).drop at')[j]'(by rw [← HSGD.out, List.length_map]; exact hjl) = dl seg[j] := by
              have := congrArg (fun q => q[j]?) HSGD.out
              simp only [List.getElem?_map, List.getElem?_eq_getElem hjl, Option.map_some] at this
              rw [List.getElem?_eq_getElem (by rw [← HSGD.out, List.length_map]; exact hjl)] at this
              exact (Option.some.inj this).symm
            rw [hmj] at hfs hfl
            rw [← size_dl] at hfl
            rw [← HSGD.out] at hfs hfl
            have HFS := Lib.hid hfs
            have hlen : (acc ++ ((seg.map dl).take j).flatten).length + seg[j].size ≤ 140737488355328 := by
              rw [List.length_append]
              have : l.length * 4000000 ≤ 2000000 * 4000000 := Nat.mul_le_mul_right _ (by omega)
              omega
            have HLEN := Lib.hid hlen
            have hjb : (j : Int) < 2000000 := by have := HSGL.out; omega
            have hj0 : (0 : Int) ≤ (j : Int) := by omega
            clear hfl hfs hmj hlen kw kb hgc
            generalize seg[j] = xj at *
            go_wp2_with fail
            refine (Bw.writeString xj KW.out HLEN.out hksz).mono ?_
            rintro e w6 ⟨rfl, h6, b6, k6⟩
            have H6 := Lib.hid h6
            have B6 := Lib.hid b6
            clear h6 b6 k6
            go_wp2_with fail
            go_roundw
            case rel => exact ⟨j + 1, by omega, by go_num, by rw [HFS.out, ← List.append_assoc]; exact H6.out, KB.out.trans B6.out⟩
            case measure => simp [intOf]; omega
          · obtain rfl : j = seg.length := by omega
            clear kw kb
            go_wp2_with fail
            refine (Bw.string KW.out hksz).mono ?_
            rintro e w6 ⟨rfl, b6⟩
            have B6 := Lib.hid b6
            clear b6
            go_wp2_with fail
            go_ret2
            refine ⟨?_, HB1.out.trans ((HB2.out.trans ((KB.out.trans B6.out).mono hsz2)).mono hsz1)⟩
            unfold applyE
            rw [← HN.out, if_pos HF.out, HAP0.out, ← HSGD2.out, List.take_of_length_le (by simp)]
            rfl
end Go.Proofs.YtodjhgalbaelkaaDoor

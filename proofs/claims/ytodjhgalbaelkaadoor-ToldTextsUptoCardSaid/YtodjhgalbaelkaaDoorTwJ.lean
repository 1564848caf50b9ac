/- told: changes. -/
import Derived.Test.YtodjhgalbaelkaaDoorTpB
import Derived.IntWalk
namespace Go.Proofs.YtodjhgalbaelkaaDoor
open Go.RowKit Go.BigFrame Go.Shelf
set_option linter.unusedVariables false

theorem okC_path {p : Option ByteArray} {c : Chg} (h : isPath (dl c.n) = false) : okC p c = false := by unfold okC; simp [h]
theorem okC_len {p : Option ByteArray} {c : Chg} (h : c.es.length = 0) : okC p c = false := by unfold okC; simp [h]
theorem okC_le {q : ByteArray} {c : Chg} (h : leB (dl c.n) (dl q) = true) : okC (some q) c = false := by unfold okC; simp [h]
theorem okC_es {p : Option ByteArray} {c : Chg} (h : okEs (-1) c.es = false) : okC p c = false := by unfold okC; simp [h]
theorem okC_ok {p : Option ByteArray} {c : Chg} (h1 : isPath (dl c.n) = true) (h2 : c.es.length ≠ 0) (h3 : ∀ q, p = some q → leB (dl c.n) (dl q) = false) (h4 : okEs (-1) c.es = true) : okC p c = true := by
  unfold okC
  cases p with
  | none => simp [h1, h2, h4]
  | some q => simp [h1, h2, h4, h3 q rfl]

/-- The inner loop, and what is behind it. -/
def InI (w W5 : World) (es : List Edi) (j : Nat) (last : Int) (wq : World) : Prop := okEs (-1) es = okEs last (es.drop j) ∧ Below W5.heap.size W5 wq

set_option maxRecDepth 100000 in
set_option maxHeartbeats 16000000 in
theorem Td.changes (a : Option Addr) (c : Nat) (l : List Chg) (w : World) (hr : ChsAt w a l) (hb : Bnd l) :
    Calls Tryd.prog 17 #[.slice a l.length c] w fun e w' => e = .returned (.bool (okCs none l)) ∧ Below w.heap.size w w' := by
  obtain ⟨r, hrr⟩ : ∃ r, okCs none l = r := ⟨_, rfl⟩
  rw [hrr]
  have HR := Lib.hid hrr
  have HROW := Lib.hid hr
  have HB := Lib.hid hb
  have hll := hb.len
  clear hrr hr hb
  go_enter Tryd.func17, Tryd.ntmps17
  go_wp2
  go_loopw [10] (fun s10 wr => ∃ i : Nat, i ≤ l.length ∧ s10 = .int .i64 i ∧ okCs none l = okCs (prevOf l i) (l.drop i) ∧ Below w.heap.size w wr) (fun s10 _ => l.length - (intOf s10).toNat)
  case atStart => exact ⟨0, by omega, rfl, rfl, Below.refl _ _⟩
  case round =>
    obtain ⟨i, hi, rfl, hinv, hbel⟩ := hrel
    have HI := Lib.hid hinv
    have HBEL := Lib.hid hbel
    have hsz := hbel.size
    clear hinv
    by_cases hlt : i < l.length
    · have hch := HROW.out.below hbel
      obtain ⟨b, off, rfl, hbw, hc⟩ := hch.1.at (by intro e; simp [e] at hlt)
      obtain ⟨g0, g1⟩ := Chg.at (w := wr) (b := b) (o := off + i * 2) (c := l[i]) (hc i hlt)
      have hst := okCs_at l i hlt (prevOf l i)
      have hin := hch.2 l[i] (List.getElem_mem hlt)
      have hnl := HB.out.n l[i] (List.getElem_mem hlt)
      have hel := HB.out.es l[i] (List.getElem_mem hlt)
      have htl := HB.out.t l[i] (List.getElem_mem hlt)
      have HST := Lib.hid hst
      have HIN := Lib.hid hin
      have HTL := Lib.hid htl
      obtain ⟨W5, hW5⟩ : ∃ W5, W5 = wr.alloc (.cells #[.string l[i].n, .slice l[i].ea l[i].es.length l[i].ec] 48) := ⟨_, rfl⟩
      have hbx : W5.heap[wr.heap.size]? = some (.cells #[.string l[i].n, .slice l[i].ea l[i].es.length l[i].ec] 48 (0, 0)) := by rw [hW5]; exact heap_alloc_new _ _
      have hb5 : Below wr.heap.size wr W5 := by rw [hW5]; exact below_alloc _ _
      have hprev : ∀ hi0 : 0 < i, ∃ q : ByteArray, prevOf l i = some q ∧ W5.cell? ⟨b, off + (i - 1) * 2, none⟩ = some (.string q) := fun hi0 => by
        refine ⟨l[i - 1].n, ?_, ?_⟩
        · obtain ⟨k, rfl⟩ : ∃ k, i = k + 1 := ⟨i - 1, by omega⟩
          show l[k]?.map (·.n) = _
          rw [List.getElem?_eq_getElem (by omega)]; rfl
        · exact (hb5.cell (p := ⟨b, off + (i - 1) * 2, none⟩) hbw).trans (Chg.at (w := wr) (b := b) (o := off + (i - 1) * 2) (c := l[i - 1]) (hc (i - 1) (by omega))).1
      have HW5 := Lib.hid hW5
      have HBX := Lib.hid hbx
      have HB5 := Lib.hid hb5
      have HPREV := Lib.hid hprev
      have hw5s : wr.heap.size < W5.heap.size := by rw [hW5]; simp
      clear hch hc hst hin htl hW5 hbx hb5 hprev HROW hbel
      generalize l[i] = x at *
      obtain ⟨xn, xa, xc, xes⟩ := x
      simp only at *
      have u0 : ∀ u : Ext W5, u.w.cell? ⟨wr.heap.size, 0, none⟩ = some (.string xn) := fun u => u.cell (by simp [World.cell?, HBX.out])
      have u1 : ∀ u : Ext W5, u.w.cell? ⟨wr.heap.size, 1, none⟩ = some (.slice xa xes.length xc) := fun u => u.cell (by simp [World.cell?, HBX.out])
      have hpath : ∀ u : Ext W5, Calls Tryd.prog 35 #[.string xn] u.w fun e w' => e = .returned (.bool (isPath (dl xn))) ∧ Below u.w.heap.size u.w w' := fun u => Td.path xn u.w (by omega)
      cases hp : isPath (dl xn)
      · have hfalse := okC_path (p := prevOf l i) (c := ⟨xn, xa, xc, xes⟩) hp
        rw [hp] at hpath
        have HPATH := Lib.hid hpath
        have HFA := Lib.hid hfalse
        clear hp hfalse hpath
        go_wp2_with fail
        rw [← HW5.out]
        clear g0 g1
        refine wp_region_quiet (C := fun w' => ∃ u : Ext W5, w' = u.w) (by kernel_rfl) (by kernel_rfl) (Ext.drew W5) ?_
        dsimp only []
        repeat (go_big_quiet_step (fail))
        go_big_quiet_step ((go_at_call 35; rename_i u; refine (HPATH.out u).mono ?_; rintro e w2 ⟨rfl, b2⟩; exact ⟨rfl, u.on b2⟩))
        repeat (go_big_quiet_step (fail))
        refine wpQuiet_nil ?_
        rintro w' ⟨u, rfl⟩
        have hu := u.below
        have v1 := u1 u
        clear u0 u1
        generalize u.w = uw at *
        clear u
        have HU := Lib.hid hu
        clear hu v1
        go_wp2
        go_ret
        exact ⟨ret_bool (by rw [← HR.out, HI.out, HST.out, HFA.out]; rfl), HBEL.out.trans ((HB5.out.trans (HU.out.mono (Nat.le_of_lt hw5s))).mono hsz)⟩
      have HP := Lib.hid hp
      rw [hp] at hpath
      have HPATH := Lib.hid hpath
      clear hp hpath
      by_cases hl0 : xes.length = 0
      · have hfalse := okC_len (p := prevOf l i) (c := ⟨xn, xa, xc, xes⟩) hl0
        have HFA := Lib.hid hfalse
        have hx0 : ((xes.length : Int) == 0) = true := by rw [beq_iff_eq]; omega
        clear hl0 hfalse
        go_wp2_with fail
        rw [← HW5.out]
        clear g0 g1
        refine wp_region_quiet (C := fun w' => ∃ u : Ext W5, w' = u.w) (by kernel_rfl) (by kernel_rfl) (Ext.drew W5) ?_
        dsimp only []
        repeat (go_big_quiet_step (fail))
        go_big_quiet_step ((go_at_call 35; rename_i u; refine (HPATH.out u).mono ?_; rintro e w2 ⟨rfl, b2⟩; exact ⟨rfl, u.on b2⟩))
        repeat (go_big_quiet_step (fail))
        refine wpQuiet_nil ?_
        rintro w' ⟨u, rfl⟩
        have hu := u.below
        have v1 := u1 u
        clear u0 u1
        generalize u.w = uw at *
        clear u
        have HU := Lib.hid hu
        clear hu v1
        go_wp2
        go_ret
        exact ⟨ret_bool (by rw [← HR.out, HI.out, HST.out, HFA.out]; rfl), HBEL.out.trans ((HB5.out.trans (HU.out.mono (Nat.le_of_lt hw5s))).mono hsz)⟩
      have HL0 := Lib.hid hl0
      have hx0 : ((xes.length : Int) == 0) = false := by rw [beq_eq_false_iff_ne]; omega
      clear hl0
      by_cases hi0 : i = 0
      · have HQ : Hid (∀ q, prevOf l i = some q → leB (dl xn) (dl q) = false) := Lib.hid (fun q hq => by rw [hi0] at hq; cases hq)
        have hi1 : ¬ (0 : Int) < (i : Int) := by omega
        have hi2 : decide (0 < i) = false := by simpa using hi0
        clear hi0
        go_wp2_with fail
        rw [← HW5.out]
        clear g0 g1
        refine wp_region_quiet (C := fun w' => ∃ u : Ext W5, w' = u.w) (by kernel_rfl) (by kernel_rfl) (Ext.drew W5) ?_
        dsimp only []
        repeat (go_big_quiet_step (fail))
        go_big_quiet_step ((go_at_call 35; rename_i u; refine (HPATH.out u).mono ?_; rintro e w2 ⟨rfl, b2⟩; exact ⟨rfl, u.on b2⟩))
        repeat (go_big_quiet_step (fail))
        refine wpQuiet_nil ?_
        rintro w' ⟨u, rfl⟩
        have hu := u.below
        have v1 := u1 u
        clear u0 u1
        generalize u.w = uw at *
        clear u
        have HU := Lib.hid hu
        have husz := hu.size
        have HV1 := Lib.hid v1
        clear hu
        go_wp2_with fail
        clear v1
        go_loopw [5, 43] (fun s5 s43 wq => ∃ (j : Nat) (last : Int), j ≤ xes.length ∧ s43 = .int .i64 j ∧ s5 = .int .i64 last ∧ okEs (-1) xes = okEs last (xes.drop j) ∧ Below W5.heap.size W5 wq) (fun _ s43 _ => xes.length - (intOf s43).toNat)
        case atStart => exact ⟨0, -1, by omega, rfl, rfl, rfl, HU.out⟩
        case round =>
          clear HU HV1 husz
          obtain ⟨j, last, hj, rfl, rfl, hiv, kb⟩ := hrel
          have HIV := Lib.hid hiv
          have KB := Lib.hid kb
          have hksz := kb.size
          clear hiv
          by_cases hjl : j < xes.length
          · obtain ⟨eb, eo, rfl, heb, hec⟩ := HIN.out.at (by intro e; simp [e] at hjl)
            obtain ⟨q0, q1, q2⟩ := Edi.at (w := wr) (b := eb) (o := eo + j * 3) (x := xes[j]) ((hec j hjl).below (HB5.out.trans (kb.mono (Nat.le_of_lt hw5s))) heb)
            have hes := okEs_at last xes j hjl
            have hxt := HTL.out xes[j] (List.getElem_mem hjl)
            have hdef : okE last xes[j] = nextB last xes[j].a xes[j].b (lines (dl xes[j].t)).length := rfl
            have HES := Lib.hid hes
            have HDEF := Lib.hid hdef
            clear hec hes hdef kb
            generalize xes[j] = y at *
            obtain ⟨ya, yb, yt⟩ := y
            simp only at *
            obtain ⟨W6, hW6⟩ : ∃ W6, W6 = wr.alloc (.cells #[.int .i64 ya, .int .i64 yb, .string yt] 50) := ⟨_, rfl⟩
            have hy6 : W6.heap[wr.heap.size]? = some (.cells #[.int .i64 ya, .int .i64 yb, .string yt] 50 (0, 0)) := by rw [hW6]; exact heap_alloc_new _ _
            have hb6 : Below wr.heap.size wr W6 := by rw [hW6]; exact below_alloc _ _
            have y0 : W6.cell? ⟨wr.heap.size, 0, none⟩ = some (.int .i64 ya) := by simp [World.cell?, hy6]
            have y1 : W6.cell? ⟨wr.heap.size, 1, none⟩ = some (.int .i64 yb) := by simp [World.cell?, hy6]
            have y2 : W6.cell? ⟨wr.heap.size, 2, none⟩ = some (.string yt) := by simp [World.cell?, hy6]
            have HW6 := Lib.hid hW6
            have HB6 := Lib.hid hb6
            clear hW6 hy6 hb6
            cases hn : nextB last ya yb (lines (dl yt)).length
            all_goals
              have HN := Lib.hid hn
              clear hn
              go_wp2_with fail
              rw [← HW6.out]
              refine wp_region_quiet_lit (by kernel_rfl) (by kernel_rfl) ?_
              repeat (go_big_quiet_step (fail))
              go_big_quiet_step ((go_at_call 31; exact Calls.quiet_of_same (Td.count yt _ (by omega))))
              repeat (go_big_quiet_step (fail))
              go_big_quiet_step ((go_at_call 36; exact Calls.quiet_of_same (Td.next _ _ _ _ _)))
              rw [show nextB last ya yb (lines yt.data.toList).length = _ from HN.out]
              repeat (go_big_quiet_step (fail))
              refine wpQuiet_nil ?_
              rintro w' ⟨nq, rfl⟩
              clear q0 q1 q2 y0 y2
            · clear y1
              go_wp2
              go_ret
              refine ⟨ret_bool ?_, HBEL.out.trans ((HB5.out.trans ((KB.out.trans ((HB6.out.trans (below_drewN _ _ _)).mono hksz)).mono (Nat.le_of_lt hw5s))).mono hsz)⟩
              rw [← HR.out, HI.out, HST.out, okC_es (by show okEs (-1) xes = false; rw [HIV.out, HES.out, HDEF.out, HN.out]; rfl)]; rfl
            · go_wp2
              go_roundw
              case rel => exact ⟨j + 1, yb, by omega, by go_num, rfl, by rw [HIV.out, HES.out, HDEF.out, HN.out]; rfl, KB.out.trans ((HB6.out.trans (below_drewN _ _ _)).mono hksz)⟩
              case measure => simp [intOf]; omega
          · obtain rfl : j = xes.length := by omega
            clear kb
            go_wp2
            go_roundw
            case rel =>
              refine ⟨i + 1, by omega, by go_num, ?_, HBEL.out.trans ((HB5.out.trans (KB.out.mono (Nat.le_of_lt hw5s))).mono hsz)⟩
              rw [HI.out, HST.out, okC_ok (c := ⟨xn, xa, xc, xes⟩) HP.out HL0.out HQ.out (by show okEs (-1) xes = true; rw [HIV.out, List.drop_length]; rfl)]; rfl
            case measure => simp [intOf]; omega
      obtain ⟨q, hq, hqc⟩ := HPREV.out (by omega)
      have hi1 : (0 : Int) < (i : Int) := by omega
      have hi2 : 0 < i := by omega
      have w1 : IntKind.i64.wrap ((i : Int) - 1) = (i : Int) - 1 := IntWalk.i64_in _ (by omega)
      have w2 : (0 : Int) ≤ (i : Int) - 1 := by omega
      have w3 : (i : Int) - 1 < (l.length : Int) := by omega
      have w4 : ((i : Int) - 1).toNat = i - 1 := by omega
      have u2 : ∀ u : Ext W5, u.w.cell? ⟨b, off + (i - 1) * 2, none⟩ = some (.string q) := fun u => u.cell hqc
      clear hqc
      cases hb1 : Op.bytesLess xn.toList q.toList
      · cases hb2 : (xn.toList == q.toList)
        · have hle : leB (dl xn) (dl q) = false := by unfold leB; rw [show dl xn = xn.toList from (Lib.toList_data _).symm, show dl q = q.toList from (Lib.toList_data _).symm, hb1, hb2]; rfl
          have HQ : Hid (∀ q', prevOf l i = some q' → leB (dl xn) (dl q') = false) := Lib.hid (fun q' h' => by rw [hq] at h'; cases h'; exact hle)
          clear hle hq
          go_wp2_with fail
          rw [← HW5.out]
          clear g0 g1
          refine wp_region_quiet (C := fun w' => ∃ u : Ext W5, w' = u.w) (by kernel_rfl) (by kernel_rfl) (Ext.drew W5) ?_
          dsimp only []
          repeat (go_big_quiet_step (fail))
          go_big_quiet_step ((go_at_call 35; rename_i u; refine (HPATH.out u).mono ?_; rintro e w2 ⟨rfl, b2⟩; exact ⟨rfl, u.on b2⟩))
          repeat (go_big_quiet_step (fail))
          refine wpQuiet_nil ?_
          rintro w' ⟨u, rfl⟩
          have hu := u.below
          have v1 := u1 u
          clear u0 u1
          generalize u.w = uw at *
          clear u
          have HU := Lib.hid hu
          have husz := hu.size
          have HV1 := Lib.hid v1
          clear hu
          go_wp2_with fail
          clear v1
          go_loopw [5, 43] (fun s5 s43 wq => ∃ (j : Nat) (last : Int), j ≤ xes.length ∧ s43 = .int .i64 j ∧ s5 = .int .i64 last ∧ okEs (-1) xes = okEs last (xes.drop j) ∧ Below W5.heap.size W5 wq) (fun _ s43 _ => xes.length - (intOf s43).toNat)
          case atStart => exact ⟨0, -1, by omega, rfl, rfl, rfl, HU.out⟩
          case round =>
            clear HU HV1 husz
            obtain ⟨j, last, hj, rfl, rfl, hiv, kb⟩ := hrel
            have HIV := Lib.hid hiv
            have KB := Lib.hid kb
            have hksz := kb.size
            clear hiv
            by_cases hjl : j < xes.length
            · obtain ⟨eb, eo, rfl, heb, hec⟩ := HIN.out.at (by intro e; simp [e] at hjl)
              obtain ⟨q0, q1, q2⟩ := Edi.at (w := wr) (b := eb) (o := eo + j * 3) (x := xes[j]) ((hec j hjl).below (HB5.out.trans (kb.mono (Nat.le_of_lt hw5s))) heb)
              have hes := okEs_at last xes j hjl
              have hxt := HTL.out xes[j] (List.getElem_mem hjl)
              have hdef : okE last xes[j] = nextB last xes[j].a xes[j].b (lines (dl xes[j].t)).length := rfl
              have HES := Lib.hid hes
              have HDEF := Lib.hid hdef
              clear hec hes hdef kb
              generalize xes[j] = y at *
              obtain ⟨ya, yb, yt⟩ := y
              simp only at *
              obtain ⟨W6, hW6⟩ : ∃ W6, W6 = wr.alloc (.cells #[.int .i64 ya, .int .i64 yb, .string yt] 50) := ⟨_, rfl⟩
              have hy6 : W6.heap[wr.heap.size]? = some (.cells #[.int .i64 ya, .int .i64 yb, .string yt] 50 (0, 0)) := by rw [hW6]; exact heap_alloc_new _ _
              have hb6 : Below wr.heap.size wr W6 := by rw [hW6]; exact below_alloc _ _
              have y0 : W6.cell? ⟨wr.heap.size, 0, none⟩ = some (.int .i64 ya) := by simp [World.cell?, hy6]
              have y1 : W6.cell? ⟨wr.heap.size, 1, none⟩ = some (.int .i64 yb) := by simp [World.cell?, hy6]
              have y2 : W6.cell? ⟨wr.heap.size, 2, none⟩ = some (.string yt) := by simp [World.cell?, hy6]
              have HW6 := Lib.hid hW6
              have HB6 := Lib.hid hb6
              clear hW6 hy6 hb6
              cases hn : nextB last ya yb (lines (dl yt)).length
              all_goals
                have HN := Lib.hid hn
                clear hn
                go_wp2_with fail
                rw [← HW6.out]
                refine wp_region_quiet_lit (by kernel_rfl) (by kernel_rfl) ?_
                repeat (go_big_quiet_step (fail))
                go_big_quiet_step ((go_at_call 31; exact Calls.quiet_of_same (Td.count yt _ (by omega))))
                repeat (go_big_quiet_step (fail))
                go_big_quiet_step ((go_at_call 36; exact Calls.quiet_of_same (Td.next _ _ _ _ _)))
                rw [show nextB last ya yb (lines yt.data.toList).length = _ from HN.out]
                repeat (go_big_quiet_step (fail))
                refine wpQuiet_nil ?_
                rintro w' ⟨nq, rfl⟩
                clear q0 q1 q2 y0 y2
              · clear y1
                go_wp2
                go_ret
                refine ⟨ret_bool ?_, HBEL.out.trans ((HB5.out.trans ((KB.out.trans ((HB6.out.trans (below_drewN _ _ _)).mono hksz)).mono (Nat.le_of_lt hw5s))).mono hsz)⟩
                rw [← HR.out, HI.out, HST.out, okC_es (by show okEs (-1) xes = false; rw [HIV.out, HES.out, HDEF.out, HN.out]; rfl)]; rfl
              · go_wp2
                go_roundw
                case rel => exact ⟨j + 1, yb, by omega, by go_num, rfl, by rw [HIV.out, HES.out, HDEF.out, HN.out]; rfl, KB.out.trans ((HB6.out.trans (below_drewN _ _ _)).mono hksz)⟩
                case measure => simp [intOf]; omega
            · obtain rfl : j = xes.length := by omega
              clear kb
              go_wp2
              go_roundw
              case rel =>
                refine ⟨i + 1, by omega, by go_num, ?_, HBEL.out.trans ((HB5.out.trans (KB.out.mono (Nat.le_of_lt hw5s))).mono hsz)⟩
                rw [HI.out, HST.out, okC_ok (c := ⟨xn, xa, xc, xes⟩) HP.out HL0.out HQ.out (by show okEs (-1) xes = true; rw [HIV.out, List.drop_length]; rfl)]; rfl
              case measure => simp [intOf]; omega
        · have hle : leB (dl xn) (dl q) = true := by unfold leB; rw [show dl xn = xn.toList from (Lib.toList_data _).symm, show dl q = q.toList from (Lib.toList_data _).symm, hb1, hb2]; rfl
          have HFA : Hid (okC (prevOf l i) ⟨xn, xa, xc, xes⟩ = false) := Lib.hid (by rw [hq]; exact okC_le hle)
          clear hle hq
          go_wp2_with fail
          rw [← HW5.out]
          clear g0 g1
          refine wp_region_quiet (C := fun w' => ∃ u : Ext W5, w' = u.w) (by kernel_rfl) (by kernel_rfl) (Ext.drew W5) ?_
          dsimp only []
          repeat (go_big_quiet_step (fail))
          go_big_quiet_step ((go_at_call 35; rename_i u; refine (HPATH.out u).mono ?_; rintro e w2 ⟨rfl, b2⟩; exact ⟨rfl, u.on b2⟩))
          repeat (go_big_quiet_step (fail))
          refine wpQuiet_nil ?_
          rintro w' ⟨u, rfl⟩
          have hu := u.below
          have v1 := u1 u
          clear u0 u1
          generalize u.w = uw at *
          clear u
          have HU := Lib.hid hu
          clear hu v1
          go_wp2
          go_ret
          exact ⟨ret_bool (by rw [← HR.out, HI.out, HST.out, HFA.out]; rfl), HBEL.out.trans ((HB5.out.trans (HU.out.mono (Nat.le_of_lt hw5s))).mono hsz)⟩
      · have hle : leB (dl xn) (dl q) = true := by unfold leB; rw [show dl xn = xn.toList from (Lib.toList_data _).symm, show dl q = q.toList from (Lib.toList_data _).symm, hb1]; rfl
        have HFA : Hid (okC (prevOf l i) ⟨xn, xa, xc, xes⟩ = false) := Lib.hid (by rw [hq]; exact okC_le hle)
        clear hle hq
        go_wp2_with fail
        rw [← HW5.out]
        clear g0 g1
        refine wp_region_quiet (C := fun w' => ∃ u : Ext W5, w' = u.w) (by kernel_rfl) (by kernel_rfl) (Ext.drew W5) ?_
        dsimp only []
        repeat (go_big_quiet_step (fail))
        go_big_quiet_step ((go_at_call 35; rename_i u; refine (HPATH.out u).mono ?_; rintro e w2 ⟨rfl, b2⟩; exact ⟨rfl, u.on b2⟩))
        repeat (go_big_quiet_step (fail))
        refine wpQuiet_nil ?_
        rintro w' ⟨u, rfl⟩
        have hu := u.below
        have v1 := u1 u
        clear u0 u1
        generalize u.w = uw at *
        clear u
        have HU := Lib.hid hu
        clear hu v1
        go_wp2
        go_ret
        exact ⟨ret_bool (by rw [← HR.out, HI.out, HST.out, HFA.out]; rfl), HBEL.out.trans ((HB5.out.trans (HU.out.mono (Nat.le_of_lt hw5s))).mono hsz)⟩
    · obtain rfl : i = l.length := by omega
      clear HROW hbel
      go_wp2
      go_ret
      exact ⟨ret_bool (by rw [← HR.out, HI.out, List.drop_length]; rfl), HBEL.out⟩
end Go.Proofs.YtodjhgalbaelkaaDoor

/- The document's answer for told: Valid. Printed by wip/valid_gen.py. -/
import Derived.Test.YtodjhgalbaelkaaDoorTrE
namespace Go.Proofs.YtodjhgalbaelkaaDoor
open Go.RowKit Go.BigFrame Go.Shelf
set_option linter.unusedVariables false

def lastOf (es : List Edi) (j : Nat) : Int := match j with | 0 => -1 | k + 1 => match es[k]? with | some x => x.b | none => -1
theorem last_succ (es : List Edi) (j : Nat) (h : j < es.length) : lastOf es (j + 1) = es[j].b := by
  unfold lastOf; simp only; rw [List.getElem?_eq_getElem h]
theorem okE_no {last : Int} {x : Edi} (h : x.a < 0 ∨ x.b < x.a ∨ 65536 < x.b ∨ (x.a = x.b ∧ x.t.toList.isEmpty = true) ∨ (65536 : Int) < ((lines (dl x.t)).length : Nat) ∨ x.a ≤ last) : okE last x = false := by
  cases hk : okE last x
  · rfl
  · exfalso
    have h1 := nextB_in hk
    rcases h with h | h | h | ⟨h, ht⟩ | h | h
    · omega
    · omega
    · omega
    · have : dl x.t = [] := by rw [Lib.toList_data] at ht; simpa using ht
      rw [this] at h1
      simp [lines] at h1
      omega
    · omega
    · omega
theorem okE_yes {last a b : Int} {t : ByteArray} (h1 : ¬ a < 0) (h2 : ¬ b < a) (h3 : ¬ (65536 : Int) < b) (h4 : a < b ∨ 0 < (lines (dl t)).length) (h5 : ¬ (65536 : Int) < ((lines (dl t)).length : Nat)) (h6 : last < a) : okE last ⟨a, b, t⟩ = true := by
  unfold okE nextB
  simp only [Bool.and_eq_true, Bool.or_eq_true, decide_eq_true_eq]
  refine ⟨⟨⟨⟨⟨h6, by omega⟩, by omega⟩, by omega⟩, by omega⟩, ?_⟩
  rcases h4 with h4 | h4
  · exact .inl h4
  · exact .inr (by omega)
theorem okE_txt {a b : Int} {t : ByteArray} (h : a < b ∨ t.toList.isEmpty = false) : a < b ∨ 0 < (lines (dl t)).length := by
  rcases h with h | h
  · exact .inl h
  · right
    rw [Lib.toList_data] at h
    apply List.length_pos_iff.2
    intro e
    have := lines_nil.1 e
    rw [show t.data.toList = dl t from rfl, this] at h
    cases h

set_option maxRecDepth 100000 in
set_option maxHeartbeats 32000000 in
theorem Rf.valid (a : Option Addr) (c : Nat) (l : List Chg) (w : World) (hr : ChsAt w a l) (hb : Bnd l) :
    Calls Tryd.prog 25 #[.slice a l.length c] w fun e w' => e = .returned (.bool (okCs none l)) ∧ Below w.heap.size w w' := by
  obtain ⟨r, hrr⟩ : ∃ r, okCs none l = r := ⟨_, rfl⟩
  rw [hrr]
  have HR := Lib.hid hrr
  have HROW := Lib.hid hr
  have HB := Lib.hid hb
  have hll := hb.len
  clear hrr hr hb
  go_enter Tryd.func25, Tryd.ntmps25
  go_wp2
  go_loopw [3] (fun s3 wr => ∃ i : Nat, i ≤ l.length ∧ s3 = .int .i64 i ∧ okCs none l = okCs (prevOf l i) (l.drop i) ∧ Below w.heap.size w wr) (fun s3 _ => l.length - (intOf s3).toNat)
  case atStart => exact ⟨0, by omega, rfl, rfl, Below.refl _ _⟩
  case round =>
    obtain ⟨i, hi, rfl, hinv, hbel⟩ := hrel
    have HI := Lib.hid hinv
    have HBEL := Lib.hid hbel
    have hsz := hbel.size
    clear hinv
    by_cases hlt : i < l.length
    · have hch := HROW.out.below hbel
      obtain ⟨b, off, rfl, hbw, hc⟩ := hch.1.at (by intro e; simp [e] at hlt)
      obtain ⟨g0, g1⟩ := Chg.at (w := wr) (b := b) (o := off + i * 2) (c := l[i]) (hc i hlt)
      have hst := okCs_at l i hlt (prevOf l i)
      have hin := hch.2 l[i] (List.getElem_mem hlt)
      have hnl := HB.out.n l[i] (List.getElem_mem hlt)
      have hel := HB.out.es l[i] (List.getElem_mem hlt)
      have htl := HB.out.t l[i] (List.getElem_mem hlt)
      have hcci := hc i hlt
      have hprev : ∀ hi0 : 0 < i, ∃ q : ByteArray, prevOf l i = some q ∧ wr.cell? ⟨b, off + (i - 1) * 2, none⟩ = some (.string q) := fun hi0 => by
        refine ⟨l[i - 1].n, ?_, (Chg.at (w := wr) (b := b) (o := off + (i - 1) * 2) (c := l[i - 1]) (hc (i - 1) (by omega))).1⟩
        obtain ⟨k, rfl⟩ : ∃ k, i = k + 1 := ⟨i - 1, by omega⟩
        show l[k]?.map (·.n) = _
        rw [List.getElem?_eq_getElem (by omega)]; rfl
      have HST := Lib.hid hst
      have HIN := Lib.hid hin
      have HTL := Lib.hid htl
      have HPREV := Lib.hid hprev
      have HCC := Lib.hid hcci
      have HBW := Lib.hid hbw
      clear hch hc hst hin htl hprev HROW hbel hcci
      generalize l[i] = x at *
      obtain ⟨xn, xa, xc, xes⟩ := x
      simp only at *
      go_wp2_with fail
      refine (Rf.names xn wr (by omega)).mono ?_
      rintro e w1 ⟨⟨v, rfl⟩, b1⟩
      have B1 := Lib.hid b1
      have hs1 := b1.size
      have a0 : ∀ u : Ext w1, u.w.cell? ⟨b, off + i * 2, none⟩ = some (.string xn) := fun u => u.cell (by rw [b1.cell (by exact hbw)]; exact g0)
      have a1 : ∀ u : Ext w1, u.w.cell? ⟨b, off + i * 2 + 1, none⟩ = some (.slice xa xes.length xc) := fun u => u.cell (by rw [b1.cell (by exact hbw)]; exact g1)
      have hpv : ∀ hi0 : 0 < i, ∃ q : ByteArray, prevOf l i = some q ∧ w1.cell? ⟨b, off + (i - 1) * 2, none⟩ = some (.string q) := fun hi0 => by
        obtain ⟨q, h1, h2⟩ := HPREV.out hi0
        exact ⟨q, h1, by rw [b1.cell (by exact hbw)]; exact h2⟩
      have HPV := Lib.hid hpv
      clear b1 g0 g1 hpv hbw
      cases hp : isPath (dl xn)
      · have hfalse := okC_path (p := prevOf l i) (c := ⟨xn, xa, xc, xes⟩) hp
        have HFA := Lib.hid hfalse
        clear hp hfalse
        go_wp2_with fail
        refine wp_region_quiet (C := fun w' => ∃ u : Ext w1, w' = u.w) (by kernel_rfl) (by kernel_rfl) (Ext.drew w1) ?_
        dsimp only []
        repeat (go_big_quiet_step (fail))
        refine wpQuiet_nil ?_
        rintro w' ⟨u, rfl⟩
        have HU := Lib.hid u.below
        clear a0 a1
        generalize u.w = uw at *
        clear u
        go_wp2_with fail
        go_ret
        exact ⟨ret_bool (by rw [← HR.out, HI.out, HST.out, HFA.out]; rfl), HBEL.out.trans ((B1.out.trans (HU.out.mono B1.out.size)).mono hsz)⟩
      have HP := Lib.hid hp
      clear hp
      by_cases hl0 : xes.length = 0
      · have hfalse := okC_len (p := prevOf l i) (c := ⟨xn, xa, xc, xes⟩) hl0
        have HFA := Lib.hid hfalse
        have hx0 : ((xes.length : Int) == 0) = true := by rw [beq_iff_eq]; omega
        clear hl0 hfalse
        go_wp2_with fail
        refine wp_region_quiet (C := fun w' => ∃ u : Ext w1, w' = u.w) (by kernel_rfl) (by kernel_rfl) (Ext.drew w1) ?_
        dsimp only []
        repeat (go_big_quiet_step (fail))
        refine wpQuiet_nil ?_
        rintro w' ⟨u, rfl⟩
        have HU := Lib.hid u.below
        clear a0 a1
        generalize u.w = uw at *
        clear u
        go_wp2_with fail
        go_ret
        exact ⟨ret_bool (by rw [← HR.out, HI.out, HST.out, HFA.out]; rfl), HBEL.out.trans ((B1.out.trans (HU.out.mono B1.out.size)).mono hsz)⟩
      have HL0 := Lib.hid hl0
      have hx0 : ((xes.length : Int) == 0) = false := by rw [beq_eq_false_iff_ne]; omega
      clear hl0
      by_cases hi0 : i = 0
      · have HQ : Hid (∀ q, prevOf l i = some q → leB (dl xn) (dl q) = false) := Lib.hid (fun q hq => by rw [hi0] at hq; cases hq)
        have hi1 : ¬ (0 : Int) < (i : Int) := by omega
        have hi2 : decide (0 < i) = false := by simpa using hi0
        clear hi0
        go_wp2_with fail
        refine wp_region_quiet (C := fun w' => ∃ u : Ext w1, w' = u.w) (by kernel_rfl) (by kernel_rfl) (Ext.drew w1) ?_
        dsimp only []
        repeat (go_big_quiet_step (fail))
        refine wpQuiet_nil ?_
        rintro w' ⟨u, rfl⟩
        have HU := Lib.hid u.below
        clear a0 a1
        generalize u.w = uw at *
        clear u
        go_wp2_with fail
        go_loopw [6] (fun s6 wq => ∃ j : Nat, j ≤ xes.length ∧ s6 = .int .i64 j ∧ okEs (-1) xes = okEs (lastOf xes j) (xes.drop j) ∧ Below w1.heap.size w1 wq) (fun s6 _ => xes.length - (intOf s6).toNat)
        case atStart => exact ⟨0, by omega, rfl, rfl, HU.out⟩
        case round =>
          clear HU
          obtain ⟨j, hj, rfl, hiv, kb⟩ := hrel
          have HIV := Lib.hid hiv
          have KB := Lib.hid kb
          have hksz := kb.size
          have hb01 := (B1.out.trans (kb.mono B1.out.size))
          obtain ⟨g0, g1⟩ := Chg.at (w := wr) (b := b) (o := off + i * 2) (c := ⟨xn, xa, xc, xes⟩) (HCC.out.below hb01 HBW.out)
          clear hiv
          by_cases hjl : j < xes.length
          · obtain ⟨eb, eo, rfl, heb, hec⟩ := HIN.out.at (by intro e; simp [e] at hjl)
            obtain ⟨q0, q1, q2⟩ := Edi.at (w := wr) (b := eb) (o := eo + j * 3) (x := xes[j]) ((hec j hjl).below hb01 heb)
            have hes := okEs_at (lastOf xes j) xes j hjl
            rw [← last_succ xes j hjl] at hes
            have hxt := HTL.out xes[j] (List.getElem_mem hjl)
            have HLB := Lib.hid (last_succ xes j hjl)
            have hepv : ∀ hj0 : 0 < j, ∃ yp : Int, wr.cell? ⟨eb, eo + (j - 1) * 3 + 1, none⟩ = some (.int .i64 yp) ∧ lastOf xes j = yp := fun hj0 => by
              have h1 := (Edi.at (w := wr) (b := eb) (o := eo + (j - 1) * 3) (x := xes[j - 1]) ((hec (j - 1) (by omega)).below hb01 heb)).2.1
              refine ⟨_, h1, ?_⟩
              obtain ⟨k, rfl⟩ : ∃ k, j = k + 1 := ⟨j - 1, by omega⟩
              exact last_succ xes k (by omega)
            have HES := Lib.hid hes
            have EPW := Lib.hid hepv
            have HKB := Lib.hid hb01
            clear hec hes kb hepv hb01
            generalize xes[j] = y at *
            obtain ⟨ya, yb, yt⟩ := y
            simp only at *
            go_wp2_with fail
            obtain ⟨W6, hW6⟩ : ∃ W6, W6 = wr.alloc (.cells #[.int .i64 ya, .int .i64 yb, .string yt] 50) := ⟨_, rfl⟩
            have hy6 : W6.heap[wr.heap.size]? = some (.cells #[.int .i64 ya, .int .i64 yb, .string yt] 50 (0, 0)) := by rw [hW6]; exact heap_alloc_new _ _
            have hb6 : Below wr.heap.size wr W6 := by rw [hW6]; exact below_alloc _ _
            have hwl : wr.heap.size < W6.heap.size := by rw [hW6]; simp
            first | rw [← hW6] | (trace_state; fail)
            refine (Rf.getL yt W6 (by omega)).mono ?_
            rintro e w2 ⟨v, zs, rfl, hzs, hown, b2⟩
            obtain ⟨za, zc, rfl⟩ := row_shape hown
            obtain ⟨N, hN⟩ : ∃ N, N = zs.length := ⟨_, rfl⟩
            have hNl : N = (lines (dl yt)).length := by rw [hN, ← hzs]; simp
            rw [← hN]
            have HN := Lib.hid hNl
            have hb62 : Below wr.heap.size wr w2 := hb6.trans (b2.mono hb6.size)
            have hy2 := heap_below b2 hy6 hwl
            have e0 : ∀ u : Ext w2, u.w.cell? ⟨wr.heap.size, 0, none⟩ = some (.int .i64 ya) := fun u => u.cell (by simp [World.cell?, hy2])
            have e1 : ∀ u : Ext w2, u.w.cell? ⟨wr.heap.size, 1, none⟩ = some (.int .i64 yb) := fun u => u.cell (by simp [World.cell?, hy2])
            have e2 : ∀ u : Ext w2, u.w.cell? ⟨wr.heap.size, 2, none⟩ = some (.string yt) := fun u => u.cell (by simp [World.cell?, hy2])
            have r0 : ∀ u : Ext w2, u.w.cell? ⟨b, off + i * 2 + 1, none⟩ = some (.slice (some ⟨eb, eo, none⟩) xes.length xc) := fun u => u.cell (by
              rw [hb62.cell (by have := HBW.out; have := HKB.out.size; show b < _; omega)]; exact g1)
            have ep : True := trivial
            have EPV : Hid (∀ hj0 : 0 < j, ∃ yp : Int, w2.cell? ⟨eb, eo + (j - 1) * 3 + 1, none⟩ = some (.int .i64 yp) ∧ lastOf xes j = yp) := Lib.hid (fun hj0 => by
              obtain ⟨yp, h1, h2⟩ := EPW.out hj0
              refine ⟨yp, ?_, h2⟩
              rw [hb62.cell (by have := heb; have := HKB.out.size; show eb < _; omega)]; exact h1)
            have B2 := Lib.hid hb62
            have hN2 : (N : Int) ≤ 4000000 := by have h := lines_le (dl yt); rw [← size_dl, ← hNl] at h; omega
            clear hW6 hy6 hb6 hwl hzs hown b2 hN hNl hb62 hy2 g0 g1 q0 q1 q2 EPW
            by_cases c1 : ya < 0
            · have HNB : Hid (okE (lastOf xes j) ⟨ya, yb, yt⟩ = false) := Lib.hid (okE_no (.inl c1))
              go_wp2_with fail
              refine wp_region_quiet (C := fun w' => ∃ u : Ext w2, w' = u.w) (by kernel_rfl) (by kernel_rfl) (Ext.drew w2) ?_
              dsimp only []
              repeat (go_big_quiet_step (fail))
              refine wpQuiet_nil ?_
              rintro w' ⟨u, rfl⟩
              have HU2 := Lib.hid u.below
              clear e0 e1 e2 r0 ep
              generalize u.w = uw at *
              clear u
              go_wp2_with fail
              go_ret
              refine ⟨ret_bool ?_, HBEL.out.trans ((B1.out.trans ((KB.out.trans ((B2.out.trans (HU2.out.mono B2.out.size)).mono hksz)).mono B1.out.size)).mono hsz)⟩
              rw [← HR.out, HI.out, HST.out, okC_es (by show okEs (-1) xes = false; rw [HIV.out, HES.out, HNB.out]; rfl)]; rfl
            have c1d : decide (ya < 0) = false := decide_eq_false c1
            by_cases c2 : yb < ya
            · have HNB : Hid (okE (lastOf xes j) ⟨ya, yb, yt⟩ = false) := Lib.hid (okE_no (.inr (.inl c2)))
              go_wp2_with fail
              refine wp_region_quiet (C := fun w' => ∃ u : Ext w2, w' = u.w) (by kernel_rfl) (by kernel_rfl) (Ext.drew w2) ?_
              dsimp only []
              repeat (go_big_quiet_step (fail))
              refine wpQuiet_nil ?_
              rintro w' ⟨u, rfl⟩
              have HU2 := Lib.hid u.below
              clear e0 e1 e2 r0 ep
              generalize u.w = uw at *
              clear u
              go_wp2_with fail
              go_ret
              refine ⟨ret_bool ?_, HBEL.out.trans ((B1.out.trans ((KB.out.trans ((B2.out.trans (HU2.out.mono B2.out.size)).mono hksz)).mono B1.out.size)).mono hsz)⟩
              rw [← HR.out, HI.out, HST.out, okC_es (by show okEs (-1) xes = false; rw [HIV.out, HES.out, HNB.out]; rfl)]; rfl
            have c2d : decide (yb < ya) = false := decide_eq_false c2
            by_cases c3 : (65536 : Int) < yb
            · have HNB : Hid (okE (lastOf xes j) ⟨ya, yb, yt⟩ = false) := Lib.hid (okE_no (.inr (.inr (.inl c3))))
              go_wp2_with fail
              refine wp_region_quiet (C := fun w' => ∃ u : Ext w2, w' = u.w) (by kernel_rfl) (by kernel_rfl) (Ext.drew w2) ?_
              dsimp only []
              repeat (go_big_quiet_step (fail))
              refine wpQuiet_nil ?_
              rintro w' ⟨u, rfl⟩
              have HU2 := Lib.hid u.below
              clear e0 e1 e2 r0 ep
              generalize u.w = uw at *
              clear u
              go_wp2_with fail
              go_ret
              refine ⟨ret_bool ?_, HBEL.out.trans ((B1.out.trans ((KB.out.trans ((B2.out.trans (HU2.out.mono B2.out.size)).mono hksz)).mono B1.out.size)).mono hsz)⟩
              rw [← HR.out, HI.out, HST.out, okC_es (by show okEs (-1) xes = false; rw [HIV.out, HES.out, HNB.out]; rfl)]; rfl
            have c3d : decide ((65536 : Int) < yb) = false := decide_eq_false c3
            by_cases c4 : ya = yb
            · have c4' : (ya == yb) = true := by rw [beq_iff_eq]; exact c4
              by_cases c5 : yt.toList.isEmpty = true
              · have HNB : Hid (okE (lastOf xes j) ⟨ya, yb, yt⟩ = false) := Lib.hid (okE_no (.inr (.inr (.inr (.inl ⟨c4, c5⟩)))))
                clear c4
                go_wp2_with fail
                refine wp_region_quiet (C := fun w' => ∃ u : Ext w2, w' = u.w) (by kernel_rfl) (by kernel_rfl) (Ext.drew w2) ?_
                dsimp only []
                repeat (go_big_quiet_step (fail))
                refine wpQuiet_nil ?_
                rintro w' ⟨u, rfl⟩
                have HU2 := Lib.hid u.below
                clear e0 e1 e2 r0 ep
                generalize u.w = uw at *
                clear u
                go_wp2_with fail
                go_ret
                refine ⟨ret_bool ?_, HBEL.out.trans ((B1.out.trans ((KB.out.trans ((B2.out.trans (HU2.out.mono B2.out.size)).mono hksz)).mono B1.out.size)).mono hsz)⟩
                rw [← HR.out, HI.out, HST.out, okC_es (by show okEs (-1) xes = false; rw [HIV.out, HES.out, HNB.out]; rfl)]; rfl
              have c5' : yt.toList.isEmpty = false := by simpa using c5
              have HOKT : Hid (ya < yb ∨ 0 < (lines (dl yt)).length) := Lib.hid (okE_txt (.inr c5'))
              by_cases c6 : (65536 : Int) < (N : Int)
              · have HNB : Hid (okE (lastOf xes j) ⟨ya, yb, yt⟩ = false) := Lib.hid (okE_no (.inr (.inr (.inr (.inr (.inl (by rw [← HN.out]; exact c6)))))))
                clear c4 c5
                go_wp2_with fail
                refine wp_region_quiet (C := fun w' => ∃ u : Ext w2, w' = u.w) (by kernel_rfl) (by kernel_rfl) (Ext.drew w2) ?_
                dsimp only []
                repeat (go_big_quiet_step (fail))
                refine wpQuiet_nil ?_
                rintro w' ⟨u, rfl⟩
                have HU2 := Lib.hid u.below
                clear e0 e1 e2 r0 ep
                generalize u.w = uw at *
                clear u
                go_wp2_with fail
                go_ret
                refine ⟨ret_bool ?_, HBEL.out.trans ((B1.out.trans ((KB.out.trans ((B2.out.trans (HU2.out.mono B2.out.size)).mono hksz)).mono B1.out.size)).mono hsz)⟩
                rw [← HR.out, HI.out, HST.out, okC_es (by show okEs (-1) xes = false; rw [HIV.out, HES.out, HNB.out]; rfl)]; rfl
              have c6d : decide ((65536 : Int) < (N : Int)) = false := decide_eq_false c6
              have c6e : decide (65536 < N) = false := decide_eq_false (by omega)
              by_cases c7 : j = 0
              · have c7' : ¬ (0 : Int) < (j : Int) := by omega
                have c7d : decide (0 < j) = false := decide_eq_false (by omega)
                have HNB : Hid (okE (lastOf xes j) ⟨ya, yb, yt⟩ = true) := Lib.hid (okE_yes c1 c2 c3 HOKT.out (by rw [← HN.out]; exact c6) (by rw [c7]; show -1 < ya; omega))
                clear c4 c5 c7
                go_wp2_with fail
                refine wp_region_quiet (C := fun w' => ∃ u : Ext w2, w' = u.w) (by kernel_rfl) (by kernel_rfl) (Ext.drew w2) ?_
                dsimp only []
                repeat (go_big_quiet_step (fail))
                refine wpQuiet_nil ?_
                rintro w' ⟨u, rfl⟩
                have HU2 := Lib.hid u.below
                clear e0 e1 e2 r0 ep
                generalize u.w = uw at *
                clear u
                go_wp2_with fail
                go_roundw
                case rel => exact ⟨j + 1, by omega, by go_num, by rw [HIV.out, HES.out, HNB.out, HLB.out]; rfl, KB.out.trans ((B2.out.trans (HU2.out.mono B2.out.size)).mono hksz)⟩
                case measure => simp [intOf]; omega
              have c7' : (0 : Int) < (j : Int) := by omega
              have c7e : 0 < j := by omega
              obtain ⟨yp, hyp, hyl⟩ := EPV.out (by omega)
              have w1' : IntKind.i64.wrap ((j : Int) - 1) = (j : Int) - 1 := IntWalk.i64_in _ (by omega)
              have w2' : (0 : Int) ≤ (j : Int) - 1 := by omega
              have w3' : (j : Int) - 1 < (xes.length : Int) := by omega
              have w4' : ((j : Int) - 1).toNat = j - 1 := by omega
              have ep : ∀ u : Ext w2, u.w.cell? ⟨eb, eo + (j - 1) * 3 + 1, none⟩ = some (.int .i64 yp) := fun u => u.cell hyp
              have HYL := Lib.hid hyl
              clear hyp hyl c7
              by_cases c8 : ya ≤ yp
              · have HNB : Hid (okE (lastOf xes j) ⟨ya, yb, yt⟩ = false) := Lib.hid (okE_no (.inr (.inr (.inr (.inr (.inr (by rw [HYL.out]; exact c8)))))))
                clear c4 c5
                go_wp2_with fail
                refine wp_region_quiet (C := fun w' => ∃ u : Ext w2, w' = u.w) (by kernel_rfl) (by kernel_rfl) (Ext.drew w2) ?_
                dsimp only []
                repeat (go_big_quiet_step (fail))
                refine wpQuiet_nil ?_
                rintro w' ⟨u, rfl⟩
                have HU2 := Lib.hid u.below
                clear e0 e1 e2 r0 ep
                generalize u.w = uw at *
                clear u
                go_wp2_with fail
                go_ret
                refine ⟨ret_bool ?_, HBEL.out.trans ((B1.out.trans ((KB.out.trans ((B2.out.trans (HU2.out.mono B2.out.size)).mono hksz)).mono B1.out.size)).mono hsz)⟩
                rw [← HR.out, HI.out, HST.out, okC_es (by show okEs (-1) xes = false; rw [HIV.out, HES.out, HNB.out]; rfl)]; rfl
              have c8d : decide (ya ≤ yp) = false := decide_eq_false c8
              have HNB : Hid (okE (lastOf xes j) ⟨ya, yb, yt⟩ = true) := Lib.hid (okE_yes c1 c2 c3 HOKT.out (by rw [← HN.out]; exact c6) (by rw [HYL.out]; omega))
              clear c4 c5
              go_wp2_with fail
              refine wp_region_quiet (C := fun w' => ∃ u : Ext w2, w' = u.w) (by kernel_rfl) (by kernel_rfl) (Ext.drew w2) ?_
              dsimp only []
              repeat (go_big_quiet_step (fail))
              refine wpQuiet_nil ?_
              rintro w' ⟨u, rfl⟩
              have HU2 := Lib.hid u.below
              clear e0 e1 e2 r0 ep
              generalize u.w = uw at *
              clear u
              go_wp2_with fail
              go_roundw
              case rel => exact ⟨j + 1, by omega, by go_num, by rw [HIV.out, HES.out, HNB.out, HLB.out]; rfl, KB.out.trans ((B2.out.trans (HU2.out.mono B2.out.size)).mono hksz)⟩
              case measure => simp [intOf]; omega
            have c4' : (ya == yb) = false := by rw [beq_eq_false_iff_ne]; exact c4
            have HOKT : Hid (ya < yb ∨ 0 < (lines (dl yt)).length) := Lib.hid (.inl (by omega))
            by_cases c6 : (65536 : Int) < (N : Int)
            · have HNB : Hid (okE (lastOf xes j) ⟨ya, yb, yt⟩ = false) := Lib.hid (okE_no (.inr (.inr (.inr (.inr (.inl (by rw [← HN.out]; exact c6)))))))
              clear c4
              go_wp2_with fail
              refine wp_region_quiet (C := fun w' => ∃ u : Ext w2, w' = u.w) (by kernel_rfl) (by kernel_rfl) (Ext.drew w2) ?_
              dsimp only []
              repeat (go_big_quiet_step (fail))
              refine wpQuiet_nil ?_
              rintro w' ⟨u, rfl⟩
              have HU2 := Lib.hid u.below
              clear e0 e1 e2 r0 ep
              generalize u.w = uw at *
              clear u
              go_wp2_with fail
              go_ret
              refine ⟨ret_bool ?_, HBEL.out.trans ((B1.out.trans ((KB.out.trans ((B2.out.trans (HU2.out.mono B2.out.size)).mono hksz)).mono B1.out.size)).mono hsz)⟩
              rw [← HR.out, HI.out, HST.out, okC_es (by show okEs (-1) xes = false; rw [HIV.out, HES.out, HNB.out]; rfl)]; rfl
            have c6d : decide ((65536 : Int) < (N : Int)) = false := decide_eq_false c6
            have c6e : decide (65536 < N) = false := decide_eq_false (by omega)
            by_cases c7 : j = 0
            · have c7' : ¬ (0 : Int) < (j : Int) := by omega
              have c7d : decide (0 < j) = false := decide_eq_false (by omega)
              have HNB : Hid (okE (lastOf xes j) ⟨ya, yb, yt⟩ = true) := Lib.hid (okE_yes c1 c2 c3 HOKT.out (by rw [← HN.out]; exact c6) (by rw [c7]; show -1 < ya; omega))
              clear c4 c7
              go_wp2_with fail
              refine wp_region_quiet (C := fun w' => ∃ u : Ext w2, w' = u.w) (by kernel_rfl) (by kernel_rfl) (Ext.drew w2) ?_
              dsimp only []
              repeat (go_big_quiet_step (fail))
              refine wpQuiet_nil ?_
              rintro w' ⟨u, rfl⟩
              have HU2 := Lib.hid u.below
              clear e0 e1 e2 r0 ep
              generalize u.w = uw at *
              clear u
              go_wp2_with fail
              go_roundw
              case rel => exact ⟨j + 1, by omega, by go_num, by rw [HIV.out, HES.out, HNB.out, HLB.out]; rfl, KB.out.trans ((B2.out.trans (HU2.out.mono B2.out.size)).mono hksz)⟩
              case measure => simp [intOf]; omega
            have c7' : (0 : Int) < (j : Int) := by omega
            have c7e : 0 < j := by omega
            obtain ⟨yp, hyp, hyl⟩ := EPV.out (by omega)
            have w1' : IntKind.i64.wrap ((j : Int) - 1) = (j : Int) - 1 := IntWalk.i64_in _ (by omega)
            have w2' : (0 : Int) ≤ (j : Int) - 1 := by omega
            have w3' : (j : Int) - 1 < (xes.length : Int) := by omega
            have w4' : ((j : Int) - 1).toNat = j - 1 := by omega
            have ep : ∀ u : Ext w2, u.w.cell? ⟨eb, eo + (j - 1) * 3 + 1, none⟩ = some (.int .i64 yp) := fun u => u.cell hyp
            have HYL := Lib.hid hyl
            clear hyp hyl c7
            by_cases c8 : ya ≤ yp
            · have HNB : Hid (okE (lastOf xes j) ⟨ya, yb, yt⟩ = false) := Lib.hid (okE_no (.inr (.inr (.inr (.inr (.inr (by rw [HYL.out]; exact c8)))))))
              clear c4
              go_wp2_with fail
              refine wp_region_quiet (C := fun w' => ∃ u : Ext w2, w' = u.w) (by kernel_rfl) (by kernel_rfl) (Ext.drew w2) ?_
              dsimp only []
              repeat (go_big_quiet_step (fail))
              refine wpQuiet_nil ?_
              rintro w' ⟨u, rfl⟩
              have HU2 := Lib.hid u.below
              clear e0 e1 e2 r0 ep
              generalize u.w = uw at *
              clear u
              go_wp2_with fail
              go_ret
              refine ⟨ret_bool ?_, HBEL.out.trans ((B1.out.trans ((KB.out.trans ((B2.out.trans (HU2.out.mono B2.out.size)).mono hksz)).mono B1.out.size)).mono hsz)⟩
              rw [← HR.out, HI.out, HST.out, okC_es (by show okEs (-1) xes = false; rw [HIV.out, HES.out, HNB.out]; rfl)]; rfl
            have c8d : decide (ya ≤ yp) = false := decide_eq_false c8
            have HNB : Hid (okE (lastOf xes j) ⟨ya, yb, yt⟩ = true) := Lib.hid (okE_yes c1 c2 c3 HOKT.out (by rw [← HN.out]; exact c6) (by rw [HYL.out]; omega))
            clear c4
            go_wp2_with fail
            refine wp_region_quiet (C := fun w' => ∃ u : Ext w2, w' = u.w) (by kernel_rfl) (by kernel_rfl) (Ext.drew w2) ?_
            dsimp only []
            repeat (go_big_quiet_step (fail))
            refine wpQuiet_nil ?_
            rintro w' ⟨u, rfl⟩
            have HU2 := Lib.hid u.below
            clear e0 e1 e2 r0 ep
            generalize u.w = uw at *
            clear u
            go_wp2_with fail
            go_roundw
            case rel => exact ⟨j + 1, by omega, by go_num, by rw [HIV.out, HES.out, HNB.out, HLB.out]; rfl, KB.out.trans ((B2.out.trans (HU2.out.mono B2.out.size)).mono hksz)⟩
            case measure => simp [intOf]; omega
          · obtain rfl : j = xes.length := by omega
            clear kb hb01
            go_wp2_with fail
            go_roundw
            case rel =>
              refine ⟨i + 1, by omega, by go_num, ?_, HBEL.out.trans ((B1.out.trans (KB.out.mono B1.out.size)).mono hsz)⟩
              rw [HI.out, HST.out, okC_ok (c := ⟨xn, xa, xc, xes⟩) HP.out HL0.out HQ.out (by show okEs (-1) xes = true; rw [HIV.out, List.drop_length]; rfl)]; rfl
            case measure => simp [intOf]; omega
      obtain ⟨q, hq, hqc⟩ := HPV.out (by omega)
      have hi1 : (0 : Int) < (i : Int) := by omega
      have hi2 : 0 < i := by omega
      have w1' : IntKind.i64.wrap ((i : Int) - 1) = (i : Int) - 1 := IntWalk.i64_in _ (by omega)
      have w2' : (0 : Int) ≤ (i : Int) - 1 := by omega
      have w3' : (i : Int) - 1 < (l.length : Int) := by omega
      have w4' : ((i : Int) - 1).toNat = i - 1 := by omega
      have p0 : ∀ u : Ext w1, u.w.cell? ⟨b, off + (i - 1) * 2, none⟩ = some (.string q) := fun u => u.cell hqc
      clear hqc
      by_cases hle : leB (dl xn) (dl q) = true
      · have HFA : Hid (okC (prevOf l i) ⟨xn, xa, xc, xes⟩ = false) := Lib.hid (by rw [hq]; exact okC_le hle)
        unfold leB at hle
        rw [show dl xn = xn.toList from (Lib.toList_data _).symm, show dl q = q.toList from (Lib.toList_data _).symm] at hle
        clear hq
        go_wp2_with fail
        refine wp_region_quiet (C := fun w' => ∃ u : Ext w1, w' = u.w) (by kernel_rfl) (by kernel_rfl) (Ext.drew w1) ?_
        dsimp only []
        repeat (go_big_quiet_step (fail))
        refine wpQuiet_nil ?_
        rintro w' ⟨u, rfl⟩
        have HU := Lib.hid u.below
        clear a0 a1 p0
        generalize u.w = uw at *
        clear u
        go_wp2_with fail
        go_ret
        exact ⟨ret_bool (by rw [← HR.out, HI.out, HST.out, HFA.out]; rfl), HBEL.out.trans ((B1.out.trans (HU.out.mono B1.out.size)).mono hsz)⟩
      · have hle' : leB (dl xn) (dl q) = false := by simpa using hle
        have HQ : Hid (∀ q', prevOf l i = some q' → leB (dl xn) (dl q') = false) := Lib.hid (fun q' h' => by rw [hq] at h'; cases h'; exact hle')
        unfold leB at hle'
        rw [show dl xn = xn.toList from (Lib.toList_data _).symm, show dl q = q.toList from (Lib.toList_data _).symm] at hle'
        clear hq hle
        go_wp2_with fail
        refine wp_region_quiet (C := fun w' => ∃ u : Ext w1, w' = u.w) (by kernel_rfl) (by kernel_rfl) (Ext.drew w1) ?_
        dsimp only []
        repeat (go_big_quiet_step (fail))
        refine wpQuiet_nil ?_
        rintro w' ⟨u, rfl⟩
        have HU := Lib.hid u.below
        clear a0 a1 p0
        generalize u.w = uw at *
        clear u
        go_wp2_with fail
        go_loopw [6] (fun s6 wq => ∃ j : Nat, j ≤ xes.length ∧ s6 = .int .i64 j ∧ okEs (-1) xes = okEs (lastOf xes j) (xes.drop j) ∧ Below w1.heap.size w1 wq) (fun s6 _ => xes.length - (intOf s6).toNat)
        case atStart => exact ⟨0, by omega, rfl, rfl, HU.out⟩
        case round =>
          clear HU
          obtain ⟨j, hj, rfl, hiv, kb⟩ := hrel
          have HIV := Lib.hid hiv
          have KB := Lib.hid kb
          have hksz := kb.size
          have hb01 := (B1.out.trans (kb.mono B1.out.size))
          obtain ⟨g0, g1⟩ := Chg.at (w := wr) (b := b) (o := off + i * 2) (c := ⟨xn, xa, xc, xes⟩) (HCC.out.below hb01 HBW.out)
          clear hiv
          by_cases hjl : j < xes.length
          · obtain ⟨eb, eo, rfl, heb, hec⟩ := HIN.out.at (by intro e; simp [e] at hjl)
            obtain ⟨q0, q1, q2⟩ := Edi.at (w := wr) (b := eb) (o := eo + j * 3) (x := xes[j]) ((hec j hjl).below hb01 heb)
            have hes := okEs_at (lastOf xes j) xes j hjl
            rw [← last_succ xes j hjl] at hes
            have hxt := HTL.out xes[j] (List.getElem_mem hjl)
            have HLB := Lib.hid (last_succ xes j hjl)
            have hepv : ∀ hj0 : 0 < j, ∃ yp : Int, wr.cell? ⟨eb, eo + (j - 1) * 3 + 1, none⟩ = some (.int .i64 yp) ∧ lastOf xes j = yp := fun hj0 => by
              have h1 := (Edi.at (w := wr) (b := eb) (o := eo + (j - 1) * 3) (x := xes[j - 1]) ((hec (j - 1) (by omega)).below hb01 heb)).2.1
              refine ⟨_, h1, ?_⟩
              obtain ⟨k, rfl⟩ : ∃ k, j = k + 1 := ⟨j - 1, by omega⟩
              exact last_succ xes k (by omega)
            have HES := Lib.hid hes
            have EPW := Lib.hid hepv
            have HKB := Lib.hid hb01
            clear hec hes kb hepv hb01
            generalize xes[j] = y at *
            obtain ⟨ya, yb, yt⟩ := y
            simp only at *
            go_wp2_with fail
            obtain ⟨W6, hW6⟩ : ∃ W6, W6 = wr.alloc (.cells #[.int .i64 ya, .int .i64 yb, .string yt] 50) := ⟨_, rfl⟩
            have hy6 : W6.heap[wr.heap.size]? = some (.cells #[.int .i64 ya, .int .i64 yb, .string yt] 50 (0, 0)) := by rw [hW6]; exact heap_alloc_new _ _
            have hb6 : Below wr.heap.size wr W6 := by rw [hW6]; exact below_alloc _ _
            have hwl : wr.heap.size < W6.heap.size := by rw [hW6]; simp
            first | rw [← hW6] | (trace_state; fail)
            refine (Rf.getL yt W6 (by omega)).mono ?_
            rintro e w2 ⟨v, zs, rfl, hzs, hown, b2⟩
            obtain ⟨za, zc, rfl⟩ := row_shape hown
            obtain ⟨N, hN⟩ : ∃ N, N = zs.length := ⟨_, rfl⟩
            have hNl : N = (lines (dl yt)).length := by rw [hN, ← hzs]; simp
            rw [← hN]
            have HN := Lib.hid hNl
            have hb62 : Below wr.heap.size wr w2 := hb6.trans (b2.mono hb6.size)
            have hy2 := heap_below b2 hy6 hwl
            have e0 : ∀ u : Ext w2, u.w.cell? ⟨wr.heap.size, 0, none⟩ = some (.int .i64 ya) := fun u => u.cell (by simp [World.cell?, hy2])
            have e1 : ∀ u : Ext w2, u.w.cell? ⟨wr.heap.size, 1, none⟩ = some (.int .i64 yb) := fun u => u.cell (by simp [World.cell?, hy2])
            have e2 : ∀ u : Ext w2, u.w.cell? ⟨wr.heap.size, 2, none⟩ = some (.string yt) := fun u => u.cell (by simp [World.cell?, hy2])
            have r0 : ∀ u : Ext w2, u.w.cell? ⟨b, off + i * 2 + 1, none⟩ = some (.slice (some ⟨eb, eo, none⟩) xes.length xc) := fun u => u.cell (by
              rw [hb62.cell (by have := HBW.out; have := HKB.out.size; show b < _; omega)]; exact g1)
            have ep : True := trivial
            have EPV : Hid (∀ hj0 : 0 < j, ∃ yp : Int, w2.cell? ⟨eb, eo + (j - 1) * 3 + 1, none⟩ = some (.int .i64 yp) ∧ lastOf xes j = yp) := Lib.hid (fun hj0 => by
              obtain ⟨yp, h1, h2⟩ := EPW.out hj0
              refine ⟨yp, ?_, h2⟩
              rw [hb62.cell (by have := heb; have := HKB.out.size; show eb < _; omega)]; exact h1)
            have B2 := Lib.hid hb62
            have hN2 : (N : Int) ≤ 4000000 := by have h := lines_le (dl yt); rw [← size_dl, ← hNl] at h; omega
            clear hW6 hy6 hb6 hwl hzs hown b2 hN hNl hb62 hy2 g0 g1 q0 q1 q2 EPW
            by_cases c1 : ya < 0
            · have HNB : Hid (okE (lastOf xes j) ⟨ya, yb, yt⟩ = false) := Lib.hid (okE_no (.inl c1))
              go_wp2_with fail
              refine wp_region_quiet (C := fun w' => ∃ u : Ext w2, w' = u.w) (by kernel_rfl) (by kernel_rfl) (Ext.drew w2) ?_
              dsimp only []
              repeat (go_big_quiet_step (fail))
              refine wpQuiet_nil ?_
              rintro w' ⟨u, rfl⟩
              have HU2 := Lib.hid u.below
              clear e0 e1 e2 r0 ep
              generalize u.w = uw at *
              clear u
              go_wp2_with fail
              go_ret
              refine ⟨ret_bool ?_, HBEL.out.trans ((B1.out.trans ((KB.out.trans ((B2.out.trans (HU2.out.mono B2.out.size)).mono hksz)).mono B1.out.size)).mono hsz)⟩
              rw [← HR.out, HI.out, HST.out, okC_es (by show okEs (-1) xes = false; rw [HIV.out, HES.out, HNB.out]; rfl)]; rfl
            have c1d : decide (ya < 0) = false := decide_eq_false c1
            by_cases c2 : yb < ya
            · have HNB : Hid (okE (lastOf xes j) ⟨ya, yb, yt⟩ = false) := Lib.hid (okE_no (.inr (.inl c2)))
              go_wp2_with fail
              refine wp_region_quiet (C := fun w' => ∃ u : Ext w2, w' = u.w) (by kernel_rfl) (by kernel_rfl) (Ext.drew w2) ?_
              dsimp only []
              repeat (go_big_quiet_step (fail))
              refine wpQuiet_nil ?_
              rintro w' ⟨u, rfl⟩
              have HU2 := Lib.hid u.below
              clear e0 e1 e2 r0 ep
              generalize u.w = uw at *
              clear u
              go_wp2_with fail
              go_ret
              refine ⟨ret_bool ?_, HBEL.out.trans ((B1.out.trans ((KB.out.trans ((B2.out.trans (HU2.out.mono B2.out.size)).mono hksz)).mono B1.out.size)).mono hsz)⟩
              rw [← HR.out, HI.out, HST.out, okC_es (by show okEs (-1) xes = false; rw [HIV.out, HES.out, HNB.out]; rfl)]; rfl
            have c2d : decide (yb < ya) = false := decide_eq_false c2
            by_cases c3 : (65536 : Int) < yb
            · have HNB : Hid (okE (lastOf xes j) ⟨ya, yb, yt⟩ = false) := Lib.hid (okE_no (.inr (.inr (.inl c3))))
              go_wp2_with fail
              refine wp_region_quiet (C := fun w' => ∃ u : Ext w2, w' = u.w) (by kernel_rfl) (by kernel_rfl) (Ext.drew w2) ?_
              dsimp only []
              repeat (go_big_quiet_step (fail))
              refine wpQuiet_nil ?_
              rintro w' ⟨u, rfl⟩
              have HU2 := Lib.hid u.below
              clear e0 e1 e2 r0 ep
              generalize u.w = uw at *
              clear u
              go_wp2_with fail
              go_ret
              refine ⟨ret_bool ?_, HBEL.out.trans ((B1.out.trans ((KB.out.trans ((B2.out.trans (HU2.out.mono B2.out.size)).mono hksz)).mono B1.out.size)).mono hsz)⟩
              rw [← HR.out, HI.out, HST.out, okC_es (by show okEs (-1) xes = false; rw [HIV.out, HES.out, HNB.out]; rfl)]; rfl
            have c3d : decide ((65536 : Int) < yb) = false := decide_eq_false c3
            by_cases c4 : ya = yb
            · have c4' : (ya == yb) = true := by rw [beq_iff_eq]; exact c4
              by_cases c5 : yt.toList.isEmpty = true
              · have HNB : Hid (okE (lastOf xes j) ⟨ya, yb, yt⟩ = false) := Lib.hid (okE_no (.inr (.inr (.inr (.inl ⟨c4, c5⟩)))))
                clear c4
                go_wp2_with fail
                refine wp_region_quiet (C := fun w' => ∃ u : Ext w2, w' = u.w) (by kernel_rfl) (by kernel_rfl) (Ext.drew w2) ?_
                dsimp only []
                repeat (go_big_quiet_step (fail))
                refine wpQuiet_nil ?_
                rintro w' ⟨u, rfl⟩
                have HU2 := Lib.hid u.below
                clear e0 e1 e2 r0 ep
                generalize u.w = uw at *
                clear u
                go_wp2_with fail
                go_ret
                refine ⟨ret_bool ?_, HBEL.out.trans ((B1.out.trans ((KB.out.trans ((B2.out.trans (HU2.out.mono B2.out.size)).mono hksz)).mono B1.out.size)).mono hsz)⟩
                rw [← HR.out, HI.out, HST.out, okC_es (by show okEs (-1) xes = false; rw [HIV.out, HES.out, HNB.out]; rfl)]; rfl
              have c5' : yt.toList.isEmpty = false := by simpa using c5
              have HOKT : Hid (ya < yb ∨ 0 < (lines (dl yt)).length) := Lib.hid (okE_txt (.inr c5'))
              by_cases c6 : (65536 : Int) < (N : Int)
              · have HNB : Hid (okE (lastOf xes j) ⟨ya, yb, yt⟩ = false) := Lib.hid (okE_no (.inr (.inr (.inr (.inr (.inl (by rw [← HN.out]; exact c6)))))))
                clear c4 c5
                go_wp2_with fail
                refine wp_region_quiet (C := fun w' => ∃ u : Ext w2, w' = u.w) (by kernel_rfl) (by kernel_rfl) (Ext.drew w2) ?_
                dsimp only []
                repeat (go_big_quiet_step (fail))
                refine wpQuiet_nil ?_
                rintro w' ⟨u, rfl⟩
                have HU2 := Lib.hid u.below
                clear e0 e1 e2 r0 ep
                generalize u.w = uw at *
                clear u
                go_wp2_with fail
                go_ret
                refine ⟨ret_bool ?_, HBEL.out.trans ((B1.out.trans ((KB.out.trans ((B2.out.trans (HU2.out.mono B2.out.size)).mono hksz)).mono B1.out.size)).mono hsz)⟩
                rw [← HR.out, HI.out, HST.out, okC_es (by show okEs (-1) xes = false; rw [HIV.out, HES.out, HNB.out]; rfl)]; rfl
              have c6d : decide ((65536 : Int) < (N : Int)) = false := decide_eq_false c6
              have c6e : decide (65536 < N) = false := decide_eq_false (by omega)
              by_cases c7 : j = 0
              · have c7' : ¬ (0 : Int) < (j : Int) := by omega
                have c7d : decide (0 < j) = false := decide_eq_false (by omega)
                have HNB : Hid (okE (lastOf xes j) ⟨ya, yb, yt⟩ = true) := Lib.hid (okE_yes c1 c2 c3 HOKT.out (by rw [← HN.out]; exact c6) (by rw [c7]; show -1 < ya; omega))
                clear c4 c5 c7
                go_wp2_with fail
                refine wp_region_quiet (C := fun w' => ∃ u : Ext w2, w' = u.w) (by kernel_rfl) (by kernel_rfl) (Ext.drew w2) ?_
                dsimp only []
                repeat (go_big_quiet_step (fail))
                refine wpQuiet_nil ?_
                rintro w' ⟨u, rfl⟩
                have HU2 := Lib.hid u.below
                clear e0 e1 e2 r0 ep
                generalize u.w = uw at *
                clear u
                go_wp2_with fail
                go_roundw
                case rel => exact ⟨j + 1, by omega, by go_num, by rw [HIV.out, HES.out, HNB.out, HLB.out]; rfl, KB.out.trans ((B2.out.trans (HU2.out.mono B2.out.size)).mono hksz)⟩
                case measure => simp [intOf]; omega
              have c7' : (0 : Int) < (j : Int) := by omega
              have c7e : 0 < j := by omega
              obtain ⟨yp, hyp, hyl⟩ := EPV.out (by omega)
              have v1' : IntKind.i64.wrap ((j : Int) - 1) = (j : Int) - 1 := IntWalk.i64_in _ (by omega)
              have v2' : (0 : Int) ≤ (j : Int) - 1 := by omega
              have v3' : (j : Int) - 1 < (xes.length : Int) := by omega
              have v4' : ((j : Int) - 1).toNat = j - 1 := by omega
              have ep : ∀ u : Ext w2, u.w.cell? ⟨eb, eo + (j - 1) * 3 + 1, none⟩ = some (.int .i64 yp) := fun u => u.cell hyp
              have HYL := Lib.hid hyl
              clear hyp hyl c7
              by_cases c8 : ya ≤ yp
              · have HNB : Hid (okE (lastOf xes j) ⟨ya, yb, yt⟩ = false) := Lib.hid (okE_no (.inr (.inr (.inr (.inr (.inr (by rw [HYL.out]; exact c8)))))))
                clear c4 c5
                go_wp2_with fail
                refine wp_region_quiet (C := fun w' => ∃ u : Ext w2, w' = u.w) (by kernel_rfl) (by kernel_rfl) (Ext.drew w2) ?_
                dsimp only []
                repeat (go_big_quiet_step (fail))
                refine wpQuiet_nil ?_
                rintro w' ⟨u, rfl⟩
                have HU2 := Lib.hid u.below
                clear e0 e1 e2 r0 ep
                generalize u.w = uw at *
                clear u
                go_wp2_with fail
                go_ret
                refine ⟨ret_bool ?_, HBEL.out.trans ((B1.out.trans ((KB.out.trans ((B2.out.trans (HU2.out.mono B2.out.size)).mono hksz)).mono B1.out.size)).mono hsz)⟩
                rw [← HR.out, HI.out, HST.out, okC_es (by show okEs (-1) xes = false; rw [HIV.out, HES.out, HNB.out]; rfl)]; rfl
              have c8d : decide (ya ≤ yp) = false := decide_eq_false c8
              have HNB : Hid (okE (lastOf xes j) ⟨ya, yb, yt⟩ = true) := Lib.hid (okE_yes c1 c2 c3 HOKT.out (by rw [← HN.out]; exact c6) (by rw [HYL.out]; omega))
              clear c4 c5
              go_wp2_with fail
              refine wp_region_quiet (C := fun w' => ∃ u : Ext w2, w' = u.w) (by kernel_rfl) (by kernel_rfl) (Ext.drew w2) ?_
              dsimp only []
              repeat (go_big_quiet_step (fail))
              refine wpQuiet_nil ?_
              rintro w' ⟨u, rfl⟩
              have HU2 := Lib.hid u.below
              clear e0 e1 e2 r0 ep
              generalize u.w = uw at *
              clear u
              go_wp2_with fail
              go_roundw
              case rel => exact ⟨j + 1, by omega, by go_num, by rw [HIV.out, HES.out, HNB.out, HLB.out]; rfl, KB.out.trans ((B2.out.trans (HU2.out.mono B2.out.size)).mono hksz)⟩
              case measure => simp [intOf]; omega
            have c4' : (ya == yb) = false := by rw [beq_eq_false_iff_ne]; exact c4
            have HOKT : Hid (ya < yb ∨ 0 < (lines (dl yt)).length) := Lib.hid (.inl (by omega))
            by_cases c6 : (65536 : Int) < (N : Int)
            · have HNB : Hid (okE (lastOf xes j) ⟨ya, yb, yt⟩ = false) := Lib.hid (okE_no (.inr (.inr (.inr (.inr (.inl (by rw [← HN.out]; exact c6)))))))
              clear c4
              go_wp2_with fail
              refine wp_region_quiet (C := fun w' => ∃ u : Ext w2, w' = u.w) (by kernel_rfl) (by kernel_rfl) (Ext.drew w2) ?_
              dsimp only []
              repeat (go_big_quiet_step (fail))
              refine wpQuiet_nil ?_
              rintro w' ⟨u, rfl⟩
              have HU2 := Lib.hid u.below
              clear e0 e1 e2 r0 ep
              generalize u.w = uw at *
              clear u
              go_wp2_with fail
              go_ret
              refine ⟨ret_bool ?_, HBEL.out.trans ((B1.out.trans ((KB.out.trans ((B2.out.trans (HU2.out.mono B2.out.size)).mono hksz)).mono B1.out.size)).mono hsz)⟩
              rw [← HR.out, HI.out, HST.out, okC_es (by show okEs (-1) xes = false; rw [HIV.out, HES.out, HNB.out]; rfl)]; rfl
            have c6d : decide ((65536 : Int) < (N : Int)) = false := decide_eq_false c6
            have c6e : decide (65536 < N) = false := decide_eq_false (by omega)
            by_cases c7 : j = 0
            · have c7' : ¬ (0 : Int) < (j : Int) := by omega
              have c7d : decide (0 < j) = false := decide_eq_false (by omega)
              have HNB : Hid (okE (lastOf xes j) ⟨ya, yb, yt⟩ = true) := Lib.hid (okE_yes c1 c2 c3 HOKT.out (by rw [← HN.out]; exact c6) (by rw [c7]; show -1 < ya; omega))
              clear c4 c7
              go_wp2_with fail
              refine wp_region_quiet (C := fun w' => ∃ u : Ext w2, w' = u.w) (by kernel_rfl) (by kernel_rfl) (Ext.drew w2) ?_
              dsimp only []
              repeat (go_big_quiet_step (fail))
              refine wpQuiet_nil ?_
              rintro w' ⟨u, rfl⟩
              have HU2 := Lib.hid u.below
              clear e0 e1 e2 r0 ep
              generalize u.w = uw at *
              clear u
              go_wp2_with fail
              go_roundw
              case rel => exact ⟨j + 1, by omega, by go_num, by rw [HIV.out, HES.out, HNB.out, HLB.out]; rfl, KB.out.trans ((B2.out.trans (HU2.out.mono B2.out.size)).mono hksz)⟩
              case measure => simp [intOf]; omega
            have c7' : (0 : Int) < (j : Int) := by omega
            have c7e : 0 < j := by omega
            obtain ⟨yp, hyp, hyl⟩ := EPV.out (by omega)
            have v1' : IntKind.i64.wrap ((j : Int) - 1) = (j : Int) - 1 := IntWalk.i64_in _ (by omega)
            have v2' : (0 : Int) ≤ (j : Int) - 1 := by omega
            have v3' : (j : Int) - 1 < (xes.length : Int) := by omega
            have v4' : ((j : Int) - 1).toNat = j - 1 := by omega
            have ep : ∀ u : Ext w2, u.w.cell? ⟨eb, eo + (j - 1) * 3 + 1, none⟩ = some (.int .i64 yp) := fun u => u.cell hyp
            have HYL := Lib.hid hyl
            clear hyp hyl c7
            by_cases c8 : ya ≤ yp
            · have HNB : Hid (okE (lastOf xes j) ⟨ya, yb, yt⟩ = false) := Lib.hid (okE_no (.inr (.inr (.inr (.inr (.inr (by rw [HYL.out]; exact c8)))))))
              clear c4
              go_wp2_with fail
              refine wp_region_quiet (C := fun w' => ∃ u : Ext w2, w' = u.w) (by kernel_rfl) (by kernel_rfl) (Ext.drew w2) ?_
              dsimp only []
              repeat (go_big_quiet_step (fail))
              refine wpQuiet_nil ?_
              rintro w' ⟨u, rfl⟩
              have HU2 := Lib.hid u.below
              clear e0 e1 e2 r0 ep
              generalize u.w = uw at *
              clear u
              go_wp2_with fail
              go_ret
              refine ⟨ret_bool ?_, HBEL.out.trans ((B1.out.trans ((KB.out.trans ((B2.out.trans (HU2.out.mono B2.out.size)).mono hksz)).mono B1.out.size)).mono hsz)⟩
              rw [← HR.out, HI.out, HST.out, okC_es (by show okEs (-1) xes = false; rw [HIV.out, HES.out, HNB.out]; rfl)]; rfl
            have c8d : decide (ya ≤ yp) = false := decide_eq_false c8
            have HNB : Hid (okE (lastOf xes j) ⟨ya, yb, yt⟩ = true) := Lib.hid (okE_yes c1 c2 c3 HOKT.out (by rw [← HN.out]; exact c6) (by rw [HYL.out]; omega))
            clear c4
            go_wp2_with fail
            refine wp_region_quiet (C := fun w' => ∃ u : Ext w2, w' = u.w) (by kernel_rfl) (by kernel_rfl) (Ext.drew w2) ?_
            dsimp only []
            repeat (go_big_quiet_step (fail))
            refine wpQuiet_nil ?_
            rintro w' ⟨u, rfl⟩
            have HU2 := Lib.hid u.below
            clear e0 e1 e2 r0 ep
            generalize u.w = uw at *
            clear u
            go_wp2_with fail
            go_roundw
            case rel => exact ⟨j + 1, by omega, by go_num, by rw [HIV.out, HES.out, HNB.out, HLB.out]; rfl, KB.out.trans ((B2.out.trans (HU2.out.mono B2.out.size)).mono hksz)⟩
            case measure => simp [intOf]; omega
          · obtain rfl : j = xes.length := by omega
            clear kb hb01
            go_wp2_with fail
            go_roundw
            case rel =>
              refine ⟨i + 1, by omega, by go_num, ?_, HBEL.out.trans ((B1.out.trans (KB.out.mono B1.out.size)).mono hsz)⟩
              rw [HI.out, HST.out, okC_ok (c := ⟨xn, xa, xc, xes⟩) HP.out HL0.out HQ.out (by show okEs (-1) xes = true; rw [HIV.out, List.drop_length]; rfl)]; rfl
            case measure => simp [intOf]; omega
    · obtain rfl : i = l.length := by omega
      clear hbel
      go_wp2_with fail
      go_ret
      exact ⟨ret_bool (by rw [← HR.out, HI.out, List.drop_length]; rfl), HBEL.out⟩
end Go.Proofs.YtodjhgalbaelkaaDoor

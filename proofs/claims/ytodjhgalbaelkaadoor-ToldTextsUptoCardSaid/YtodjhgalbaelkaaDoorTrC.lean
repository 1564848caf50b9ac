/- The laws of told: same lists are found the same. -/
import Derived.Test.YtodjhgalbaelkaaDoorTqF
import Derived.Laws.StructEq
namespace Go.Proofs.YtodjhgalbaelkaaDoor
open Go.RowKit Go.BigFrame Go.Shelf
set_option linter.unusedVariables false

theorem row_cellsAt {w : World} {b off : Nat} {x : Edi} {i : Nat} (h : ∀ j v, (Edi.f x)[j]? = some v → w.cell? ⟨b, off + i * 3 + j, none⟩ = some v) : CellsAt w b (off + i * 3) (Edi.f x) := h

set_option maxRecDepth 100000 in
set_option maxHeartbeats 8000000 in
theorem Td.sameE (a b : Option Addr) (ca cb : Nat) (l : List Edi) (w : World) (hr : RowAt 3 Edi.f w a l) (hs : RowAt 3 Edi.f w b l) (hl : l.length ≤ 2000000) :
    Calls Tryd.prog 34 #[.slice a l.length ca, .slice b l.length cb] w fun e w' => e = .returned (.bool true) ∧ Below w.heap.size w w' := by
  have HR := Lib.hid hr
  have HS := Lib.hid hs
  clear hr hs
  have hne : ((l.length : Int) == (l.length : Int)) = true := by rw [beq_iff_eq]
  go_enter Tryd.func34, Tryd.ntmps34
  go_wp2_with fail
  go_loopw [5] (fun s5 wr => ∃ i : Nat, i ≤ l.length ∧ s5 = .int .i64 i ∧ Below w.heap.size w wr) (fun s5 _ => l.length - (intOf s5).toNat)
  case atStart => exact ⟨0, by omega, rfl, Below.refl _ _⟩
  case round =>
    obtain ⟨i, hi, rfl, hbel⟩ := hrel
    have HBEL := Lib.hid hbel
    have hsz := hbel.size
    by_cases hlt : i < l.length
    · obtain ⟨bb, off, rfl, hbw, hcc⟩ := HR.out.at (by intro e; simp [e] at hlt)
      obtain ⟨bd, ofd, rfl, hbd, hcd⟩ := HS.out.at (by intro e; simp [e] at hlt)
      have e1 := fun u : Ext wr => row_cellsAt (w := u.w) (b := bb) (off := off) (i := i) (x := l[i]) (((hcc i hlt).below hbel hbw).below u.below (by omega))
      have e2 := fun u : Ext wr => row_cellsAt (w := u.w) (b := bd) (off := ofd) (i := i) (x := l[i]) (((hcd i hlt).below hbel hbd).below u.below (by omega))
      have E1 := Lib.hid e1
      have E2 := Lib.hid e2
      clear hcc hcd hbel e1 e2
      generalize l[i] = x at *
      obtain ⟨xa, xb, xt⟩ := x
      go_wp2_with fail
      refine wp_region_quiet (C := fun w' => ∃ u : Ext wr, w' = u.w) (by kernel_rfl) (by kernel_rfl) (Ext.drew wr) ?_
      dsimp only []
      repeat (first
        | (go_big_quiet_want; (with_reducible refine quiet_load_at 50 _ rfl bb (off + i * 3) rfl (Edi.f ⟨xa, xb, xt⟩) _ (fun w' hw' => by obtain ⟨u, rfl⟩ := hw'; exact E1.out u) Tryd.underlying50 rfl (by kernel_rfl) ?_); go_big_quiet_on; simp only [Edi.f, Act.put, List.setIfInBounds_toArray, List.set_cons_succ, List.set_cons_zero])
        | (go_big_quiet_want; (with_reducible refine quiet_load_at 50 _ rfl bd (ofd + i * 3) rfl (Edi.f ⟨xa, xb, xt⟩) _ (fun w' hw' => by obtain ⟨u, rfl⟩ := hw'; exact E2.out u) Tryd.underlying50 rfl (by kernel_rfl) ?_); go_big_quiet_on; simp only [Edi.f, Act.put, List.setIfInBounds_toArray, List.set_cons_succ, List.set_cons_zero])
        | go_big_quiet_step (fail))
      refine wpQuiet_nil ?_
      rintro w' ⟨u, rfl⟩
      have HU := Lib.hid u.below
      generalize u.w = uw at *
      clear u
      go_wp2_with fail
      go_roundw
      case rel => exact ⟨i + 1, by omega, by go_num, HBEL.out.trans (HU.out.mono hsz)⟩
      case measure => simp [intOf]; omega
    · obtain rfl : i = l.length := by omega
      clear hbel
      go_wp2_with fail
      go_ret
      exact ⟨rfl, HBEL.out⟩

set_option maxRecDepth 100000 in
set_option maxHeartbeats 8000000 in
theorem Td.same (a b : Option Addr) (ca cb : Nat) (l m : List Chg) (w : World) (hr : ChsAt w a l) (hs : ChsAt w b m) (he : pcs l = pcs m) (hl : l.length ≤ 2000000) (hes : ∀ c ∈ l, c.es.length ≤ 2000000) :
    Calls Tryd.prog 15 #[.slice a l.length ca, .slice b m.length cb] w fun e w' => e = .returned (.bool true) ∧ Below w.heap.size w w' := by
  have hlm : l.length = m.length := by have := congrArg List.length he; simpa [pcs] using this
  have hat : ∀ i (h1 : i < l.length) (h2 : i < m.length), l[i].n = m[i].n ∧ l[i].es = m[i].es := fun i h1 h2 => by
    have h3 : (pcs l)[i]'(by simpa [pcs] using h1) = (pcs m)[i]'(by simpa [pcs] using h2) := by simp only [he]
    simp only [pcs, List.getElem_map, Prod.mk.injEq] at h3
    exact h3
  have HAT := Lib.hid hat
  have HR := Lib.hid hr
  have HS := Lib.hid hs
  have HES := Lib.hid hes
  have HLM := Lib.hid hlm
  clear hr hs hat he hes
  have hne : ((l.length : Int) == (l.length : Int)) = true := by rw [beq_iff_eq]
  rw [← hlm]
  clear hlm
  go_enter Tryd.func15, Tryd.ntmps15
  go_wp2_with fail
  go_loopw [5] (fun s5 wr => ∃ i : Nat, i ≤ l.length ∧ s5 = .int .i64 i ∧ Below w.heap.size w wr) (fun s5 _ => l.length - (intOf s5).toNat)
  case atStart => exact ⟨0, by omega, rfl, Below.refl _ _⟩
  case round =>
    obtain ⟨i, hi, rfl, hbel⟩ := hrel
    have HBEL := Lib.hid hbel
    have hsz := hbel.size
    by_cases hlt : i < l.length
    · have hlt2 : i < m.length := by have := HLM.out; omega
      obtain ⟨bb, off, rfl, hbw, hcc⟩ := HR.out.1.at (by intro e; simp [e] at hlt)
      obtain ⟨bd, ofd, rfl, hbd, hcd⟩ := HS.out.1.at (by intro e; simp [e] at hlt2)
      have g := fun u : Ext wr => Chg.at (w := u.w) (b := bb) (o := off + i * 2) (c := l[i]) (((hcc i hlt).below hbel hbw).below u.below (by omega))
      have k := fun u : Ext wr => Chg.at (w := u.w) (b := bd) (o := ofd + i * 2) (c := m[i]) (((hcd i hlt2).below hbel hbd).below u.below (by omega))
      obtain ⟨e1, e2⟩ := HAT.out i hlt hlt2
      have r1 := ((HR.out.2 l[i] (List.getElem_mem hlt)).below hbel (Nat.le_refl _) hsz)
      have r2 := ((HS.out.2 m[i] (List.getElem_mem hlt2)).below hbel (Nat.le_refl _) hsz)
      have hl1 := HES.out l[i] (List.getElem_mem hlt)
      rw [← e1, ← e2] at k
      rw [← e2] at r2
      have g0 := fun u => (g u).1
      have g1 := fun u => (g u).2
      have k0 := fun u => (k u).1
      have k1 := fun u => (k u).2
      have R1 := Lib.hid r1
      have R2 := Lib.hid r2
      clear hcc hcd hbel e1 e2 r1 r2 g k
      generalize l[i] = x at *
      generalize m[i] = y at *
      obtain ⟨xn, xa, xc, xes⟩ := x
      obtain ⟨yn, ya, yc, yes⟩ := y
      simp only at *
      go_wp2_with fail
      refine wp_region_quiet (C := fun w' => ∃ u : Ext wr, w' = u.w) (by kernel_rfl) (by kernel_rfl) (Ext.drew wr) ?_
      dsimp only []
      have hcall := fun u : Ext wr => Td.sameE xa ya xc yc xes u.w (R1.out.below u.below (Nat.le_refl _) u.below.size) (R2.out.below u.below (Nat.le_refl _) u.below.size) hl1
      have HCALL := Lib.hid hcall
      clear hcall
      repeat (go_big_quiet_step ((go_at_call 34; rename_i u; refine (HCALL.out u).mono ?_; rintro e w2 ⟨rfl, b2⟩; exact ⟨rfl, u.on b2⟩)))
      refine wpQuiet_nil ?_
      rintro w' ⟨u, rfl⟩
      have HU := Lib.hid u.below
      clear g0 g1 k0 k1 HCALL
      generalize u.w = uw at *
      clear u
      go_wp2_with fail
      go_roundw
      case rel => exact ⟨i + 1, by omega, by go_num, HBEL.out.trans (HU.out.mono hsz)⟩
      case measure => simp [intOf]; omega
    · obtain rfl : i = l.length := by omega
      clear hbel
      go_wp2_with fail
      go_ret
      exact ⟨rfl, HBEL.out⟩
end Go.Proofs.YtodjhgalbaelkaaDoor

/- TqH -/
namespace Go.Proofs.YtodjhgalbaelkaaDoor
open Go.RowKit Go.BigFrame Go.Shelf
set_option linter.unusedVariables false

def gE (l : List Edi) : Nat := (l.map (fun x => 10 + x.t.size)).sum
def gN (l : List Chg) : Nat := (l.map (fun c => 20 + c.n.size + gE c.es)).sum
theorem sum_take {α : Type} (f : α → Nat) (l : List α) (i : Nat) : ((l.take i).map f).sum ≤ (l.map f).sum := by
  conv => rhs; rw [← List.take_append_drop i l, List.map_append, List.sum_append]
  omega
theorem sum_succ {α : Type} (f : α → Nat) (l : List α) (i : Nat) (h : i < l.length) : ((l.take (i + 1)).map f).sum = ((l.take i).map f).sum + f l[i] := by
  rw [List.take_succ_eq_append_getElem h, List.map_append, List.sum_append]; simp
theorem gE_take (l : List Edi) (i : Nat) : gE (l.take i) ≤ gE l := sum_take _ l i
theorem gE_succ (l : List Edi) (i : Nat) (h : i < l.length) : gE (l.take (i + 1)) = gE (l.take i) + (10 + l[i].t.size) := sum_succ _ l i h
theorem gN_take (l : List Chg) (i : Nat) : gN (l.take i) ≤ gN l := sum_take _ l i
theorem gN_succ (l : List Chg) (i : Nat) (h : i < l.length) : gN (l.take (i + 1)) = gN (l.take i) + (20 + l[i].n.size + gE l[i].es) := sum_succ _ l i h
theorem gE_wt : ∀ l : List Edi, gE l ≤ 20 * wtE l ∧ wtE l ≤ gE l
  | [] => by simp [gE, wtE]
  | x :: l => by
    have ih := gE_wt l
    have h1 : gE (x :: l) = 10 + x.t.size + gE l := rfl
    have h2 : wtE (x :: l) = x.t.size + 1 + wtE l := rfl
    omega
theorem gN_wt : ∀ l : List Chg, gN l ≤ 20 * wt l ∧ wt l ≤ gN l
  | [] => by simp [gN, wt]
  | c :: l => by
    have ih := gN_wt l
    have h0 := gE_wt c.es
    have h1 : gN (c :: l) = 20 + c.n.size + gE c.es + gN l := rfl
    have h2 : wt (c :: l) = c.n.size + 1 + wtE c.es + wt l := rfl
    omega

set_option maxRecDepth 100000 in
set_option maxHeartbeats 4000000 in
theorem Td.greatN (a : Option Addr) (c : Nat) (l : List Chg) (w : World) (hr : ChsAt w a l) (hl : l.length ≤ 2000000) (hb : ∀ c ∈ l, c.es.length ≤ 2000000) (hg : gN l ≤ 1000000000) :
    Calls Tryd.prog 8 #[.slice a l.length c] w fun e w' => e = .returned (.bool (decide (2000 < (gN l : Int)))) ∧ Below w.heap.size w w' := by
  have HG := Lib.hid hg
  clear hg
  have HROW := Lib.hid hr
  have HB := Lib.hid hb
  clear hr hb
  go_enter Tryd.func8, Tryd.ntmps8
  go_wp2_with fail
  go_loopw [3, 4] (fun s3 s4 wr => ∃ (n : Int) (i : Nat), i ≤ l.length ∧ n = (gN (l.take i) : Int) ∧ s3 = .int .i64 n ∧ s4 = .int .i64 i ∧ Below w.heap.size w wr) (fun _ s4 _ => l.length - (intOf s4).toNat)
  case atStart => exact ⟨0, 0, by omega, rfl, rfl, rfl, Below.refl _ _⟩
  case round =>
    obtain ⟨n, i, hi, hn, rfl, rfl, hbel⟩ := hrel
    have HN := Lib.hid hn
    have n0 : (0 : Int) ≤ n := by omega
    have n1 : n ≤ 1000000000 := by have := gN_take l i; have := HG.out; omega
    clear hn
    have HBEL := Lib.hid hbel
    by_cases hlt : i < l.length
    · obtain ⟨bb, off, rfl, hbw, hcc⟩ := HROW.out.1.at (by intro e; simp [e] at hlt)
      obtain ⟨g0, g1⟩ := Chg.at (w := wr) (b := bb) (o := off + i * 2) (c := l[i]) ((hcc i hlt).below hbel hbw)
      have hel := HB.out l[i] (List.getElem_mem hlt)
      have hed := HROW.out.2 l[i] (List.getElem_mem hlt)
      have HED := Lib.hid hed
      have HCC := Lib.hid (fun (u : World) (hu : Below w.heap.size w u) => Chg.at (w := u) (b := bb) (o := off + i * 2) (c := l[i]) ((hcc i hlt).below hu hbw))
      clear hcc hed hbel
      have hsucc := gN_succ l i hlt
      have htot := gN_take l (i + 1)
      have HSUCC := Lib.hid hsucc
      have HTOT := Lib.hid htot
      have hnb : (l[i].n.size : Int) ≤ 1000000000 := by have := HG.out; omega
      clear hsucc htot
      generalize l[i] = x at *
      obtain ⟨xn, xa, xc, xes⟩ := x
      simp only at *
      go_wp2_with fail
      go_loopw [3, 5] (fun s3 s5 wq => ∃ (m : Int) (j : Nat), j ≤ xes.length ∧ m = n + 20 + (xn.size : Int) + (gE (xes.take j) : Int) ∧ s3 = .int .i64 m ∧ s5 = .int .i64 j ∧ Below w.heap.size w wq) (fun _ s5 _ => xes.length - (intOf s5).toNat)
      case atStart => exact ⟨_, 0, by omega, by simp [gE], rfl, rfl, HBEL.out⟩
      case round =>
        clear g0 g1
        obtain ⟨m, j, hj, hm, rfl, rfl, hbel⟩ := hrel
        have HM := Lib.hid hm
        have m0 : (0 : Int) ≤ m := by omega
        have m1 : m ≤ 1000000000 := by have := gE_take xes j; have := HG.out; have := HTOT.out; have := HSUCC.out; have := HN.out; omega
        clear hm
        obtain ⟨g0, g1⟩ := HCC.out _ hbel
        have HBEL := Lib.hid hbel
        by_cases hjl : j < xes.length
        · obtain ⟨eb, eo, rfl, heb, hec⟩ := HED.out.at (by intro e; simp [e] at hjl)
          obtain ⟨q0, q1, q2⟩ := Edi.at (b := eb) (o := eo + j * 3) (x := xes[j]) ((hec j hjl).below hbel heb)
          have hsE := gE_succ xes j hjl
          have HSE := Lib.hid hsE
          have htb : (xes[j].t.size : Int) ≤ 1000000000 := by have := gE_take xes (j + 1); have := HG.out; have := HTOT.out; have := HSUCC.out; omega
          clear hec hbel q0 q1 g0 hsE
          generalize xes[j] = y at *
          obtain ⟨ya, yb, yt⟩ := y
          simp only at *
          go_wp2_with fail
          go_roundw
          case rel => exact ⟨_, j + 1, by omega, by have := HSE.out; have := HM.out; omega, rfl, by go_num, HBEL.out⟩
          case measure => simp [intOf]; omega
        · obtain rfl : j = xes.length := by omega
          rw [List.take_length] at HM
          clear hbel g0
          go_wp2_with fail
          go_roundw
          case rel => exact ⟨_, i + 1, by omega, by have := HSUCC.out; have := HM.out; have := HN.out; omega, rfl, by go_num, HBEL.out⟩
          case measure => simp [intOf]; omega
    · obtain rfl : i = l.length := by omega
      rw [List.take_length] at HN
      clear hbel
      go_wp2_with fail
      go_ret
      exact ⟨by rw [HN.out]; rfl, HBEL.out⟩
end Go.Proofs.YtodjhgalbaelkaaDoor

/- TqI -/
namespace Go.Proofs.YtodjhgalbaelkaaDoor
open Go.RowKit Go.BigFrame Go.Shelf
set_option linter.unusedVariables false

theorem textB_parts (c : List Chg) (k : Nat) : textB (c.take k) ++ textB (c.drop k) = textB c := by
  unfold textB
  rw [← List.flatMap_append, List.take_append_drop]
theorem str_append (a b : Bs) : str a ++ str b = str (a ++ b) := by
  apply dl_inj
  simp [dl, str]
theorem textV_ok {l : List Chg} (h : okCs none l = true) : textV l = .tuple #[.string (str (textB l)), .int .i64 0] := by unfold textV; rw [if_pos h]
theorem textV_no {l : List Chg} (h : okCs none l = false) : textV l = .tuple #[.string ⟨#[]⟩, .int .i64 2] := by unfold textV; rw [if_neg (by simp [h])]
theorem wt_sub {l m : List Chg} (h : ∃ a b, l = a ++ m ++ b) : wt m ≤ wt l := by
  obtain ⟨a, b, rfl⟩ := h
  unfold wt
  simp only [List.map_append, List.sum_append]
  omega
/-- What the reader leaves: a list of changes. -/
theorem RdC.chs {B K r : Nat} {lv tv : Value} {l : List Chg} {last want : Int} {text : Bs} {opn : Bool} {w : World} (h : RdC B K r lv tv l last want text opn w) : ∃ a cap, lv = .slice a l.length cap ∧ ChsAt w a l := by
  obtain ⟨a, cap, rfl⟩ := row_shape h.row
  refine ⟨a, cap, rfl, (rowAt_owns (f := Chg.f) (fun g => rfl) h.row rfl).2, fun c hc => ?_⟩
  rcases last_cases l with rfl | ⟨d, x, rfl⟩
  · cases hc
  · rcases List.mem_append.1 hc with hc | hc
    · exact (rowAt_owns (f := Edi.f) (fun g => rfl) (h.old c (by simpa using hc)).1 rfl).2
    · rw [List.mem_singleton] at hc
      subst hc
      exact (rowAt_owns (f := Edi.f) (fun g => rfl) (h.new c (by simp)) rfl).2
theorem parse_of {l : List Chg} (h : okCs none l = true) : ∃ st, parseB (textB l) = .inr st ∧ st.l = pcs l := by
  rw [textB_pcs]
  exact parse_text (by rw [← okCs_pcs]; exact h)
theorem twin_at {l : List Chg} {w : World} {base : Nat} {v : Value} (h : w.ownsRow base 69 2 v l.length (l.flatMap Chg.f)) : ∃ a cap, v = .slice a l.length cap ∧ RowAt 2 Chg.f w a l := by
  obtain ⟨a, cap, rfl⟩ := row_shape h
  exact ⟨a, cap, rfl, (rowAt_owns (f := Chg.f) (fun g => rfl) h rfl).2⟩
theorem cut_at (cut : Int) (n : Nat) (h0 : 0 ≤ cut) (hn : n ≤ 2000000) : ∃ k : Nat, k ≤ n ∧ cut.tmod ((n : Int) + 1) = (k : Int) := by
  have h3 : cut.tmod ((n : Int) + 1) < (n : Int) + 1 := Int.tmod_lt_of_pos _ (by omega)
  have h6 : 0 ≤ cut.tmod ((n : Int) + 1) := Int.tmod_nonneg _ h0
  exact ⟨(cut.tmod ((n : Int) + 1)).toNat, by omega, by omega⟩

set_option maxRecDepth 100000 in
set_option maxHeartbeats 16000000 in
theorem Td.joins (b : Option Addr) (cb : Nat) (c : List Chg) (cut : Int) (w : World) (hc : ChsAt w b c) (hcb : c.length ≤ cb) (hcm : cb ≤ maxLen) (hb : Bnd c) (hw : wt c ≤ 1048576) (hcut0 : 0 ≤ cut) (hcut1 : cut ≤ 255) (ht : Tab w) :
    Calls Tryd.prog 6 #[.slice b c.length cb, .int .u8 cut] w fun e w' => e = .returned (.bool true) ∧ Below w.heap.size w w' := by
  have HC := Lib.hid hc
  have HB := Lib.hid hb
  have HT := Lib.hid ht
  have HW := Lib.hid hw
  have hcl := hb.len
  obtain ⟨k, hk, hk1⟩ := cut_at cut c.length hcut0 hcl
  clear hc hb ht hw
  go_enter Tryd.func6, Tryd.ntmps6
  go_wp2_with fail
  refine (Td.alive w HT.out).mono ?_
  rintro e w1 ⟨rfl, b1⟩
  have B1 := Lib.hid b1
  have hs1 := b1.size
  have hc1 := HC.out.below b1
  have HC1 := Lib.hid hc1
  have HT1 := Lib.hid (HT.out.on b1)
  clear b1 hc1
  go_wp2_with fail
  refine (Td.greatN b cb c w1 HC1.out hcl HB.out.es (by have := (gN_wt c).1; have := HW.out; omega)).mono ?_
  rintro e w2 ⟨rfl, b2⟩
  have hs2 := b2.size
  have hc2 := HC1.out.below b2
  have HC2 := Lib.hid hc2
  have HT2 := Lib.hid (HT1.out.on b2)
  have B2 := Lib.hid (B1.out.trans (b2.mono hs1))
  clear b2 hc2 HC1 HT1 B1
  by_cases hg : (2000 : Int) < (gN c : Int)
  · have hg' : decide ((2000 : Int) < (gN c : Int)) = true := decide_eq_true hg
    rw [hg']
    clear hg hg'
    go_wp2_with fail
    go_ret
    exact ⟨rfl, B2.out⟩
  · have hg' : decide ((2000 : Int) < (gN c : Int)) = false := decide_eq_false hg
    rw [hg']
    have HG : Hid (gN c ≤ 2000) := Lib.hid (by omega)
    clear hg hg'
    go_wp2_with fail
    refine (Td.text b cb c w2 HC2.out HB.out (by have := HW.out; omega) HT2.out).mono ?_
    rintro e w3 ⟨rfl, b3⟩
    have hs3 := b3.size
    have hc3 := HC2.out.below b3
    have HC3 := Lib.hid hc3
    have HT3 := Lib.hid (HT2.out.on b3)
    have B3 := Lib.hid (B2.out.trans (b3.mono B2.out.size))
    clear b3 hc3 HC2 HT2 B2
    cases hok : okCs none c
    · rw [textV_no hok]
      clear hok
      go_wp2_with fail
      go_ret
      exact ⟨rfl, B3.out⟩
    · rw [textV_ok hok]
      have HOK := Lib.hid hok
      clear hok
      go_wp2_with fail
      have hkl : (c.take k).length = k := by simp; omega
      have A := Td.text b cb (c.take k) w3 ⟨row_take HC3.out.1 k, fun x hx => HC3.out.2 x (List.mem_of_mem_take hx)⟩
        ⟨by omega, fun x hx => HB.out.n x (List.mem_of_mem_take hx), fun x hx => HB.out.es x (List.mem_of_mem_take hx), fun x hx => HB.out.t x (List.mem_of_mem_take hx)⟩ (by have := wt_sub (l := c) (m := c.take k) ⟨[], c.drop k, by simp⟩; have := HW.out; omega) HT3.out
      rw [hkl] at A
      refine A.mono ?_
      clear A
      rintro e w4 ⟨rfl, b4⟩
      have hc4 := HC3.out.below b4
      have HC4 := Lib.hid hc4
      have HT4 := Lib.hid (HT3.out.on b4)
      have B4 := Lib.hid (B3.out.trans (b4.mono B3.out.size))
      clear b4 hc4 HC3 HT3 B3
      rw [textV_ok (okCs_take c k none HOK.out)]
      obtain ⟨b', hif⟩ : ∃ b', (if cb = k then b else b.map (fun q => q.add (k * 2))) = b' := ⟨_, rfl⟩
      have hcd : ChsAt w4 b' (c.drop k) := by
        refine ⟨?_, fun x hx => HC4.out.2 x (List.mem_of_mem_drop hx)⟩
        rw [← hif]
        exact row_part HC4.out.1 k cb hcb
      have HCD := Lib.hid hcd
      clear hcd
      have hdl : (c.drop k).length = c.length - k := by simp
      go_wp2_with fail
      have A := Td.text b' (cb - k) (c.drop k) w4 HCD.out
        ⟨by omega, fun x hx => HB.out.n x (List.mem_of_mem_drop hx), fun x hx => HB.out.es x (List.mem_of_mem_drop hx), fun x hx => HB.out.t x (List.mem_of_mem_drop hx)⟩ (by have := wt_sub (l := c) (m := c.drop k) ⟨c.take k, [], by simp⟩; have := HW.out; omega) HT4.out
      rw [hdl] at A
      refine A.mono ?_
      clear A
      rintro e w5 ⟨rfl, b5⟩
      have hc5 := HC4.out.below b5
      have HC5 := Lib.hid hc5
      have B5 := Lib.hid (B4.out.trans (b5.mono B4.out.size))
      clear b5 hc5 HC4 HT4 B4 HCD hif hdl
      rw [textV_ok (okCs_drop c k none HOK.out)]
      obtain ⟨TA, hTA⟩ : ∃ TA, TA = str (textB (c.take k)) := ⟨_, rfl⟩
      obtain ⟨TB, hTB⟩ : ∃ TB, TB = str (textB (c.drop k)) := ⟨_, rfl⟩
      obtain ⟨TC, hTC⟩ : ∃ TC, TC = str (textB c) := ⟨_, rfl⟩
      rw [← hTA, ← hTB, ← hTC]
      have hcat : TA ++ TB = TC := by rw [hTA, hTB, hTC, str_append, textB_parts]
      have hszc : TC.size ≤ 4000000 := by
        rw [hTC, str_size]
        have h1 := textB_len c (okCs_mem c none HOK.out) HB.out.t
        have := (gN_wt c).2
        have := HG.out
        omega
      obtain ⟨st, hps, hst⟩ := parse_of HOK.out
      rw [← dl_str (textB c), ← hTC] at hps
      have hsum : TA.size + TB.size ≤ 9223372036854775807 := by
        have := congrArg ByteArray.size hcat
        rw [ByteArray.size_append] at this
        omega
      have HCAT := Lib.hid hcat
      have HPS := Lib.hid hps
      have HST := Lib.hid hst
      have HSZ := Lib.hid hszc
      clear hcat hps hst hszc hTA hTB hTC
      go_wp2_with fail
      rw [HCAT.out]
      refine (Td.parse TC w5 HSZ.out).mono ?_
      rintro e w6 ⟨b6, hpost⟩
      rw [HPS.out] at hpost
      obtain ⟨K, lv, tv, l6, hl6, rfl, hrd⟩ := hpost
      obtain ⟨a6, c6, rfl, hc6⟩ := hrd.chs
      have HL6 := Lib.hid hl6
      have HC6 := Lib.hid hc6
      have hs6 := b6.size
      have hcc6 := HC5.out.below b6
      have HCC6 := Lib.hid hcc6
      have B6 := Lib.hid (B5.out.trans (b6.mono B5.out.size))
      clear hl6 hrd hc6 hcc6 b6 HC5 B5
      have heq : ((TA ++ TB).toList == TC.toList) = true := by rw [HCAT.out]; simp
      go_wp2_with fail
      refine (Td.twin b cb c w6 HCC6.out.1 hcl).mono ?_
      rintro e w7 ⟨v7, rfl, hown7, b7⟩
      obtain ⟨a7, c7, rfl, hr7⟩ := twin_at hown7
      have hc7 : ChsAt w7 a7 c := ⟨hr7, fun x hx => (HCC6.out.2 x hx).below b7 (Nat.le_refl _) b7.size⟩
      have hc67 := HC6.out.below b7
      have HC7 := Lib.hid hc7
      have HC67 := Lib.hid hc67
      have B7 := Lib.hid (B6.out.trans (b7.mono B6.out.size))
      have hpl : pcs l6 = pcs c := by rw [HL6.out, HST.out]
      have hll : l6.length = c.length := by have := congrArg List.length hpl; simpa [pcs] using this
      have hle : ∀ x ∈ l6, x.es.length ≤ 2000000 := fun x hx => by
        have h1 : (x.n, x.es) ∈ pcs l6 := List.mem_map.2 ⟨x, hx, rfl⟩
        rw [hpl] at h1
        obtain ⟨y, hy, he⟩ := List.mem_map.1 h1
        have := HB.out.es y hy
        simp only [Prod.mk.injEq] at he
        rw [← he.2]; exact this
      have HLL := Lib.hid hll
      have HPL := Lib.hid hpl
      have HLE := Lib.hid hle
      clear hown7 hr7 hc7 hc67 b7 HC6 HCC6 B6 hpl hle hll
      go_wp2_with fail
      refine (Td.same a6 a7 c6 c7 l6 c w7 HC67.out HC7.out HPL.out (by have := HLL.out; omega) HLE.out).mono ?_
      rintro e w8 ⟨rfl, b8⟩
      have B8 := Lib.hid (B7.out.trans (b8.mono B7.out.size))
      clear b8
      go_wp2_with fail
      go_ret
      exact ⟨rfl, B8.out⟩
end Go.Proofs.YtodjhgalbaelkaaDoor

/- TqJ -/
namespace Go.Proofs.YtodjhgalbaelkaaDoor
open Go.RowKit Go.BigFrame Go.Shelf
set_option linter.unusedVariables false

theorem tell_len (x : Edi) : x.t.size + 1 ≤ (tellB x).length := by
  unfold tellB
  have h := flat43 (lines (dl x.t))
  rw [lines_flat, ← size_dl] at h
  simp only [List.length_append, List.length_cons, List.length_nil]
  omega
theorem wtET_len : ∀ l : List Edi, wtE l ≤ (l.flatMap tellB).length
  | [] => by simp [wtE]
  | x :: l => by
    have h1 := wtET_len l
    have h2 := tell_len x
    have h3 : wtE (x :: l) = x.t.size + 1 + wtE l := rfl
    rw [List.flatMap_cons, List.length_append]
    omega
theorem wtT_len : ∀ l : List Chg, wt l ≤ (textB l).length
  | [] => by simp [wt]
  | c :: l => by
    have h1 := wtT_len l
    have h2 := wtET_len c.es
    have h3 : wt (c :: l) = c.n.size + 1 + wtE c.es + wt l := rfl
    have h4 : textB (c :: l) = textC c ++ textB l := rfl
    have h5 := size_dl c.n
    rw [h4, List.length_append]
    unfold textC eqB
    simp only [List.length_append, List.length_cons, List.length_nil]
    omega
theorem lens_pcs {l m : List Chg} (h : pcs l = pcs m) : l.length = m.length := by have := congrArg List.length h; simpa [pcs] using this
theorem es_pcs {l m : List Chg} (h : pcs l = pcs m) {N : Nat} (hm : ∀ c ∈ m, c.es.length ≤ N) : ∀ c ∈ l, c.es.length ≤ N := fun x hx => by
  have h1 : (x.n, x.es) ∈ pcs l := List.mem_map.2 ⟨x, hx, rfl⟩
  rw [h] at h1
  obtain ⟨y, hy, he⟩ := List.mem_map.1 h1
  have := hm y hy
  simp only [Prod.mk.injEq] at he
  rw [← he.2]; exact this
theorem parse_nil : parseB [] = .inr st0 := rfl
/-- What Parse's result is, for a walk. -/
theorem parse_cases (s : ByteArray) : (∃ n : Nat, parseB (dl s) = .inl n) ∨ ∃ st, parseB (dl s) = .inr st ∧ okP none st.l = true ∧ textP st.l = dl s := by
  cases h : parseB (dl s) with
  | inl n => exact .inl ⟨n, rfl⟩
  | inr st =>
    obtain ⟨h1, h2⟩ := text_parse h
    exact .inr ⟨st, rfl, h1, h2⟩

set_option maxRecDepth 100000 in
set_option maxHeartbeats 8000000 in
/-- The law's second half: what a text says has that text. -/
theorem back_text (c : List Chg) (s : ByteArray) (hp : okP none (pcs c) = true) (ht : textP (pcs c) = dl s) (hs : s.size ≤ 1000000) : okCs none c = true ∧ str (textB c) = s ∧ Bnd c ∧ wt c ≤ 1000000 := by
  have h1 : textB c = dl s := by rw [textB_pcs]; exact ht
  have h2 := wtT_len c
  rw [h1, ← size_dl] at h2
  exact ⟨by rw [okCs_pcs]; exact hp, by rw [h1, str_dl], bnd_of (by omega), by omega⟩

set_option maxRecDepth 100000 in
set_option maxHeartbeats 16000000 in
theorem Td.back (b : Option Addr) (cb : Nat) (c : List Chg) (s : ByteArray) (w : World) (hc : ChsAt w b c) (hcb : c.length ≤ cb) (hcm : cb ≤ maxLen) (hb : Bnd c) (hw : wt c ≤ 1048576) (hs : s.size ≤ 2000000) (ht : Tab w) :
    Calls Tryd.prog 5 #[.slice b c.length cb, .string s] w fun e w' => e = .returned (.bool true) ∧ Below w.heap.size w w' := by
  have HC := Lib.hid hc
  have HB := Lib.hid hb
  have HT := Lib.hid ht
  have HW := Lib.hid hw
  have hcl := hb.len
  clear hc hb ht hw
  go_enter Tryd.func5, Tryd.ntmps5
  go_wp2_with fail
  refine (Td.alive w HT.out).mono ?_
  rintro e w1 ⟨rfl, b1⟩
  have B1 := Lib.hid b1
  have hs1 := b1.size
  have hc1 := HC.out.below b1
  have HC1 := Lib.hid hc1
  have HT1 := Lib.hid (HT.out.on b1)
  clear b1 hc1
  go_wp2_with fail
  refine (Td.greatN b cb c w1 HC1.out hcl HB.out.es (by have := (gN_wt c).1; have := HW.out; omega)).mono ?_
  rintro e w2 ⟨rfl, b2⟩
  have hs2 := b2.size
  have hc2 := HC1.out.below b2
  have HC2 := Lib.hid hc2
  have HT2 := Lib.hid (HT1.out.on b2)
  have B2 := Lib.hid (B1.out.trans (b2.mono hs1))
  clear b2 hc2 HC1 HT1 B1
  by_cases hg : (2000 : Int) < (gN c : Int)
  · have hg' : decide ((2000 : Int) < (gN c : Int)) = true := decide_eq_true hg
    rw [hg']
    clear hg hg'
    go_wp2_with fail
    go_ret
    exact ⟨rfl, B2.out⟩
  · have hg' : decide ((2000 : Int) < (gN c : Int)) = false := decide_eq_false hg
    rw [hg']
    have HG : Hid (gN c ≤ 2000) := Lib.hid (by omega)
    clear hg hg'
    by_cases hsz : (2000 : Int) < (s.size : Int)
    · go_wp2_with fail
      go_ret
      exact ⟨rfl, B2.out⟩
    · go_wp2_with fail
      refine (Td.text b cb c w2 HC2.out HB.out (by have := HW.out; omega) HT2.out).mono ?_
      rintro e w3 ⟨rfl, b3⟩
      have hs3 := b3.size
      have hc3 := HC2.out.below b3
      have HC3 := Lib.hid hc3
      have HT3 := Lib.hid (HT2.out.on b3)
      have B3 := Lib.hid (B2.out.trans (b3.mono B2.out.size))
      clear b3 hc3 HC2 HT2 B2
      cases hok : okCs none c
      · rw [textV_no hok]
        clear hok
        go_wp2_with fail
        refine (Td.parse ⟨#[]⟩ w3 (by decide)).mono ?_
        rintro e w6 ⟨b6, hpost⟩
        rw [show parseB (dl (⟨#[]⟩ : ByteArray)) = .inr st0 from rfl] at hpost
        obtain ⟨K, lv, tv, l6, hl6, rfl, hrd⟩ := hpost
        obtain ⟨a6, c6, rfl, hc6⟩ := hrd.chs
        have HT6 := Lib.hid (HT3.out.on b6)
        have B6 := Lib.hid (B3.out.trans (b6.mono B3.out.size))
        clear hl6 hrd hc6 b6 HC3 HT3 B3
        go_wp2_with fail
        refine (Td.parse s w6 (by omega)).mono ?_
        rintro e w9 ⟨b9, hpost⟩
        have HT9 := Lib.hid (HT6.out.on b9)
        have B9 := Lib.hid (B6.out.trans (b9.mono B6.out.size))
        clear b9
        rcases parse_cases s with ⟨n9, hp⟩ | ⟨st9, hp, hok9, htx9⟩
        · rw [hp] at hpost
          subst hpost
          clear hp HT6 B6
          go_wp2_with fail
          have A := Td.text none 0 [] w9 ⟨.inl rfl, fun x hx => by cases hx⟩ (bnd_of (by simp [wt])) (by simp [wt]) HT9.out
          rw [List.length_nil] at A
          refine A.mono ?_
          clear A
          rintro e wa ⟨rfl, ba⟩
          rw [textV_ok (l := []) rfl]
          have Ba := Lib.hid (B9.out.trans (ba.mono B9.out.size))
          clear ba HT9
          go_wp2_with fail
          go_ret
          exact ⟨rfl, Ba.out⟩
        · rw [hp] at hpost
          obtain ⟨K9, lv9, tv9, l9, hl9, rfl, hrd9⟩ := hpost
          obtain ⟨a9, c9, rfl, hc9⟩ := hrd9.chs
          rw [← hl9] at hok9 htx9
          obtain ⟨hk9, hu9, hbn9, hwt9⟩ := back_text l9 s hok9 htx9 (by omega)
          have HC9 := Lib.hid hc9
          have HU9 := Lib.hid hu9
          have HBN9 := Lib.hid hbn9
          have HK9 := Lib.hid hk9
          clear hp hl9 hrd9 hc9 hok9 htx9 hu9 hbn9 hk9 HT6 B6
          go_wp2_with fail
          refine (Td.text a9 c9 l9 w9 HC9.out HBN9.out (by omega) HT9.out).mono ?_
          rintro e wa ⟨rfl, ba⟩
          rw [textV_ok HK9.out, HU9.out]
          have Ba := Lib.hid (B9.out.trans (ba.mono B9.out.size))
          clear ba HT9
          go_wp2_with fail
          go_ret
          exact ⟨by simp, Ba.out⟩
      · rw [textV_ok hok]
        have HOK := Lib.hid hok
        clear hok
        obtain ⟨TC, hTC⟩ : ∃ TC, TC = str (textB c) := ⟨_, rfl⟩
        rw [← hTC]
        have hszc : TC.size ≤ 4000000 := by
          rw [hTC, str_size]
          have h1 := textB_len c (okCs_mem c none HOK.out) HB.out.t
          have := (gN_wt c).2
          have := HG.out
          omega
        obtain ⟨st, hps, hst⟩ := parse_of HOK.out
        rw [← dl_str (textB c), ← hTC] at hps
        have HPS := Lib.hid hps
        have HST := Lib.hid hst
        have HSZ := Lib.hid hszc
        clear hps hst hszc hTC
        go_wp2_with fail
        refine (Td.parse TC w3 HSZ.out).mono ?_
        rintro e w6 ⟨b6, hpost⟩
        rw [HPS.out] at hpost
        obtain ⟨K, lv, tv, l6, hl6, rfl, hrd⟩ := hpost
        obtain ⟨a6, c6, rfl, hc6⟩ := hrd.chs
        have HL6 := Lib.hid hl6
        have HC6 := Lib.hid hc6
        have hs6 := b6.size
        have hcc6 := HC3.out.below b6
        have HCC6 := Lib.hid hcc6
        have HT6 := Lib.hid (HT3.out.on b6)
        have B6 := Lib.hid (B3.out.trans (b6.mono B3.out.size))
        clear hl6 hrd hc6 hcc6 b6 HC3 HT3 B3
        go_wp2_with fail
        refine (Td.twin b cb c w6 HCC6.out.1 hcl).mono ?_
        rintro e w7 ⟨v7, rfl, hown7, b7⟩
        obtain ⟨a7, c7, rfl, hr7⟩ := twin_at hown7
        have hc7 : ChsAt w7 a7 c := ⟨hr7, fun x hx => (HCC6.out.2 x hx).below b7 (Nat.le_refl _) b7.size⟩
        have hc67 := HC6.out.below b7
        have HC7 := Lib.hid hc7
        have HC67 := Lib.hid hc67
        have HT7 := Lib.hid (HT6.out.on b7)
        have B7 := Lib.hid (B6.out.trans (b7.mono B6.out.size))
        have hpl : pcs l6 = pcs c := by rw [HL6.out, HST.out]
        have HLL := Lib.hid (lens_pcs hpl)
        have HLE := Lib.hid (es_pcs hpl HB.out.es)
        have HPL := Lib.hid hpl
        clear hown7 hr7 hc7 hc67 b7 HC6 HCC6 B6 hpl HT6
        go_wp2_with fail
        refine (Td.same a6 a7 c6 c7 l6 c w7 HC67.out HC7.out HPL.out (by have := HLL.out; omega) HLE.out).mono ?_
        rintro e w8 ⟨rfl, b8⟩
        have HT8 := Lib.hid (HT7.out.on b8)
        have B8 := Lib.hid (B7.out.trans (b8.mono B7.out.size))
        clear b8 HT7 B7 HC67 HC7
        go_wp2_with fail
        refine (Td.parse s w8 (by omega)).mono ?_
        rintro e w9 ⟨b9, hpost⟩
        have HT9 := Lib.hid (HT8.out.on b9)
        have B9 := Lib.hid (B8.out.trans (b9.mono B8.out.size))
        clear b9
        rcases parse_cases s with ⟨n9, hp⟩ | ⟨st9, hp, hok9, htx9⟩
        · rw [hp] at hpost
          subst hpost
          clear hp HT8 B8
          go_wp2_with fail
          have A := Td.text none 0 [] w9 ⟨.inl rfl, fun x hx => by cases hx⟩ (bnd_of (by simp [wt])) (by simp [wt]) HT9.out
          rw [List.length_nil] at A
          refine A.mono ?_
          clear A
          rintro e wa ⟨rfl, ba⟩
          rw [textV_ok (l := []) rfl]
          have Ba := Lib.hid (B9.out.trans (ba.mono B9.out.size))
          clear ba HT9
          go_wp2_with fail
          go_ret
          exact ⟨rfl, Ba.out⟩
        · rw [hp] at hpost
          obtain ⟨K9, lv9, tv9, l9, hl9, rfl, hrd9⟩ := hpost
          obtain ⟨a9, c9, rfl, hc9⟩ := hrd9.chs
          rw [← hl9] at hok9 htx9
          obtain ⟨hk9, hu9, hbn9, hwt9⟩ := back_text l9 s hok9 htx9 (by omega)
          have HC9 := Lib.hid hc9
          have HU9 := Lib.hid hu9
          have HBN9 := Lib.hid hbn9
          have HK9 := Lib.hid hk9
          clear hp hl9 hrd9 hc9 hok9 htx9 hu9 hbn9 hk9 HT8 B8
          go_wp2_with fail
          refine (Td.text a9 c9 l9 w9 HC9.out HBN9.out (by omega) HT9.out).mono ?_
          rintro e wa ⟨rfl, ba⟩
          rw [textV_ok HK9.out, HU9.out]
          have Ba := Lib.hid (B9.out.trans (ba.mono B9.out.size))
          clear ba HT9
          go_wp2_with fail
          go_ret
          exact ⟨by simp, Ba.out⟩
end Go.Proofs.YtodjhgalbaelkaaDoor

/- TrA -/
namespace Go.Proofs.YtodjhgalbaelkaaDoor
open Go.RowKit Go.BigFrame Go.Shelf
set_option linter.unusedVariables false

theorem dl_at {s : ByteArray} {i : Nat} (h : i < s.size) : (dl s)[i]'(by rw [← size_dl]; exact h) = s[i] := rfl
theorem drop_at {s : ByteArray} {i : Nat} (h : i < s.size) : (dl s).drop i = s[i] :: (dl s).drop (i + 1) := by
  rw [List.drop_eq_getElem_cons (by rw [← size_dl]; exact h)]; rfl
/-- Between two places of a text. -/
def betw (l : Bs) (a b : Nat) : Bs := (l.drop a).take (b - a)
theorem betw_self (l : Bs) (a : Nat) : betw l a a = [] := by unfold betw; simp
theorem betw_succ {l : Bs} {a b : Nat} (hab : a ≤ b) (hb : b < l.length) : betw l a (b + 1) = betw l a b ++ [l[b]] := by
  unfold betw
  rw [show b + 1 - a = (b - a) + 1 by omega, List.take_succ_eq_append_getElem (by rw [List.length_drop]; omega)]
  congr 2
  rw [List.getElem_drop]
  simp only [show a + (b - a) = b by omega]
theorem betw_drop {l : Bs} {a b : Nat} (hab : a ≤ b) : l.drop a = betw l a b ++ l.drop b := by
  unfold betw
  conv => lhs; rw [← List.take_append_drop (b - a) (l.drop a)]
  rw [List.drop_drop, show a + (b - a) = b by omega]
theorem ext_betw (s : ByteArray) (a b : Nat) : s.extract a b = str (betw (dl s) a b) := ext_str s a b

set_option maxRecDepth 100000 in
set_option maxHeartbeats 8000000 in
theorem Rf.getL (s : ByteArray) (w : World) (hs : s.size ≤ 1000000000) : Calls Tryd.prog 26 #[.string s] w (LinPost s w) := by
  obtain ⟨i0, hi, hz0, hz1, hz2⟩ := info_parts infoStr
  have HI := Lib.hid hi
  have HZ0 := Lib.hid hz0
  have HZ1 := Lib.hid hz1
  have HZ2 := Lib.hid hz2
  clear hi hz0 hz1 hz2
  have hlen := lines_le (dl s)
  rw [← size_dl] at hlen
  have HLEN := Lib.hid hlen
  clear hlen
  go_enter Tryd.func26, Tryd.ntmps26
  go_wp2_with fail
  go_loopw [3, 4, 5] (fun s3 s4 s5 wr => ∃ (xs : List ByteArray) (j i : Nat), j ≤ i ∧ i ≤ s.size ∧ s4 = .int .i64 j ∧ s5 = .int .i64 i ∧ xs.map dl ++ lines ((dl s).drop j) = lines (dl s) ∧ (10 : UInt8) ∉ betw (dl s) j i ∧
    wr.ownsRow w.heap.size 9 1 s3 xs.length (xs.map Value.string) ∧ Below w.heap.size w wr) (fun _ _ s5 _ => s.size - (intOf s5).toNat)
  case atStart => exact ⟨[], 0, 0, by omega, by omega, rfl, rfl, by simp, by simp [betw], World.ownsRow_nil _ _ _ _, Below.refl _ _⟩
  case round =>
    obtain ⟨xs, j, i, hji, hi, rfl, rfl, hxs, hno, hown, hbel⟩ := hrel
    obtain ⟨oa, oc, rfl⟩ := row_shape hown
    have hsz := hbel.size
    have hxl : xs.length ≤ 1000000000 := by
      have h1 := congrArg List.length hxs
      have := HLEN.out
      simp at h1; omega
    have HXS := Lib.hid hxs
    have HNO := Lib.hid hno
    have HOWN := Lib.hid hown
    have HBEL := Lib.hid hbel
    clear hxs hno hown hbel
    by_cases hlt : i < s.size
    · have hj1 : (j : Int) ≤ (i : Int) + 1 := by omega
      have hi1 : (i : Int) + 1 ≤ (s.size : Int) := by omega
      by_cases hc : s[i].toNat = 10
      · have hc' : ((s[i].toNat : Int) == 10) = true := by rw [beq_iff_eq]; omega
        have hbe : s[i] = 10 := UInt8.toNat_inj.1 hc
        obtain ⟨x, hx⟩ : ∃ x, x = s.extract j (i + 1) := ⟨_, rfl⟩
        have hdx : dl x = betw (dl s) j i ++ [10] := by
          rw [hx, ext_betw, dl_str, betw_succ hji (by rw [← size_dl]; exact hlt), dl_at hlt, hbe]
        have hrel2 : (xs ++ [x]).map dl ++ lines ((dl s).drop (i + 1)) = lines (dl s) := by
          rw [← HXS.out, List.map_append, List.append_assoc]
          congr 1
          rw [betw_drop (l := dl s) hji, drop_at hlt, hbe, lines_line _ _ HNO.out, List.map_singleton, hdx]
          rfl
        have HR2 := Lib.hid hrel2
        obtain ⟨W, hW⟩ : ∃ W, W = wr.alloc (.cells #[.string x] 9) := ⟨_, rfl⟩
        have hbW : Below wr.heap.size wr W := by rw [hW]; exact below_alloc _ _
        have hlit : W.heap[wr.heap.size]? = some (.cells #[.string x] 9 (0, 0)) := by rw [hW]; exact heap_alloc_new _ _
        have hownW := own_on HOWN.out hbW
        have hWs := hbW.size
        have HW := Lib.hid hW
        have HX := Lib.hid hx
        have HLIT := Lib.hid hlit
        have HOWNW := Lib.hid hownW
        have HBW := Lib.hid (HBEL.out.trans (hbW.mono hsz))
        clear hbe hdx hrel2 hW hx hbW hlit hownW hc
        go_wp2_with (at_builtin; rw [← HX.out, ← HW.out]; refine wpList_append_own _ rfl _ _ 70 rfl w.heap.size 9 i0 (.string ⟨#[]⟩) 1 16 Tryd.underlying70 HI.out HZ0.out HZ1.out HZ2.out rfl (by decide) _ _ _ rfl HOWNW.out ⟨wr.heap.size, 0, none⟩ 1 1 [.string x] rfl rfl ?c1 ?c2 ?c3 ?c4 ?c5 ?_)
        case c1 => intro k u hu; rw [addr_add]; exact (CellsAt.of_heap HLIT.out) k u (by simpa using hu)
        case c2 => intro u hu; simp at hu; rcases hu with rfl | rfl <;> rfl
        case c3 => unfold maxLen; omega
        case c4 => omega
        case c5 => omega
        intro v' w6 hown' hgrow _
        obtain ⟨a', c', rfl⟩ := row_shape hown'
        have HOWN6 := Lib.hid hown'
        have HB6 : Hid (Below w.heap.size w w6) := Lib.hid (HBW.out.grown hgrow (by omega) (fun k hk => (row_cells HOWNW.out hk).1))
        clear hown' hgrow
        go_wp2_with fail
        go_roundw
        case rel => exact ⟨xs ++ [x], i + 1, i + 1, by omega, by omega, by go_num, by go_num, HR2.out, by rw [betw_self]; simp, by simpa using HOWN6.out, HB6.out⟩
        case measure => simp [intOf]; omega
      · have hc' : ((s[i].toNat : Int) == 10) = false := by rw [beq_eq_false_iff_ne]; omega
        have hno2 : (10 : UInt8) ∉ betw (dl s) j (i + 1) := by
          rw [betw_succ hji (by rw [← size_dl]; exact hlt), dl_at hlt]
          intro hm
          rcases List.mem_append.1 hm with hm | hm
          · exact HNO.out hm
          · rw [List.mem_singleton] at hm
            rw [← hm] at hc
            exact hc rfl
        have HNO2 := Lib.hid hno2
        clear hno2 hc
        go_wp2_with fail
        go_roundw
        case rel => exact ⟨xs, j, i + 1, by omega, by omega, rfl, by go_num, HXS.out, HNO2.out, HOWN.out, HBEL.out⟩
        case measure => simp [intOf]; omega
    · obtain rfl : i = s.size := by omega
      by_cases hjs : j < s.size
      · have hj1 : (j : Int) ≤ (s.size : Int) := by omega
        obtain ⟨x, hx⟩ : ∃ x, x = s.extract j s.size := ⟨_, rfl⟩
        have hdx : dl x = (dl s).drop j := by
          rw [hx, ext_to, dl_str]
        have hno' : (10 : UInt8) ∉ (dl s).drop j := by
          have h1 := betw_drop (l := dl s) hji
          rw [show (dl s).drop s.size = [] from List.drop_eq_nil_iff.2 (by rw [← size_dl]; exact Nat.le_refl _), List.append_nil] at h1
          rw [h1]; exact HNO.out
        have hrel2 : (xs ++ [x]).map dl = lines (dl s) := by
          rw [← HXS.out, List.map_append]
          congr 1
          rw [List.map_singleton, hdx, lines_step (by intro e; have := congrArg List.length e; rw [List.length_drop, ← size_dl] at this; simp at this; omega), fl_none _ hno', List.take_length, List.drop_length]
          rfl
        have HR2 := Lib.hid hrel2
        obtain ⟨W, hW⟩ : ∃ W, W = wr.alloc (.cells #[.string x] 9) := ⟨_, rfl⟩
        have hbW : Below wr.heap.size wr W := by rw [hW]; exact below_alloc _ _
        have hlit : W.heap[wr.heap.size]? = some (.cells #[.string x] 9 (0, 0)) := by rw [hW]; exact heap_alloc_new _ _
        have hownW := own_on HOWN.out hbW
        have hWs := hbW.size
        have HW := Lib.hid hW
        have HX := Lib.hid hx
        have HLIT := Lib.hid hlit
        have HOWNW := Lib.hid hownW
        have HBW := Lib.hid (HBEL.out.trans (hbW.mono hsz))
        clear hdx hno' hrel2 hW hx hbW hlit hownW
        go_wp2_with (at_builtin; rw [← HX.out, ← HW.out]; refine wpList_append_own _ rfl _ _ 70 rfl w.heap.size 9 i0 (.string ⟨#[]⟩) 1 16 Tryd.underlying70 HI.out HZ0.out HZ1.out HZ2.out rfl (by decide) _ _ _ rfl HOWNW.out ⟨wr.heap.size, 0, none⟩ 1 1 [.string x] rfl rfl ?c1 ?c2 ?c3 ?c4 ?c5 ?_)
        case c1 => intro k u hu; rw [addr_add]; exact (CellsAt.of_heap HLIT.out) k u (by simpa using hu)
        case c2 => intro u hu; simp at hu; rcases hu with rfl | rfl <;> rfl
        case c3 => unfold maxLen; omega
        case c4 => omega
        case c5 => omega
        intro v' w6 hown' hgrow _
        obtain ⟨a', c', rfl⟩ := row_shape hown'
        have HOWN6 := Lib.hid hown'
        have HB6 : Hid (Below w.heap.size w w6) := Lib.hid (HBW.out.grown hgrow (by omega) (fun k hk => (row_cells HOWNW.out hk).1))
        clear hown' hgrow
        go_wp2_with fail
        go_ret
        exact ⟨_, xs ++ [x], rfl, HR2.out, by simpa using HOWN6.out, HB6.out⟩
      · obtain rfl : j = s.size := by omega
        have hrel2 : xs.map dl = lines (dl s) := by
          have h1 := HXS.out
          rw [show (dl s).drop s.size = [] from List.drop_eq_nil_iff.2 (by rw [← size_dl]; exact Nat.le_refl _)] at h1
          simpa [lines] using h1
        have HR2 := Lib.hid hrel2
        clear hrel2
        go_wp2_with fail
        go_ret
        exact ⟨_, xs, rfl, HR2.out, HOWN.out, HBEL.out⟩
end Go.Proofs.YtodjhgalbaelkaaDoor

/- TrB -/
namespace Go.Proofs.YtodjhgalbaelkaaDoor
open Go.RowKit Go.BigFrame Go.Shelf
set_option linter.unusedVariables false

def numO (o : Option Nat) : Int := match o with | none => -1 | some n => if 65537 < n then -1 else n
def numR (l : Bs) : Int := numO (numB l)

set_option maxRecDepth 100000 in
set_option maxHeartbeats 4000000 in
theorem Rf.number (s : ByteArray) (w : World) (hs : s.size ≤ 140737488355328) : Calls Tryd.prog 50 #[.string s] w fun e w' => e = .returned (.int .i64 (numR (dl s))) ∧ w' = w := by
  obtain ⟨V, hV⟩ : ∃ V, numR (dl s) = V := ⟨_, rfl⟩
  rw [hV]
  unfold numR at hV
  have HV := Lib.hid hV
  clear hV
  have hsz := size_dl s
  by_cases h0 : s.size = 0
  · obtain rfl := size_zero h0
    clear hsz hs h0
    go_enter Tryd.func50, Tryd.ntmps50
    go_wp2
    go_ret
    refine ⟨?_, rfl⟩
    rw [← HV.out]; rfl
  by_cases h5 : 5 < s.size
  · have h5' : (5 : Int) < (s.size : Int) := by omega
    have h1' : ¬ (s.size : Int) < 1 := by omega
    have hno : numB (dl s) = none := by unfold numB; rw [if_pos (.inr (.inl (by omega)))]
    have HNO := Lib.hid hno
    clear hno hsz
    go_enter Tryd.func50, Tryd.ntmps50
    go_wp2
    go_ret
    refine ⟨?_, rfl⟩
    rw [← HV.out, HNO.out]; rfl
  have h5' : ¬ (5 : Int) < (s.size : Int) := by omega
  have h1' : ¬ (s.size : Int) < 1 := by omega
  have h00 : 0 < s.size := by omega
  have hhd : (dl s).head? = some s[0] := by
    have : (dl s)[0]? = some s[0] := by
      rw [List.getElem?_eq_getElem (by rw [← hsz]; exact h00)]; rfl
    rw [List.head?_eq_getElem?]; exact this
  by_cases hz : s[0].toNat = 48 ∧ 1 < s.size
  · obtain ⟨hz1, hz2⟩ := hz
    have hno : numB (dl s) = none := by
      unfold numB
      rw [if_pos (.inr (.inr ⟨by rw [hhd]; congr 1; exact UInt8.toNat_inj.1 hz1, by omega⟩))]
    have HNO := Lib.hid hno
    have hz1' : ((s[0].toNat : Int) == 48) = true := by rw [beq_iff_eq]; omega
    have hz2' : (1 : Int) < (s.size : Int) := by omega
    clear hno hsz hhd hz1
    go_enter Tryd.func50, Tryd.ntmps50
    go_wp2
    go_ret
    refine ⟨?_, rfl⟩
    rw [← HV.out, HNO.out]; rfl
  have hyes : numB (dl s) = digs 0 (dl s) := by
    unfold numB
    rw [if_neg]
    rintro (h | h | ⟨h1, h2⟩)
    · omega
    · omega
    · rw [hhd] at h1
      exact hz ⟨by rw [Option.some.inj h1]; rfl, by omega⟩
  rw [hyes] at HV
  have HV2 := HV
  clear HV hyes hhd
  have hone : 1 < s.size → s[0].toNat ≠ 48 := fun h1 h2 => hz ⟨h2, h1⟩
  have HSZ := Lib.hid hsz
  clear hsz hz
  by_cases hz2 : 1 < s.size
  · have hz1 := hone hz2
    have hz1' : ((s[0].toNat : Int) == 48) = false := by rw [beq_eq_false_iff_ne]; omega
    have hz2' : (1 : Int) < (s.size : Int) := by omega
    clear hz1 hone
    go_enter Tryd.func50, Tryd.ntmps50
    go_wp2
    go_loop [3, 4] (fun s4 s25 => ∃ k n : Nat, k ≤ s.size ∧ s4 = .int .i64 n ∧ s25 = .int .i64 k ∧ digs 0 (dl s) = digs n ((dl s).drop k) ∧ n < 10 ^ k) (fun _ s25 => s.size - (intOf s25).toNat)
    case atStart => exact ⟨0, 0, by omega, rfl, rfl, rfl, by simp⟩
    case round =>
      obtain ⟨k, n, hk, rfl, rfl, hd, hn⟩ := hrel
      have HD := Lib.hid hd
      have HN := Lib.hid hn
      clear hd hn
      by_cases hlt : k < s.size
      · have hat := digs_at s n k hlt
        have hp : 10 ^ (k + 1) = 10 * 10 ^ k := by rw [Nat.pow_succ, Nat.mul_comm]
        have hn5 : n < 10000 := Nat.lt_of_lt_of_le HN.out (Nat.pow_le_pow_right (n := 10) (by omega) (show k ≤ 4 by omega))
        have HAT := Lib.hid hat
        have HP := Lib.hid hp
        clear hat hp
        by_cases c1 : s[k].toNat < 48
        · have c1' : (s[k].toNat : Int) < 48 := by omega
          have hno : digs 0 (dl s) = none := by rw [HD.out, HAT.out, if_pos (.inl c1)]
          have HNO := Lib.hid hno
          clear hno c1
          go_wp2
          go_ret
          refine ⟨?_, rfl⟩
          rw [← HV2.out, HNO.out]; rfl
        · have c1' : ¬ (s[k].toNat : Int) < 48 := by omega
          by_cases c2 : 57 < s[k].toNat
          · have c2' : (57 : Int) < (s[k].toNat : Int) := by omega
            have hno : digs 0 (dl s) = none := by rw [HD.out, HAT.out, if_pos (.inr c2)]
            have HNO := Lib.hid hno
            clear hno c1 c2
            go_wp2
            go_ret
            refine ⟨?_, rfl⟩
            rw [← HV2.out, HNO.out]; rfl
          · have c2' : ¬ (57 : Int) < (s[k].toNat : Int) := by omega
            have hnx : digs 0 (dl s) = digs (n * 10 + (s[k].toNat - 48)) ((dl s).drop (k + 1)) := by rw [HD.out, HAT.out, if_neg (by omega), Nat.mul_comm]
            have HNX := Lib.hid hnx
            have hb1 : 48 ≤ s[k].toNat := by omega
            have hb2 : s[k].toNat ≤ 57 := by omega
            clear hnx c1 c2
            go_wp2
            go_round
            case rel => exact ⟨k + 1, n * 10 + (s[k].toNat - 48), by omega, by go_num, by go_num, HNX.out, by rw [HP.out]; have := HN.out; omega⟩
            case measure => simp [intOf]; omega
      · obtain rfl : k = s.size := by omega
        have hfin : digs 0 (dl s) = some n := by rw [HD.out, List.drop_eq_nil_of_le (by rw [← HSZ.out]; exact Nat.le_refl _)]; rfl
        have HF := Lib.hid hfin
        clear hfin
        by_cases hbig : 65537 < n
        · have hbig' : (65537 : Int) < (n : Int) := by omega
          have HB := Lib.hid hbig
          clear hbig
          go_wp2
          go_ret
          refine ⟨?_, rfl⟩
          rw [← HV2.out, HF.out]
          simp [numO, HB.out]
        · have hbig' : (n : Int) ≤ 65537 := by omega
          have HB := Lib.hid hbig
          clear hbig
          go_wp2
          go_ret
          refine ⟨?_, rfl⟩
          rw [← HV2.out, HF.out]
          simp [numO, HB.out]
  · have hz2' : ¬ (1 : Int) < (s.size : Int) := by omega
    clear hone
    go_enter Tryd.func50, Tryd.ntmps50
    go_wp2
    go_loop [3, 4] (fun s4 s25 => ∃ k n : Nat, k ≤ s.size ∧ s4 = .int .i64 n ∧ s25 = .int .i64 k ∧ digs 0 (dl s) = digs n ((dl s).drop k) ∧ n < 10 ^ k) (fun _ s25 => s.size - (intOf s25).toNat)
    case atStart => exact ⟨0, 0, by omega, rfl, rfl, rfl, by simp⟩
    case round =>
      obtain ⟨k, n, hk, rfl, rfl, hd, hn⟩ := hrel
      have HD := Lib.hid hd
      have HN := Lib.hid hn
      clear hd hn
      by_cases hlt : k < s.size
      · have hat := digs_at s n k hlt
        have hp : 10 ^ (k + 1) = 10 * 10 ^ k := by rw [Nat.pow_succ, Nat.mul_comm]
        have hn5 : n < 10000 := Nat.lt_of_lt_of_le HN.out (Nat.pow_le_pow_right (n := 10) (by omega) (show k ≤ 4 by omega))
        have HAT := Lib.hid hat
        have HP := Lib.hid hp
        clear hat hp
        by_cases c1 : s[k].toNat < 48
        · have c1' : (s[k].toNat : Int) < 48 := by omega
          have hno : digs 0 (dl s) = none := by rw [HD.out, HAT.out, if_pos (.inl c1)]
          have HNO := Lib.hid hno
          clear hno c1
          go_wp2
          go_ret
          refine ⟨?_, rfl⟩
          rw [← HV2.out, HNO.out]; rfl
        · have c1' : ¬ (s[k].toNat : Int) < 48 := by omega
          by_cases c2 : 57 < s[k].toNat
          · have c2' : (57 : Int) < (s[k].toNat : Int) := by omega
            have hno : digs 0 (dl s) = none := by rw [HD.out, HAT.out, if_pos (.inr c2)]
            have HNO := Lib.hid hno
            clear hno c1 c2
            go_wp2
            go_ret
            refine ⟨?_, rfl⟩
            rw [← HV2.out, HNO.out]; rfl
          · have c2' : ¬ (57 : Int) < (s[k].toNat : Int) := by omega
            have hnx : digs 0 (dl s) = digs (n * 10 + (s[k].toNat - 48)) ((dl s).drop (k + 1)) := by rw [HD.out, HAT.out, if_neg (by omega), Nat.mul_comm]
            have HNX := Lib.hid hnx
            have hb1 : 48 ≤ s[k].toNat := by omega
            have hb2 : s[k].toNat ≤ 57 := by omega
            clear hnx c1 c2
            go_wp2
            go_round
            case rel => exact ⟨k + 1, n * 10 + (s[k].toNat - 48), by omega, by go_num, by go_num, HNX.out, by rw [HP.out]; have := HN.out; omega⟩
            case measure => simp [intOf]; omega
      · obtain rfl : k = s.size := by omega
        have hfin : digs 0 (dl s) = some n := by rw [HD.out, List.drop_eq_nil_of_le (by rw [← HSZ.out]; exact Nat.le_refl _)]; rfl
        have HF := Lib.hid hfin
        clear hfin
        by_cases hbig : 65537 < n
        · have hbig' : (65537 : Int) < (n : Int) := by omega
          have HB := Lib.hid hbig
          clear hbig
          go_wp2
          go_ret
          refine ⟨?_, rfl⟩
          rw [← HV2.out, HF.out]
          simp [numO, HB.out]
        · have hbig' : (n : Int) ≤ 65537 := by omega
          have HB := Lib.hid hbig
          clear hbig
          go_wp2
          go_ret
          refine ⟨?_, rfl⟩
          rw [← HV2.out, HF.out]
          simp [numO, HB.out]
end Go.Proofs.YtodjhgalbaelkaaDoor

/- TrC -/
namespace Go.Proofs.YtodjhgalbaelkaaDoor
open Go.RowKit Go.BigFrame Go.Shelf
set_option linter.unusedVariables false

/-- Digits so far: l; m is left. -/
def dgS (n m : Nat) (l : Bs) : Prop := Lib.decDigits n = if m = 0 ∧ l ≠ [] then l else Lib.decDigits m ++ l
theorem dgS_step {n m : Nat} {l : Bs} (h : dgS n m l) (hm : ¬ (m = 0 ∧ l ≠ [])) : dgS n (m / 10) (UInt8.ofNat (48 + m % 10) :: l) := by
  unfold dgS at *
  rw [h, if_neg hm]
  by_cases h10 : m < 10
  · rw [if_pos ⟨by omega, by simp⟩, Lib.decDigits, dif_pos h10, show m % 10 = m by omega]; rfl
  · rw [if_neg (by rintro ⟨h1, _⟩; omega), Lib.decDigits, dif_neg h10]; simp

set_option maxRecDepth 100000 in
set_option maxHeartbeats 4000000 in
theorem Rf.digits (n : Nat) (w : World) (hn : n ≤ 9999999) : Calls Tryd.prog 27 #[.int .i64 n] w fun e w' => e = .returned (.string (str (Lib.decDigits n))) ∧ Below w.heap.size w w' := by
  have hn1 : (n : Int) ≤ 9999999 := by omega
  have hn0 : (0 : Int) ≤ (n : Int) := by omega
  go_enter Tryd.func27, Tryd.ntmps27
  go_wp2_with fail
  go_loopw [0, 3, 4] (fun s0 s3 s4 wr => ∃ (m k : Nat) (l : Bs), s0 = .int .i64 m ∧ s3 = .string (str l) ∧ s4 = .int .i64 k ∧ dgS n m l ∧ m < 10 ^ (7 - k) ∧ k ≤ 7 ∧ l.length = k ∧ Below w.heap.size w wr) (fun _ _ s4 _ => 7 - (intOf s4).toNat)
  case atStart => exact ⟨n, 0, [], rfl, rfl, rfl, by unfold dgS; simp, by simp; omega, by omega, rfl, Below.refl _ _⟩
  case round =>
    obtain ⟨m, k, l, rfl, rfl, rfl, hd, hm, hk, hl, hbel⟩ := hrel
    have HD := Lib.hid hd
    have HM := Lib.hid hm
    have HL := Lib.hid hl
    have HBEL := Lib.hid hbel
    have hmb : (m : Int) ≤ 9999999 := by
      have := Nat.pow_le_pow_right (n := 10) (by decide) (show 7 - k ≤ 7 by omega)
      omega
    have hsz := hbel.size
    clear hd hm hl hbel
    by_cases hstop : k = 7 ∨ (m = 0 ∧ l ≠ [])
    · have hm0 : m = 0 := by
        rcases hstop with rfl | h
        · have := HM.out; simp at this; exact this
        · exact h.1
      have hlne : l ≠ [] := by
        rcases hstop with rfl | h
        · intro e; have := HL.out; rw [e] at this; simp at this
        · exact h.2
      subst hm0
      have hfin : Lib.decDigits n = l := by have := HD.out; unfold dgS at this; rw [this, if_pos ⟨rfl, hlne⟩]
      have heq : (str l).toList.isEmpty = false := by
        rw [Lib.toList_data, str_data]
        simpa using hlne
      have HF := Lib.hid hfin
      clear hfin hlne
      by_cases hk7 : k = 7
      · subst hk7
        clear hstop
        go_wp2_with fail
        go_ret
        exact ⟨by rw [HF.out]; rfl, HBEL.out⟩
      · have hk7' : (k : Int) < 7 := by omega
        clear hstop hk7
        go_wp2_with fail
        go_ret
        exact ⟨by rw [HF.out]; rfl, HBEL.out⟩
    · have hgo : ¬ (m = 0 ∧ l ≠ []) := fun h => hstop (.inr h)
      have hk7' : (k : Int) < 7 := by omega
      have hstep := dgS_step HD.out hgo
      have hmod : (m : Int).tmod 10 = ((m % 10 : Nat) : Int) := by
        rw [Int.tmod_eq_emod_of_nonneg (by omega)]; omega
      have hdiv : (m : Int).tdiv 10 = ((m / 10 : Nat) : Int) := by
        rw [Int.tdiv_eq_ediv_of_nonneg (by omega)]; omega
      obtain ⟨d, hd⟩ : ∃ d, d = m % 10 := ⟨_, rfl⟩
      have hd10 : (d : Int) < 10 := by omega
      have hd0 : (0 : Int) ≤ (d : Int) := by omega
      have HDD := Lib.hid hd
      rw [← hd] at hmod hstep
      have HST := Lib.hid hstep
      have HP : Hid (m / 10 < 10 ^ (7 - (k + 1))) := Lib.hid (by
        have h1 := HM.out
        rw [show 7 - k = (7 - (k + 1)) + 1 by omega, Nat.pow_succ] at h1
        omega)
      have hbyte : (UInt8.ofNat (48 + d)).toNat = 48 + d := dig_nat (by omega)
      obtain ⟨W, hW⟩ : ∃ W, W = wr.alloc (.cells #[.int .u8 (48 + (d : Int))] 5) := ⟨_, rfl⟩
      have hbW : Below wr.heap.size wr W := by rw [hW]; exact below_alloc _ _
      have hlit : W.heap[wr.heap.size]? = some (.cells #[.int .u8 (48 + (d : Int))] 5 (0, 0)) := by rw [hW]; exact heap_alloc_new _ _
      have kc : (convert 58 9 (.slice (some ⟨wr.heap.size, 0, none⟩) 1 1)).run Tryd.prog W = .ok (.string (str [UInt8.ofNat (48 + d)])) W :=
        run_convert_bytes_back (P := Tryd.prog) W 58 9 5 ⟨wr.heap.size, 0, none⟩ 1 [UInt8.ofNat (48 + d)] Tryd.underlying58 Tryd.underlying5 Tryd.underlying9 (fun j hj => by
          have hj0 : j = 0 := by simp at hj; omega
          subst hj0
          rw [addr_add]
          have := (CellsAt.of_heap hlit) 0 (.int .u8 (48 + (d : Int))) (by simp)
          simp only [Nat.add_zero] at this ⊢
          rw [this]
          simp only [List.getElem_cons_zero]
          rw [hbyte]
          simp)
      obtain ⟨C, hC⟩ : ∃ C, C = str [UInt8.ofNat (48 + d)] := ⟨_, rfl⟩
      rw [← hC] at kc
      have KC2 := Lib.hid kc
      have HBW := Lib.hid (HBEL.out.trans (hbW.mono hsz))
      have HW := Lib.hid hW
      have hsum : C.size + (str l).size ≤ 9223372036854775807 := by
        rw [hC, str_size, str_size]
        have := HL.out
        simp; omega
      have HCAT : Hid (C ++ str l = str (UInt8.ofNat (48 + d) :: l)) := Lib.hid (by rw [hC]; exact str_append _ _)
      clear hd hstop hstep hW hbW hlit kc hbyte hC
      by_cases hm0 : m = 0
      · have hl0 : l = [] := by
          by_cases h : l = []
          · exact h
          · exact absurd ⟨hm0, h⟩ hgo
        subst hl0
        subst hm0
        obtain rfl : d = 0 := by have := HDD.out; omega
        have HW' : Hid (W = wr.alloc (.cells #[.int .u8 48] 5)) := Lib.hid HW.out
        have heq : (str []).toList.isEmpty = true := by rw [Lib.toList_data, str_data]; rfl
        clear hgo
        go_wp2_with fail
        rw [← HW'.out, KC2.out]
        go_wp2_with fail
        go_roundw
        case rel => exact ⟨0 / 10, k + 1, _, rfl, by rw [HCAT.out], by go_num, HST.out, HP.out, by omega, by simp [HL.out], HBW.out⟩
        case measure => simp [intOf]; omega
      · have hm1 : (0 : Int) < (m : Int) := by omega
        clear hgo hm0
        go_wp2_with fail
        rw [← HW.out, KC2.out]
        go_wp2_with fail
        go_roundw
        case rel => exact ⟨m / 10, k + 1, _, rfl, by rw [HCAT.out], by go_num, HST.out, HP.out, by omega, by simp [HL.out], HBW.out⟩
        case measure => simp [intOf]; omega
end Go.Proofs.YtodjhgalbaelkaaDoor

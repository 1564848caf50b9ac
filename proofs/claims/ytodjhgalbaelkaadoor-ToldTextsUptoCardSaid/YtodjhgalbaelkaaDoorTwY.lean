/- told: the reader's line. -/
import Derived.Test.YtodjhgalbaelkaaDoorTwX
namespace Go.Proofs.YtodjhgalbaelkaaDoor
open Go.RowKit Go.BigFrame Go.Shelf
set_option linter.unusedVariables false

theorem getLast_pcs (l : List Chg) : (pcs l).getLast? = l.getLast?.map fun c => (c.n, c.es) := by simp [pcs]
theorem headOk_pcs (l : List Chg) (name : Bs) : headOk l name = headOkP (pcs l) name := by
  unfold headOk headOkP
  rw [getLast_pcs]
  cases l.getLast? <;> rfl
theorem pcs_push (l : List Chg) (c : Chg) : pcs (l ++ [c]) = pcs l ++ [(c.n, c.es)] := by simp [pcs]
theorem pcs_last {l : List Chg} {d : List Pc} {n : ByteArray} {es : List Edi} {x : Edi} (h : pcs l = d ++ [(n, es ++ [x])]) : ∃ d' ea ec, l = d' ++ [⟨n, ea, ec, es ++ [x]⟩] ∧ pcs d' = d := by
  rcases last_cases l with rfl | ⟨d', c, rfl⟩
  · simp [pcs] at h
  · rw [pcs_push] at h
    obtain ⟨h1, h2⟩ := List.append_inj' h rfl
    simp only [List.cons.injEq, Prod.mk.injEq, and_true] at h2
    obtain ⟨rfl, h3⟩ := h2
    obtain ⟨cn, cea, cec, ces⟩ := c
    simp only at h3
    subst h3
    exact ⟨d', cea, cec, rfl, h1⟩
theorem infoByte' : (Tryd.prog.info? 5).map (fun i => (i.zero, i.size, i.bytes)) = some (some (.int .u8 0), 1, 1) := by kernel_rfl
def LnPost (B r : Nat) (st : St) (s : ByteArray) (w : World) (e : Ending) (w' : World) : Prop :=
  Below B w w' ∧ (match stepL st (dl s) with | none => e = .returned (.bool false) | some st' => e = .returned (.bool true) ∧ ∃ l', pcs l' = st'.l ∧ RdA B r l' st'.last st'.want st'.text st'.opn w') ∧ K9 w w'

set_option maxRecDepth 100000 in
set_option maxHeartbeats 32000000 in
theorem Rd.line {B r : Nat} {l : List Chg} {last : Int} {want : Nat} {text : Bs} {opn : Bool} {w : World} (s : ByteArray) (h : RdA B r l last want text opn w) (hgood : Good ⟨pcs l, last, want, text, opn⟩) (hl : l.length ≤ 4000000) (hs : s.size ≤ 4000000)
    (hes : ∀ c ∈ l, c.es.length ≤ 4000000) (htx : text.length ≤ 4000000) (hwant : want ≤ 4000000) :
    Calls Tryd.prog 29 #[.pointer (some ⟨r, 0, none⟩), .string s] w (LnPost B r ⟨pcs l, last, want, text, opn⟩ s w) := by
  obtain ⟨K, lv, tv, h⟩ := h
  obtain ⟨ta, tc, rfl⟩ := row_shape h.txt
  obtain ⟨R, hR⟩ : ∃ R, stepL ⟨pcs l, last, want, text, opn⟩ (dl s) = R := ⟨_, rfl⟩
  have HPN := Lib.hid (fun (e : Ending) (w' : World) (hr : R = none) (he : e = .returned (.bool false)) (hb : Below B w w') (h9 : K9 w w') => show LnPost B r ⟨pcs l, last, want, text, opn⟩ s w e w' from ⟨hb, by rw [hR, hr]; exact he, h9⟩)
  have HPS := Lib.hid (fun (e : Ending) (w' : World) (st' : St) (hr : R = some st') (he : e = .returned (.bool true)) (hb : Below B w w') (l' : List Chg) (h1 : pcs l' = st'.l) (h2 : RdA B r l' st'.last st'.want st'.text st'.opn w') (h9 : K9 w w') => show LnPost B r ⟨pcs l, last, want, text, opn⟩ s w e w' from ⟨hb, by rw [hR, hr]; exact ⟨he, l', h1, h2⟩, h9⟩)
  unfold stepL at hR
  simp only at hR
  obtain ⟨i0, hi, hz0, hz1, hz2⟩ := info_parts infoByte'
  have HI := Lib.hid hi
  have HZ0 := Lib.hid hz0
  have HZ1 := Lib.hid hz1
  have HZ2 := Lib.hid hz2
  clear hi hz0 hz1 hz2
  obtain ⟨T, hT⟩ : ∃ T, tlB (dl s) = T := ⟨_, rfl⟩
  rw [hT] at hR
  have hTl : T.length ≤ s.size := by rw [← hT, size_dl]; unfold tlB; first | (simp; done) | (simp; omega)
  have hsx := hasSuffix_nl (dl s)
  have HSX := Lib.hid hsx
  have htr : ends (dl s) = true → Lib.trimSuffix (dl s) [10] = T := fun he => by
    unfold Lib.trimSuffix
    rw [hsx, if_pos he, ← hT]; try rfl
  have H := Lib.hid h
  have HES := Lib.hid hes
  have c4 := h.cell.2.2.2.2
  have z4 := h.fz 4
  clear hsx hT hes
  cases he : ends (dl s)
  · rw [he, if_pos rfl] at hR
    have HR := Lib.hid hR
    have HE := Lib.hid he
    clear hR he htr h
    go_enter Tryd.func29, Tryd.ntmps29
    go_wp2_with fail
    refine (Tryd.strings_CutSuffix s ⟨#[10]⟩ w (by omega)).mono ?_
    rintro e w0 ⟨rfl, rfl⟩
    rw [show (⟨#[10]⟩ : ByteArray).data.toList = [10] from rfl, show s.data.toList = dl s from rfl, HSX.out, HE.out]
    go_wp2_with fail
    go_ret
    exact HPN.out _ _ HR.out.symm rfl (Below.refl _ _) (K9.refl _)
  · rw [he, if_neg (by decide)] at hR
    have HE := Lib.hid he
    have HTR := Lib.hid (htr he)
    have hH1 := h.setOpen false
    have hb1 : Below B w (w.setCell ⟨r, 4, none⟩ (.bool false)) := below_r (Below.refl B w) h.leR _
    obtain ⟨W1, hW1⟩ : ∃ W1, W1 = w.setCell ⟨r, 4, none⟩ (.bool false) := ⟨_, rfl⟩
    have hk1 : K9 w (w.setCell ⟨r, 4, none⟩ (.bool false)) := (K9.refl w).set h.hd (by decide) 4 _
    rw [← hW1] at hH1 hb1 hk1
    have HK1 := Lib.hid hk1
    have c2 := h.cell.2.2.1
    have HW1 := Lib.hid hW1
    have H1 := Lib.hid hH1
    have HB1 := Lib.hid hb1
    clear he htr hW1 hH1 hb1 hk1 h
    by_cases hw0 : 0 < want
    · rw [if_pos hw0] at hR
      have hw1 : (0 : Int) < (want : Int) := by omega
      cases hp : Lib.hasPrefix T [43]
      · rw [hp, if_neg (by decide)] at hR
        have HR := Lib.hid hR
        have HP := Lib.hid hp
        clear hR hp
        go_enter Tryd.func29, Tryd.ntmps29
        go_wp2_with fail
        refine (Tryd.strings_CutSuffix s ⟨#[10]⟩ w (by omega)).mono ?_
        rintro e w0 ⟨rfl, rfl⟩
        rw [show (⟨#[10]⟩ : ByteArray).data.toList = [10] from rfl, show s.data.toList = dl s from rfl, HSX.out, HE.out, HTR.out]
        rw [show (⟨T.toArray⟩ : ByteArray) = str T from rfl]
        go_wp2_with fail
        rw [← HW1.out]
        refine (Tryd.strings_CutPrefix (str T) ⟨#[43]⟩ W1).mono ?_
        rintro e w2 ⟨rfl, rfl⟩
        rw [show (⟨#[43]⟩ : ByteArray).data.toList = [43] from rfl, str_data, HP.out]
        go_wp2_with fail
        go_ret
        exact HPN.out _ _ HR.out.symm rfl HB1.out HK1.out
      · rw [hp, if_pos rfl] at hR
        have HP := Lib.hid hp
        have htp : Lib.trimPrefix T [43] = T.drop 1 := by unfold Lib.trimPrefix; rw [hp, if_pos rfl]; rfl
        have HTP := Lib.hid htp
        obtain ⟨U, hU⟩ : ∃ U, T.drop 1 = U := ⟨_, rfl⟩
        rw [hU] at hR htp HTP
        have hUl : U.length ≤ s.size := by rw [← hU]; simp; omega
        clear hp htp hU
        have hcv : W1.ownsRow B 5 1 (.slice ta text.length tc) text.length (Lib.byteCells text) := H1.out.txt
        have HCV := Lib.hid hcv
        have hwb : (want : Int) ≤ 4000000 := by omega
        clear hcv
        by_cases hone : want = 1
        · subst hone
          obtain ⟨d, n, es, x, hlp⟩ := hgood.1 (.inl Nat.one_pos)
          obtain ⟨d', ea, ec, rfl, hd'⟩ := pcs_last hlp
          simp only at hlp
          have hR2 : R = some ⟨d ++ [(n, es ++ [⟨x.a, x.b, str (text ++ U ++ [10])⟩])], last, 0, text ++ U ++ [10], !(U == [])⟩ := by rw [← hR]; unfold wantP; rw [if_pos rfl, hlp, setTxt_at]
          have HR := Lib.hid hR2
          have hdl : d'.length ≤ 4000000 := by simp at hl; omega
          have hel : es.length ≤ 4000000 := by have := HES.out _ (List.mem_append_right _ (List.mem_singleton_self _)); simp at this; omega
          have HD' := Lib.hid hd'
          clear hR hR2 hgood hlp hd' hl
          go_enter Tryd.func29, Tryd.ntmps29
          go_wp2_with fail
          refine (Tryd.strings_CutSuffix s ⟨#[10]⟩ w (by omega)).mono ?_
          rintro e w0 ⟨rfl, rfl⟩
          rw [show (⟨#[10]⟩ : ByteArray).data.toList = [10] from rfl, show s.data.toList = dl s from rfl, HSX.out, HE.out, HTR.out]
          rw [show (⟨T.toArray⟩ : ByteArray) = str T from rfl]
          go_wp2_with fail
          rw [← HW1.out]
          refine (Tryd.strings_CutPrefix (str T) ⟨#[43]⟩ W1).mono ?_
          rintro e w2 ⟨rfl, rfl⟩
          rw [show (⟨#[43]⟩ : ByteArray).data.toList = [43] from rfl, str_data, HP.out, HTP.out]
          rw [show (⟨U.toArray⟩ : ByteArray) = str U from rfl]
          obtain ⟨-, -, k2, k3, -⟩ := H1.out.cell
          have z3 := H1.out.fz 3
          have z2 := H1.out.fz 2
          go_wp2_with (at_builtin; refine Lib.wpList_append_own_string _ rfl _ _ 58 9 rfl B 5 i0 Tryd.underlying58 Tryd.underlying9 HI.out HZ0.out HZ1.out HZ2.out _ _ _ rfl HCV.out (str U) rfl ?c3 ?c4 ?c5 ?_)
          case c3 => rw [str_size]; unfold maxLen; omega
          case c4 => rw [str_size]; omega
          case c5 => exact H1.out.B_le
          intro v5 w5 hown5 hg5 _
          have ho5 := H1.out.o.grown HCV.out hg5
          have hk5 := HK1.out.grown HCV.out (by decide) hg5
          have hb5 : Below B w0 w5 := HB1.out.grown hg5 H1.out.B_le (fun k hk => (row_cells HCV.out hk).1)
          obtain ⟨a5, q5, rfl⟩ := row_shape hown5
          obtain ⟨W6, hW6⟩ : ∃ W6, W6 = w5.alloc (.cells #[.int .u8 10] 5) := ⟨_, rfl⟩
          have hb6 : Below w5.heap.size w5 W6 := by rw [hW6]; exact below_alloc _ _
          have hlit : W6.heap[w5.heap.size]? = some (.cells #[.int .u8 10] 5 (0, 0)) := by rw [hW6]; exact heap_alloc_new _ _
          have ho6 := ho5.on hb6
          have hown6 := own_on hown5 hb6
          have hbb6 : Below B w0 W6 := hb5.trans (hb6.mono ho5.B_le)
          have HO6 := Lib.hid ho6
          have HK6 := Lib.hid (hk5.trans (K9.of_below hb6))
          have HOWN6 := Lib.hid hown6
          have HB6 := Lib.hid hbb6
          have HW6 := Lib.hid hW6
          have HLIT := Lib.hid hlit
          clear hown5 hg5 ho5 hb5 hk5 hW6 hb6 hlit ho6 hown6 hbb6 k2 k3 z2 z3
          go_wp2_with (at_builtin; rw [← HW6.out]; refine wpList_append_own _ rfl _ _ 58 rfl B 5 i0 (.int .u8 0) 1 1 Tryd.underlying58 HI.out HZ0.out HZ1.out HZ2.out rfl (by decide) _ _ _ rfl HOWN6.out ⟨w5.heap.size, 0, none⟩ 1 1 [.int .u8 10] rfl rfl ?c1 ?c2 ?c3 ?c4 ?c5 ?_)
          case c1 => intro j u hu; rw [addr_add]; exact (CellsAt.of_heap HLIT.out) j u (by simpa using hu)
          case c2 => intro u hu; simp at hu; rcases hu with rfl <;> rfl
          case c3 => unfold maxLen; omega
          case c4 => omega
          case c5 => exact HO6.out.B_le
          intro v7 w7 hown7 hg7 _
          obtain ⟨a7, q7, rfl⟩ := row_shape hown7
          have ho7 := HO6.out.grown HOWN6.out hg7
          have hb7 : Below B w0 w7 := HB6.out.grown hg7 HO6.out.B_le (fun k hk => (row_cells HOWN6.out hk).1)
          obtain ⟨N, hN⟩ : ∃ N, N = (text ++ U ++ [10]).length := ⟨_, rfl⟩
          have e7 : text.length + U.length + 1 = N := by rw [hN]; simp [Nat.add_assoc]
          have HN := Lib.hid hN
          rw [e7] at hown7
          rw [e7]
          have h8 := ho7.setText (t := text ++ U ++ [10]) (v := .slice a7 N q7) (by
            have hcells : Lib.byteCells text ++ (Lib.strCells (str U) ++ [Value.int .u8 10]) = Lib.byteCells (text ++ U ++ [10]) := by
              rw [cells_dl, dl_str, Lib.byteCells_append, Lib.byteCells_append, List.append_assoc]; rfl
            rw [← hcells, ← hN]; exact hown7)
          have H8 := Lib.hid h8
          have HK8 := Lib.hid ((HK6.out.grown HOWN6.out (by decide) hg7).set ho7.hd (by decide) 3 (.slice a7 N q7))
          have HB7 := Lib.hid hb7
          have k2 : w7.cell? ⟨r, 2, none⟩ = some (.int .i64 (1 : Nat)) := by simp [World.cell?, ho7.hd]
          have k3 : ∃ v0, w7.cell? ⟨r, 3, none⟩ = some v0 := ⟨_, by simp [World.cell?, ho7.hd]; rfl⟩
          obtain ⟨v0, k3⟩ := k3
          have k4 : ∃ v0, w7.cell? ⟨r, 4, none⟩ = some v0 := ⟨_, by simp [World.cell?, ho7.hd]; rfl⟩
          obtain ⟨v4, k4⟩ := k4
          have z2 : w7.frozen? ⟨r, 2, none⟩ = false := Lib.frozen_of_heap ho7.hd 2
          have z3 : w7.frozen? ⟨r, 3, none⟩ = false := Lib.frozen_of_heap ho7.hd 3
          have z4 : w7.frozen? ⟨r, 4, none⟩ = false := Lib.frozen_of_heap ho7.hd 4
          clear hown7 hg7 ho7 hb7 h8 hN e7
          obtain ⟨W9, hW9⟩ : ∃ W9, W9 = (w7.setCell ⟨r, 3, none⟩ (.slice a7 N q7)).setCell ⟨r, 2, none⟩ (.int .i64 0) := ⟨_, rfl⟩
          have h9 := H8.out.setWant 0
          rw [← hW9] at h9
          have hb9 : Below B w0 W9 := by rw [hW9]; exact below_r (below_r HB7.out H8.out.leR _) H8.out.leR _
          have hk9 : K9 w0 W9 := by rw [hW9]; exact HK8.out.set H8.out.hd (by decide) 2 _
          have HK9 := Lib.hid hk9
          have HW9 := Lib.hid hW9
          have H9 := Lib.hid h9
          have HB9 := Lib.hid hb9
          clear hW9 h9 hb9 hk9
          go_wp2_with fail
          rw [← HW9.out]
          refine (Rd.put (es0 := es) (x := x) H9.out hdl hel _ _ _ (text ++ U ++ [10]) (fun u hu => by have := conv_pre (H9.out.on hu).txt _ (Nat.le_refl _); rw [List.take_length, ← HN.out] at this; exact this)).mono ?_
          rintro e w10 ⟨⟨v10, rfl⟩, b10, h10, n10⟩
          have N10 := Lib.hid (HK9.out.trans n10)
          have H10 := Lib.hid h10
          have B10 := Lib.hid b10
          obtain ⟨-, -, -, -, k4'⟩ := h10.cell
          have z4' := h10.fz 4
          clear h10 b10 n10 k2 k3 k4 z2 z3 z4
          by_cases hU0 : U = []
          · subst hU0
            rw [show str [] = (⟨#[]⟩ : ByteArray) from rfl]
            go_wp2_with fail
            go_ret
            exact HPS.out _ _ _ HR.out rfl (below_r (HB9.out.trans B10.out) H10.out.leR _) (d' ++ [⟨n, ea, ec, es ++ [⟨x.a, x.b, str (text ++ [] ++ [10])⟩]⟩]) (by rw [pcs_push, HD'.out]) ⟨_, _, _, H10.out.setOpen false⟩ (N10.out.set H10.out.hd (by decide) 4 _)
          · have hne := not_isEmpty_of (s := str U) (by rw [str_size]; intro e; exact hU0 (List.length_eq_zero_iff.1 e))
            have HU0 := Lib.hid hU0
            clear hU0
            go_wp2_with fail
            go_ret
            exact HPS.out _ _ _ HR.out rfl (below_r (HB9.out.trans B10.out) H10.out.leR _) (d' ++ [⟨n, ea, ec, es ++ [⟨x.a, x.b, str (text ++ U ++ [10])⟩]⟩]) (by rw [pcs_push, HD'.out]) (by
              have : (!(U == [])) = true := by simp [HU0.out]
              simp only [this]
              exact ⟨_, _, _, H10.out.setOpen true⟩) (N10.out.set H10.out.hd (by decide) 4 _)
        · have hR2 : R = some ⟨pcs l, last, want - 1, text ++ U ++ [10], false⟩ := by rw [← hR]; unfold wantP; rw [if_neg hone]
          have HR := Lib.hid hR2
          have hne1 : ((want : Int) - 1 == 0) = false := by rw [beq_eq_false_iff_ne]; omega
          have hcast : Hid (((want - 1 : Nat) : Int) = (want : Int) - 1) := Lib.hid (by omega)
          clear hR hR2 hgood
          go_enter Tryd.func29, Tryd.ntmps29
          go_wp2_with fail
          refine (Tryd.strings_CutSuffix s ⟨#[10]⟩ w (by omega)).mono ?_
          rintro e w0 ⟨rfl, rfl⟩
          rw [show (⟨#[10]⟩ : ByteArray).data.toList = [10] from rfl, show s.data.toList = dl s from rfl, HSX.out, HE.out, HTR.out]
          rw [show (⟨T.toArray⟩ : ByteArray) = str T from rfl]
          go_wp2_with fail
          rw [← HW1.out]
          refine (Tryd.strings_CutPrefix (str T) ⟨#[43]⟩ W1).mono ?_
          rintro e w2 ⟨rfl, rfl⟩
          rw [show (⟨#[43]⟩ : ByteArray).data.toList = [43] from rfl, str_data, HP.out, HTP.out]
          rw [show (⟨U.toArray⟩ : ByteArray) = str U from rfl]
          obtain ⟨-, -, k2, k3, -⟩ := H1.out.cell
          have z3 := H1.out.fz 3
          have z2 := H1.out.fz 2
          go_wp2_with (at_builtin; refine Lib.wpList_append_own_string _ rfl _ _ 58 9 rfl B 5 i0 Tryd.underlying58 Tryd.underlying9 HI.out HZ0.out HZ1.out HZ2.out _ _ _ rfl HCV.out (str U) rfl ?c3 ?c4 ?c5 ?_)
          case c3 => rw [str_size]; unfold maxLen; omega
          case c4 => rw [str_size]; omega
          case c5 => exact H1.out.B_le
          intro v5 w5 hown5 hg5 _
          have ho5 := H1.out.o.grown HCV.out hg5
          have hk5 := HK1.out.grown HCV.out (by decide) hg5
          have hb5 : Below B w0 w5 := HB1.out.grown hg5 H1.out.B_le (fun k hk => (row_cells HCV.out hk).1)
          obtain ⟨a5, q5, rfl⟩ := row_shape hown5
          obtain ⟨W6, hW6⟩ : ∃ W6, W6 = w5.alloc (.cells #[.int .u8 10] 5) := ⟨_, rfl⟩
          have hb6 : Below w5.heap.size w5 W6 := by rw [hW6]; exact below_alloc _ _
          have hlit : W6.heap[w5.heap.size]? = some (.cells #[.int .u8 10] 5 (0, 0)) := by rw [hW6]; exact heap_alloc_new _ _
          have ho6 := ho5.on hb6
          have hown6 := own_on hown5 hb6
          have hbb6 : Below B w0 W6 := hb5.trans (hb6.mono ho5.B_le)
          have HO6 := Lib.hid ho6
          have HK6 := Lib.hid (hk5.trans (K9.of_below hb6))
          have HOWN6 := Lib.hid hown6
          have HB6 := Lib.hid hbb6
          have HW6 := Lib.hid hW6
          have HLIT := Lib.hid hlit
          clear hown5 hg5 ho5 hb5 hk5 hW6 hb6 hlit ho6 hown6 hbb6 k2 k3 z2 z3
          go_wp2_with (at_builtin; rw [← HW6.out]; refine wpList_append_own _ rfl _ _ 58 rfl B 5 i0 (.int .u8 0) 1 1 Tryd.underlying58 HI.out HZ0.out HZ1.out HZ2.out rfl (by decide) _ _ _ rfl HOWN6.out ⟨w5.heap.size, 0, none⟩ 1 1 [.int .u8 10] rfl rfl ?c1 ?c2 ?c3 ?c4 ?c5 ?_)
          case c1 => intro j u hu; rw [addr_add]; exact (CellsAt.of_heap HLIT.out) j u (by simpa using hu)
          case c2 => intro u hu; simp at hu; rcases hu with rfl <;> rfl
          case c3 => unfold maxLen; omega
          case c4 => omega
          case c5 => exact HO6.out.B_le
          intro v7 w7 hown7 hg7 _
          obtain ⟨a7, q7, rfl⟩ := row_shape hown7
          have ho7 := HO6.out.grown HOWN6.out hg7
          have hb7 : Below B w0 w7 := HB6.out.grown hg7 HO6.out.B_le (fun k hk => (row_cells HOWN6.out hk).1)
          obtain ⟨N, hN⟩ : ∃ N, N = (text ++ U ++ [10]).length := ⟨_, rfl⟩
          have e7 : text.length + U.length + 1 = N := by rw [hN]; simp [Nat.add_assoc]
          have HN := Lib.hid hN
          rw [e7] at hown7
          rw [e7]
          have h8 := ho7.setText (t := text ++ U ++ [10]) (v := .slice a7 N q7) (by
            have hcells : Lib.byteCells text ++ (Lib.strCells (str U) ++ [Value.int .u8 10]) = Lib.byteCells (text ++ U ++ [10]) := by
              rw [cells_dl, dl_str, Lib.byteCells_append, Lib.byteCells_append, List.append_assoc]; rfl
            rw [← hcells, ← hN]; exact hown7)
          have H8 := Lib.hid h8
          have HK8 := Lib.hid ((HK6.out.grown HOWN6.out (by decide) hg7).set ho7.hd (by decide) 3 (.slice a7 N q7))
          have HB7 := Lib.hid hb7
          have k2 : w7.cell? ⟨r, 2, none⟩ = some (.int .i64 want) := by simp [World.cell?, ho7.hd]
          have k3 : ∃ v0, w7.cell? ⟨r, 3, none⟩ = some v0 := ⟨_, by simp [World.cell?, ho7.hd]; rfl⟩
          obtain ⟨v0, k3⟩ := k3
          have k4 : ∃ v0, w7.cell? ⟨r, 4, none⟩ = some v0 := ⟨_, by simp [World.cell?, ho7.hd]; rfl⟩
          obtain ⟨v4, k4⟩ := k4
          have z2 : w7.frozen? ⟨r, 2, none⟩ = false := Lib.frozen_of_heap ho7.hd 2
          have z3 : w7.frozen? ⟨r, 3, none⟩ = false := Lib.frozen_of_heap ho7.hd 3
          have z4 : w7.frozen? ⟨r, 4, none⟩ = false := Lib.frozen_of_heap ho7.hd 4
          clear hown7 hg7 ho7 hb7 h8 hN e7
          go_wp2_with fail
          go_ret
          exact HPS.out _ _ _ HR.out rfl (below_r (below_r HB7.out H8.out.leR _) H8.out.leR _) l rfl ⟨_, _, _, by simp only [hcast.out]; exact H8.out.setWant ((want : Int) - 1)⟩ (HK8.out.set H8.out.hd (by decide) 2 _)
    · rw [if_neg hw0] at hR
      obtain rfl : want = 0 := by omega
      clear hw0
      by_cases hminus : T = [45] ∧ opn = true
      · obtain ⟨hT45, rfl⟩ := hminus
        rw [if_pos ⟨hT45, rfl⟩] at hR
        obtain ⟨d, n, es, x, hlp⟩ := hgood.1 (.inr rfl)
        have htne : text ≠ [] := hgood.2 rfl
        obtain ⟨m, hm⟩ : ∃ m, text.length = m + 1 := ⟨text.length - 1, by have := List.length_pos_iff.2 htne; omega⟩
        obtain ⟨d', ea, ec, rfl, hd'⟩ := pcs_last hlp
        simp only at hlp
        have hR2 : R = some ⟨d ++ [(n, es ++ [⟨x.a, x.b, str (text.take m)⟩])], last, 0, text, false⟩ := by rw [← hR, hlp, setTxt_at, hm]; rfl
        have HR := Lib.hid hR2
        have hdl : d'.length ≤ 4000000 := by simp at hl; omega
        have hel : es.length ≤ 4000000 := by have := HES.out _ (List.mem_append_right _ (List.mem_singleton_self _)); simp at this; omega
        have hmb : (m : Int) ≤ 4000000 := by omega
        have HD' := Lib.hid hd'
        have hEq : ((str T).toList == [45]) = true := by rw [Lib.toList_data, str_data, hT45]; rfl
        have u3 : ∀ u : Ext W1, u.w.cell? ⟨r, 3, none⟩ = some (.slice ta (m + 1) tc) := fun u => by have := (H1.out.on u.below).cell.2.2.2.1; rw [hm] at this; exact this
        have htc : m + 1 ≤ tc := by
          have ht := H1.out.txt
          rcases ht.2 with ⟨_, h2⟩ | ⟨g, cap', cur, e, _, _, hc, _⟩
          · omega
          · simp only [Value.slice.injEq] at e
            omega
        have htc2 : m ≤ tc := by omega
        have HM := Lib.hid hm
        clear hR hR2 hgood hlp hd' hl htne hm htx hT45
        go_enter Tryd.func29, Tryd.ntmps29
        go_wp2_with fail
        refine (Tryd.strings_CutSuffix s ⟨#[10]⟩ w (by omega)).mono ?_
        rintro e w0 ⟨rfl, rfl⟩
        rw [show (⟨#[10]⟩ : ByteArray).data.toList = [10] from rfl, show s.data.toList = dl s from rfl, HSX.out, HE.out, HTR.out]
        rw [show (⟨T.toArray⟩ : ByteArray) = str T from rfl]
        go_wp2_with fail
        rw [← HW1.out]
        refine wp_region_tail (C := fun w' => ∃ u : Ext W1, w' = u.w) 12 (by kernel_rfl) (by kernel_rfl) (Ext.drew W1) ?_
        simp only [List.take_succ_cons, List.take_zero, List.drop_succ_cons, List.drop_zero]
        repeat (go_big_quiet_step (fail))
        refine wpQuiet_nil ?_
        rintro w' ⟨u, rfl⟩
        have HU := Lib.hid u.below
        clear u3
        generalize u.w = uw at *
        clear u
        have H9 := Lib.hid (H1.out.on HU.out)
        go_wp2_with fail
        refine (Rd.put (es0 := es) (x := x) H9.out hdl hel _ _ _ (text.take m) (fun u hu => conv_pre (H9.out.on hu).txt m (by have := HM.out; omega))).mono ?_
        rintro e w10 ⟨⟨v10, rfl⟩, b10, h10, n10⟩
        have N10 := Lib.hid ((HK1.out.trans (K9.of_below HU.out)).trans n10)
        have H10 := Lib.hid h10
        have B10 := Lib.hid b10
        clear h10 b10 n10
        go_wp2_with fail
        go_ret
        exact HPS.out _ _ _ HR.out rfl ((HB1.out.trans (HU.out.mono H1.out.B_le)).trans B10.out) (d' ++ [⟨n, ea, ec, es ++ [⟨x.a, x.b, str (text.take m)⟩]⟩]) (by rw [pcs_push, HD'.out]) ⟨_, _, _, H10.out⟩ N10.out
      · rw [if_neg hminus] at hR
        have hsplit : ((str T).toList == [45]) = true ∧ opn = false ∨ ((str T).toList == [45]) = false := by
          rw [Lib.toList_data, str_data]
          by_cases h1 : T = [45]
          · left
            refine ⟨by rw [h1]; rfl, ?_⟩
            cases opn
            · rfl
            · exact absurd ⟨h1, rfl⟩ hminus
          · right
            rw [beq_eq_false_iff_ne]; exact h1
        clear hminus hgood
        cases hp1 : Lib.hasPrefix T [61, 32]
        · rw [hp1, if_neg (by decide)] at hR
          have HP1 := Lib.hid hp1
          clear hp1
          cases hp2 : Lib.hasPrefix T [64, 32]
          · rw [hp2, if_neg (by decide)] at hR
            have HP2 := Lib.hid hp2
            have HR := Lib.hid hR
            clear hp2 hR
            rcases hsplit with ⟨hEq, rfl⟩ | hEq
            all_goals
              go_enter Tryd.func29, Tryd.ntmps29
              go_wp2_with fail
              refine (Tryd.strings_CutSuffix s ⟨#[10]⟩ w (by omega)).mono ?_
              rintro e w0 ⟨rfl, rfl⟩
              rw [show (⟨#[10]⟩ : ByteArray).data.toList = [10] from rfl, show s.data.toList = dl s from rfl, HSX.out, HE.out, HTR.out]
              rw [show (⟨T.toArray⟩ : ByteArray) = str T from rfl]
              go_wp2_with fail
              rw [← HW1.out]
              refine (Tryd.strings_HasPrefix (str T) ⟨#[61, 32]⟩ W1).mono ?_
              rintro e w2 ⟨rfl, rfl⟩
              rw [show (⟨#[61, 32]⟩ : ByteArray).data.toList = [61, 32] from rfl, str_data, HP1.out]
              go_wp2_with fail
              refine (Tryd.strings_HasPrefix (str T) ⟨#[64, 32]⟩ w2).mono ?_
              rintro e w3 ⟨rfl, rfl⟩
              rw [show (⟨#[64, 32]⟩ : ByteArray).data.toList = [64, 32] from rfl, str_data, HP2.out]
              go_wp2_with fail
              go_ret
              exact HPN.out _ _ HR.out.symm rfl HB1.out HK1.out
          · rw [hp2, if_pos rfl] at hR
            have HP2 := Lib.hid hp2
            have h2 : 2 ≤ T.length := by
              have : [64, 32].isPrefixOf T = true := hp2
              have := (List.isPrefixOf_iff_prefix.1 this).length_le
              simpa using this
            have hext : (str T).extract 2 T.length = str (T.drop 2) := by rw [ext_str, str_data, List.take_of_length_le (by simp)]
            have HR := Lib.hid hR
            clear hp2 hR
            rcases hsplit with ⟨hEq, rfl⟩ | hEq
            all_goals
              go_enter Tryd.func29, Tryd.ntmps29
              go_wp2_with fail
              refine (Tryd.strings_CutSuffix s ⟨#[10]⟩ w (by omega)).mono ?_
              rintro e w0 ⟨rfl, rfl⟩
              rw [show (⟨#[10]⟩ : ByteArray).data.toList = [10] from rfl, show s.data.toList = dl s from rfl, HSX.out, HE.out, HTR.out]
              rw [show (⟨T.toArray⟩ : ByteArray) = str T from rfl]
              go_wp2_with fail
              rw [← HW1.out]
              refine (Tryd.strings_HasPrefix (str T) ⟨#[61, 32]⟩ W1).mono ?_
              rintro e w2 ⟨rfl, rfl⟩
              rw [show (⟨#[61, 32]⟩ : ByteArray).data.toList = [61, 32] from rfl, str_data, HP1.out]
              go_wp2_with fail
              refine (Tryd.strings_HasPrefix (str T) ⟨#[64, 32]⟩ w2).mono ?_
              rintro e w3 ⟨rfl, rfl⟩
              rw [show (⟨#[64, 32]⟩ : ByteArray).data.toList = [64, 32] from rfl, str_data, HP2.out]
              go_wp2_with fail
              refine (Rd.edit (str (T.drop 2)) ⟨_, _, _, H1.out⟩ hl (by rw [str_size, List.length_drop]; omega) HES.out).mono ?_
              rintro e w4 ⟨hb, ⟨rfl, hno, hrd⟩ | ⟨d, c, x, n, ea, ec, rfl, her, rfl, hrd⟩, h9⟩
              · have HNO := Lib.hid hno
                have HB := Lib.hid hb
                have H9 := Lib.hid (HK1.out.trans h9)
                clear hno hrd hb h9
                go_wp2_with fail
                go_ret
                refine HPN.out _ _ ?_ rfl (HB1.out.trans HB.out) H9.out
                rw [← HR.out]
                have := HNO.out
                rw [dl_str] at this
                exact editP_none this
              · have HER := Lib.hid her
                have HB := Lib.hid hb
                have HRD := Lib.hid hrd
                have H9 := Lib.hid (HK1.out.trans h9)
                clear her hrd hb h9
                go_wp2_with fail
                go_ret
                have her := HER.out
                rw [dl_str] at her
                exact HPS.out _ _ ⟨pcs d ++ [(c.n, c.es ++ [x])], x.b, n, [], false⟩ (by rw [← HR.out]; exact editP_some her) rfl (HB1.out.trans HB.out) _ (by rw [pcs_push]) HRD.out H9.out
        · rw [hp1, if_pos rfl] at hR
          have HP1 := Lib.hid hp1
          have h2 : 2 ≤ T.length := by
            have : [61, 32].isPrefixOf T = true := hp1
            have := (List.isPrefixOf_iff_prefix.1 this).length_le
            simpa using this
          have hext : (str T).extract 2 T.length = str (T.drop 2) := by rw [ext_str, str_data, List.take_of_length_le (by simp)]
          have HR := Lib.hid hR
          clear hp1 hR
          rcases hsplit with ⟨hEq, rfl⟩ | hEq
          all_goals
            go_enter Tryd.func29, Tryd.ntmps29
            go_wp2_with fail
            refine (Tryd.strings_CutSuffix s ⟨#[10]⟩ w (by omega)).mono ?_
            rintro e w0 ⟨rfl, rfl⟩
            rw [show (⟨#[10]⟩ : ByteArray).data.toList = [10] from rfl, show s.data.toList = dl s from rfl, HSX.out, HE.out, HTR.out]
            rw [show (⟨T.toArray⟩ : ByteArray) = str T from rfl]
            go_wp2_with fail
            rw [← HW1.out]
            refine (Tryd.strings_HasPrefix (str T) ⟨#[61, 32]⟩ W1).mono ?_
            rintro e w2 ⟨rfl, rfl⟩
            rw [show (⟨#[61, 32]⟩ : ByteArray).data.toList = [61, 32] from rfl, str_data, HP1.out]
            go_wp2_with fail
            refine (Rd.head (str (T.drop 2)) ⟨_, _, _, H1.out⟩ hl (by rw [str_size, List.length_drop]; omega)).mono ?_
            rintro e w4 ⟨rfl, hb, hrd, h9⟩
            have H9 := Lib.hid (HK1.out.trans h9)
            clear h9
            rw [headOk_pcs, dl_str] at hrd ⊢
            have HB := Lib.hid hb
            clear hb
            cases hk : headOkP (pcs l) (T.drop 2)
            · rw [hk] at hrd
              have HK := Lib.hid hk
              clear hk hrd
              go_wp2_with fail
              go_ret
              refine HPN.out _ _ ?_ rfl (HB1.out.trans HB.out) H9.out
              rw [← HR.out]; unfold headP; rw [if_neg (by simp [HK.out])]
            · rw [hk] at hrd
              have HK := Lib.hid hk
              have HRD := Lib.hid hrd
              clear hk hrd
              go_wp2_with fail
              go_ret
              refine HPS.out _ _ ⟨pcs l ++ [(str (T.drop 2), [])], -1, 0, text, false⟩ ?_ rfl (HB1.out.trans HB.out) (l ++ [⟨str (T.drop 2), none, 0, []⟩]) (by rw [pcs_push]) (by simpa using HRD.out) H9.out
              rw [← HR.out]; unfold headP; rw [if_pos (by simp [HK.out])]
end Go.Proofs.YtodjhgalbaelkaaDoor

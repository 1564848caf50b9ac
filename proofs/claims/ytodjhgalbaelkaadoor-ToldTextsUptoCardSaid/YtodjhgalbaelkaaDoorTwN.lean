/- told.Text. -/
import Derived.Test.YtodjhgalbaelkaaDoorTwM
namespace Go.Proofs.YtodjhgalbaelkaaDoor
open Go.RowKit Go.BigFrame Go.Shelf
set_option linter.unusedVariables false

def wtE (l : List Edi) : Nat := (l.map (fun x => x.t.size + 1)).sum
def wt (l : List Chg) : Nat := (l.map (fun c => c.n.size + 1 + wtE c.es)).sum
def eqB (n : ByteArray) : Bs := [61, 32] ++ (dl n ++ [10])
def textC (c : Chg) : Bs := eqB c.n ++ c.es.flatMap tellB
def textB (l : List Chg) : Bs := l.flatMap textC
def InR (x : Edi) : Prop := 0 ≤ x.a ∧ x.a ≤ x.b ∧ x.b ≤ 65536
theorem nextB_in {a b c d : Int} (h : nextB a b c d = true) : a < b ∧ 0 ≤ b ∧ b ≤ c ∧ c ≤ 65536 ∧ d ≤ 65536 ∧ (b < c ∨ 0 < d) := by
  simpa [nextB, and_assoc] using h
theorem okEs_mem : ∀ (l : List Edi) (last : Int), okEs last l = true → ∀ x ∈ l, InR x
  | [], _, _, x, h => by cases h
  | y :: l, last, hk, x, h => by
    rw [okEs, Bool.and_eq_true] at hk
    rcases List.mem_cons.1 h with rfl | h
    · have := nextB_in hk.1
      exact ⟨this.2.1, this.2.2.1, this.2.2.2.1⟩
    · exact okEs_mem l _ hk.2 x h
theorem okCs_mem : ∀ (l : List Chg) (p : Option ByteArray), okCs p l = true → ∀ c ∈ l, ∀ x ∈ c.es, InR x
  | [], _, _, c, h => by cases h
  | y :: l, p, hk, c, h => by
    rw [okCs, Bool.and_eq_true] at hk
    rcases List.mem_cons.1 h with rfl | h
    · have := hk.1
      unfold okC at this
      rw [Bool.and_eq_true] at this
      exact okEs_mem _ _ this.2
    · exact okCs_mem l _ hk.2 c h
theorem flatMap_take_len {α : Type} (f : α → Bs) (l : List α) (i : Nat) : ((l.take i).flatMap f).length ≤ (l.flatMap f).length := by
  conv => rhs; rw [← List.take_append_drop i l, List.flatMap_append, List.length_append]
  omega
theorem tells_len : ∀ (l : List Edi), (∀ x ∈ l, InR x) → (∀ x ∈ l, x.t.size ≤ 2000000) → (l.flatMap tellB).length ≤ 100 * wtE l
  | [], _, _ => by simp [wtE]
  | x :: l, h, ht => by
    have h1 := tellB_len x (h x List.mem_cons_self) (ht x List.mem_cons_self)
    have h2 := tells_len l (fun y hy => h y (List.mem_cons_of_mem _ hy)) (fun y hy => ht y (List.mem_cons_of_mem _ hy))
    rw [List.flatMap_cons, List.length_append]
    have h3 : wtE (x :: l) = x.t.size + 1 + wtE l := rfl
    omega
theorem textC_len (c : Chg) (h : ∀ x ∈ c.es, InR x) (ht : ∀ x ∈ c.es, x.t.size ≤ 2000000) : (textC c).length ≤ 100 * (c.n.size + 1 + wtE c.es) := by
  have h1 := tells_len c.es h ht
  have h2 := size_dl c.n
  unfold textC eqB
  simp only [List.length_append, List.length_cons, List.length_nil]
  omega
theorem textB_len : ∀ (l : List Chg), (∀ c ∈ l, ∀ x ∈ c.es, InR x) → (∀ c ∈ l, ∀ x ∈ c.es, x.t.size ≤ 2000000) → (textB l).length ≤ 100 * wt l
  | [], _, _ => by simp [textB, wt]
  | c :: l, h, ht => by
    have h1 := textC_len c (h c List.mem_cons_self) (ht c List.mem_cons_self)
    have h2 := textB_len l (fun y hy => h y (List.mem_cons_of_mem _ hy)) (fun y hy => ht y (List.mem_cons_of_mem _ hy))
    have h3 : wt (c :: l) = c.n.size + 1 + wtE c.es + wt l := rfl
    have h4 : textB (c :: l) = textC c ++ textB l := rfl
    rw [h4, List.length_append]
    omega
def textV (l : List Chg) : Value := .tuple (if okCs none l = true then #[.string (str (textB l)), .int .i64 0] else #[.string ⟨#[]⟩, .int .i64 2])

set_option maxRecDepth 100000 in
set_option maxHeartbeats 16000000 in
theorem Td.text (a : Option Addr) (c : Nat) (l : List Chg) (w : World) (hr : ChsAt w a l) (hb : Bnd l) (hw : wt l ≤ 20000000) (ht : Tab w) :
    Calls Tryd.prog 10 #[.slice a l.length c] w fun e w' => e = .returned (textV l) ∧ Below w.heap.size w w' := by
  obtain ⟨V, hV⟩ : ∃ V, textV l = V := ⟨_, rfl⟩
  rw [hV]
  have HV := Lib.hid hV
  have HROW := Lib.hid hr
  have HB := Lib.hid hb
  have HT := Lib.hid ht
  have hll := hb.len
  clear hV hr hb ht
  go_enter Tryd.func10, Tryd.ntmps10
  go_wp2_with fail
  refine (Td.changes a c l w HROW.out HB.out).mono ?_
  rintro e w1 ⟨rfl, b1⟩
  have B1 := Lib.hid b1
  have hs1 := b1.size
  have hr1 := HROW.out.below b1
  have ht1 := HT.out.on b1
  have HR1 := Lib.hid hr1
  have HT1 := Lib.hid ht1
  have h8 : 2 ≤ w1.heap.size := ht1.size
  clear b1 hr1 ht1 HROW HT
  cases hok : okCs none l
  · have HOK := Lib.hid hok
    clear hok
    go_wp2
    go_ret2
    refine ⟨?_, B1.out⟩
    rw [← HV.out]; unfold textV
    rw [if_neg (by simp [HOK.out])]; rfl
  have HOK := Lib.hid hok
  clear hok
  have hall := okCs_mem l none HOK.out
  have hlen := textB_len l hall HB.out.t
  have hpl : ∀ i, (textB (l.take i)).length ≤ 2000000000 := fun i => by
    have := flatMap_take_len textC l i
    unfold textB at hlen ⊢
    omega
  have h0 : Tl w1.heap.size w1.heap.size w1 [] (w1.alloc (.cells #[.pointer none, .slice none 0 0] 60)) :=
    ⟨Bw.new w1, (Lib.OthersKept.refl _ _ _).alloc _, below_alloc _ _, (below_alloc _ _).size⟩
  have H0 := Lib.hid h0
  have HPL := Lib.hid hpl
  have HALL := Lib.hid hall
  clear h0 hpl hlen hall
  go_wp2_with fail
  go_loopw [14] (fun s14 wr => ∃ i : Nat, i ≤ l.length ∧ s14 = .int .i64 i ∧ Tl w1.heap.size w1.heap.size w1 (textB (l.take i)) wr) (fun s14 _ => l.length - (intOf s14).toNat)
  case atStart => exact ⟨0, by omega, rfl, H0.out⟩
  case round =>
    clear H0
    obtain ⟨i, hi, rfl, htl⟩ := hrel
    have HTL := Lib.hid htl
    have hbel := htl.be
    have hsz := htl.le
    clear htl
    by_cases hlt : i < l.length
    · obtain ⟨bb, off, rfl, hbw, hcc⟩ := HR1.out.1.at (by intro e; simp [e] at hlt)
      obtain ⟨g0, g1⟩ := Chg.at (w := wr) (b := bb) (o := off + i * 2) (c := l[i]) ((hcc i hlt).below hbel hbw)
      have htk : l.take (i + 1) = l.take i ++ [l[i]] := List.take_succ_eq_append_getElem hlt
      have hxn := HB.out.n l[i] (List.getElem_mem hlt)
      have hel := HB.out.es l[i] (List.getElem_mem hlt)
      have htx := HB.out.t l[i] (List.getElem_mem hlt)
      have hax := HALL.out l[i] (List.getElem_mem hlt)
      have hed := HR1.out.2 l[i] (List.getElem_mem hlt)
      have hpi := HPL.out i
      have hpi1 := HPL.out (i + 1)
      have htk2 : textB (l.take (i + 1)) = textB (l.take i) ++ textC l[i] := by rw [htk]; unfold textB; rw [List.flatMap_append]; simp
      rw [htk2, List.length_append] at hpi1
      obtain ⟨W5, hW5⟩ : ∃ W5, W5 = wr.alloc (.cells #[.string l[i].n, .slice l[i].ea l[i].es.length l[i].ec] 48) := ⟨_, rfl⟩
      have hbx : W5.heap[wr.heap.size]? = some (.cells #[.string l[i].n, .slice l[i].ea l[i].es.length l[i].ec] 48 (0, 0)) := by rw [hW5]; exact heap_alloc_new _ _
      have hb5 : Below wr.heap.size wr W5 := by rw [hW5]; exact below_alloc _ _
      have h5 := HTL.out.on hb5
      have hne : wr.heap.size ≠ w1.heap.size := by have := HTL.out.bw.lt; omega
      have HTX := Lib.hid htx
      have HAX := Lib.hid hax
      have HED := Lib.hid hed
      have HTK2 := Lib.hid htk2
      have HW5 := Lib.hid hW5
      have HBX := Lib.hid hbx
      have H5 := Lib.hid h5
      have hP : ∃ P, P = textB (l.take i) := ⟨_, rfl⟩
      obtain ⟨P, hP⟩ := hP
      rw [← hP] at hpi hpi1 HTK2 H5
      have HP := Lib.hid hP
      clear hcc htk htx hax hed htk2 hW5 hbx hb5 h5 hP hbel
      generalize l[i] = x at *
      obtain ⟨xn, xa, xc, xes⟩ := x
      simp only at *
      have hc0 : ∀ (m : Bs) (u : World), Tl w1.heap.size w1.heap.size W5 m u → u.cell? ⟨wr.heap.size, 0, none⟩ = some (.string xn) := fun m u hu => hu.cell HBX.out hne (by decide) rfl
      have hc1 : ∀ (m : Bs) (u : World), Tl w1.heap.size w1.heap.size W5 m u → u.cell? ⟨wr.heap.size, 1, none⟩ = some (.slice xa xes.length xc) := fun m u hu => hu.cell HBX.out hne (by decide) rfl
      have HC0 := Lib.hid hc0
      have HC1 := Lib.hid hc1
      clear hc0 hc1
      go_wp2_with fail
      rw [← HW5.out]
      refine (H5.out.start.ws _ (by simp [ByteArray.size]; omega)).mono ?_
      rintro e w2 ⟨⟨v2, rfl⟩, h2⟩
      rw [show dl (⟨#[61, 32]⟩ : ByteArray) = [61, 32] from rfl] at h2
      have c0 := HC0.out _ _ h2
      have H2 := Lib.hid h2
      clear h2 g0 g1
      go_wp2_with fail
      refine (H2.out.ws _ (by simp; omega)).mono ?_
      rintro e w3 ⟨⟨v3, rfl⟩, h3⟩
      have H3 := Lib.hid h3
      clear h3 c0
      go_wp2_with fail
      refine (H3.out.wb 10 (by simp [← size_dl]; omega)).mono ?_
      rintro e w4 ⟨⟨v4, rfl⟩, h4⟩
      have c1 := HC1.out _ _ h4
      have h4' : Tl w1.heap.size w1.heap.size w1 (P ++ eqB xn) w4 := by
        have := H5.out.comp h4
        simpa [eqB] using this
      have H4 := Lib.hid h4'
      clear h4 h4' H2 H3
      go_wp2_with fail
      obtain ⟨wr0, hwr0⟩ : ∃ wr0, wr0 = wr := ⟨_, rfl⟩
      subst hwr0
      go_loopw [26] (fun s26 wq => ∃ j : Nat, j ≤ xes.length ∧ s26 = .int .i64 j ∧ Tl w1.heap.size w1.heap.size w1 (P ++ eqB xn ++ (xes.take j).flatMap tellB) wq) (fun s26 _ => xes.length - (intOf s26).toNat)
      case atStart => exact ⟨0, by omega, rfl, by simpa using H4.out⟩
      case round =>
        clear H4 c1
        obtain ⟨j, hj, rfl, hq⟩ := hrel
        have HQ := Lib.hid hq
        have hqbe := hq.be
        have hqle := hq.le
        have hblt := hq.bw.lt
        clear hq
        by_cases hjl : j < xes.length
        · obtain ⟨eb, eo, rfl, heb, hec⟩ := HED.out.at (by intro e; simp [e] at hjl)
          obtain ⟨q0, q1, q2⟩ := Edi.at (w := wr) (b := eb) (o := eo + j * 3) (x := xes[j]) ((hec j hjl).below hqbe heb)
          have htk : (xes.take (j + 1)).flatMap tellB = (xes.take j).flatMap tellB ++ tellB xes[j] := by
            rw [List.take_succ_eq_append_getElem hjl, List.flatMap_append]; simp
          have htj := HTX.out xes[j] (List.getElem_mem hjl)
          have haj := HAX.out xes[j] (List.getElem_mem hjl)
          have hfl := flatMap_take_len tellB xes j
          have htc : (textC ⟨xn, some ⟨eb, eo, none⟩, xc, xes⟩).length = (eqB xn).length + (xes.flatMap tellB).length := by unfold textC; rw [List.length_append]
          obtain ⟨W6, hW6⟩ : ∃ W6, W6 = wr.alloc (.cells #[.int .i64 xes[j].a, .int .i64 xes[j].b, .string xes[j].t] 50) := ⟨_, rfl⟩
          have hb6 : Below wr.heap.size wr W6 := by rw [hW6]; exact below_alloc _ _
          have h6 := HQ.out.on hb6
          have hblt6 := h6.bw.lt
          have HTK := Lib.hid htk
          have HW6 := Lib.hid hW6
          have H6 := Lib.hid h6
          clear hec htk hW6 hb6 h6 hqbe
          generalize xes[j] = y at *
          obtain ⟨ya, yb, yt⟩ := y
          simp only at *
          go_wp2_with fail
          rw [← HW6.out]
          refine (Td.tell _ _ ⟨ya, yb, yt⟩ _ _ W6 H6.out hblt6 (H6.out.tab HT1.out h8) h8 haj htj (by simp only [List.length_append]; omega)).mono ?_
          rintro e w7 ⟨⟨v7, rfl⟩, h7⟩
          have H7 := Lib.hid h7
          clear h7 q0 q1 q2
          go_wp2_with fail
          go_roundw
          case rel => exact ⟨j + 1, by omega, by go_num, by rw [HTK.out, ← List.append_assoc]; exact H7.out⟩
          case measure => simp [intOf]; omega
        · obtain rfl : j = xes.length := by omega
          rw [List.take_length] at HQ
          clear hqbe
          go_wp2_with fail
          go_roundw
          case rel => exact ⟨i + 1, by omega, by go_num, by rw [HTK2.out]; have := HQ.out; unfold textC; rw [← List.append_assoc]; exact this⟩
          case measure => simp [intOf]; omega
    · obtain rfl : i = l.length := by omega
      rw [List.take_length] at HTL
      clear hbel HR1
      go_wp2_with fail
      refine (Bw.string HTL.out.bw hsz).mono ?_
      rintro e w6 ⟨rfl, b6⟩
      have B6 := Lib.hid b6
      clear b6
      go_wp2_with fail
      go_ret2
      refine ⟨?_, B1.out.trans ((HTL.out.be.trans (B6.out.mono (by omega))).mono hs1)⟩
      rw [← HV.out]; unfold textV
      rw [if_pos HOK.out]; rfl
end Go.Proofs.YtodjhgalbaelkaaDoor

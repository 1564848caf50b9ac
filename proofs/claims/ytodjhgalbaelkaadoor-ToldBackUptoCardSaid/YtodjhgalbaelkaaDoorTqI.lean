/- The law ToldJoins: its walk. -/
import Derived.Test.YtodjhgalbaelkaaDoorTqH
namespace Go.Proofs.YtodjhgalbaelkaaDoor
open Go.RowKit Go.BigFrame Go.Shelf
set_option linter.unusedVariables false

theorem textB_parts (c : List Chg) (k : Nat) : textB (c.take k) ++ textB (c.drop k) = textB c := by
  unfold textB
  rw [← List.flatMap_append, List.take_append_drop]
theorem str_append (a b : Bs) : str a ++ str b = str (a ++ b) := by
  apply dl_inj
  simp [dl, str]
theorem textV_ok {l : List Chg} (h : okCs none l = true) : textV l = .tuple #[.string (str (textB l)), .int .i64 0] := by unfold textV; rw [if_pos h]
theorem textV_no {l : List Chg} (h : okCs none l = false) : textV l = .tuple #[.string ⟨#[]⟩, .int .i64 2] := by unfold textV; rw [if_neg (by simp [h])]
theorem wt_sub {l m : List Chg} (h : ∃ a b, l = a ++ m ++ b) : wt m ≤ wt l := by
  obtain ⟨a, b, rfl⟩ := h
  unfold wt
  simp only [List.map_append, List.sum_append]
  omega
/-- What the reader leaves: a list of changes. -/
theorem RdC.chs {B K r : Nat} {lv tv : Value} {l : List Chg} {last want : Int} {text : Bs} {opn : Bool} {w : World} (h : RdC B K r lv tv l last want text opn w) : ∃ a cap, lv = .slice a l.length cap ∧ ChsAt w a l := by
  obtain ⟨a, cap, rfl⟩ := row_shape h.row
  refine ⟨a, cap, rfl, (rowAt_owns (f := Chg.f) (fun g => rfl) h.row rfl).2, fun c hc => ?_⟩
  rcases last_cases l with rfl | ⟨d, x, rfl⟩
  · cases hc
  · rcases List.mem_append.1 hc with hc | hc
    · exact (rowAt_owns (f := Edi.f) (fun g => rfl) (h.old c (by simpa using hc)).1 rfl).2
    · rw [List.mem_singleton] at hc
      subst hc
      exact (rowAt_owns (f := Edi.f) (fun g => rfl) (h.new c (by simp)) rfl).2
theorem parse_of {l : List Chg} (h : okCs none l = true) : ∃ st, parseB (textB l) = .inr st ∧ st.l = pcs l := by
  rw [textB_pcs]
  exact parse_text (by rw [← okCs_pcs]; exact h)
theorem twin_at {l : List Chg} {w : World} {base : Nat} {v : Value} (h : w.ownsRow base 69 2 v l.length (l.flatMap Chg.f)) : ∃ a cap, v = .slice a l.length cap ∧ RowAt 2 Chg.f w a l := by
  obtain ⟨a, cap, rfl⟩ := row_shape h
  exact ⟨a, cap, rfl, (rowAt_owns (f := Chg.f) (fun g => rfl) h rfl).2⟩
theorem cut_at (cut : Int) (n : Nat) (h0 : 0 ≤ cut) (hn : n ≤ 2000000) : ∃ k : Nat, k ≤ n ∧ cut.tmod ((n : Int) + 1) = (k : Int) := by
  have h3 : cut.tmod ((n : Int) + 1) < (n : Int) + 1 := Int.tmod_lt_of_pos _ (by omega)
  have h6 : 0 ≤ cut.tmod ((n : Int) + 1) := Int.tmod_nonneg _ h0
  exact ⟨(cut.tmod ((n : Int) + 1)).toNat, by omega, by omega⟩

set_option maxRecDepth 100000 in
set_option maxHeartbeats 16000000 in
theorem Td.joins (b : Option Addr) (cb : Nat) (c : List Chg) (cut : Int) (w : World) (hc : ChsAt w b c) (hcb : c.length ≤ cb) (hcm : cb ≤ maxLen) (hb : Bnd c) (hw : wt c ≤ 1048576) (hcut0 : 0 ≤ cut) (hcut1 : cut ≤ 255) (ht : Tab w) :
    Calls Tryd.prog 6 #[.slice b c.length cb, .int .u8 cut] w fun e w' => e = .returned (.bool true) ∧ Below w.heap.size w w' := by
  have HC := Lib.hid hc
  have HB := Lib.hid hb
  have HT := Lib.hid ht
  have HW := Lib.hid hw
  have hcl := hb.len
  obtain ⟨k, hk, hk1⟩ := cut_at cut c.length hcut0 hcl
  clear hc hb ht hw
  go_enter Tryd.func6, Tryd.ntmps6
  go_wp2_with fail
  refine (Td.alive w HT.out).mono ?_
  rintro e w1 ⟨rfl, b1⟩
  have B1 := Lib.hid b1
  have hs1 := b1.size
  have hc1 := HC.out.below b1
  have HC1 := Lib.hid hc1
  have HT1 := Lib.hid (HT.out.on b1)
  clear b1 hc1
  go_wp2_with fail
  refine (Td.greatN b cb c w1 HC1.out hcl HB.out.es (by have := (gN_wt c).1; have := HW.out; omega)).mono ?_
  rintro e w2 ⟨rfl, b2⟩
  have hs2 := b2.size
  have hc2 := HC1.out.below b2
  have HC2 := Lib.hid hc2
  have HT2 := Lib.hid (HT1.out.on b2)
  have B2 := Lib.hid (B1.out.trans (b2.mono hs1))
  clear b2 hc2 HC1 HT1 B1
  by_cases hg : (2000 : Int) < (gN c : Int)
  · have hg' : decide ((2000 : Int) < (gN c : Int)) = true := decide_eq_true hg
    rw [hg']
    clear hg hg'
    go_wp2_with fail
    go_ret
    exact ⟨rfl, B2.out⟩
  · have hg' : decide ((2000 : Int) < (gN c : Int)) = false := decide_eq_false hg
    rw [hg']
    have HG : Hid (gN c ≤ 2000) := Lib.hid (by omega)
    clear hg hg'
    go_wp2_with fail
    refine (Td.text b cb c w2 HC2.out HB.out (by have := HW.out; omega) HT2.out).mono ?_
    rintro e w3 ⟨rfl, b3⟩
    have hs3 := b3.size
    have hc3 := HC2.out.below b3
    have HC3 := Lib.hid hc3
    have HT3 := Lib.hid (HT2.out.on b3)
    have B3 := Lib.hid (B2.out.trans (b3.mono B2.out.size))
    clear b3 hc3 HC2 HT2 B2
    cases hok : okCs none c
    · rw [textV_no hok]
      clear hok
      go_wp2_with fail
      go_ret
      exact ⟨rfl, B3.out⟩
    · rw [textV_ok hok]
      have HOK := Lib.hid hok
      clear hok
      go_wp2_with fail
      have hkl : (c.take k).length = k := by simp; omega
      have A := Td.text b cb (c.take k) w3 ⟨row_take HC3.out.1 k, fun x hx => HC3.out.2 x (List.mem_of_mem_take hx)⟩
        ⟨by omega, fun x hx => HB.out.n x (List.mem_of_mem_take hx), fun x hx => HB.out.es x (List.mem_of_mem_take hx), fun x hx => HB.out.t x (List.mem_of_mem_take hx)⟩ (by have := wt_sub (l := c) (m := c.take k) ⟨[], c.drop k, by simp⟩; have := HW.out; omega) HT3.out
      rw [hkl] at A
      refine A.mono ?_
      clear A
      rintro e w4 ⟨rfl, b4⟩
      have hc4 := HC3.out.below b4
      have HC4 := Lib.hid hc4
      have HT4 := Lib.hid (HT3.out.on b4)
      have B4 := Lib.hid (B3.out.trans (b4.mono B3.out.size))
      clear b4 hc4 HC3 HT3 B3
      rw [textV_ok (okCs_take c k none HOK.out)]
      obtain ⟨b', hif⟩ : ∃ b', (if cb = k then b else b.map (fun q => q.add (k * 2))) = b' := ⟨_, rfl⟩
      have hcd : ChsAt w4 b' (c.drop k) := by
        refine ⟨?_, fun x hx => HC4.out.2 x (List.mem_of_mem_drop hx)⟩
        rw [← hif]
        exact row_part HC4.out.1 k cb hcb
      have HCD := Lib.hid hcd
      clear hcd
      have hdl : (c.drop k).length = c.length - k := by simp
      go_wp2_with fail
      have A := Td.text b' (cb - k) (c.drop k) w4 HCD.out
        ⟨by omega, fun x hx => HB.out.n x (List.mem_of_mem_drop hx), fun x hx => HB.out.es x (List.mem_of_mem_drop hx), fun x hx => HB.out.t x (List.mem_of_mem_drop hx)⟩ (by have := wt_sub (l := c) (m := c.drop k) ⟨c.take k, [], by simp⟩; have := HW.out; omega) HT4.out
      rw [hdl] at A
      refine A.mono ?_
      clear A
      rintro e w5 ⟨rfl, b5⟩
      have hc5 := HC4.out.below b5
      have HC5 := Lib.hid hc5
      have B5 := Lib.hid (B4.out.trans (b5.mono B4.out.size))
      clear b5 hc5 HC4 HT4 B4 HCD hif hdl
      rw [textV_ok (okCs_drop c k none HOK.out)]
      obtain ⟨TA, hTA⟩ : ∃ TA, TA = str (textB (c.take k)) := ⟨_, rfl⟩
      obtain ⟨TB, hTB⟩ : ∃ TB, TB = str (textB (c.drop k)) := ⟨_, rfl⟩
      obtain ⟨TC, hTC⟩ : ∃ TC, TC = str (textB c) := ⟨_, rfl⟩
      rw [← hTA, ← hTB, ← hTC]
      have hcat : TA ++ TB = TC := by rw [hTA, hTB, hTC, str_append, textB_parts]
      have hszc : TC.size ≤ 4000000 := by
        rw [hTC, str_size]
        have h1 := textB_len c (okCs_mem c none HOK.out) HB.out.t
        have := (gN_wt c).2
        have := HG.out
        omega
      obtain ⟨st, hps, hst⟩ := parse_of HOK.out
      rw [← dl_str (textB c), ← hTC] at hps
      have hsum : TA.size + TB.size ≤ 9223372036854775807 := by
        have := congrArg ByteArray.size hcat
        rw [ByteArray.size_append] at this
        omega
      have HCAT := Lib.hid hcat
      have HPS := Lib.hid hps
      have HST := Lib.hid hst
      have HSZ := Lib.hid hszc
      clear hcat hps hst hszc hTA hTB hTC
      go_wp2_with fail
      rw [HCAT.out]
      refine (Td.parse TC w5 HSZ.out).mono ?_
      rintro e w6 ⟨b6, hpost⟩
      rw [HPS.out] at hpost
      obtain ⟨K, lv, tv, l6, hl6, rfl, hrd⟩ := hpost
      obtain ⟨a6, c6, rfl, hc6⟩ := hrd.chs
      have HL6 := Lib.hid hl6
      have HC6 := Lib.hid hc6
      have hs6 := b6.size
      have hcc6 := HC5.out.below b6
      have HCC6 := Lib.hid hcc6
      have B6 := Lib.hid (B5.out.trans (b6.mono B5.out.size))
      clear hl6 hrd hc6 hcc6 b6 HC5 B5
      have heq : ((TA ++ TB).toList == TC.toList) = true := by rw [HCAT.out]; simp
      go_wp2_with fail
      refine (Td.twin b cb c w6 HCC6.out.1 hcl).mono ?_
      rintro e w7 ⟨v7, rfl, hown7, b7⟩
      obtain ⟨a7, c7, rfl, hr7⟩ := twin_at hown7
      have hc7 : ChsAt w7 a7 c := ⟨hr7, fun x hx => (HCC6.out.2 x hx).below b7 (Nat.le_refl _) b7.size⟩
      have hc67 := HC6.out.below b7
      have HC7 := Lib.hid hc7
      have HC67 := Lib.hid hc67
      have B7 := Lib.hid (B6.out.trans (b7.mono B6.out.size))
      have hpl : pcs l6 = pcs c := by rw [HL6.out, HST.out]
      have hll : l6.length = c.length := by have := congrArg List.length hpl; simpa [pcs] using this
      have hle : ∀ x ∈ l6, x.es.length ≤ 2000000 := fun x hx => by
        have h1 : (x.n, x.es) ∈ pcs l6 := List.mem_map.2 ⟨x, hx, rfl⟩
        rw [hpl] at h1
        obtain ⟨y, hy, he⟩ := List.mem_map.1 h1
        have := HB.out.es y hy
        simp only [Prod.mk.injEq] at he
        rw [← he.2]; exact this
      have HLL := Lib.hid hll
      have HPL := Lib.hid hpl
      have HLE := Lib.hid hle
      clear hown7 hr7 hc7 hc67 b7 HC6 HCC6 B6 hpl hle hll
      go_wp2_with fail
      refine (Td.same a6 a7 c6 c7 l6 c w7 HC67.out HC7.out HPL.out (by have := HLL.out; omega) HLE.out).mono ?_
      rintro e w8 ⟨rfl, b8⟩
      have B8 := Lib.hid (B7.out.trans (b8.mono B7.out.size))
      clear b8
      go_wp2_with fail
      go_ret
      exact ⟨rfl, B8.out⟩
end Go.Proofs.YtodjhgalbaelkaaDoor

/- The law ToldBack: its walk. -/
import Derived.Test.YtodjhgalbaelkaaDoorTqI
namespace Go.Proofs.YtodjhgalbaelkaaDoor
open Go.RowKit Go.BigFrame Go.Shelf
set_option linter.unusedVariables false

theorem tell_len (x : Edi) : x.t.size + 1 ≤ (tellB x).length := by
  unfold tellB
  have h := flat43 (lines (dl x.t))
  rw [lines_flat, ← size_dl] at h
  simp only [List.length_append, List.length_cons, List.length_nil]
  omega
theorem wtET_len : ∀ l : List Edi, wtE l ≤ (l.flatMap tellB).length
  | [] => by simp [wtE]
  | x :: l => by
    have h1 := wtET_len l
    have h2 := tell_len x
    have h3 : wtE (x :: l) = x.t.size + 1 + wtE l := rfl
    rw [List.flatMap_cons, List.length_append]
    omega
theorem wtT_len : ∀ l : List Chg, wt l ≤ (textB l).length
  | [] => by simp [wt]
  | c :: l => by
    have h1 := wtT_len l
    have h2 := wtET_len c.es
    have h3 : wt (c :: l) = c.n.size + 1 + wtE c.es + wt l := rfl
    have h4 : textB (c :: l) = textC c ++ textB l := rfl
    have h5 := size_dl c.n
    rw [h4, List.length_append]
    unfold textC eqB
    simp only [List.length_append, List.length_cons, List.length_nil]
    omega
theorem lens_pcs {l m : List Chg} (h : pcs l = pcs m) : l.length = m.length := by have := congrArg List.length h; simpa [pcs] using this
theorem es_pcs {l m : List Chg} (h : pcs l = pcs m) {N : Nat} (hm : ∀ c ∈ m, c.es.length ≤ N) : ∀ c ∈ l, c.es.length ≤ N := fun x hx => by
  have h1 : (x.n, x.es) ∈ pcs l := List.mem_map.2 ⟨x, hx, rfl⟩
  rw [h] at h1
  obtain ⟨y, hy, he⟩ := List.mem_map.1 h1
  have := hm y hy
  simp only [Prod.mk.injEq] at he
  rw [← he.2]; exact this
theorem parse_nil : parseB [] = .inr st0 := rfl
/-- What Parse's result is, for a walk. -/
theorem parse_cases (s : ByteArray) : (∃ n : Nat, parseB (dl s) = .inl n) ∨ ∃ st, parseB (dl s) = .inr st ∧ okP none st.l = true ∧ textP st.l = dl s := by
  cases h : parseB (dl s) with
  | inl n => exact .inl ⟨n, rfl⟩
  | inr st =>
    obtain ⟨h1, h2⟩ := text_parse h
    exact .inr ⟨st, rfl, h1, h2⟩

set_option maxRecDepth 100000 in
set_option maxHeartbeats 8000000 in
/-- The law's second half: what a text says has that text. -/
theorem back_text (c : List Chg) (s : ByteArray) (hp : okP none (pcs c) = true) (ht : textP (pcs c) = dl s) (hs : s.size ≤ 1000000) : okCs none c = true ∧ str (textB c) = s ∧ Bnd c ∧ wt c ≤ 1000000 := by
  have h1 : textB c = dl s := by rw [textB_pcs]; exact ht
  have h2 := wtT_len c
  rw [h1, ← size_dl] at h2
  exact ⟨by rw [okCs_pcs]; exact hp, by rw [h1, str_dl], bnd_of (by omega), by omega⟩

set_option maxRecDepth 100000 in
set_option maxHeartbeats 16000000 in
theorem Td.back (b : Option Addr) (cb : Nat) (c : List Chg) (s : ByteArray) (w : World) (hc : ChsAt w b c) (hcb : c.length ≤ cb) (hcm : cb ≤ maxLen) (hb : Bnd c) (hw : wt c ≤ 1048576) (hs : s.size ≤ 2000000) (ht : Tab w) :
    Calls Tryd.prog 5 #[.slice b c.length cb, .string s] w fun e w' => e = .returned (.bool true) ∧ Below w.heap.size w w' := by
  have HC := Lib.hid hc
  have HB := Lib.hid hb
  have HT := Lib.hid ht
  have HW := Lib.hid hw
  have hcl := hb.len
  clear hc hb ht hw
  go_enter Tryd.func5, Tryd.ntmps5
  go_wp2_with fail
  refine (Td.alive w HT.out).mono ?_
  rintro e w1 ⟨rfl, b1⟩
  have B1 := Lib.hid b1
  have hs1 := b1.size
  have hc1 := HC.out.below b1
  have HC1 := Lib.hid hc1
  have HT1 := Lib.hid (HT.out.on b1)
  clear b1 hc1
  go_wp2_with fail
  refine (Td.greatN b cb c w1 HC1.out hcl HB.out.es (by have := (gN_wt c).1; have := HW.out; omega)).mono ?_
  rintro e w2 ⟨rfl, b2⟩
  have hs2 := b2.size
  have hc2 := HC1.out.below b2
  have HC2 := Lib.hid hc2
  have HT2 := Lib.hid (HT1.out.on b2)
  have B2 := Lib.hid (B1.out.trans (b2.mono hs1))
  clear b2 hc2 HC1 HT1 B1
  by_cases hg : (2000 : Int) < (gN c : Int)
  · have hg' : decide ((2000 : Int) < (gN c : Int)) = true := decide_eq_true hg
    rw [hg']
    clear hg hg'
    go_wp2_with fail
    go_ret
    exact ⟨rfl, B2.out⟩
  · have hg' : decide ((2000 : Int) < (gN c : Int)) = false := decide_eq_false hg
    rw [hg']
    have HG : Hid (gN c ≤ 2000) := Lib.hid (by omega)
    clear hg hg'
    by_cases hsz : (2000 : Int) < (s.size : Int)
    · go_wp2_with fail
      go_ret
      exact ⟨rfl, B2.out⟩
    · go_wp2_with fail
      refine (Td.text b cb c w2 HC2.out HB.out (by have := HW.out; omega) HT2.out).mono ?_
      rintro e w3 ⟨rfl, b3⟩
      have hs3 := b3.size
      have hc3 := HC2.out.below b3
      have HC3 := Lib.hid hc3
      have HT3 := Lib.hid (HT2.out.on b3)
      have B3 := Lib.hid (B2.out.trans (b3.mono B2.out.size))
      clear b3 hc3 HC2 HT2 B2
      cases hok : okCs none c
      · rw [textV_no hok]
        clear hok
        go_wp2_with fail
        refine (Td.parse ⟨#[]⟩ w3 (by decide)).mono ?_
        rintro e w6 ⟨b6, hpost⟩
        rw [show parseB (dl (⟨#[]⟩ : ByteArray)) = .inr st0 from rfl] at hpost
        obtain ⟨K, lv, tv, l6, hl6, rfl, hrd⟩ := hpost
        obtain ⟨a6, c6, rfl, hc6⟩ := hrd.chs
        have HT6 := Lib.hid (HT3.out.on b6)
        have B6 := Lib.hid (B3.out.trans (b6.mono B3.out.size))
        clear hl6 hrd hc6 b6 HC3 HT3 B3
        go_wp2_with fail
        refine (Td.parse s w6 (by omega)).mono ?_
        rintro e w9 ⟨b9, hpost⟩
        have HT9 := Lib.hid (HT6.out.on b9)
        have B9 := Lib.hid (B6.out.trans (b9.mono B6.out.size))
        clear b9
        rcases parse_cases s with ⟨n9, hp⟩ | ⟨st9, hp, hok9, htx9⟩
        · rw [hp] at hpost
          subst hpost
          clear hp HT6 B6
          go_wp2_with fail
          have A := Td.text none 0 [] w9 ⟨.inl rfl, fun x hx => by cases hx⟩ (bnd_of (by simp [wt])) (by simp [wt]) HT9.out
          rw [List.length_nil] at A
          refine A.mono ?_
          clear A
          rintro e wa ⟨rfl, ba⟩
          rw [textV_ok (l := []) rfl]
          have Ba := Lib.hid (B9.out.trans (ba.mono B9.out.size))
          clear ba HT9
          go_wp2_with fail
          go_ret
          exact ⟨rfl, Ba.out⟩
        · rw [hp] at hpost
          obtain ⟨K9, lv9, tv9, l9, hl9, rfl, hrd9⟩ := hpost
          obtain ⟨a9, c9, rfl, hc9⟩ := hrd9.chs
          rw [← hl9] at hok9 htx9
          obtain ⟨hk9, hu9, hbn9, hwt9⟩ := back_text l9 s hok9 htx9 (by omega)
          have HC9 := Lib.hid hc9
          have HU9 := Lib.hid hu9
          have HBN9 := Lib.hid hbn9
          have HK9 := Lib.hid hk9
          clear hp hl9 hrd9 hc9 hok9 htx9 hu9 hbn9 hk9 HT6 B6
          go_wp2_with fail
          refine (Td.text a9 c9 l9 w9 HC9.out HBN9.out (by omega) HT9.out).mono ?_
          rintro e wa ⟨rfl, ba⟩
          rw [textV_ok HK9.out, HU9.out]
          have Ba := Lib.hid (B9.out.trans (ba.mono B9.out.size))
          clear ba HT9
          go_wp2_with fail
          go_ret
          exact ⟨by simp, Ba.out⟩
      · rw [textV_ok hok]
        have HOK := Lib.hid hok
        clear hok
        obtain ⟨TC, hTC⟩ : ∃ TC, TC = str (textB c) := ⟨_, rfl⟩
        rw [← hTC]
        have hszc : TC.size ≤ 4000000 := by
          rw [hTC, str_size]
          have h1 := textB_len c (okCs_mem c none HOK.out) HB.out.t
          have := (gN_wt c).2
          have := HG.out
          omega
        obtain ⟨st, hps, hst⟩ := parse_of HOK.out
        rw [← dl_str (textB c), ← hTC] at hps
        have HPS := Lib.hid hps
        have HST := Lib.hid hst
        have HSZ := Lib.hid hszc
        clear hps hst hszc hTC
        go_wp2_with fail
        refine (Td.parse TC w3 HSZ.out).mono ?_
        rintro e w6 ⟨b6, hpost⟩
        rw [HPS.out] at hpost
        obtain ⟨K, lv, tv, l6, hl6, rfl, hrd⟩ := hpost
        obtain ⟨a6, c6, rfl, hc6⟩ := hrd.chs
        have HL6 := Lib.hid hl6
        have HC6 := Lib.hid hc6
        have hs6 := b6.size
        have hcc6 := HC3.out.below b6
        have HCC6 := Lib.hid hcc6
        have HT6 := Lib.hid (HT3.out.on b6)
        have B6 := Lib.hid (B3.out.trans (b6.mono B3.out.size))
        clear hl6 hrd hc6 hcc6 b6 HC3 HT3 B3
        go_wp2_with fail
        refine (Td.twin b cb c w6 HCC6.out.1 hcl).mono ?_
        rintro e w7 ⟨v7, rfl, hown7, b7⟩
        obtain ⟨a7, c7, rfl, hr7⟩ := twin_at hown7
        have hc7 : ChsAt w7 a7 c := ⟨hr7, fun x hx => (HCC6.out.2 x hx).below b7 (Nat.le_refl _) b7.size⟩
        have hc67 := HC6.out.below b7
        have HC7 := Lib.hid hc7
        have HC67 := Lib.hid hc67
        have HT7 := Lib.hid (HT6.out.on b7)
        have B7 := Lib.hid (B6.out.trans (b7.mono B6.out.size))
        have hpl : pcs l6 = pcs c := by rw [HL6.out, HST.out]
        have HLL := Lib.hid (lens_pcs hpl)
        have HLE := Lib.hid (es_pcs hpl HB.out.es)
        have HPL := Lib.hid hpl
        clear hown7 hr7 hc7 hc67 b7 HC6 HCC6 B6 hpl HT6
        go_wp2_with fail
        refine (Td.same a6 a7 c6 c7 l6 c w7 HC67.out HC7.out HPL.out (by have := HLL.out; omega) HLE.out).mono ?_
        rintro e w8 ⟨rfl, b8⟩
        have HT8 := Lib.hid (HT7.out.on b8)
        have B8 := Lib.hid (B7.out.trans (b8.mono B7.out.size))
        clear b8 HT7 B7 HC67 HC7
        go_wp2_with fail
        refine (Td.parse s w8 (by omega)).mono ?_
        rintro e w9 ⟨b9, hpost⟩
        have HT9 := Lib.hid (HT8.out.on b9)
        have B9 := Lib.hid (B8.out.trans (b9.mono B8.out.size))
        clear b9
        rcases parse_cases s with ⟨n9, hp⟩ | ⟨st9, hp, hok9, htx9⟩
        · rw [hp] at hpost
          subst hpost
          clear hp HT8 B8
          go_wp2_with fail
          have A := Td.text none 0 [] w9 ⟨.inl rfl, fun x hx => by cases hx⟩ (bnd_of (by simp [wt])) (by simp [wt]) HT9.out
          rw [List.length_nil] at A
          refine A.mono ?_
          clear A
          rintro e wa ⟨rfl, ba⟩
          rw [textV_ok (l := []) rfl]
          have Ba := Lib.hid (B9.out.trans (ba.mono B9.out.size))
          clear ba HT9
          go_wp2_with fail
          go_ret
          exact ⟨rfl, Ba.out⟩
        · rw [hp] at hpost
          obtain ⟨K9, lv9, tv9, l9, hl9, rfl, hrd9⟩ := hpost
          obtain ⟨a9, c9, rfl, hc9⟩ := hrd9.chs
          rw [← hl9] at hok9 htx9
          obtain ⟨hk9, hu9, hbn9, hwt9⟩ := back_text l9 s hok9 htx9 (by omega)
          have HC9 := Lib.hid hc9
          have HU9 := Lib.hid hu9
          have HBN9 := Lib.hid hbn9
          have HK9 := Lib.hid hk9
          clear hp hl9 hrd9 hc9 hok9 htx9 hu9 hbn9 hk9 HT8 B8
          go_wp2_with fail
          refine (Td.text a9 c9 l9 w9 HC9.out HBN9.out (by omega) HT9.out).mono ?_
          rintro e wa ⟨rfl, ba⟩
          rw [textV_ok HK9.out, HU9.out]
          have Ba := Lib.hid (B9.out.trans (ba.mono B9.out.size))
          clear ba HT9
          go_wp2_with fail
          go_ret
          exact ⟨by simp, Ba.out⟩
end Go.Proofs.YtodjhgalbaelkaaDoor

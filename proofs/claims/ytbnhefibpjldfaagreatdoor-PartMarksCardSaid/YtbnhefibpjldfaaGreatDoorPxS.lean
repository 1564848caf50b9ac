/- the document: Kind, longest. -/
import Derived.Test.YtbnhefibpjldfaaGreatDoorPxR
namespace Go.Proofs.YtbnhefibpjldfaaGreatDoor
open Go.RowKit Go.BigFrame
set_option linter.unusedVariables false

theorem rword_call (s : ByteArray) (w : World) (b : Bool) (hs : s.size ≤ 1000000000) (h : isWord (dl s) = b) : Calls Tryz.prog 115 #[.string s] w fun e w' => e = .returned (.bool b) ∧ w' = w := h ▸ Rf.isWord s w hs
theorem rnum_call (s : ByteArray) (w : World) (b : Bool) (hs : s.size ≤ 1000000000) (h : isNum (dl s) = b) : Calls Tryz.prog 116 #[.string s] w fun e w' => e = .returned (.bool b) ∧ w' = w := h ▸ Rf.isNumber _ s w (Nat.le_refl _) hs
theorem rpunct_call (s : ByteArray) (w : World) (b : Bool) (hs : s.size ≤ 1000000000) (h : puncts.contains (dl s) = b) : Calls Tryz.prog 118 #[.string s] w fun e w' => e = .returned (.bool b) ∧ w' = w := h ▸ Rf.isPunct s w hs
def ps39 : List ByteArray := [⟨#[]⟩, ⟨#[117]⟩, ⟨#[85]⟩, ⟨#[76]⟩]
def ps34 : List ByteArray := [⟨#[]⟩, ⟨#[117, 56]⟩, ⟨#[117]⟩, ⟨#[85]⟩, ⟨#[76]⟩]
theorem row_strs (w : World) (ps : List ByteArray) : RowAt 1 sF (w.alloc (.cells (ps.map Value.string).toArray 9)) (some ⟨w.heap.size, 0, none⟩) ps :=
  .inr ⟨w.heap.size, 0, rfl, by simp, fun i hi j v hv => by
    obtain ⟨rfl, rfl⟩ : j = 0 ∧ v = .string ps[i] := by
      cases j with
      | zero => exact ⟨rfl, by simpa [sF] using hv.symm⟩
      | succ j => simp [sF] at hv
    have := heap_alloc_new w (.cells (ps.map Value.string).toArray 9)
    simp only [World.cell?, this]
    simp [hi]⟩
theorem lit39_call (s : ByteArray) (w : World) (b : Bool) (hs : s.size ≤ 1000000000) (h : isLit 39 pre39 (dl s) = b) :
    Calls Tryz.prog 117 #[.string s, .int .u8 39, .slice (some ⟨w.heap.size, 0, none⟩) 4 4] (w.alloc (.cells #[.string ⟨#[]⟩, .string ⟨#[117]⟩, .string ⟨#[85]⟩, .string ⟨#[76]⟩] 9)) fun e w' => e = .returned (.bool b) ∧ Below w.heap.size w w' := by
  subst h
  refine (Rf.isLiteral s 39 (some ⟨w.heap.size, 0, none⟩) 4 ps39 _ hs (.inl rfl) (row_strs w ps39) (by decide) (by decide)).mono ?_
  rintro e w' ⟨h1, h2⟩
  exact ⟨h1, (below_alloc _ _).trans (h2.mono (by simp))⟩
theorem lit34_call (s : ByteArray) (w : World) (b : Bool) (hs : s.size ≤ 1000000000) (h : isLit 34 pre34 (dl s) = b) :
    Calls Tryz.prog 117 #[.string s, .int .u8 34, .slice (some ⟨w.heap.size, 0, none⟩) 5 5] (w.alloc (.cells #[.string ⟨#[]⟩, .string ⟨#[117, 56]⟩, .string ⟨#[117]⟩, .string ⟨#[85]⟩, .string ⟨#[76]⟩] 9)) fun e w' => e = .returned (.bool b) ∧ Below w.heap.size w w' := by
  subst h
  refine (Rf.isLiteral s 34 (some ⟨w.heap.size, 0, none⟩) 5 ps34 _ hs (.inr rfl) (row_strs w ps34) (by decide) (by decide)).mono ?_
  rintro e w' ⟨h1, h2⟩
  exact ⟨h1, (below_alloc _ _).trans (h2.mono (by simp))⟩
set_option maxRecDepth 100000 in
set_option maxHeartbeats 8000000 in
theorem Rf.kind (s : ByteArray) (w : World) (hs : s.size ≤ 1000000000) : Calls Tryz.prog 98 #[.string s] w fun e w' => e = .returned (.int .i64 (kindOf (dl s))) ∧ Below w.heap.size w w' := by
  obtain ⟨K, hK⟩ : ∃ K, kindOf (dl s) = K := ⟨_, rfl⟩
  rw [hK]
  unfold kindOf at hK
  by_cases h0 : dl s = [10]
  · have e0 : (s.toList == [10]) = true := by rw [toList_dl, h0]; rfl
    rw [if_pos h0] at hK
    subst hK
    clear h0
    go_enter Tryz.func98, Tryz.ntmps98
    go_wp2_with fail
    go_ret
    exact ⟨rfl, Below.refl _ _⟩
  have e0 : (s.toList == [10]) = false := by rw [toList_dl]; simpa using h0
  rw [if_neg h0] at hK
  clear h0
  cases h1 : YtbnhefibpjldfaaGreatDoor.isWord (dl s) with
  | true =>
    rw [h1, if_pos rfl] at hK
    have H1 := Lib.hid h1
    subst hK
    clear h1
    go_enter Tryz.func98, Tryz.ntmps98
    go_wp2_with fail
    refine (rword_call s _ _ hs H1.out).mono ?_
    rintro e w2 ⟨rfl, rfl⟩
    go_wp2_with fail
    go_ret
    exact ⟨rfl, Below.refl _ _⟩
  | false =>
  rw [h1, if_neg (by decide)] at hK
  have H1 := Lib.hid h1
  clear h1
  cases h2 : isNum (dl s) with
  | true =>
    rw [h2, if_pos rfl] at hK
    have H2 := Lib.hid h2
    subst hK
    clear h2
    go_enter Tryz.func98, Tryz.ntmps98
    go_wp2_with fail
    refine (rword_call s _ _ hs H1.out).mono ?_
    rintro e w2 ⟨rfl, rfl⟩
    go_wp2_with fail
    refine (rnum_call s _ _ hs H2.out).mono ?_
    rintro e w3 ⟨rfl, rfl⟩
    go_wp2_with fail
    go_ret
    exact ⟨rfl, Below.refl _ _⟩
  | false =>
  rw [h2, if_neg (by decide)] at hK
  have H2 := Lib.hid h2
  clear h2
  cases h3 : isLit 39 pre39 (dl s) with
  | true =>
    rw [h3, if_pos rfl] at hK
    have H3 := Lib.hid h3
    subst hK
    clear h3
    go_enter Tryz.func98, Tryz.ntmps98
    go_wp2_with fail
    refine (rword_call s _ _ hs H1.out).mono ?_
    rintro e w2 ⟨rfl, rfl⟩
    go_wp2_with fail
    refine (rnum_call s _ _ hs H2.out).mono ?_
    rintro e w3 ⟨rfl, rfl⟩
    go_wp2_with fail
    refine (lit39_call s w3 _ hs H3.out).mono ?_
    rintro e w4 ⟨rfl, b4⟩
    have B4 := Lib.hid b4
    clear b4
    go_wp2_with fail
    go_ret
    exact ⟨rfl, B4.out⟩
  | false =>
  rw [h3, if_neg (by decide)] at hK
  have H3 := Lib.hid h3
  clear h3
  cases h4 : isLit 34 pre34 (dl s) with
  | true =>
    rw [h4, if_pos rfl] at hK
    have H4 := Lib.hid h4
    subst hK
    clear h4
    go_enter Tryz.func98, Tryz.ntmps98
    go_wp2_with fail
    refine (rword_call s _ _ hs H1.out).mono ?_
    rintro e w2 ⟨rfl, rfl⟩
    go_wp2_with fail
    refine (rnum_call s _ _ hs H2.out).mono ?_
    rintro e w3 ⟨rfl, rfl⟩
    go_wp2_with fail
    refine (lit39_call s w3 _ hs H3.out).mono ?_
    rintro e w4 ⟨rfl, b4⟩
    have B4 := Lib.hid b4
    clear b4
    go_wp2_with fail
    refine (lit34_call s w4 _ hs H4.out).mono ?_
    rintro e w5 ⟨rfl, b5⟩
    have B5 := Lib.hid (B4.out.trans (b5.mono B4.out.size))
    clear b5
    go_wp2_with fail
    go_ret
    exact ⟨rfl, B5.out⟩
  | false =>
  rw [h4, if_neg (by decide)] at hK
  have H4 := Lib.hid h4
  clear h4
  cases h5 : puncts.contains (dl s) with
  | true =>
    rw [h5, if_pos rfl] at hK
    have H5 := Lib.hid h5
    subst hK
    clear h5
    go_enter Tryz.func98, Tryz.ntmps98
    go_wp2_with fail
    refine (rword_call s _ _ hs H1.out).mono ?_
    rintro e w2 ⟨rfl, rfl⟩
    go_wp2_with fail
    refine (rnum_call s _ _ hs H2.out).mono ?_
    rintro e w3 ⟨rfl, rfl⟩
    go_wp2_with fail
    refine (lit39_call s w3 _ hs H3.out).mono ?_
    rintro e w4 ⟨rfl, b4⟩
    have B4 := Lib.hid b4
    clear b4
    go_wp2_with fail
    refine (lit34_call s w4 _ hs H4.out).mono ?_
    rintro e w5 ⟨rfl, b5⟩
    have B5 := Lib.hid (B4.out.trans (b5.mono B4.out.size))
    clear b5
    go_wp2_with fail
    refine (rpunct_call s _ _ hs H5.out).mono ?_
    rintro e w6 ⟨rfl, rfl⟩
    go_wp2_with fail
    go_ret
    exact ⟨rfl, B5.out⟩
  | false =>
    rw [h5, if_neg (by decide)] at hK
    have H5 := Lib.hid h5
    subst hK
    clear h5
    go_enter Tryz.func98, Tryz.ntmps98
    go_wp2_with fail
    refine (rword_call s _ _ hs H1.out).mono ?_
    rintro e w2 ⟨rfl, rfl⟩
    go_wp2_with fail
    refine (rnum_call s _ _ hs H2.out).mono ?_
    rintro e w3 ⟨rfl, rfl⟩
    go_wp2_with fail
    refine (lit39_call s w3 _ hs H3.out).mono ?_
    rintro e w4 ⟨rfl, b4⟩
    have B4 := Lib.hid b4
    clear b4
    go_wp2_with fail
    refine (lit34_call s w4 _ hs H4.out).mono ?_
    rintro e w5 ⟨rfl, b5⟩
    have B5 := Lib.hid (B4.out.trans (b5.mono B4.out.size))
    clear b5
    go_wp2_with fail
    refine (rpunct_call s _ _ hs H5.out).mono ?_
    rintro e w6 ⟨rfl, rfl⟩
    go_wp2_with fail
    go_ret
    exact ⟨rfl, B5.out⟩
theorem kind_call (s : ByteArray) (w : World) (k : Nat) (hs : s.size ≤ 1000000000) (h : kindOf (dl s) = k) : Calls Tryz.prog 98 #[.string s] w fun e w' => e = .returned (.int .i64 k) ∧ Below w.heap.size w w' := h ▸ Rf.kind s w hs
theorem head_dl {s : ByteArray} (h : 0 < s.size) : (dl s).head? = some s[0] := by
  have := drop_at h
  rw [List.drop_zero] at this
  rw [this]; rfl
set_option maxRecDepth 100000 in
set_option maxHeartbeats 8000000 in
theorem Rf.longest (s : ByteArray) (w : World) (h0 : 0 < s.size) (hs : s.size ≤ 1000000000) : Calls Tryz.prog 76 #[.string s] w fun e w' => e = .returned (.tuple #[.int .i64 (longR (dl s)).1, .int .i64 (longR (dl s)).2]) ∧ Below w.heap.size w w' := by
  obtain ⟨R, hR⟩ : ∃ R, longR (dl s) = R := ⟨_, rfl⟩
  rw [hR]
  have hl : toNl (dl s) = 0 → R = (9, 1) := fun h => by rw [← hR]; unfold longR; rw [if_pos h]
  have hd : toNl (dl s) ≠ 0 → R = downK (dl s) (toNl (dl s)) := fun h => by rw [← hR]; unfold longR; rw [if_neg h]
  have HL := Lib.hid hl
  have HD := Lib.hid hd
  have hh := head_dl h0
  have HH := Lib.hid hh
  have p0 : (0 : Int) < s.size := by omega
  clear hR hl hd hh
  go_enter Tryz.func76, Tryz.ntmps76
  go_wp2_with fail
  go_loopw [4] (fun s4 wr => ∃ i : Nat, i ≤ s.size ∧ s4 = .int .i64 i ∧ wr = w ∧ toNl (dl s) = i + toNl ((dl s).drop i)) (fun s4 _ => s.size - (intOf s4).toNat)
  case atStart => exact ⟨0, Nat.zero_le _, rfl, rfl, by simp⟩
  case round =>
    obtain ⟨i, hi, rfl, rfl, hn⟩ := hrel
    have next : ((∃ h : i < s.size, s[i] = 10) ∨ i = s.size) ∨ (∃ h : i < s.size, s[i] ≠ 10) := by
      by_cases h : i < s.size
      · by_cases e : s[i] = 10
        · exact .inl (.inl ⟨h, e⟩)
        · exact .inr ⟨h, e⟩
      · exact .inl (.inr (by omega))
    rcases next with hstop | ⟨hlt, e10⟩
    · have hni : toNl (dl s) = i := by
        rw [hn]
        rcases hstop with ⟨h, e⟩ | rfl
        · rw [toNl_at h, if_pos e]; rfl
        · rw [drop_end (Nat.le_refl _)]; rfl
      have HS : Hid ((∃ h : i < s.size, s[i] = 10) ∨ i = s.size) := Lib.hid hstop
      rename World => w1
      by_cases hi0 : i = 0
      · subst hi0
        have hlt' : (0 : Int) < s.size := p0
        have e10 : s[0] = 10 := by
          rcases hstop with ⟨_, e⟩ | e
          · exact e
          · omega
        obtain ⟨d1, d2⟩ := bqT 10 rfl e10
        have HR := Lib.hid (HL.out hni)
        clear hn hni hstop e10 HL HD
        go_wp2_with fail
        go_ret2
        exact ⟨by rw [HR.out]; rfl, Below.refl _ _⟩
      · have hi1 : ((i : Int) == 0) = false := by rw [beq_eq_false_iff_ne]; omega
        have hR := HD.out (by omega)
        rw [hni] at hR
        have HR := Lib.hid hR
        have HIS : Hid (i ≤ s.size) := Lib.hid hi
        clear hn hni hR HL HD
        rcases HS.out with ⟨hlt, e10⟩ | rfl
        · have hlt' : (i : Int) < s.size := by omega
          obtain ⟨d1, d2⟩ := bqT 10 rfl e10
          clear e10 HS hstop
          go_wp2_with fail
          go_loopw [4] (fun s4 wr => ∃ n : Nat, n ≤ i ∧ s4 = .int .i64 n ∧ R = downK (dl s) n ∧ Below w1.heap.size w1 wr) (fun s4 _ => (intOf s4).toNat)
          case atStart => exact ⟨i, Nat.le_refl _, rfl, HR.out, Below.refl _ _⟩
          case round =>
            clear HR
            obtain ⟨n, hni, rfl, hR, hbel⟩ := hrel
            have HBEL := Lib.hid hbel
            clear hbel
            cases n with
            | zero =>
              by_cases e39 : s[0] = 39
              · obtain ⟨d1, d2⟩ := bqT 39 rfl e39
                have hr : R = (0, 0) := by rw [hR, downK, HH.out, if_pos (.inl (by rw [e39]))]
                subst hr
                clear hR e39
                go_wp2_with fail
                go_ret2
                exact ⟨rfl, HBEL.out⟩
              by_cases e34 : s[0] = 34
              · obtain ⟨d1, d2⟩ := bqT 34 rfl e34
                obtain ⟨d3, d4⟩ := bqF 39 rfl e39
                have hr : R = (0, 0) := by rw [hR, downK, HH.out, if_pos (.inr (by rw [e34]))]
                subst hr
                clear hR e39 e34
                go_wp2_with fail
                go_ret2
                exact ⟨rfl, HBEL.out⟩
              obtain ⟨d1, d2⟩ := bqF 34 rfl e34
              obtain ⟨d3, d4⟩ := bqF 39 rfl e39
              have hr : R = (6, 1) := by rw [hR, downK, HH.out, if_neg (by simp [e39, e34])]
              subst hr
              clear hR e39 e34
              go_wp2_with fail
              go_ret2
              exact ⟨rfl, HBEL.out⟩
            | succ n =>
              have hn1 : (0 : Int) < ((n + 1 : Nat) : Int) := by omega
              have hn2 : ((n + 1 : Nat) : Int) ≤ s.size := by have := HIS.out; omega
              rw [downK] at hR
              obtain ⟨k, hk⟩ : ∃ k, kindOf ((dl s).take (n + 1)) = k := ⟨_, rfl⟩
              rw [hk] at hR
              have HK : Hid (kindOf (dl (s.extract 0 (n + 1))) = k) := Lib.hid (by rw [take_dl]; exact hk)
              have hxs : Hid ((s.extract 0 (n + 1)).size ≤ 1000000000) := Lib.hid (by simp; omega)
              clear hk
              generalize hm : n + 1 = m at *
              have HM := Lib.hid hm
              by_cases hk0 : 0 < k
              · rw [if_pos hk0] at hR
                have hk1 : (0 : Int) < k := by omega
                subst hR
                clear hk0 hm
                go_wp2_with fail
                refine (kind_call _ _ k hxs.out HK.out).mono ?_
                rintro e w3 ⟨rfl, b3⟩
                have B3 := Lib.hid (HBEL.out.trans (b3.mono HBEL.out.size))
                clear b3
                go_wp2_with fail
                go_ret2
                exact ⟨rfl, B3.out⟩
              · rw [if_neg hk0] at hR
                obtain rfl : k = 0 := by omega
                have HR2 := Lib.hid hR
                clear hR hk0 hm
                go_wp2_with fail
                refine (kind_call _ _ 0 hxs.out HK.out).mono ?_
                rintro e w3 ⟨rfl, b3⟩
                have B3 := Lib.hid (HBEL.out.trans (b3.mono HBEL.out.size))
                clear b3
                go_wp2_with fail
                go_roundw
                case rel => exact ⟨n, by have := HM.out; omega, by have := HM.out; subst this; go_num, HR2.out, B3.out⟩
                case measure => have := HM.out; simp [intOf]; omega
        · have hlt' : ¬ (s.size : Int) < s.size := by omega
          clear HS hstop hi0
          go_wp2_with fail
          go_loopw [4] (fun s4 wr => ∃ n : Nat, n ≤ s.size ∧ s4 = .int .i64 n ∧ R = downK (dl s) n ∧ Below w1.heap.size w1 wr) (fun s4 _ => (intOf s4).toNat)
          case atStart => exact ⟨s.size, Nat.le_refl _, rfl, HR.out, Below.refl _ _⟩
          case round =>
            clear HR
            obtain ⟨n, hni, rfl, hR, hbel⟩ := hrel
            have HBEL := Lib.hid hbel
            clear hbel
            cases n with
            | zero =>
              by_cases e39 : s[0] = 39
              · obtain ⟨d1, d2⟩ := bqT 39 rfl e39
                have hr : R = (0, 0) := by rw [hR, downK, HH.out, if_pos (.inl (by rw [e39]))]
                subst hr
                clear hR e39
                go_wp2_with fail
                go_ret2
                exact ⟨rfl, HBEL.out⟩
              by_cases e34 : s[0] = 34
              · obtain ⟨d1, d2⟩ := bqT 34 rfl e34
                obtain ⟨d3, d4⟩ := bqF 39 rfl e39
                have hr : R = (0, 0) := by rw [hR, downK, HH.out, if_pos (.inr (by rw [e34]))]
                subst hr
                clear hR e39 e34
                go_wp2_with fail
                go_ret2
                exact ⟨rfl, HBEL.out⟩
              obtain ⟨d1, d2⟩ := bqF 34 rfl e34
              obtain ⟨d3, d4⟩ := bqF 39 rfl e39
              have hr : R = (6, 1) := by rw [hR, downK, HH.out, if_neg (by simp [e39, e34])]
              subst hr
              clear hR e39 e34
              go_wp2_with fail
              go_ret2
              exact ⟨rfl, HBEL.out⟩
            | succ n =>
              have hn1 : (0 : Int) < ((n + 1 : Nat) : Int) := by omega
              have hn2 : ((n + 1 : Nat) : Int) ≤ s.size := by have := HIS.out; omega
              rw [downK] at hR
              obtain ⟨k, hk⟩ : ∃ k, kindOf ((dl s).take (n + 1)) = k := ⟨_, rfl⟩
              rw [hk] at hR
              have HK : Hid (kindOf (dl (s.extract 0 (n + 1))) = k) := Lib.hid (by rw [take_dl]; exact hk)
              have hxs : Hid ((s.extract 0 (n + 1)).size ≤ 1000000000) := Lib.hid (by simp; omega)
              clear hk
              generalize hm : n + 1 = m at *
              have HM := Lib.hid hm
              by_cases hk0 : 0 < k
              · rw [if_pos hk0] at hR
                have hk1 : (0 : Int) < k := by omega
                subst hR
                clear hk0 hm
                go_wp2_with fail
                refine (kind_call _ _ k hxs.out HK.out).mono ?_
                rintro e w3 ⟨rfl, b3⟩
                have B3 := Lib.hid (HBEL.out.trans (b3.mono HBEL.out.size))
                clear b3
                go_wp2_with fail
                go_ret2
                exact ⟨rfl, B3.out⟩
              · rw [if_neg hk0] at hR
                obtain rfl : k = 0 := by omega
                have HR2 := Lib.hid hR
                clear hR hk0 hm
                go_wp2_with fail
                refine (kind_call _ _ 0 hxs.out HK.out).mono ?_
                rintro e w3 ⟨rfl, b3⟩
                have B3 := Lib.hid (HBEL.out.trans (b3.mono HBEL.out.size))
                clear b3
                go_wp2_with fail
                go_roundw
                case rel => exact ⟨n, by have := HM.out; omega, by have := HM.out; subst this; go_num, HR2.out, B3.out⟩
                case measure => have := HM.out; simp [intOf]; omega
    · have hlt' : (i : Int) < s.size := by omega
      obtain ⟨d1, d2⟩ := bqF 10 rfl e10
      rw [toNl_at hlt, if_neg e10] at hn
      have HN := Lib.hid hn
      clear hn e10
      go_wp2_with fail
      go_roundw
      case rel => exact ⟨i + 1, by omega, by go_num, by trivial, by rw [HN.out]; omega⟩
      case measure => simp [intOf]; omega
end Go.Proofs.YtbnhefibpjldfaaGreatDoor

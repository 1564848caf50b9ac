/- the document: pieces, mark. -/
import Derived.Test.YtbnhefibpjldfaaGreatDoorPyA
namespace Go.Proofs.YtbnhefibpjldfaaGreatDoor
open Go.RowKit Go.BigFrame Go.Shelf
set_option linter.unusedVariables false

def whiteL (line : Bool) (c : UInt8) : Bool := if line then white6 c else white5 c
/-- Bytes of white space, as they are asked. -/
theorem white_ways (line : Bool) (c : UInt8) : (((c.toNat : Int) == 32) = true ∧ whiteL line c = true) ∨
    (((c.toNat : Int) == 32) = false ∧ (9 : Int) ≤ c.toNat ∧ (c.toNat : Int) ≤ 13 ∧ line = true ∧ whiteL line c = true) ∨
    (((c.toNat : Int) == 32) = false ∧ (9 : Int) ≤ c.toNat ∧ (c.toNat : Int) ≤ 13 ∧ line = false ∧ ((c.toNat : Int) != 10) = true ∧ whiteL line c = true) ∨
    (((c.toNat : Int) == 32) = false ∧ (9 : Int) ≤ c.toNat ∧ (c.toNat : Int) ≤ 13 ∧ line = false ∧ ((c.toNat : Int) != 10) = false ∧ whiteL line c = false) ∨
    (((c.toNat : Int) == 32) = false ∧ ¬ (9 : Int) ≤ c.toNat ∧ whiteL line c = false) ∨
    (((c.toNat : Int) == 32) = false ∧ (9 : Int) ≤ c.toNat ∧ ¬ (c.toNat : Int) ≤ 13 ∧ whiteL line c = false) := by
  unfold whiteL white6 white5
  by_cases h32 : c.toNat = 32
  · left; exact ⟨by rw [beq_iff_eq]; omega, by simp [h32]⟩
  have n32 : ((c.toNat : Int) == 32) = false := by rw [beq_eq_false_iff_ne]; omega
  by_cases h9 : 9 ≤ c.toNat
  · by_cases h13 : c.toNat ≤ 13
    · cases line with
      | true => right; left; exact ⟨n32, by omega, by omega, rfl, by simp [h9, h13]⟩
      | false =>
        by_cases h10 : c.toNat = 10
        · right; right; right; left; exact ⟨n32, by omega, by omega, rfl, by rw [bne_eq_false_iff_eq]; omega, by simp [h10]⟩
        · right; right; left; exact ⟨n32, by omega, by omega, rfl, by rw [bne_iff_ne]; omega, by simp [h9, h13, h10]⟩
    · right; right; right; right; right; exact ⟨n32, by omega, by omega, by simp [h32, h13]⟩
  · right; right; right; right; left; exact ⟨n32, by omega, by simp [h32, h9]⟩
/-- What the loop over pieces keeps: behind all bytes nothing is left. -/
def PcI (q : UInt8 → Bool) (s : ByteArray) (V : List Bs) (w : World) (i f : Nat) (acc : List Bs) (v : Value) (W : World) : Prop :=
  ((i ≤ s.size ∧ f ≤ i ∧ V = acc ++ fldsF q (((dl s).drop f).take (i - f)) ((dl s).drop i)) ∨ (i = s.size + 1 ∧ V = acc)) ∧ Below w.heap.size w W ∧ W.ownsRow w.heap.size 9 1 v acc.length (acc.flatMap sB) ∧ acc.length ≤ i
theorem piece_more {s : ByteArray} {f i : Nat} (hf : f ≤ i) (hi : i < s.size) : ((dl s).drop f).take (i + 1 - f) = ((dl s).drop f).take (i - f) ++ [s[i]] := by
  rw [show i + 1 - f = (i - f) + 1 by omega, List.take_add_one, List.getElem?_drop, show f + (i - f) = i by omega, dl_get hi]; rfl
theorem piece_nil {s : ByteArray} {f i : Nat} (hf : f ≤ i) (hi : i ≤ s.size) : ((dl s).drop f).take (i - f) = [] ↔ ¬ f < i := by
  have hl : (((dl s).drop f).take (i - f)).length = i - f := by rw [List.length_take, List.length_drop, ← size_dl]; omega
  rw [← List.length_eq_zero_iff, hl]; omega
set_option maxRecDepth 100000 in
set_option maxHeartbeats 8000000 in
theorem Rf.piecesW (s : ByteArray) (line : Bool) (w : World) (hs : s.size ≤ 1000000000) : Calls Tryz.prog 36 #[.string s, .bool line] w (StsPost (flds (whiteL line) (dl s)) w) := by
  obtain ⟨j0, hj, hy0, hy1, hy2⟩ := info_parts info9
  have HJ := Lib.hid hj
  have HY0 := Lib.hid hy0
  have HY1 := Lib.hid hy1
  have HY2 := Lib.hid hy2
  obtain ⟨V, hV⟩ : ∃ V, flds (whiteL line) (dl s) = V := ⟨_, rfl⟩
  rw [hV]
  have h0 : PcI (whiteL line) s V w 0 0 [] (.slice none 0 0) w := ⟨.inl ⟨Nat.zero_le _, Nat.le_refl _, hV.symm⟩, Below.refl _ _, World.ownsRow_nil _ _ _ _, Nat.le_refl _⟩
  have H0 := Lib.hid h0
  clear hj hy0 hy1 hy2 hV h0
  go_enter Tryz.func36, Tryz.ntmps36
  go_wp2_with fail
  go_loopw [5, 6, 7] (fun s5 s6 s7 wr => ∃ (i f : Nat) (acc : List Bs), s7 = .int .i64 i ∧ s6 = .int .i64 f ∧ PcI (whiteL line) s V w i f acc s5 wr) (fun _ _ s7 _ => s.size + 1 - (intOf s7).toNat)
  case atStart => exact ⟨0, 0, [], rfl, rfl, H0.out⟩
  case round =>
    clear H0
    obtain ⟨i, f, acc, rfl, rfl, hc, hbel, hown, hal⟩ := hrel
    obtain ⟨oa, oc, rfl⟩ := row_shape hown
    have hws := hbel.size
    have HBEL := Lib.hid hbel
    have HOWN := Lib.hid hown
    rcases hc with ⟨hi, hf, hV⟩ | ⟨rfl, rfl⟩
    · have hi' : (i : Int) ≤ s.size := by omega
      obtain ⟨W, hW⟩ : ∃ W : Bool, (if h : i < s.size then whiteL line s[i] else true) = W := ⟨_, rfl⟩
      have hstep : V = acc ++ (if W then (if f < i then [((dl s).drop f).take (i - f)] else []) ++ (if i < s.size then fldsF (whiteL line) [] ((dl s).drop (i + 1)) else []) else fldsF (whiteL line) (((dl s).drop f).take (i + 1 - f)) ((dl s).drop (i + 1))) ∧ (W = false → i < s.size) := by
        by_cases hlt : i < s.size
        · rw [dif_pos hlt] at hW
          refine ⟨?_, fun _ => hlt⟩
          rw [hV, drop_at hlt, fldsF, hW]
          congr 1
          cases W with
          | true =>
            simp only [if_true]
            by_cases hfi : f < i
            · rw [if_neg (fun e => (piece_nil hf hi).1 e hfi), if_pos hfi, if_pos hlt]; rfl
            · rw [if_pos ((piece_nil hf hi).2 hfi), if_neg hfi, if_pos hlt]; rfl
          | false =>
            rw [if_neg (by decide), if_neg (by decide), piece_more hf hlt]
        · rw [dif_neg hlt] at hW
          subst hW
          refine ⟨?_, fun e => by cases e⟩
          rw [hV, drop_end (i := i) (by omega)]
          show acc ++ (if ((dl s).drop f).take (i - f) = [] then [] else [((dl s).drop f).take (i - f)]) = _
          simp only [if_true, if_neg hlt, List.append_nil]
          congr 1
          by_cases hfi : f < i
          · rw [if_neg (fun e => (piece_nil hf hi).1 e hfi), if_pos hfi]
          · rw [if_pos ((piece_nil hf hi).2 hfi), if_neg hfi]
      have HSTEP := Lib.hid hstep
      have HW := Lib.hid hW
      clear hV hstep hW hbel hown
      go_upto_region 6 with fail
      go_cut [8] (fun s8 wx => s8 = .bool W ∧ wx = wr)
      case first =>
        by_cases hlt : i < s.size
        · have hlt' : (i : Int) < s.size := by omega
          have hne : ((i : Int) == s.size) = false := by rw [beq_eq_false_iff_ne]; omega
          have hw := HW.out
          rw [dif_pos hlt] at hw
          have HW2 := Lib.hid hw
          clear hw
          rcases white_ways line s[i] with ⟨h1, h2⟩ | ⟨h1, h3, h4, h5, h2⟩ | ⟨h1, h3, h4, h5, h6, h2⟩ | ⟨h1, h3, h4, h5, h6, h2⟩ | ⟨h1, h3, h2⟩ | ⟨h1, h3, h4, h2⟩
          · rw [HW2.out] at h2
            subst h2
            clear HW2 HW
            go_wp2_with fail
            all_goals (go_meet; exact ⟨rfl, rfl⟩)
          · rw [HW2.out] at h2
            subst h2
            subst h5
            clear HW2 HW
            go_wp2_with fail
            all_goals (go_meet; exact ⟨rfl, rfl⟩)
          · rw [HW2.out] at h2
            subst h2
            subst h5
            clear HW2 HW
            go_wp2_with fail
            all_goals (go_meet; exact ⟨rfl, rfl⟩)
          · rw [HW2.out] at h2
            subst h2
            subst h5
            clear HW2 HW
            go_wp2_with fail
            all_goals (go_meet; exact ⟨rfl, rfl⟩)
          · rw [HW2.out] at h2
            subst h2
            clear HW2 HW
            go_wp2_with fail
            all_goals (go_meet; exact ⟨rfl, rfl⟩)
          · rw [HW2.out] at h2
            subst h2
            clear HW2 HW
            go_wp2_with fail
            all_goals (go_meet; exact ⟨rfl, rfl⟩)
        · have hne : ((i : Int) == s.size) = true := by rw [beq_iff_eq]; omega
          have hw : W = true := by have := HW.out; rw [dif_neg hlt] at this; exact this.symm
          subst hw
          go_wp2_with fail
          go_meet
          exact ⟨rfl, rfl⟩
      case rest =>
        obtain ⟨rfl, rfl⟩ := hcut
        rename World => w1
        cases W with
        | false =>
          have hlt := HSTEP.out.2 rfl
          have hv := HSTEP.out.1
          simp only [Bool.false_eq_true, if_false] at hv
          have HV := Lib.hid hv
          clear hv
          go_wp2_with fail
          go_roundw
          case rel => exact ⟨i + 1, f, acc, by go_num, rfl, .inl ⟨by omega, by omega, HV.out⟩, HBEL.out, HOWN.out, by omega⟩
          case measure => simp [intOf]; omega
        | true =>
          have hv := HSTEP.out.1
          simp only [if_true] at hv
          by_cases hfi : f < i
          · have hfi' : (f : Int) < i := by omega
            have hfi2 : (f : Int) ≤ i := by omega
            rw [if_pos hfi] at hv
            obtain ⟨X, hX⟩ : ∃ X, s.extract f i = X := ⟨_, rfl⟩
            have hXs : X = str (((dl s).drop f).take (i - f)) := by rw [← hX, ext_str]
            have HXS := Lib.hid hXs
            have HV := Lib.hid hv
            clear hv hXs
            go_wp2_with (at_builtin; refine wpList_append_own _ rfl _ _ 36 rfl w.heap.size 9 j0 (.string ⟨#[]⟩) 1 16 Tryz.underlying36 HJ.out HY0.out HY1.out HY2.out rfl (by decide) _ acc.length _ rfl (HOWN.out.alloc _) ⟨w1.heap.size, 0, none⟩ 1 1 [.string X] rfl rfl (cells1_new _ _ 9) (fun u hu => by simp at hu; subst hu; rfl) (by unfold maxLen; omega) (by omega) (by simp; omega) ?_; intro v2 w2 hown2 hgrow2 _)
            have HO2 := Lib.hid hown2
            have HB2 := Lib.hid ((HBEL.out.alloc hws _).grown hgrow2 (by simp; omega) (fun k hk => (row_cells HOWN.out hk).1))
            clear hown2 hgrow2
            go_wp2_with fail
            go_roundw
            case rel =>
              refine ⟨i + 1, i + 1, acc ++ [((dl s).drop f).take (i - f)], by go_num, by go_num, ?_, HB2.out, ?_, by simp; omega⟩
              · have h := HV.out
                by_cases hlt : i < s.size
                · rw [if_pos hlt] at h
                  exact .inl ⟨by omega, Nat.le_refl _, by rw [h, List.append_assoc, Nat.sub_self, List.take_zero]⟩
                · rw [if_neg hlt, List.append_nil] at h
                  exact .inr ⟨by omega, h⟩
              · rw [List.flatMap_append, List.length_append]
                have h := HO2.out
                rw [HXS.out] at h
                exact h
            case measure => simp [intOf]; omega
          · have hfi' : ¬ (f : Int) < i := by omega
            rw [if_neg hfi, List.nil_append] at hv
            have HV := Lib.hid hv
            clear hv
            go_wp2_with fail
            go_roundw
            case rel =>
              refine ⟨i + 1, i + 1, acc, by go_num, by go_num, ?_, HBEL.out, HOWN.out, by omega⟩
              have h := HV.out
              by_cases hlt : i < s.size
              · rw [if_pos hlt] at h
                exact .inl ⟨by omega, Nat.le_refl _, by rw [h, Nat.sub_self, List.take_zero]⟩
              · rw [if_neg hlt, List.append_nil] at h
                exact .inr ⟨by omega, h⟩
            case measure => simp [intOf]; omega
    · have hi' : ¬ ((s.size + 1 : Nat) : Int) ≤ s.size := by omega
      have hi2 : ¬ (s.size : Int) + 1 ≤ s.size := by omega
      clear hbel hown
      go_wp2_with fail
      go_ret
      exact ⟨_, rfl, HOWN.out, HBEL.out⟩
end Go.Proofs.YtbnhefibpjldfaaGreatDoor

/- PyC -/
namespace Go.Proofs.YtbnhefibpjldfaaGreatDoor
open Go.RowKit Go.BigFrame Go.Shelf
set_option linter.unusedVariables false

theorem whiteL_true : whiteL true = white6 := funext fun _ => rfl
theorem whiteL_false : whiteL false = white5 := funext fun _ => rfl
theorem rpieces_call (s : ByteArray) (line : Bool) (w : World) (q : UInt8 → Bool) (hq : whiteL line = q) (L : List Bs) (h : flds q (dl s) = L) (hs : s.size ≤ 1000000000) : Calls Tryz.prog 36 #[.string s, .bool line] w (StsPost L w) := by
  subst hq h
  exact Rf.piecesW s line w hs
theorem com_one {s : ByteArray} (h : isCom (dl s)) : ∃ h1 : 1 < s.size, 2 ≤ s.size ∧ (isBlock (dl s) = true → 4 ≤ s.size ∧ s[1] = 42) ∧ (isBlock (dl s) = false → s[1] ≠ 42) := by
  obtain ⟨a, b, c⟩ := com_len h
  rw [← size_dl] at a b
  have h1 : 1 < s.size := by omega
  rw [dl_get h1, Option.some.injEq] at c
  exact ⟨h1, a, fun e => ⟨b e, c.2 e⟩, fun e e2 => by rw [c.1 e2] at e; cases e⟩
set_option maxRecDepth 100000 in
set_option maxHeartbeats 4000000 in
theorem Rf.mark (s : ByteArray) (w : World) (hs : s.size ≤ 1000000000) (hc : isCom (dl s)) : Calls Tryz.prog 13 #[.string s] w fun e w' => e = .returned (.int .i64 (markP (dl s))) ∧ Below w.heap.size w w' := by
  obtain ⟨h1, h2, hb1, hb0⟩ := com_one hc
  have hi1 : (1 : Int) < s.size := by omega
  obtain ⟨F, hF⟩ : ∃ F, flds white6 (inside (dl s)) = F := ⟨_, rfl⟩
  have hmk : markP (dl s) = markW F := by rw [← hF]; rfl
  rw [hmk]
  obtain ⟨M, hM⟩ : ∃ M, markW F = M := ⟨_, rfl⟩
  rw [hM]
  have hs2 : (2 : Int) ≤ s.size := by omega
  clear hmk hc
  cases hb : isBlock (dl s) with
  | false =>
    obtain ⟨d1, d2⟩ := bqF (m := 42) 42 rfl (hb0 hb)
    have hx : flds white6 (dl (s.extract 2 s.size)) = F := by rw [← hF, ext_to, dl_str]; simp [inside, hb]
    have HPC := Lib.hid (fun W : World => rpieces_call (s.extract 2 s.size) true W white6 whiteL_true F hx (by simp; omega))
    clear hF hx hb hb1 hb0
    go_enter Tryz.func13, Tryz.ntmps13
    go_wp2_with fail
    refine (HPC.out _).mono ?_
    rintro e w3 ⟨v, rfl, hown, hbel⟩
    obtain ⟨fa, fc, rfl⟩ := row_shape hown
    have hrow := (rowAt_owns (f := sB) (fun g => rfl) hown rfl).2
    have HBEL := Lib.hid hbel
    have HROW := Lib.hid hrow
    clear hbel hown hrow HPC
    by_cases hl : F.length = 2
    · match F, hl, hM, HROW with
      | [a, b], _, hM, HROW =>
        obtain ⟨gb, go, rfl, hgb, hgc⟩ := HROW.out.at (by simp)
        have k0 := hgc 0 (by simp) 0 _ rfl
        have k1 := hgc 1 (by simp) 0 _ rfl
        simp only [Nat.add_zero, Nat.zero_mul, Nat.one_mul, List.getElem_cons_zero, List.getElem_cons_succ] at k0 k1
        clear hgc
        simp only [markW] at hM
        by_cases ha : a = cfmt'
        · have a1 : ((str a).toList != [99, 102, 109, 116]) = false := by rw [str_tl, ha]; rfl
          have a2 : ((str a).toList == [99, 102, 109, 116]) = true := by rw [str_tl, ha]; rfl
          rw [if_pos ha] at hM
          by_cases hb1 : b = off'
          · have b1 : ((str b).toList == [111, 102, 102]) = true := by rw [str_tl, hb1]; rfl
            rw [if_pos hb1] at hM
            subst hM
            clear ha hb1
            go_wp2_with fail
            go_ret
            exact ⟨rfl, HBEL.out⟩
          · have b1 : ((str b).toList == [111, 102, 102]) = false := by rw [str_tl]; simpa [off'] using hb1
            rw [if_neg hb1] at hM
            by_cases hb2 : b = on'
            · have b2 : ((str b).toList == [111, 110]) = true := by rw [str_tl, hb2]; rfl
              rw [if_pos hb2] at hM
              subst hM
              clear ha hb1 hb2
              go_wp2_with fail
              go_ret
              exact ⟨rfl, HBEL.out⟩
            · have b2 : ((str b).toList == [111, 110]) = false := by rw [str_tl]; simpa [on'] using hb2
              rw [if_neg hb2] at hM
              subst hM
              clear ha hb1 hb2
              go_wp2_with fail
              go_ret
              exact ⟨rfl, HBEL.out⟩
        · have a1 : ((str a).toList != [99, 102, 109, 116]) = true := by rw [str_tl]; simpa [cfmt'] using ha
          have a2 : ((str a).toList == [99, 102, 109, 116]) = false := by rw [str_tl]; simpa [cfmt'] using ha
          rw [if_neg ha] at hM
          subst hM
          clear ha
          go_wp2_with fail
          go_ret
          exact ⟨rfl, HBEL.out⟩
    · have hm : M = 0 := by
        rw [← hM]
        match F, hl with
        | [], _ => rfl
        | [_], _ => rfl
        | [_, _], h => exact absurd rfl h
        | _ :: _ :: _ :: _, _ => rfl
      have hl' : ((F.length : Int) != 2) = true := by rw [bne_iff_ne]; omega
      subst hm
      clear hl hM HROW
      go_wp2_with fail
      go_ret
      exact ⟨rfl, HBEL.out⟩
  | true =>
    obtain ⟨h4, e42⟩ := hb1 hb
    obtain ⟨d1, d2⟩ := bqT 42 rfl e42
    have hx : flds white6 (dl (s.extract 2 (s.size - 2))) = F := by
      rw [← hF, ext_str, dl_str]; simp only [inside, hb, if_true]
      rw [size_dl, show (dl s).length - 2 - 2 = (dl s).length - 4 by omega]
    have HPC := Lib.hid (fun W : World => rpieces_call (s.extract 2 (s.size - 2)) true W white6 whiteL_true F hx (by simp; omega))
    have w1' : IntKind.i64.wrap ((s.size : Int) - 2) = (s.size : Int) - 2 := IntWalk.i64_in _ (by omega)
    have w2' : (2 : Int) ≤ (s.size : Int) - 2 := by omega
    have w3' : (s.size : Int) - 2 ≤ (s.size : Int) := by omega
    have w4' : ((s.size : Int) - 2).toNat = s.size - 2 := by omega
    have w0' : (4 : Int) ≤ (s.size : Int) := by omega
    clear hF hx hb hb1 hb0 e42
    go_enter Tryz.func13, Tryz.ntmps13
    go_wp2_with fail
    refine (HPC.out _).mono ?_
    rintro e w3 ⟨v, rfl, hown, hbel⟩
    obtain ⟨fa, fc, rfl⟩ := row_shape hown
    have hrow := (rowAt_owns (f := sB) (fun g => rfl) hown rfl).2
    have HBEL := Lib.hid hbel
    have HROW := Lib.hid hrow
    clear hbel hown hrow HPC
    by_cases hl : F.length = 2
    · match F, hl, hM, HROW with
      | [a, b], _, hM, HROW =>
        obtain ⟨gb, go, rfl, hgb, hgc⟩ := HROW.out.at (by simp)
        have k0 := hgc 0 (by simp) 0 _ rfl
        have k1 := hgc 1 (by simp) 0 _ rfl
        simp only [Nat.add_zero, Nat.zero_mul, Nat.one_mul, List.getElem_cons_zero, List.getElem_cons_succ] at k0 k1
        clear hgc
        simp only [markW] at hM
        by_cases ha : a = cfmt'
        · have a1 : ((str a).toList != [99, 102, 109, 116]) = false := by rw [str_tl, ha]; rfl
          have a2 : ((str a).toList == [99, 102, 109, 116]) = true := by rw [str_tl, ha]; rfl
          rw [if_pos ha] at hM
          by_cases hb1 : b = off'
          · have b1 : ((str b).toList == [111, 102, 102]) = true := by rw [str_tl, hb1]; rfl
            rw [if_pos hb1] at hM
            subst hM
            clear ha hb1
            go_wp2_with fail
            go_ret
            exact ⟨rfl, HBEL.out⟩
          · have b1 : ((str b).toList == [111, 102, 102]) = false := by rw [str_tl]; simpa [off'] using hb1
            rw [if_neg hb1] at hM
            by_cases hb2 : b = on'
            · have b2 : ((str b).toList == [111, 110]) = true := by rw [str_tl, hb2]; rfl
              rw [if_pos hb2] at hM
              subst hM
              clear ha hb1 hb2
              go_wp2_with fail
              go_ret
              exact ⟨rfl, HBEL.out⟩
            · have b2 : ((str b).toList == [111, 110]) = false := by rw [str_tl]; simpa [on'] using hb2
              rw [if_neg hb2] at hM
              subst hM
              clear ha hb1 hb2
              go_wp2_with fail
              go_ret
              exact ⟨rfl, HBEL.out⟩
        · have a1 : ((str a).toList != [99, 102, 109, 116]) = true := by rw [str_tl]; simpa [cfmt'] using ha
          have a2 : ((str a).toList == [99, 102, 109, 116]) = false := by rw [str_tl]; simpa [cfmt'] using ha
          rw [if_neg ha] at hM
          subst hM
          clear ha
          go_wp2_with fail
          go_ret
          exact ⟨rfl, HBEL.out⟩
    · have hm : M = 0 := by
        rw [← hM]
        match F, hl with
        | [], _ => rfl
        | [_], _ => rfl
        | [_, _], h => exact absurd rfl h
        | _ :: _ :: _ :: _, _ => rfl
      have hl' : ((F.length : Int) != 2) = true := by rw [bne_iff_ne]; omega
      subst hm
      clear hl hM HROW
      go_wp2_with fail
      go_ret
      exact ⟨rfl, HBEL.out⟩
end Go.Proofs.YtbnhefibpjldfaaGreatDoor

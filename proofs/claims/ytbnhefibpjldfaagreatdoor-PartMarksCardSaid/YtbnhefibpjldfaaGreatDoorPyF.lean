/- the document: lines and words of comments. -/
import Derived.Test.YtbnhefibpjldfaaGreatDoorPyC
import Derived.Test.YtbnhefibpjldfaaGreatDoorPxW
namespace Go.Proofs.YtbnhefibpjldfaaGreatDoor
open Go.RowKit Go.BigFrame Go.Shelf
set_option linter.unusedVariables false

/-- What the loop over lines keeps. -/
def SlI (s : ByteArray) (V : List Bs) (w : World) (i f : Nat) (acc : List Bs) (v : Value) (W : World) : Prop :=
  ((i ≤ s.size ∧ f ≤ i ∧ V = acc ++ splF (((dl s).drop f).take (i - f)) ((dl s).drop i)) ∨ (i = s.size + 1 ∧ V = acc)) ∧ Below w.heap.size w W ∧ W.ownsRow w.heap.size 9 1 v acc.length (acc.flatMap sB) ∧ acc.length ≤ i
set_option maxRecDepth 100000 in
set_option maxHeartbeats 8000000 in
theorem Rf.lines15 (s : ByteArray) (w : World) (hs : s.size ≤ 1000000000) : Calls Tryz.prog 84 #[.string s] w (StsPost (splF [] (dl s)) w) := by
  obtain ⟨j0, hj, hy0, hy1, hy2⟩ := info_parts info9
  have HJ := Lib.hid hj
  have HY0 := Lib.hid hy0
  have HY1 := Lib.hid hy1
  have HY2 := Lib.hid hy2
  obtain ⟨V, hV⟩ : ∃ V, splF [] (dl s) = V := ⟨_, rfl⟩
  rw [hV]
  have h0 : SlI s V w 0 0 [] (.slice none 0 0) w := ⟨.inl ⟨Nat.zero_le _, Nat.le_refl _, hV.symm⟩, Below.refl _ _, World.ownsRow_nil _ _ _ _, Nat.le_refl _⟩
  have H0 := Lib.hid h0
  clear hj hy0 hy1 hy2 hV h0
  go_enter Tryz.func84, Tryz.ntmps84
  go_wp2_with fail
  go_loopw [3, 4, 5] (fun s3 s4 s5 wr => ∃ (i f : Nat) (acc : List Bs), s5 = .int .i64 i ∧ s4 = .int .i64 f ∧ SlI s V w i f acc s3 wr) (fun _ _ s5 _ => s.size + 1 - (intOf s5).toNat)
  case atStart => exact ⟨0, 0, [], rfl, rfl, H0.out⟩
  case round =>
    clear H0
    obtain ⟨i, f, acc, rfl, rfl, hc, hbel, hown, hal⟩ := hrel
    obtain ⟨oa, oc, rfl⟩ := row_shape hown
    have hws := hbel.size
    have HBEL := Lib.hid hbel
    have HOWN := Lib.hid hown
    rcases hc with ⟨hi, hf, hV⟩ | ⟨rfl, rfl⟩
    · have hi' : (i : Int) ≤ s.size := by omega
      have hfi' : (f : Int) ≤ i := by omega
      obtain ⟨X, hX⟩ : ∃ X, s.extract f i = X := ⟨_, rfl⟩
      have hXs : X = str (((dl s).drop f).take (i - f)) := by rw [← hX, ext_str]
      have HXS := Lib.hid hXs
      clear hbel hown hXs
      by_cases hlt : i < s.size
      · have hlt' : (i : Int) < s.size := by omega
        have hne : ((i : Int) == s.size) = false := by rw [beq_eq_false_iff_ne]; omega
        rw [drop_at hlt] at hV
        by_cases e10 : s[i] = 10
        · obtain ⟨d1, d2⟩ := bqT 10 rfl e10
          have hv2 : V = acc ++ ((dl s).drop f).take (i - f) :: splF [] ((dl s).drop (i + 1)) := by rw [hV, splF, if_pos e10]
          have HV := Lib.hid hv2
          clear hV hv2 e10
          go_wp2_with (at_builtin; refine wpList_append_own _ rfl _ _ 36 rfl w.heap.size 9 j0 (.string ⟨#[]⟩) 1 16 Tryz.underlying36 HJ.out HY0.out HY1.out HY2.out rfl (by decide) _ acc.length _ rfl (HOWN.out.alloc _) ⟨wr.heap.size, 0, none⟩ 1 1 [.string X] rfl rfl (cells1_new _ _ 9) (fun u hu => by simp at hu; subst hu; rfl) (by unfold maxLen; omega) (by omega) (by simp; omega) ?_; intro v2 w2 hown2 hgrow2 _)
          have HO2 := Lib.hid hown2
          have HB2 := Lib.hid ((HBEL.out.alloc hws _).grown hgrow2 (by simp; omega) (fun k hk => (row_cells HOWN.out hk).1))
          clear hown2 hgrow2
          go_wp2_with fail
          go_roundw
          case rel =>
            refine ⟨i + 1, i + 1, acc ++ [((dl s).drop f).take (i - f)], by go_num, by go_num, .inl ⟨by omega, Nat.le_refl _, by rw [HV.out, List.append_assoc, Nat.sub_self, List.take_zero]; rfl⟩, HB2.out, ?_, by simp; omega⟩
            rw [List.flatMap_append, List.length_append]
            have h := HO2.out
            rw [HXS.out] at h
            exact h
          case measure => simp [intOf] <;> omega
        · obtain ⟨d1, d2⟩ := bqF 10 rfl e10
          have hv2 : V = acc ++ splF (((dl s).drop f).take (i + 1 - f)) ((dl s).drop (i + 1)) := by rw [hV, splF, if_neg e10, piece_more hf hlt]
          have HV := Lib.hid hv2
          clear hV hv2 e10
          go_wp2_with fail
          go_roundw
          case rel => exact ⟨i + 1, f, acc, by go_num, rfl, .inl ⟨by omega, by omega, HV.out⟩, HBEL.out, HOWN.out, by omega⟩
          case measure => simp [intOf]; omega
      · obtain rfl : i = s.size := by omega
        have hne : ((s.size : Int) == s.size) = true := by rw [beq_iff_eq]
        have hv2 : V = acc ++ [((dl s).drop f).take (s.size - f)] := by rw [hV, drop_end (i := s.size) (Nat.le_refl _)]; rfl
        have HV := Lib.hid hv2
        clear hV hv2
        go_wp2_with (at_builtin; refine wpList_append_own _ rfl _ _ 36 rfl w.heap.size 9 j0 (.string ⟨#[]⟩) 1 16 Tryz.underlying36 HJ.out HY0.out HY1.out HY2.out rfl (by decide) _ acc.length _ rfl (HOWN.out.alloc _) ⟨wr.heap.size, 0, none⟩ 1 1 [.string X] rfl rfl (cells1_new _ _ 9) (fun u hu => by simp at hu; subst hu; rfl) (by unfold maxLen; omega) (by omega) (by simp; omega) ?_; intro v2 w2 hown2 hgrow2 _)
        have HO2 := Lib.hid hown2
        have HB2 := Lib.hid ((HBEL.out.alloc hws _).grown hgrow2 (by simp; omega) (fun k hk => (row_cells HOWN.out hk).1))
        clear hown2 hgrow2
        go_wp2_with fail
        go_roundw
        case rel =>
          refine ⟨s.size + 1, s.size + 1, acc ++ [((dl s).drop f).take (s.size - f)], by go_num, by go_num, .inr ⟨rfl, HV.out⟩, HB2.out, ?_, by simp; omega⟩
          rw [List.flatMap_append, List.length_append]
          have h := HO2.out
          rw [HXS.out] at h
          exact h
        case measure => simp [intOf] <;> omega
    · have hi' : ¬ ((s.size + 1 : Nat) : Int) ≤ s.size := by omega
      have hi2 : ¬ (s.size : Int) + 1 ≤ s.size := by omega
      clear hbel hown
      go_wp2_with fail
      go_ret
      exact ⟨_, rfl, HOWN.out, HBEL.out⟩
/-- A word that has begun. -/
def fromW : Option Nat → Int
  | none => -1
  | some f => f
def WdI (s : ByteArray) (V : List Bs) (w : World) (i : Nat) (o : Option Nat) (acc : List Bs) (v : Value) (W : World) : Prop :=
  ((i ≤ s.size ∧ (∀ f, o = some f → f < i) ∧ V = acc ++ fldsF white5 (openP (dl s) o i) ((dl s).drop i)) ∨ (i = s.size + 1 ∧ V = acc)) ∧ Below w.heap.size w W ∧ W.ownsRow w.heap.size 9 1 v acc.length (acc.flatMap sB) ∧ acc.length ≤ i
theorem rwhite5_call (c : UInt8) (w : World) (b : Bool) (h : white5 c = b) : Calls Tryz.prog 85 #[.int .u8 c.toNat] w fun e w' => e = .returned (.bool b) ∧ w' = w := h ▸ Rf.white5F c w
set_option maxRecDepth 100000 in
set_option maxHeartbeats 8000000 in
theorem Rf.words15 (s : ByteArray) (w : World) (hs : s.size ≤ 1000000000) : Calls Tryz.prog 86 #[.string s] w (StsPost (flds white5 (dl s)) w) := by
  obtain ⟨j0, hj, hy0, hy1, hy2⟩ := info_parts info9
  have HJ := Lib.hid hj
  have HY0 := Lib.hid hy0
  have HY1 := Lib.hid hy1
  have HY2 := Lib.hid hy2
  obtain ⟨V, hV⟩ : ∃ V, flds white5 (dl s) = V := ⟨_, rfl⟩
  rw [hV]
  have h0 : WdI s V w 0 none [] (.slice none 0 0) w := ⟨.inl ⟨Nat.zero_le _, (fun _ h => by cases h), hV.symm⟩, Below.refl _ _, World.ownsRow_nil _ _ _ _, Nat.le_refl _⟩
  have H0 := Lib.hid h0
  clear hj hy0 hy1 hy2 hV h0
  go_enter Tryz.func86, Tryz.ntmps86
  go_wp2_with fail
  go_loopw [3, 4, 5] (fun s3 s4 s5 wr => ∃ (i : Nat) (o : Option Nat) (acc : List Bs), s5 = .int .i64 i ∧ s4 = .int .i64 (fromW o) ∧ WdI s V w i o acc s3 wr) (fun _ _ s5 _ => s.size + 1 - (intOf s5).toNat)
  case atStart => exact ⟨0, none, [], rfl, rfl, H0.out⟩
  case round =>
    clear H0
    obtain ⟨i, o, acc, rfl, rfl, hc, hbel, hown, hal⟩ := hrel
    obtain ⟨oa, oc, rfl⟩ := row_shape hown
    have hws := hbel.size
    have HBEL := Lib.hid hbel
    have HOWN := Lib.hid hown
    rcases hc with ⟨hi, hof, hV⟩ | ⟨rfl, rfl⟩
    · have hi' : (i : Int) ≤ s.size := by omega
      clear hbel hown
      by_cases hlt : i < s.size
      · have hlt' : (i : Int) < s.size := by omega
        rw [drop_at hlt, fldsF] at hV
        cases hw : white5 s[i] with
        | false =>
          rw [hw, if_neg (by decide)] at hV
          have HW := Lib.hid hw
          cases o with
          | none =>
            have hv2 : V = acc ++ fldsF white5 (openP (dl s) (some i) (i + 1)) ((dl s).drop (i + 1)) := by
              rw [hV]; congr 2
              simp only [openP]
              rw [show i + 1 - i = 1 by omega, drop_at hlt]; rfl
            have HV := Lib.hid hv2
            simp only [fromW]
            clear hV hv2 hw hof
            go_wp2_with (first | (go_at_call 85; refine (rwhite5_call _ _ _ HW.out).mono ?_; rintro e w1 ⟨rfl, rfl⟩) | fail)
            go_roundw
            case rel => exact ⟨i + 1, some i, acc, by go_num, rfl, .inl ⟨by omega, (fun g h => by cases h; omega), HV.out⟩, HBEL.out, HOWN.out, by omega⟩
            case measure => simp [intOf]; omega
          | some f =>
            have hfi := hof f rfl
            have hf0 : ¬ (f : Int) < 0 := by omega
            have hf1 : (0 : Int) ≤ f := by omega
            have hv2 : V = acc ++ fldsF white5 (openP (dl s) (some f) (i + 1)) ((dl s).drop (i + 1)) := by
              rw [hV]; congr 2
              rw [openP_more _ f i 1 (by omega), drop_at hlt]; rfl
            have HV := Lib.hid hv2
            simp only [fromW]
            clear hV hv2 hw hof
            go_wp2_with (first | (go_at_call 85; refine (rwhite5_call _ _ _ HW.out).mono ?_; rintro e w1 ⟨rfl, rfl⟩) | fail)
            go_roundw
            case rel => exact ⟨i + 1, some f, acc, by go_num, rfl, .inl ⟨by omega, (fun g h => by cases h; omega), HV.out⟩, HBEL.out, HOWN.out, by omega⟩
            case measure => simp [intOf]; omega
        | true =>
          rw [hw, if_pos rfl] at hV
          have HW := Lib.hid hw
          cases o with
          | none =>
            have hv2 : V = acc ++ fldsF white5 (openP (dl s) none (i + 1)) ((dl s).drop (i + 1)) := hV
            have HV := Lib.hid hv2
            simp only [fromW]
            clear hV hv2 hw hof
            go_wp2_with (first | (go_at_call 85; refine (rwhite5_call _ _ _ HW.out).mono ?_; rintro e w1 ⟨rfl, rfl⟩) | fail)
            go_roundw
            case rel => exact ⟨i + 1, none, acc, by go_num, rfl, .inl ⟨by omega, (fun g h => by cases h), HV.out⟩, HBEL.out, HOWN.out, by omega⟩
            case measure => simp [intOf]; omega
          | some f =>
            have hfi := hof f rfl
            have hf0 : ¬ (f : Int) < 0 := by omega
            have hf1 : (0 : Int) ≤ f := by omega
            have hfi' : (f : Int) ≤ i := by omega
            have hv2 : V = acc ++ openP (dl s) (some f) i :: fldsF white5 (openP (dl s) none (i + 1)) ((dl s).drop (i + 1)) := by
              rw [hV, if_neg (openP_ne _ f i hfi (by rw [← size_dl]; omega))]; rfl
            have HV := Lib.hid hv2
            obtain ⟨X, hX⟩ : ∃ X, s.extract f i = X := ⟨_, rfl⟩
            have hXs : X = str (openP (dl s) (some f) i) := by rw [← hX, ext_str]; rfl
            have HXS := Lib.hid hXs
            simp only [fromW]
            clear hV hv2 hw hof hXs
            go_wp2_with fail
            refine (rwhite5_call _ _ _ HW.out).mono ?_
            rintro e w1 ⟨rfl, rfl⟩
            rename World => w1
            go_wp2_with (at_builtin; refine wpList_append_own _ rfl _ _ 36 rfl w.heap.size 9 j0 (.string ⟨#[]⟩) 1 16 Tryz.underlying36 HJ.out HY0.out HY1.out HY2.out rfl (by decide) _ acc.length _ rfl (HOWN.out.alloc _) ⟨w1.heap.size, 0, none⟩ 1 1 [.string X] rfl rfl (cells1_new _ _ 9) (fun u hu => by simp at hu; subst hu; rfl) (by unfold maxLen; omega) (by omega) (by simp; omega) ?_; intro v2 w2 hown2 hgrow2 _)
            have HO2 := Lib.hid hown2
            have HB2 := Lib.hid ((HBEL.out.alloc hws _).grown hgrow2 (by simp; omega) (fun k hk => (row_cells HOWN.out hk).1))
            clear hown2 hgrow2
            go_wp2_with fail
            go_roundw
            case rel =>
              refine ⟨i + 1, none, acc ++ [openP (dl s) (some f) i], by go_num, rfl, .inl ⟨by omega, (fun g h => by cases h), by rw [HV.out, List.append_assoc]; rfl⟩, HB2.out, ?_, by simp; omega⟩
              rw [List.flatMap_append, List.length_append]
              have h := HO2.out
              rw [HXS.out] at h
              exact h
            case measure => simp [intOf] <;> omega
      · obtain rfl : i = s.size := by omega
        have hlt' : ¬ (s.size : Int) < s.size := by omega
        rw [drop_end (i := s.size) (Nat.le_refl _)] at hV
        cases o with
        | none =>
          have hv2 : V = acc := by rw [hV]; simp [fldsF, openP]
          have HV := Lib.hid hv2
          simp only [fromW]
          clear hV hv2 hof
          go_wp2_with fail
          go_roundw
          case rel => exact ⟨s.size + 1, none, acc, by go_num, rfl, .inr ⟨rfl, HV.out⟩, HBEL.out, HOWN.out, by omega⟩
          case measure => simp [intOf]
        | some f =>
          have hfi := hof f rfl
          have hf0 : ¬ (f : Int) < 0 := by omega
          have hf1 : (0 : Int) ≤ f := by omega
          have hfi' : (f : Int) ≤ s.size := by omega
          have hv2 : V = acc ++ [openP (dl s) (some f) s.size] := by
            rw [hV]
            show acc ++ (if openP (dl s) (some f) s.size = [] then [] else [openP (dl s) (some f) s.size]) = _
            rw [if_neg (openP_ne _ f s.size hfi (by rw [← size_dl]; exact Nat.le_refl _))]
          have HV := Lib.hid hv2
          obtain ⟨X, hX⟩ : ∃ X, s.extract f s.size = X := ⟨_, rfl⟩
          have hXs : X = str (openP (dl s) (some f) s.size) := by rw [← hX, ext_str]; rfl
          have HXS := Lib.hid hXs
          simp only [fromW]
          clear hV hv2 hof hXs
          go_wp2_with (at_builtin; refine wpList_append_own _ rfl _ _ 36 rfl w.heap.size 9 j0 (.string ⟨#[]⟩) 1 16 Tryz.underlying36 HJ.out HY0.out HY1.out HY2.out rfl (by decide) _ acc.length _ rfl (HOWN.out.alloc _) ⟨wr.heap.size, 0, none⟩ 1 1 [.string X] rfl rfl (cells1_new _ _ 9) (fun u hu => by simp at hu; subst hu; rfl) (by unfold maxLen; omega) (by omega) (by simp; omega) ?_; intro v2 w2 hown2 hgrow2 _)
          have HO2 := Lib.hid hown2
          have HB2 := Lib.hid ((HBEL.out.alloc hws _).grown hgrow2 (by simp; omega) (fun k hk => (row_cells HOWN.out hk).1))
          clear hown2 hgrow2
          go_wp2_with fail
          go_roundw
          case rel =>
            refine ⟨s.size + 1, none, acc ++ [openP (dl s) (some f) s.size], by go_num, rfl, .inr ⟨rfl, HV.out⟩, HB2.out, ?_, by simp; omega⟩
            rw [List.flatMap_append, List.length_append]
            have h := HO2.out
            rw [HXS.out] at h
            exact h
          case measure => simp [intOf] <;> omega
    · have hi' : ¬ ((s.size + 1 : Nat) : Int) ≤ s.size := by omega
      have hi2 : ¬ (s.size : Int) + 1 ≤ s.size := by omega
      clear hbel hown
      go_wp2_with fail
      go_ret
      exact ⟨_, rfl, HOWN.out, HBEL.out⟩
end Go.Proofs.YtbnhefibpjldfaaGreatDoor

/- PyE -/
namespace Go.Proofs.YtbnhefibpjldfaaGreatDoor
open Go.RowKit Go.BigFrame Go.Shelf
set_option linter.unusedVariables false

/-- Words, and the value of their slice. -/
abbrev Pv := List Bs × Value
def pvC (p : Pv) : List Value := [p.2]
theorem pvC_len (p : Pv) : (pvC p).length = 1 := rfl
theorem sB_len (x : Bs) : (sB x).length = 1 := rfl
theorem sB_one (x : Bs) : ∀ u ∈ sB x, u.oneCell' = true := fun u hu => by simp [sB] at hu; subst hu; rfl
/-- Paragraphs, read. -/
def WdV (w : World) (v : Value) (P : List (List Bs)) : Prop := ∃ L : List Pv, L.map (·.1) = P ∧ SlV 1 pvC w v L ∧ ∀ p ∈ L, SlV 1 sB w p.2 p.1
theorem WdV.below {w w' : World} {v : Value} {P : List (List Bs)} (h : WdV w v P) (hb : Below w.heap.size w w') : WdV w' v P := by
  obtain ⟨L, h1, h2, h3⟩ := h
  exact ⟨L, h1, h2.below hb, fun p hp => (h3 p hp).below hb⟩
/-- Paragraphs and words that have begun: each paragraph's words are its own, the last ones' from E on. -/
structure WdD (B E : Nat) (ov nv : Value) (L : List Pv) (now : List Bs) (w : World) : Prop where
  row : w.ownsRow B 36 1 ov L.length (L.flatMap pvC)
  old : ∀ p ∈ L, w.ownsRow B 9 1 p.2 p.1.length (p.1.flatMap sB) ∧ ∀ k, p.2.ownBlock = some k → k < E
  nw : w.ownsRow E 9 1 nv now.length (now.flatMap sB)
  leB : B ≤ E
  leE : E ≤ w.heap.size
theorem WdD.on {B E : Nat} {ov nv : Value} {L : List Pv} {now : List Bs} {w w' : World} (h : WdD B E ov nv L now w) (hb : Below w.heap.size w w') : WdD B E ov nv L now w' :=
  ⟨own_on h.row hb, fun c hc => ⟨own_on (h.old c hc).1 hb, (h.old c hc).2⟩, own_on h.nw hb, h.leB, Nat.le_trans h.leE hb.size⟩
theorem WdD.more {B E : Nat} {ov nv nv' : Value} {L : List Pv} {now ws : List Bs} {w w1 w2 : World} (h0 : WdD B E ov nv L now w) (hb : Below w.heap.size w w1) (hg : w1.grownBy w2 nv.ownBlock)
    (hown : w2.ownsRow E 9 1 nv' (now.length + ws.length) (now.flatMap sB ++ ws.flatMap sB)) : WdD B E ov nv' L (now ++ ws) w2 ∧ Below B w w2 := by
  have h := h0.on hb
  have hm := mod_grown hg
  have hE : ∀ k, nv.ownBlock = some k → E ≤ k := fun k hk => (row_cells h.nw hk).1
  refine ⟨⟨other_row h.row h.nw (by decide) hg, fun c hc => ⟨ownsRow_mod (h.old c hc).1 hm (fun k hk hs => ?_), (h.old c hc).2⟩, ?_, h.leB, Nat.le_trans h.leE hg.size⟩, (hb.mono (Nat.le_trans h0.leB h0.leE)).trans (hm.below (Nat.le_trans h.leB h.leE) (fun k hk => Nat.le_trans h.leB (hE k hk)))⟩
  · have := (h.old c hc).2 k hk
    have := hE k hs
    omega
  · rw [List.flatMap_append, List.length_append]
    exact hown
theorem WdD.push {B E : Nat} {ov nv ov' : Value} {L : List Pv} {now : List Bs} {w w1 w2 : World} (h0 : WdD B E ov nv L now w) (hb : Below w.heap.size w w1) (hg : w1.grownBy w2 ov.ownBlock)
    (hown : w2.ownsRow B 36 1 ov' (L.length + 1) (L.flatMap pvC ++ [nv])) : WdD B w2.heap.size ov' (.slice none 0 0) (L ++ [(now, nv)]) [] w2 ∧ Below B w w2 := by
  have h := h0.on hb
  have hm := mod_grown hg
  refine ⟨⟨by rw [List.flatMap_append, List.length_append]; exact hown, fun c hc => ?_, World.ownsRow_nil _ _ _ _, Nat.le_trans h.leB (Nat.le_trans h.leE hg.size), Nat.le_refl _⟩, (hb.mono (Nat.le_trans h0.leB h0.leE)).trans (hm.below (Nat.le_trans h.leB h.leE) (fun k hk => (row_cells h.row hk).1))⟩
  rcases List.mem_append.1 hc with hc | hc
  · obtain ⟨q1, q2⟩ := h.old c hc
    exact ⟨other_row q1 h.row (by decide) hg, fun k hk => by have := q2 k hk; have := h.leE; have := hg.size; omega⟩
  · rw [List.mem_singleton] at hc
    subst hc
    have q := other_row (own_base h.nw h.leB) h.row (by decide) hg
    refine ⟨q, fun k hk => ?_⟩
    obtain ⟨_, cur', hc'⟩ := row_cells q hk
    exact (Array.getElem?_eq_some_iff.1 hc').1
theorem WdD.wv {B E : Nat} {ov nv : Value} {L : List Pv} {now : List Bs} {w : World} (h : WdD B E ov nv L now w) : WdV w ov (L.map (·.1)) :=
  ⟨L, rfl, SlV.of pvC_len h.row rfl, fun c hc => SlV.of sB_len (h.old c hc).1 rfl⟩
theorem info36 : (Tryz.prog.info? 36).map (fun i => (i.zero, i.size, i.bytes)) = some (some (.slice none 0 0), 1, 24) := by kernel_rfl
end Go.Proofs.YtbnhefibpjldfaaGreatDoor

/- PyF -/
namespace Go.Proofs.YtbnhefibpjldfaaGreatDoor
open Go.RowKit Go.BigFrame Go.Shelf
set_option linter.unusedVariables false

theorem mute_bare (d : Bool) (n : Bs) (t : List Tk) : mute ⟨d, n, t⟩ = (!d && decide ((YtbnhefibpjldfaaGreatDoor.bare t).length = 0)) := by
  unfold mute
  simp only
  congr 1
  cases YtbnhefibpjldfaaGreatDoor.bare t <;> rfl
set_option maxRecDepth 100000 in
set_option maxHeartbeats 8000000 in
theorem Rf.less (va : Value) (A : List Rw) (w : World) (ha : RowsV w va A) (hal : A.length ≤ 1000000000) (hat : ∀ x ∈ A, x.toks.length ≤ 1000000000) : Calls Tryz.prog 52 #[va] w (fun e w' => ∃ v, e = .returned v ∧ RowsV w' v (YtbnhefibpjldfaaGreatDoor.less A) ∧ Below w.heap.size w w') := by
  obtain ⟨L, rfl, ⟨aa, ca, rfl, hca, hna, hra⟩, hta⟩ := ha
  simp only [List.length_map] at hal
  have HRA := Lib.hid hra
  have HTA := Lib.hid hta
  have HAT := Lib.hid hat
  obtain ⟨j0, hj, hy0, hy1, hy2⟩ := info_parts info78
  have HJ := Lib.hid hj
  have HY0 := Lib.hid hy0
  have HY1 := Lib.hid hy1
  have HY2 := Lib.hid hy2
  clear hra hta hat hna hj hy0 hy1 hy2
  go_enter Tryz.func52, Tryz.ntmps52
  go_wp2_with fail
  go_loopw [3, 4] (fun s3 s4 wr => ∃ (i : Nat) (K : List Rv), i ≤ L.length ∧ s4 = .int .i64 i ∧ YtbnhefibpjldfaaGreatDoor.less (L.map (·.1)) = K.map (·.1) ++ YtbnhefibpjldfaaGreatDoor.less ((L.map (·.1)).drop i) ∧ (∀ p ∈ K, p ∈ L) ∧ Below w.heap.size w wr ∧ wr.ownsRow w.heap.size 78 3 s3 K.length (K.flatMap rvC) ∧ K.length ≤ i) (fun _ s4 _ => L.length - (intOf s4).toNat)
  case atStart => exact ⟨0, [], Nat.zero_le _, rfl, rfl, by simp, Below.refl _ _, World.ownsRow_nil _ _ _ _, Nat.le_refl _⟩
  case round =>
    obtain ⟨i, K, hi, rfl, hq, hin, hbel, hown, hKi⟩ := hrel
    obtain ⟨oa, oc, rfl⟩ := row_shape hown
    have hws := hbel.size
    by_cases hlt : i < L.length
    · obtain ⟨gb, go, rfl, hgb, hgc⟩ := HRA.out.at (by intro e; simp [e] at hlt)
      have hxK : ∀ w', Below w.heap.size w w' → CellsAt w' gb (go + i * 3) (rvC L[i]) := fun w' hw' => (hgc i hlt).below hw' hgb
      obtain ⟨k0, k1, k2⟩ := CellsAt.get3' (hxK wr hbel)
      have hv := HTA.out L[i] (List.getElem_mem hlt)
      have hxl := HAT.out L[i].1 (List.mem_map_of_mem (List.getElem_mem hlt))
      have hmem := List.getElem_mem hlt
      rw [less_at (by simpa using hlt)] at hq
      simp only [List.getElem_map] at hq
      have hlt' : (i : Int) < L.length := by omega
      generalize L[i] = x at *
      obtain ⟨⟨xd, xn, xt⟩, xv⟩ := x
      simp only at k0 k1 k2 hv hxl hq
      rw [mute_bare] at hq
      obtain ⟨B, hB⟩ : ∃ B, YtbnhefibpjldfaaGreatDoor.bare xt = B := ⟨_, rfl⟩
      obtain ⟨xa, xc, rfl, _, _, hxr⟩ := hv.below hbel
      have hbr := Rf.bare xa xc xt wr hxr hxl
      unfold BarePost at hbr
      rw [hB] at hbr hq
      have HBR := Lib.hid hbr
      have HQ := Lib.hid hq
      have HIN := Lib.hid hin
      have HMEM := Lib.hid hmem
      have HBEL := Lib.hid hbel
      have HOWN := Lib.hid hown
      have HXK := Lib.hid hxK
      clear hq hbel hgc hin hmem hown hbr hxr hv hxK hB
      go_wp2_with fail
      refine HBR.out.mono ?_
      rintro e w2 ⟨v, rfl, hown2, hb2⟩
      obtain ⟨ba, bc, rfl⟩ := row_shape hown2
      have hB2 := HBEL.out.trans (hb2.mono hws)
      obtain ⟨m0, m1, m2⟩ := CellsAt.get3' (HXK.out w2 hB2)
      simp only at m0 m1 m2
      have HO2 := Lib.hid (own_on HOWN.out hb2)
      have HB2 := Lib.hid hB2
      have hws2 := hB2.size
      have hgw : gb < w2.heap.size := by omega
      have hq := HQ.out
      clear hown2 hb2 hB2 k0 k1 k2 HBR HQ
      cases xd with
      | false =>
        by_cases hb0 : B.length = 0
        · rw [decide_eq_true hb0] at hq
          have hq2 : YtbnhefibpjldfaaGreatDoor.less (L.map (·.1)) = K.map (·.1) ++ YtbnhefibpjldfaaGreatDoor.less ((L.map (·.1)).drop (i + 1)) := hq
          have hb1 : ¬ (0 : Int) < B.length := by omega
          have HQ := Lib.hid hq2
          clear hq hq2 hb0
          go_wp2_with fail
          go_roundw
          case rel => exact ⟨i + 1, K, by omega, by go_num, HQ.out, HIN.out, HB2.out, HO2.out, by omega⟩
          case measure => simp [intOf]; omega
        · rw [decide_eq_false hb0] at hq
          have hq2 : YtbnhefibpjldfaaGreatDoor.less (L.map (·.1)) = K.map (·.1) ++ (⟨false, xn, xt⟩ : Rw) :: YtbnhefibpjldfaaGreatDoor.less ((L.map (·.1)).drop (i + 1)) := hq
          have hb1 : (0 : Int) < B.length := by omega
          have HQ := Lib.hid hq2
          clear hq hq2 hb0
          go_wp2_with (at_builtin; refine wpList_append_own _ rfl _ _ 47 rfl w.heap.size 78 j0 (.agg #[.bool false, .string ⟨#[]⟩, .slice none 0 0]) 3 48 Tryz.underlying47 HJ.out HY0.out HY1.out HY2.out rfl (by decide) _ K.length _ rfl (HO2.out.alloc _) ⟨w2.heap.size, 0, none⟩ 1 1 [.bool false, .string (str xn), .slice xa xt.length xc] rfl rfl (three_cells _ _ _ _ 78) (fun u hu => by simp at hu; rcases hu with rfl | rfl | rfl <;> rfl) (by unfold maxLen; omega) (by omega) (by simp; omega) ?_; intro v' w4 hown' hgrow _)
          have HO3 := Lib.hid hown'
          have HB3 := Lib.hid ((HB2.out.alloc hws2 _).grown hgrow (by simp; omega) (fun k hk => (row_cells HO2.out hk).1))
          clear hown' hgrow
          go_wp2_with fail
          go_roundw
          case rel =>
            refine ⟨i + 1, K ++ [((⟨false, xn, xt⟩ : Rw), Value.slice xa xt.length xc)], by omega, by go_num, by rw [HQ.out, List.map_append, List.append_assoc]; rfl, ?_, HB3.out, ?_, by simp; omega⟩
            · intro p hp
              rcases List.mem_append.1 hp with hp | hp
              · exact HIN.out p hp
              · rw [List.mem_singleton.1 hp]; exact HMEM.out
            · rw [List.flatMap_append, List.length_append]
              exact HO3.out
          case measure => simp [intOf]; omega
      | true =>
        have hq2 : YtbnhefibpjldfaaGreatDoor.less (L.map (·.1)) = K.map (·.1) ++ (⟨true, xn, xt⟩ : Rw) :: YtbnhefibpjldfaaGreatDoor.less ((L.map (·.1)).drop (i + 1)) := hq
        have HQ := Lib.hid hq2
        clear hq hq2
        go_wp2_with (at_builtin; refine wpList_append_own _ rfl _ _ 47 rfl w.heap.size 78 j0 (.agg #[.bool false, .string ⟨#[]⟩, .slice none 0 0]) 3 48 Tryz.underlying47 HJ.out HY0.out HY1.out HY2.out rfl (by decide) _ K.length _ rfl (HO2.out.alloc _) ⟨w2.heap.size, 0, none⟩ 1 1 [.bool true, .string (str xn), .slice xa xt.length xc] rfl rfl (three_cells _ _ _ _ 78) (fun u hu => by simp at hu; rcases hu with rfl | rfl | rfl <;> rfl) (by unfold maxLen; omega) (by omega) (by simp; omega) ?_; intro v' w4 hown' hgrow _)
        have HO3 := Lib.hid hown'
        have HB3 := Lib.hid ((HB2.out.alloc hws2 _).grown hgrow (by simp; omega) (fun k hk => (row_cells HO2.out hk).1))
        clear hown' hgrow
        go_wp2_with fail
        go_roundw
        case rel =>
          refine ⟨i + 1, K ++ [((⟨true, xn, xt⟩ : Rw), Value.slice xa xt.length xc)], by omega, by go_num, by rw [HQ.out, List.map_append, List.append_assoc]; rfl, ?_, HB3.out, ?_, by simp; omega⟩
          · intro p hp
            rcases List.mem_append.1 hp with hp | hp
            · exact HIN.out p hp
            · rw [List.mem_singleton.1 hp]; exact HMEM.out
          · rw [List.flatMap_append, List.length_append]
            exact HO3.out
        case measure => simp [intOf]; omega
    · obtain rfl : i = L.length := by omega
      rw [show (L.map (·.1)).drop L.length = [] by rw [List.drop_eq_nil_iff]; simp, show YtbnhefibpjldfaaGreatDoor.less [] = [] from rfl, List.append_nil] at hq
      have HQ := Lib.hid hq
      have HIN := Lib.hid hin
      have HBEL := Lib.hid hbel
      have HOWN := Lib.hid hown
      have hlt' : ¬ (L.length : Int) < L.length := by omega
      clear hq hin hbel hown
      go_wp2_with fail
      go_ret
      exact ⟨_, rfl, ⟨K, HQ.out.symm, SlV.of rvC_len HOWN.out rfl, fun p hp => (HTA.out p (HIN.out p hp)).below HBEL.out⟩, HBEL.out⟩
end Go.Proofs.YtbnhefibpjldfaaGreatDoor

/- the document: Tokens. -/
import Derived.Test.YtbnhefibpjldfaaGreatDoorPxS
import Derived.Test.YtbnhefibpjldfaaGreatDoorPxN
namespace Go.Proofs.YtbnhefibpjldfaaGreatDoor
open Go.RowKit Go.BigFrame Go.Shelf
set_option linter.unusedVariables false

def hdrOf (line : List Bs) : Bool := decide (line.length = 2) && (isHash (line.getD 0 []) && (line.getD 1 [] == incl))
def lineOf (line : List Bs) (k : Nat) (x : Bs) : List Bs := if k = 9 then [] else if k = 8 then line else line ++ [x]
theorem tksR_nil (at' : Nat) (line : List Bs) (sp : Bool) : tksR [] at' line sp = ([], 0) := by rw [tksR]
theorem tksR_white {c : UInt8} {r : Bs} {at' : Nat} {line : List Bs} {sp : Bool} (h : isWhite c = true) : tksR (c :: r) at' line sp = tksR r (at' + 1) line true := by rw [tksR]; simp [h]
theorem tksR_err {c : UInt8} {r : Bs} {at' : Nat} {line : List Bs} {sp : Bool} {a b e : Nat} (h : isWhite c = false) (hi : itm (c :: r) (hdrOf line) = (a, b, e)) (he : e ≠ 0) : tksR (c :: r) at' line sp = ([], e) := by
  rw [tksR]
  unfold hdrOf at hi
  simp only [h, hi, Bool.false_eq_true, if_false, ne_eq, he, not_false_eq_true, if_true]
theorem tksR_tok {c : UInt8} {r : Bs} {at' : Nat} {line : List Bs} {sp : Bool} {k n : Nat} (h : isWhite c = false) (hi : itm (c :: r) (hdrOf line) = (k, n, 0)) (hn : 0 < n) :
    tksR (c :: r) at' line sp = (⟨k, (c :: r).take n, at', at' + n, sp⟩ :: (tksR ((c :: r).drop n) (at' + n) (lineOf line k ((c :: r).take n)) false).1, (tksR ((c :: r).drop n) (at' + n) (lineOf line k ((c :: r).take n)) false).2) := by
  rw [tksR]
  obtain ⟨m, rfl⟩ : ∃ m, n = m + 1 := ⟨n - 1, by omega⟩
  unfold hdrOf at hi
  simp only [h, hi, Bool.false_eq_true, if_false, ne_eq, not_true_eq_false, Nat.add_sub_cancel, List.drop_succ_cons]
  rfl
def sB (x : Bs) : List Value := [.string (str x)]
theorem rwhite_call (c : UInt8) (w : World) (b : Bool) (h : isWhite c = b) : Calls Tryz.prog 73 #[.int .u8 c.toNat] w fun e w' => e = .returned (.bool b) ∧ w' = w := h ▸ Rf.whiteF c w
theorem rnamed_call (s : ByteArray) (i n : Nat) (w : World) (hi : i < s.size) (hs : s.size ≤ 1000000000) (h : hLen ((dl s).drop i) = n) : Calls Tryz.prog 74 #[.string (s.extract i s.size)] w fun e w' => e = .returned (.int .i64 n) ∧ w' = w := by
  subst h
  have := Rf.named (s.extract i s.size) w (by simp; omega) (by simp; omega)
  rwa [dl_to] at this
theorem rremark_call (s : ByteArray) (i : Nat) (n : Int) (w : World) (hs : s.size ≤ 1000000000) (h : remI ((dl s).drop i) = n) : Calls Tryz.prog 75 #[.string (s.extract i s.size)] w fun e w' => e = .returned (.int .i64 n) ∧ w' = w := by
  subst h
  have := Rf.remark (s.extract i s.size) w (by simp; omega)
  rwa [dl_to] at this
theorem rlongest_call (s : ByteArray) (i k n : Nat) (w : World) (hi : i < s.size) (hs : s.size ≤ 1000000000) (h : longR ((dl s).drop i) = (k, n)) : Calls Tryz.prog 76 #[.string (s.extract i s.size)] w fun e w' => e = .returned (.tuple #[.int .i64 k, .int .i64 n]) ∧ Below w.heap.size w w' := by
  have := Rf.longest (s.extract i s.size) w (by simp; omega) (by simp; omega)
  rwa [dl_to, h] at this
theorem info9 : (Tryz.prog.info? 9).map (fun i => (i.zero, i.size, i.bytes)) = some (some (.string ⟨#[]⟩), 1, 16) := by kernel_rfl
theorem cLen_err (t : Bs) : (cLen t).2 = 0 ∨ (cLen t).2 = 20 := by
  unfold cLen
  split
  · repeat' split
    all_goals first | exact .inl rfl | exact .inr rfl
  · exact .inl rfl
theorem longP_no {t : Bs} (h : (longP t).1 = 0) : longP t = (0, 0) := by
  unfold longP at h ⊢
  split
  · rename_i h1; rw [if_pos h1] at h; cases h
  · rename_i h1
    rw [if_neg h1] at h
    simp only at h ⊢
    split
    · rename_i h2; rw [if_pos h2] at h; exact absurd h h2
    · rename_i h2
      rw [if_neg h2] at h
      split
      · rfl
      · rename_i h3; rw [if_neg h3] at h; cases h
/-- What stands at a place: five ways. -/
theorem itm_ways {t : Bs} (ht : t ≠ []) (hdr : Bool) :
    (hdr = true ∧ 0 < hLen t ∧ itm t hdr = (7, hLen t, 0)) ∨
    ((if hdr then hLen t else 0) = 0 ∧ remI t = -1 ∧ itm t hdr = (0, 0, 20)) ∨
    (∃ n, (if hdr then hLen t else 0) = 0 ∧ 0 < n ∧ remI t = (n : Nat) ∧ itm t hdr = (8, n, 0)) ∨
    ((if hdr then hLen t else 0) = 0 ∧ remI t = 0 ∧ longR t = (0, 0) ∧ itm t hdr = (0, 0, 21)) ∨
    (∃ k n, (if hdr then hLen t else 0) = 0 ∧ remI t = 0 ∧ 0 < n ∧ k ≠ 8 ∧ longR t = (k, n) ∧ itm t hdr = (k, n, 0)) := by
  by_cases h1 : hdr = true ∧ 0 < hLen t
  · exact .inl ⟨h1.1, h1.2, by unfold itm; rw [if_pos h1]⟩
  have h1' : (if hdr then hLen t else 0) = 0 := by
    cases hdr with
    | false => rfl
    | true => rw [if_pos rfl]; exact Nat.eq_zero_of_not_pos fun h => h1 ⟨rfl, h⟩
  by_cases h2 : (cLen t).2 ≠ 0
  · have h20 : (cLen t).2 = 20 := (cLen_err t).resolve_left h2
    exact .inr (.inl ⟨h1', by unfold remI; rw [if_pos h2], by unfold itm; rw [if_neg h1, if_pos h2, h20]⟩)
  by_cases h3 : (cLen t).1 ≠ 0
  · exact .inr (.inr (.inl ⟨(cLen t).1, h1', by omega, by unfold remI; rw [if_neg h2], by unfold itm; rw [if_neg h1, if_neg h2, if_pos h3]⟩))
  have hr0 : remI t = 0 := by
    unfold remI; rw [if_neg h2, Decidable.not_not.1 h3]; rfl
  by_cases h4 : (longP t).1 = 0
  · exact .inr (.inr (.inr (.inl ⟨h1', hr0, by rw [← longP_ref t ht]; exact longP_no h4, by unfold itm; rw [if_neg h1, if_neg h2, if_neg h3, if_pos h4]⟩)))
  · exact .inr (.inr (.inr (.inr ⟨(longP t).1, (longP t).2, h1', hr0, longP_pos ht h4, (longP_kind ht h4).1, by rw [← longP_ref t ht], by unfold itm; rw [if_neg h1, if_neg h2, if_neg h3, if_neg h4]⟩)))
/-- What Tokens yields. -/
def TksPost (s : ByteArray) (w : World) (e : Ending) (w' : World) : Prop :=
  Below w.heap.size w w' ∧ (if (tks (dl s) 0 0 false).2 = 0 then ∃ v, e = .returned (.tuple #[v, .int .i64 0]) ∧ w'.ownsRow w.heap.size 40 5 v (tks (dl s) 0 0 false).1.length ((tks (dl s) 0 0 false).1.flatMap tkC) else e = .returned (.tuple #[.slice none 0 0, .int .i64 (tks (dl s) 0 0 false).2]))
def TkP (T : List Tk × Nat) (w : World) (e : Ending) (w' : World) : Prop := Below w.heap.size w w' ∧ (if T.2 = 0 then ∃ v, e = .returned (.tuple #[v, .int .i64 0]) ∧ w'.ownsRow w.heap.size 40 5 v T.1.length (T.1.flatMap tkC) else e = .returned (.tuple #[.slice none 0 0, .int .i64 T.2]))
theorem TkP.err {T : List Tk × Nat} {w w' : World} {e : Ending} {l : List Tk} {c : Nat} (hT : T = (l, c)) (hc : c ≠ 0) (hb : Below w.heap.size w w') (he : e = .returned (.tuple #[.slice none 0 0, .int .i64 c])) : TkP T w e w' := by
  subst hT; exact ⟨hb, (if_neg hc).mpr he⟩
theorem TkP.ok {T : List Tk × Nat} {w w' : World} {e : Ending} {l : List Tk} {v : Value} (hT : T = (l, 0)) (hb : Below w.heap.size w w') (he : e = .returned (.tuple #[v, .int .i64 0])) (ho : w'.ownsRow w.heap.size 40 5 v l.length (l.flatMap tkC)) : TkP T w e w' := by
  subst hT; exact ⟨hb, (if_pos rfl).mpr ⟨v, he, ho⟩⟩
/-- What the loop keeps. -/
def TkI (s : ByteArray) (T : List Tk × Nat) (w : World) (i : Nat) (line : List Bs) (sp : Bool) (acc : List Tk) (v4 v5 : Value) (W : World) : Prop :=
  i ≤ s.size ∧ T = (acc ++ (tksR ((dl s).drop i) i line sp).1, (tksR ((dl s).drop i) i line sp).2) ∧ Below w.heap.size w W ∧ W.ownsRow w.heap.size 40 5 v4 acc.length (acc.flatMap tkC) ∧ W.ownsRow w.heap.size 9 1 v5 line.length (line.flatMap sB) ∧ acc.length ≤ i ∧ line.length ≤ i
set_option maxRecDepth 100000 in
set_option maxHeartbeats 8000000 in
theorem Rf.tokens (s : ByteArray) (w : World) (hs : s.size ≤ 100000000) : Calls Tryz.prog 35 #[.string s] w (TksPost s w) := by
  have hs9 : s.size ≤ 1000000000 := by omega
  obtain ⟨T, hT⟩ : ∃ T, tksR (dl s) 0 [] false = T := ⟨_, rfl⟩
  refine Calls.mono (R := TkP T w) ?_ (fun e w' h => by
    unfold TksPost
    rw [← tksR_tks, hT]
    exact h)
  have h0 : TkI s T w 0 [] false [] (.slice none 0 0) (.slice none 0 0) w := ⟨Nat.zero_le _, by rw [← hT]; rfl, Below.refl _ _, World.ownsRow_nil _ _ _ _, World.ownsRow_nil _ _ _ _, Nat.le_refl _, Nat.le_refl _⟩
  have H0 := Lib.hid h0
  clear hT h0
  obtain ⟨i0, hi, hz0, hz1, hz2⟩ := info_parts info40
  have HI := Lib.hid hi
  have HZ0 := Lib.hid hz0
  have HZ1 := Lib.hid hz1
  have HZ2 := Lib.hid hz2
  obtain ⟨j0, hj, hy0, hy1, hy2⟩ := info_parts info9
  have HJ := Lib.hid hj
  have HY0 := Lib.hid hy0
  have HY1 := Lib.hid hy1
  have HY2 := Lib.hid hy2
  clear hi hz0 hz1 hz2 hj hy0 hy1 hy2
  go_enter Tryz.func35, Tryz.ntmps35
  go_wp2_with fail
  go_loopw [4, 5, 6, 7] (fun s4 s5 s6 s7 wr => ∃ (i : Nat) (line : List Bs) (sp : Bool) (acc : List Tk), s6 = .int .i64 i ∧ s7 = .bool sp ∧ TkI s T w i line sp acc s4 s5 wr) (fun _ _ s6 _ _ => s.size - (intOf s6).toNat)
  case atStart => exact ⟨0, [], false, [], rfl, rfl, H0.out⟩
  case round =>
    clear H0
    obtain ⟨i, line, sp, acc, rfl, rfl, hi, hT, hbel, hown, hownl, hal, hll⟩ := hrel
    obtain ⟨oa, oc, rfl⟩ := row_shape hown
    obtain ⟨la, lc, rfl⟩ := row_shape hownl
    have hws := hbel.size
    by_cases hlt : i < s.size
    · have hlt' : (i : Int) < s.size := by omega
      have HBEL := Lib.hid hbel
      have HOWN := Lib.hid hown
      have HOWNL := Lib.hid hownl
      cases hw : isWhite s[i] with
      | true =>
        rw [drop_at hlt, tksR_white hw] at hT
        have HT := Lib.hid hT
        have HW := Lib.hid hw
        clear hT hbel hown hownl hw
        go_wp2_with fail
        refine (rwhite_call _ _ _ HW.out).mono ?_
        rintro e w2 ⟨rfl, rfl⟩
        go_wp2_with fail
        go_roundw
        case rel => exact ⟨i + 1, line, true, acc, by go_num, rfl, by omega, HT.out, HBEL.out, HOWN.out, HOWNL.out, by omega, by omega⟩
        case measure => simp [intOf]; omega
      | false =>
        have hne : (dl s).drop i ≠ [] := by rw [drop_at hlt]; simp
        have hways := itm_ways hne (hdrOf line)
        obtain ⟨HD, hHD⟩ : ∃ HD, hdrOf line = HD := ⟨_, rfl⟩
        obtain ⟨N0, hN0⟩ : ∃ N0, hLen ((dl s).drop i) = N0 := ⟨_, rfl⟩
        rw [hN0, hHD] at hways
        have HN0 := Lib.hid hN0
        have HHD := Lib.hid hHD
        have HT := Lib.hid hT
        have HW := Lib.hid hw
        have HWAYS := Lib.hid hways
        have HLL := Lib.hid hll
        have hrow := (rowAt_owns (f := sB) (fun g => rfl) hownl rfl).2
        have HROW := Lib.hid hrow
        have HNE := Lib.hid hne
        clear hT hbel hown hownl hw hways hN0 hHD hne hrow
        go_wp2_with fail
        refine (rwhite_call _ _ _ HW.out).mono ?_
        rintro e w2 ⟨rfl, rfl⟩
        go_upto_region 11 with fail
        go_cut [40] (fun s40 wx => s40 = .bool HD ∧ wx = w2)
        case first =>
          by_cases hl2 : line.length = 2
          · obtain ⟨a, b, hab⟩ : ∃ a b, line = [a, b] := by
              match line, hl2 with
              | [a, b], _ => exact ⟨a, b, rfl⟩
            subst hab
            obtain ⟨gb, go, rfl, hgb, hgc⟩ := HROW.out.at (by simp)
            have k0 := hgc 0 (by simp) 0 _ rfl
            have k1 := hgc 1 (by simp) 0 _ rfl
            simp only [Nat.add_zero, Nat.zero_mul, Nat.one_mul, List.getElem_cons_zero, List.getElem_cons_succ] at k0 k1
            have hh := HHD.out
            unfold hdrOf at hh
            simp only [List.length_cons, List.length_nil, decide_true, Bool.true_and, List.getD_cons_zero, List.getD_cons_succ] at hh
            have HHH := Lib.hid hh
            clear hgc hh hl2
            by_cases ea : isHash a = true
            · rw [isHash, Bool.or_eq_true, beq_iff_eq, beq_iff_eq] at ea
              by_cases eb : b = incl
              · have hd : HD = true := by
                  rw [← HHH.out, eb, Bool.and_eq_true]
                  exact ⟨by rw [isHash, Bool.or_eq_true, beq_iff_eq, beq_iff_eq]; exact ea, by rfl⟩
                have eb' : ((str b).toList == [105, 110, 99, 108, 117, 100, 101]) = true := by rw [str_tl, eb]; rfl
                subst hd
                rcases ea with ea | ea
                · have ea' : ((str a).toList == [35]) = true := by rw [str_tl, ea]; rfl
                  clear ea eb
                  go_wp2_with fail
                  go_meet
                  exact ⟨rfl, rfl⟩
                · have ea0 : ((str a).toList == [35]) = false := by rw [str_tl, ea]; rfl
                  have ea' : ((str a).toList == [37, 58]) = true := by rw [str_tl, ea]; rfl
                  clear ea eb
                  go_wp2_with fail
                  go_meet
                  exact ⟨rfl, rfl⟩
              · have hd : HD = false := by
                  rw [← HHH.out, Bool.and_eq_false_iff]; right; rw [beq_eq_false_iff_ne]; exact eb
                have eb' : ((str b).toList == [105, 110, 99, 108, 117, 100, 101]) = false := by rw [str_tl, beq_eq_false_iff_ne]; exact eb
                subst hd
                rcases ea with ea | ea
                · have ea' : ((str a).toList == [35]) = true := by rw [str_tl, ea]; rfl
                  clear ea eb
                  go_wp2_with fail
                  go_meet
                  exact ⟨rfl, rfl⟩
                · have ea0 : ((str a).toList == [35]) = false := by rw [str_tl, ea]; rfl
                  have ea' : ((str a).toList == [37, 58]) = true := by rw [str_tl, ea]; rfl
                  clear ea eb
                  go_wp2_with fail
                  go_meet
                  exact ⟨rfl, rfl⟩
            · have hd : HD = false := by
                rw [← HHH.out, Bool.eq_false_iff.2 ea]; rfl
              obtain ⟨ea0, ea1⟩ := hash_no (Bool.eq_false_iff.2 ea)
              subst hd
              clear ea
              go_wp2_with fail
              go_meet
              exact ⟨rfl, rfl⟩
          · have hl2' : ((line.length : Int) == 2) = false := by rw [beq_eq_false_iff_ne]; omega
            have hd : HD = false := by
              rw [← HHD.out]; unfold hdrOf; rw [decide_eq_false hl2]; rfl
            subst hd
            clear hl2
            go_wp2_with fail
            go_meet
            exact ⟨rfl, rfl⟩
        case rest =>
          obtain ⟨rfl, rfl⟩ := hcut
          clear HROW
          cases HD with
          | true =>
            rcases HWAYS.out with ⟨_, hn0, hitm⟩ | ⟨h00, hr, hitm⟩ | ⟨n, h00, hn0, hr, hitm⟩ | ⟨h00, hr, hlo, hitm⟩ | ⟨k, n, h00, hr, hn0, hk8, hlo, hitm⟩
            · generalize hNn : N0 = n at *
              clear hNn
              have hpos : i + n ≤ s.size := by
                have := (itm_pos HNE.out (hdr := true) (by rw [hitm])).2.1
                rw [hitm, drop_len] at this
                simp only at this
                omega
              have hT2 : T = (acc ++ ⟨7, ((dl s).drop i).take n, i, i + n, sp⟩ :: (tksR ((dl s).drop (i + n)) (i + n) (lineOf line 7 (((dl s).drop i).take n)) false).1, (tksR ((dl s).drop (i + n)) (i + n) (lineOf line 7 (((dl s).drop i).take n)) false).2) := by
                rw [HT.out]
                conv => lhs; rw [drop_at hlt, tksR_tok (k := 7) (n := n) HW.out (by rw [← drop_at hlt, HHD.out]; exact hitm) hn0, ← drop_at hlt, List.drop_drop]
              obtain ⟨X, hX⟩ : ∃ X, s.extract i (i + n) = X := ⟨_, rfl⟩
              have hXs : X = str (((dl s).drop i).take n) := by rw [← hX, ext_str, show i + n - i = n by omega]
              have hin : (i : Int) + n ≤ s.size := by omega
              have hin2 : (i : Int) ≤ (i : Int) + n := by omega
              have hin3 : ((i : Int) + n).toNat = i + n := by omega
              have hn1 : ((n : Int) == 0) = false := by rw [beq_eq_false_iff_ne]; omega
              have hn2 : ¬ (n : Int) < 0 := by omega
              have HXS := Lib.hid hXs
              have hposO := Lib.hid hpos
              have hn0O := Lib.hid hn0
              have HT2 := Lib.hid hT2
              clear hT2 hitm hXs hn0 hpos
              go_wp2_with fail
              have HB5 := HBEL
              have HO5 := HOWN
              have HL5 := HOWNL
              have hws5 := HBEL.out.size
              refine (rnamed_call s i _ _ hlt hs9 HN0.out).mono ?_
              rintro e w3 ⟨rfl, rfl⟩
              go_upto_region 24 with (at_builtin; refine wpList_append_own _ rfl _ _ 30 rfl w.heap.size 40 i0 (.agg #[.int .i64 0, .string ⟨#[]⟩, .int .i64 0, .int .i64 0, .bool false]) 5 48 Tryz.underlying30 HI.out HZ0.out HZ1.out HZ2.out rfl (by decide) _ acc.length _ rfl (HO5.out.alloc _) ⟨w3.heap.size, 0, none⟩ 1 1 [.int .i64 7, .string X, .int .i64 i, .int .i64 ((i : Int) + n), .bool sp] rfl rfl (five_cells _ _ _ _ _ _ 40) (fun u hu => by simp at hu; rcases hu with rfl | rfl | rfl | rfl | rfl <;> rfl) (by unfold maxLen; omega) (by omega) (by simp; omega) ?_; intro v' w6 hown' hgrow _)
              have HO6 := Lib.hid hown'
              have HL6 := Lib.hid (other_row (HL5.out.alloc _) (HO5.out.alloc _) (by decide) hgrow)
              have hb6 := (HB5.out.alloc hws5 _).grown hgrow (by simp; omega) (fun k hk => (row_cells HO5.out hk).1)
              have hws6 := hb6.size
              have HB6 := Lib.hid hb6
              obtain ⟨oa6, oc6, rfl⟩ := row_shape hown'
              clear hown' hgrow hb6
              go_wp2_with (at_builtin; refine wpList_append_own _ rfl _ _ 36 rfl w.heap.size 9 j0 (.string ⟨#[]⟩) 1 16 Tryz.underlying36 HJ.out HY0.out HY1.out HY2.out rfl (by decide) _ line.length _ rfl (HL6.out.alloc _) ⟨w6.heap.size, 0, none⟩ 1 1 [.string X] rfl rfl (cells1_new _ _ 9) (fun u hu => by simp at hu; subst hu; rfl) (by unfold maxLen; have := HLL.out; omega) (by omega) (by simp; omega) ?_; intro v2 w7 hown2 hgrow2 _)
              have HL7 := Lib.hid hown2
              have HO7 := Lib.hid (other_row (HO6.out.alloc _) (HL6.out.alloc _) (by decide) hgrow2)
              have HB7 := Lib.hid ((HB6.out.alloc hws6 _).grown hgrow2 (by simp; omega) (fun k hk => (row_cells HL6.out hk).1))
              clear hown2 hgrow2
              go_wp2_with fail
              go_roundw
              case rel =>
                exact ⟨i + n, (line ++ [((dl s).drop i).take n]), false, acc ++ [⟨7, ((dl s).drop i).take n, i, i + n, sp⟩], by go_num, rfl, hposO.out, (by rw [HT2.out, List.append_assoc]; rw [show lineOf line 7 (((dl s).drop i).take n) = line ++ [((dl s).drop i).take n] from rfl]; rfl), HB7.out, (by
                    have h := HO7.out
                    rw [List.flatMap_append, List.length_append]
                    simpa [tkC, HXS.out] using h), (by
                    have h := HL7.out
                    rw [List.flatMap_append, List.length_append]
                    simpa [sB, HXS.out] using h), by have := hn0O.out; simp; omega, (by have := HLL.out; have := hn0O.out; simp; omega)⟩
              case measure => have := hposO.out; have := hn0O.out; simp [intOf]; omega
            · rw [if_pos rfl] at h00
              subst h00
              have HR := Lib.hid hr
              clear hr
              have hT2 : T = (acc, 20) := by
                rw [HT.out, drop_at hlt, tksR_err (a := 0) (b := 0) (e := 20) HW.out (by rw [← drop_at hlt, HHD.out]; exact hitm) (by decide), List.append_nil]
              have HT2 := Lib.hid hT2
              clear hT2 hitm
              go_wp2_with fail
              refine (rnamed_call s i _ _ hlt hs9 HN0.out).mono ?_
              rintro e w3 ⟨rfl, rfl⟩
              go_wp2_with fail
              refine (rremark_call s i _ _ hs9 HR.out).mono ?_
              rintro e w4 ⟨rfl, rfl⟩
              go_wp2_with fail
              go_ret2
              exact TkP.err HT2.out (by decide) HBEL.out rfl
            · rw [if_pos rfl] at h00
              subst h00
              have HR := Lib.hid hr
              clear hr
              have hpos : i + n ≤ s.size := by
                have := (itm_pos HNE.out (hdr := true) (by rw [hitm])).2.1
                rw [hitm, drop_len] at this
                simp only at this
                omega
              have hT2 : T = (acc ++ ⟨8, ((dl s).drop i).take n, i, i + n, sp⟩ :: (tksR ((dl s).drop (i + n)) (i + n) (lineOf line 8 (((dl s).drop i).take n)) false).1, (tksR ((dl s).drop (i + n)) (i + n) (lineOf line 8 (((dl s).drop i).take n)) false).2) := by
                rw [HT.out]
                conv => lhs; rw [drop_at hlt, tksR_tok (k := 8) (n := n) HW.out (by rw [← drop_at hlt, HHD.out]; exact hitm) hn0, ← drop_at hlt, List.drop_drop]
              obtain ⟨X, hX⟩ : ∃ X, s.extract i (i + n) = X := ⟨_, rfl⟩
              have hXs : X = str (((dl s).drop i).take n) := by rw [← hX, ext_str, show i + n - i = n by omega]
              have hin : (i : Int) + n ≤ s.size := by omega
              have hin2 : (i : Int) ≤ (i : Int) + n := by omega
              have hin3 : ((i : Int) + n).toNat = i + n := by omega
              have hn1 : ((n : Int) == 0) = false := by rw [beq_eq_false_iff_ne]; omega
              have hn2 : ¬ (n : Int) < 0 := by omega
              have HXS := Lib.hid hXs
              have hposO := Lib.hid hpos
              have hn0O := Lib.hid hn0
              have HT2 := Lib.hid hT2
              clear hT2 hitm hXs hn0 hpos
              go_wp2_with fail
              refine (rnamed_call s i _ _ hlt hs9 HN0.out).mono ?_
              rintro e w3 ⟨rfl, rfl⟩
              go_wp2_with fail
              have HB5 := HBEL
              have HO5 := HOWN
              have HL5 := HOWNL
              have hws5 := HBEL.out.size
              refine (rremark_call s i _ _ hs9 HR.out).mono ?_
              rintro e w4 ⟨rfl, rfl⟩
              go_upto_region 24 with (at_builtin; refine wpList_append_own _ rfl _ _ 30 rfl w.heap.size 40 i0 (.agg #[.int .i64 0, .string ⟨#[]⟩, .int .i64 0, .int .i64 0, .bool false]) 5 48 Tryz.underlying30 HI.out HZ0.out HZ1.out HZ2.out rfl (by decide) _ acc.length _ rfl (HO5.out.alloc _) ⟨w4.heap.size, 0, none⟩ 1 1 [.int .i64 8, .string X, .int .i64 i, .int .i64 ((i : Int) + n), .bool sp] rfl rfl (five_cells _ _ _ _ _ _ 40) (fun u hu => by simp at hu; rcases hu with rfl | rfl | rfl | rfl | rfl <;> rfl) (by unfold maxLen; omega) (by omega) (by simp; omega) ?_; intro v' w6 hown' hgrow _)
              have HO6 := Lib.hid hown'
              have HL6 := Lib.hid (other_row (HL5.out.alloc _) (HO5.out.alloc _) (by decide) hgrow)
              have hb6 := (HB5.out.alloc hws5 _).grown hgrow (by simp; omega) (fun k hk => (row_cells HO5.out hk).1)
              have hws6 := hb6.size
              have HB6 := Lib.hid hb6
              obtain ⟨oa6, oc6, rfl⟩ := row_shape hown'
              clear hown' hgrow hb6
              go_wp2_with fail
              go_roundw
              case rel =>
                exact ⟨i + n, line, false, acc ++ [⟨8, ((dl s).drop i).take n, i, i + n, sp⟩], by go_num, rfl, hposO.out, (by rw [HT2.out, List.append_assoc]; rfl), HB6.out, (by
                    have h := HO6.out
                    rw [List.flatMap_append, List.length_append]
                    simpa [tkC, HXS.out] using h), HL6.out, by have := hn0O.out; simp; omega, (by have := HLL.out; omega)⟩
              case measure => have := hposO.out; have := hn0O.out; simp [intOf]; omega
            · rw [if_pos rfl] at h00
              subst h00
              have HR := Lib.hid hr
              have HLO := Lib.hid hlo
              clear hr hlo
              have hT2 : T = (acc, 21) := by
                rw [HT.out, drop_at hlt, tksR_err (a := 0) (b := 0) (e := 21) HW.out (by rw [← drop_at hlt, HHD.out]; exact hitm) (by decide), List.append_nil]
              have HT2 := Lib.hid hT2
              clear hT2 hitm
              go_wp2_with fail
              refine (rnamed_call s i _ _ hlt hs9 HN0.out).mono ?_
              rintro e w3 ⟨rfl, rfl⟩
              go_wp2_with fail
              refine (rremark_call s i _ _ hs9 HR.out).mono ?_
              rintro e w4 ⟨rfl, rfl⟩
              go_wp2_with fail
              refine (rlongest_call s i _ _ _ hlt hs9 HLO.out).mono ?_
              rintro e w5 ⟨rfl, b5⟩
              have hb5 := HBEL.out.trans (b5.mono HBEL.out.size)
              have HB5 := Lib.hid hb5
              have hws5 := hb5.size
              have HO5 := Lib.hid (own_on HOWN.out b5)
              have HL5 := Lib.hid (own_on HOWNL.out b5)
              clear b5 hb5
              go_wp2_with fail
              go_ret2
              exact TkP.err HT2.out (by decide) HB5.out rfl
            · rw [if_pos rfl] at h00
              subst h00
              have HR := Lib.hid hr
              have HLO := Lib.hid hlo
              clear hr hlo
              by_cases hk9 : k = 9
              · subst hk9
                clear hk8
                have hpos : i + n ≤ s.size := by
                  have := (itm_pos HNE.out (hdr := true) (by rw [hitm])).2.1
                  rw [hitm, drop_len] at this
                  simp only at this
                  omega
                have hT2 : T = (acc ++ ⟨9, ((dl s).drop i).take n, i, i + n, sp⟩ :: (tksR ((dl s).drop (i + n)) (i + n) (lineOf line 9 (((dl s).drop i).take n)) false).1, (tksR ((dl s).drop (i + n)) (i + n) (lineOf line 9 (((dl s).drop i).take n)) false).2) := by
                  rw [HT.out]
                  conv => lhs; rw [drop_at hlt, tksR_tok (k := 9) (n := n) HW.out (by rw [← drop_at hlt, HHD.out]; exact hitm) hn0, ← drop_at hlt, List.drop_drop]
                obtain ⟨X, hX⟩ : ∃ X, s.extract i (i + n) = X := ⟨_, rfl⟩
                have hXs : X = str (((dl s).drop i).take n) := by rw [← hX, ext_str, show i + n - i = n by omega]
                have hin : (i : Int) + n ≤ s.size := by omega
                have hin2 : (i : Int) ≤ (i : Int) + n := by omega
                have hin3 : ((i : Int) + n).toNat = i + n := by omega
                have hn1 : ((n : Int) == 0) = false := by rw [beq_eq_false_iff_ne]; omega
                have hn2 : ¬ (n : Int) < 0 := by omega
                have HXS := Lib.hid hXs
                have hposO := Lib.hid hpos
                have hn0O := Lib.hid hn0
                have HT2 := Lib.hid hT2
                clear hT2 hitm hXs hn0 hpos
                go_wp2_with fail
                refine (rnamed_call s i _ _ hlt hs9 HN0.out).mono ?_
                rintro e w3 ⟨rfl, rfl⟩
                go_wp2_with fail
                refine (rremark_call s i _ _ hs9 HR.out).mono ?_
                rintro e w4 ⟨rfl, rfl⟩
                go_wp2_with fail
                refine (rlongest_call s i _ _ _ hlt hs9 HLO.out).mono ?_
                rintro e w5 ⟨rfl, b5⟩
                have hb5 := HBEL.out.trans (b5.mono HBEL.out.size)
                have HB5 := Lib.hid hb5
                have hws5 := hb5.size
                have HO5 := Lib.hid (own_on HOWN.out b5)
                have HL5 := Lib.hid (own_on HOWNL.out b5)
                clear b5 hb5
                go_upto_region 24 with (at_builtin; refine wpList_append_own _ rfl _ _ 30 rfl w.heap.size 40 i0 (.agg #[.int .i64 0, .string ⟨#[]⟩, .int .i64 0, .int .i64 0, .bool false]) 5 48 Tryz.underlying30 HI.out HZ0.out HZ1.out HZ2.out rfl (by decide) _ acc.length _ rfl (HO5.out.alloc _) ⟨w5.heap.size, 0, none⟩ 1 1 [.int .i64 9, .string X, .int .i64 i, .int .i64 ((i : Int) + n), .bool sp] rfl rfl (five_cells _ _ _ _ _ _ 40) (fun u hu => by simp at hu; rcases hu with rfl | rfl | rfl | rfl | rfl <;> rfl) (by unfold maxLen; omega) (by omega) (by simp; omega) ?_; intro v' w6 hown' hgrow _)
                have HO6 := Lib.hid hown'
                have HL6 := Lib.hid (other_row (HL5.out.alloc _) (HO5.out.alloc _) (by decide) hgrow)
                have hb6 := (HB5.out.alloc hws5 _).grown hgrow (by simp; omega) (fun k hk => (row_cells HO5.out hk).1)
                have hws6 := hb6.size
                have HB6 := Lib.hid hb6
                obtain ⟨oa6, oc6, rfl⟩ := row_shape hown'
                clear hown' hgrow hb6
                go_wp2_with fail
                go_roundw
                case rel =>
                  exact ⟨i + n, [], false, acc ++ [⟨9, ((dl s).drop i).take n, i, i + n, sp⟩], by go_num, rfl, hposO.out, (by rw [HT2.out, List.append_assoc]; rfl), HB6.out, (by
                      have h := HO6.out
                      rw [List.flatMap_append, List.length_append]
                      simpa [tkC, HXS.out] using h), World.ownsRow_nil _ _ _ _, by have := hn0O.out; simp; omega, Nat.zero_le _⟩
                case measure => have := hposO.out; have := hn0O.out; simp [intOf]; omega
              · have hk9' : ((k : Int) == 9) = false := by rw [beq_eq_false_iff_ne]; omega
                have hk8' : ((k : Int) != 8) = true := by rw [bne_iff_ne]; omega
                have HK9 := Lib.hid hk9
                have HK8 := Lib.hid hk8
                clear hk9 hk8
                have hpos : i + n ≤ s.size := by
                  have := (itm_pos HNE.out (hdr := true) (by rw [hitm])).2.1
                  rw [hitm, drop_len] at this
                  simp only at this
                  omega
                have hT2 : T = (acc ++ ⟨k, ((dl s).drop i).take n, i, i + n, sp⟩ :: (tksR ((dl s).drop (i + n)) (i + n) (lineOf line k (((dl s).drop i).take n)) false).1, (tksR ((dl s).drop (i + n)) (i + n) (lineOf line k (((dl s).drop i).take n)) false).2) := by
                  rw [HT.out]
                  conv => lhs; rw [drop_at hlt, tksR_tok (k := k) (n := n) HW.out (by rw [← drop_at hlt, HHD.out]; exact hitm) hn0, ← drop_at hlt, List.drop_drop]
                obtain ⟨X, hX⟩ : ∃ X, s.extract i (i + n) = X := ⟨_, rfl⟩
                have hXs : X = str (((dl s).drop i).take n) := by rw [← hX, ext_str, show i + n - i = n by omega]
                have hin : (i : Int) + n ≤ s.size := by omega
                have hin2 : (i : Int) ≤ (i : Int) + n := by omega
                have hin3 : ((i : Int) + n).toNat = i + n := by omega
                have hn1 : ((n : Int) == 0) = false := by rw [beq_eq_false_iff_ne]; omega
                have hn2 : ¬ (n : Int) < 0 := by omega
                have HXS := Lib.hid hXs
                have hposO := Lib.hid hpos
                have hn0O := Lib.hid hn0
                have HT2 := Lib.hid hT2
                clear hT2 hitm hXs hn0 hpos
                go_wp2_with fail
                refine (rnamed_call s i _ _ hlt hs9 HN0.out).mono ?_
                rintro e w3 ⟨rfl, rfl⟩
                go_wp2_with fail
                refine (rremark_call s i _ _ hs9 HR.out).mono ?_
                rintro e w4 ⟨rfl, rfl⟩
                go_wp2_with fail
                refine (rlongest_call s i _ _ _ hlt hs9 HLO.out).mono ?_
                rintro e w5 ⟨rfl, b5⟩
                have hb5 := HBEL.out.trans (b5.mono HBEL.out.size)
                have HB5 := Lib.hid hb5
                have hws5 := hb5.size
                have HO5 := Lib.hid (own_on HOWN.out b5)
                have HL5 := Lib.hid (own_on HOWNL.out b5)
                clear b5 hb5
                go_upto_region 24 with (at_builtin; refine wpList_append_own _ rfl _ _ 30 rfl w.heap.size 40 i0 (.agg #[.int .i64 0, .string ⟨#[]⟩, .int .i64 0, .int .i64 0, .bool false]) 5 48 Tryz.underlying30 HI.out HZ0.out HZ1.out HZ2.out rfl (by decide) _ acc.length _ rfl (HO5.out.alloc _) ⟨w5.heap.size, 0, none⟩ 1 1 [.int .i64 k, .string X, .int .i64 i, .int .i64 ((i : Int) + n), .bool sp] rfl rfl (five_cells _ _ _ _ _ _ 40) (fun u hu => by simp at hu; rcases hu with rfl | rfl | rfl | rfl | rfl <;> rfl) (by unfold maxLen; omega) (by omega) (by simp; omega) ?_; intro v' w6 hown' hgrow _)
                have HO6 := Lib.hid hown'
                have HL6 := Lib.hid (other_row (HL5.out.alloc _) (HO5.out.alloc _) (by decide) hgrow)
                have hb6 := (HB5.out.alloc hws5 _).grown hgrow (by simp; omega) (fun k hk => (row_cells HO5.out hk).1)
                have hws6 := hb6.size
                have HB6 := Lib.hid hb6
                obtain ⟨oa6, oc6, rfl⟩ := row_shape hown'
                clear hown' hgrow hb6
                go_wp2_with (at_builtin; refine wpList_append_own _ rfl _ _ 36 rfl w.heap.size 9 j0 (.string ⟨#[]⟩) 1 16 Tryz.underlying36 HJ.out HY0.out HY1.out HY2.out rfl (by decide) _ line.length _ rfl (HL6.out.alloc _) ⟨w6.heap.size, 0, none⟩ 1 1 [.string X] rfl rfl (cells1_new _ _ 9) (fun u hu => by simp at hu; subst hu; rfl) (by unfold maxLen; have := HLL.out; omega) (by omega) (by simp; omega) ?_; intro v2 w7 hown2 hgrow2 _)
                have HL7 := Lib.hid hown2
                have HO7 := Lib.hid (other_row (HO6.out.alloc _) (HL6.out.alloc _) (by decide) hgrow2)
                have HB7 := Lib.hid ((HB6.out.alloc hws6 _).grown hgrow2 (by simp; omega) (fun k hk => (row_cells HL6.out hk).1))
                clear hown2 hgrow2
                go_wp2_with fail
                go_roundw
                case rel =>
                  exact ⟨i + n, (line ++ [((dl s).drop i).take n]), false, acc ++ [⟨k, ((dl s).drop i).take n, i, i + n, sp⟩], by go_num, rfl, hposO.out, (by rw [HT2.out, List.append_assoc]; rw [show lineOf line k (((dl s).drop i).take n) = line ++ [((dl s).drop i).take n] from by unfold lineOf; rw [if_neg HK9.out, if_neg HK8.out]]; rfl), HB7.out, (by
                      have h := HO7.out
                      rw [List.flatMap_append, List.length_append]
                      simpa [tkC, HXS.out] using h), (by
                      have h := HL7.out
                      rw [List.flatMap_append, List.length_append]
                      simpa [sB, HXS.out] using h), by have := hn0O.out; simp; omega, (by have := HLL.out; have := hn0O.out; simp; omega)⟩
                case measure => have := hposO.out; have := hn0O.out; simp [intOf]; omega
          | false =>
            rcases HWAYS.out with ⟨hd, hn0, hitm⟩ | ⟨h00, hr, hitm⟩ | ⟨n, h00, hn0, hr, hitm⟩ | ⟨h00, hr, hlo, hitm⟩ | ⟨k, n, h00, hr, hn0, hk8, hlo, hitm⟩
            · cases hd
            · clear h00
              have HR := Lib.hid hr
              clear hr
              have hT2 : T = (acc, 20) := by
                rw [HT.out, drop_at hlt, tksR_err (a := 0) (b := 0) (e := 20) HW.out (by rw [← drop_at hlt, HHD.out]; exact hitm) (by decide), List.append_nil]
              have HT2 := Lib.hid hT2
              clear hT2 hitm
              go_wp2_with fail
              refine (rremark_call s i _ _ hs9 HR.out).mono ?_
              rintro e w4 ⟨rfl, rfl⟩
              go_wp2_with fail
              go_ret2
              exact TkP.err HT2.out (by decide) HBEL.out rfl
            · clear h00
              have HR := Lib.hid hr
              clear hr
              have hpos : i + n ≤ s.size := by
                have := (itm_pos HNE.out (hdr := false) (by rw [hitm])).2.1
                rw [hitm, drop_len] at this
                simp only at this
                omega
              have hT2 : T = (acc ++ ⟨8, ((dl s).drop i).take n, i, i + n, sp⟩ :: (tksR ((dl s).drop (i + n)) (i + n) (lineOf line 8 (((dl s).drop i).take n)) false).1, (tksR ((dl s).drop (i + n)) (i + n) (lineOf line 8 (((dl s).drop i).take n)) false).2) := by
                rw [HT.out]
                conv => lhs; rw [drop_at hlt, tksR_tok (k := 8) (n := n) HW.out (by rw [← drop_at hlt, HHD.out]; exact hitm) hn0, ← drop_at hlt, List.drop_drop]
              obtain ⟨X, hX⟩ : ∃ X, s.extract i (i + n) = X := ⟨_, rfl⟩
              have hXs : X = str (((dl s).drop i).take n) := by rw [← hX, ext_str, show i + n - i = n by omega]
              have hin : (i : Int) + n ≤ s.size := by omega
              have hin2 : (i : Int) ≤ (i : Int) + n := by omega
              have hin3 : ((i : Int) + n).toNat = i + n := by omega
              have hn1 : ((n : Int) == 0) = false := by rw [beq_eq_false_iff_ne]; omega
              have hn2 : ¬ (n : Int) < 0 := by omega
              have HXS := Lib.hid hXs
              have hposO := Lib.hid hpos
              have hn0O := Lib.hid hn0
              have HT2 := Lib.hid hT2
              clear hT2 hitm hXs hn0 hpos
              go_wp2_with fail
              have HB5 := HBEL
              have HO5 := HOWN
              have HL5 := HOWNL
              have hws5 := HBEL.out.size
              refine (rremark_call s i _ _ hs9 HR.out).mono ?_
              rintro e w4 ⟨rfl, rfl⟩
              go_upto_region 24 with (at_builtin; refine wpList_append_own _ rfl _ _ 30 rfl w.heap.size 40 i0 (.agg #[.int .i64 0, .string ⟨#[]⟩, .int .i64 0, .int .i64 0, .bool false]) 5 48 Tryz.underlying30 HI.out HZ0.out HZ1.out HZ2.out rfl (by decide) _ acc.length _ rfl (HO5.out.alloc _) ⟨w4.heap.size, 0, none⟩ 1 1 [.int .i64 8, .string X, .int .i64 i, .int .i64 ((i : Int) + n), .bool sp] rfl rfl (five_cells _ _ _ _ _ _ 40) (fun u hu => by simp at hu; rcases hu with rfl | rfl | rfl | rfl | rfl <;> rfl) (by unfold maxLen; omega) (by omega) (by simp; omega) ?_; intro v' w6 hown' hgrow _)
              have HO6 := Lib.hid hown'
              have HL6 := Lib.hid (other_row (HL5.out.alloc _) (HO5.out.alloc _) (by decide) hgrow)
              have hb6 := (HB5.out.alloc hws5 _).grown hgrow (by simp; omega) (fun k hk => (row_cells HO5.out hk).1)
              have hws6 := hb6.size
              have HB6 := Lib.hid hb6
              obtain ⟨oa6, oc6, rfl⟩ := row_shape hown'
              clear hown' hgrow hb6
              go_wp2_with fail
              go_roundw
              case rel =>
                exact ⟨i + n, line, false, acc ++ [⟨8, ((dl s).drop i).take n, i, i + n, sp⟩], by go_num, rfl, hposO.out, (by rw [HT2.out, List.append_assoc]; rfl), HB6.out, (by
                    have h := HO6.out
                    rw [List.flatMap_append, List.length_append]
                    simpa [tkC, HXS.out] using h), HL6.out, by have := hn0O.out; simp; omega, (by have := HLL.out; omega)⟩
              case measure => have := hposO.out; have := hn0O.out; simp [intOf]; omega
            · clear h00
              have HR := Lib.hid hr
              have HLO := Lib.hid hlo
              clear hr hlo
              have hT2 : T = (acc, 21) := by
                rw [HT.out, drop_at hlt, tksR_err (a := 0) (b := 0) (e := 21) HW.out (by rw [← drop_at hlt, HHD.out]; exact hitm) (by decide), List.append_nil]
              have HT2 := Lib.hid hT2
              clear hT2 hitm
              go_wp2_with fail
              refine (rremark_call s i _ _ hs9 HR.out).mono ?_
              rintro e w4 ⟨rfl, rfl⟩
              go_wp2_with fail
              refine (rlongest_call s i _ _ _ hlt hs9 HLO.out).mono ?_
              rintro e w5 ⟨rfl, b5⟩
              have hb5 := HBEL.out.trans (b5.mono HBEL.out.size)
              have HB5 := Lib.hid hb5
              have hws5 := hb5.size
              have HO5 := Lib.hid (own_on HOWN.out b5)
              have HL5 := Lib.hid (own_on HOWNL.out b5)
              clear b5 hb5
              go_wp2_with fail
              go_ret2
              exact TkP.err HT2.out (by decide) HB5.out rfl
            · clear h00
              have HR := Lib.hid hr
              have HLO := Lib.hid hlo
              clear hr hlo
              by_cases hk9 : k = 9
              · subst hk9
                clear hk8
                have hpos : i + n ≤ s.size := by
                  have := (itm_pos HNE.out (hdr := false) (by rw [hitm])).2.1
                  rw [hitm, drop_len] at this
                  simp only at this
                  omega
                have hT2 : T = (acc ++ ⟨9, ((dl s).drop i).take n, i, i + n, sp⟩ :: (tksR ((dl s).drop (i + n)) (i + n) (lineOf line 9 (((dl s).drop i).take n)) false).1, (tksR ((dl s).drop (i + n)) (i + n) (lineOf line 9 (((dl s).drop i).take n)) false).2) := by
                  rw [HT.out]
                  conv => lhs; rw [drop_at hlt, tksR_tok (k := 9) (n := n) HW.out (by rw [← drop_at hlt, HHD.out]; exact hitm) hn0, ← drop_at hlt, List.drop_drop]
                obtain ⟨X, hX⟩ : ∃ X, s.extract i (i + n) = X := ⟨_, rfl⟩
                have hXs : X = str (((dl s).drop i).take n) := by rw [← hX, ext_str, show i + n - i = n by omega]
                have hin : (i : Int) + n ≤ s.size := by omega
                have hin2 : (i : Int) ≤ (i : Int) + n := by omega
                have hin3 : ((i : Int) + n).toNat = i + n := by omega
                have hn1 : ((n : Int) == 0) = false := by rw [beq_eq_false_iff_ne]; omega
                have hn2 : ¬ (n : Int) < 0 := by omega
                have HXS := Lib.hid hXs
                have hposO := Lib.hid hpos
                have hn0O := Lib.hid hn0
                have HT2 := Lib.hid hT2
                clear hT2 hitm hXs hn0 hpos
                go_wp2_with fail
                refine (rremark_call s i _ _ hs9 HR.out).mono ?_
                rintro e w4 ⟨rfl, rfl⟩
                go_wp2_with fail
                refine (rlongest_call s i _ _ _ hlt hs9 HLO.out).mono ?_
                rintro e w5 ⟨rfl, b5⟩
                have hb5 := HBEL.out.trans (b5.mono HBEL.out.size)
                have HB5 := Lib.hid hb5
                have hws5 := hb5.size
                have HO5 := Lib.hid (own_on HOWN.out b5)
                have HL5 := Lib.hid (own_on HOWNL.out b5)
                clear b5 hb5
                go_upto_region 24 with (at_builtin; refine wpList_append_own _ rfl _ _ 30 rfl w.heap.size 40 i0 (.agg #[.int .i64 0, .string ⟨#[]⟩, .int .i64 0, .int .i64 0, .bool false]) 5 48 Tryz.underlying30 HI.out HZ0.out HZ1.out HZ2.out rfl (by decide) _ acc.length _ rfl (HO5.out.alloc _) ⟨w5.heap.size, 0, none⟩ 1 1 [.int .i64 9, .string X, .int .i64 i, .int .i64 ((i : Int) + n), .bool sp] rfl rfl (five_cells _ _ _ _ _ _ 40) (fun u hu => by simp at hu; rcases hu with rfl | rfl | rfl | rfl | rfl <;> rfl) (by unfold maxLen; omega) (by omega) (by simp; omega) ?_; intro v' w6 hown' hgrow _)
                have HO6 := Lib.hid hown'
                have HL6 := Lib.hid (other_row (HL5.out.alloc _) (HO5.out.alloc _) (by decide) hgrow)
                have hb6 := (HB5.out.alloc hws5 _).grown hgrow (by simp; omega) (fun k hk => (row_cells HO5.out hk).1)
                have hws6 := hb6.size
                have HB6 := Lib.hid hb6
                obtain ⟨oa6, oc6, rfl⟩ := row_shape hown'
                clear hown' hgrow hb6
                go_wp2_with fail
                go_roundw
                case rel =>
                  exact ⟨i + n, [], false, acc ++ [⟨9, ((dl s).drop i).take n, i, i + n, sp⟩], by go_num, rfl, hposO.out, (by rw [HT2.out, List.append_assoc]; rfl), HB6.out, (by
                      have h := HO6.out
                      rw [List.flatMap_append, List.length_append]
                      simpa [tkC, HXS.out] using h), World.ownsRow_nil _ _ _ _, by have := hn0O.out; simp; omega, Nat.zero_le _⟩
                case measure => have := hposO.out; have := hn0O.out; simp [intOf]; omega
              · have hk9' : ((k : Int) == 9) = false := by rw [beq_eq_false_iff_ne]; omega
                have hk8' : ((k : Int) != 8) = true := by rw [bne_iff_ne]; omega
                have HK9 := Lib.hid hk9
                have HK8 := Lib.hid hk8
                clear hk9 hk8
                have hpos : i + n ≤ s.size := by
                  have := (itm_pos HNE.out (hdr := false) (by rw [hitm])).2.1
                  rw [hitm, drop_len] at this
                  simp only at this
                  omega
                have hT2 : T = (acc ++ ⟨k, ((dl s).drop i).take n, i, i + n, sp⟩ :: (tksR ((dl s).drop (i + n)) (i + n) (lineOf line k (((dl s).drop i).take n)) false).1, (tksR ((dl s).drop (i + n)) (i + n) (lineOf line k (((dl s).drop i).take n)) false).2) := by
                  rw [HT.out]
                  conv => lhs; rw [drop_at hlt, tksR_tok (k := k) (n := n) HW.out (by rw [← drop_at hlt, HHD.out]; exact hitm) hn0, ← drop_at hlt, List.drop_drop]
                obtain ⟨X, hX⟩ : ∃ X, s.extract i (i + n) = X := ⟨_, rfl⟩
                have hXs : X = str (((dl s).drop i).take n) := by rw [← hX, ext_str, show i + n - i = n by omega]
                have hin : (i : Int) + n ≤ s.size := by omega
                have hin2 : (i : Int) ≤ (i : Int) + n := by omega
                have hin3 : ((i : Int) + n).toNat = i + n := by omega
                have hn1 : ((n : Int) == 0) = false := by rw [beq_eq_false_iff_ne]; omega
                have hn2 : ¬ (n : Int) < 0 := by omega
                have HXS := Lib.hid hXs
                have hposO := Lib.hid hpos
                have hn0O := Lib.hid hn0
                have HT2 := Lib.hid hT2
                clear hT2 hitm hXs hn0 hpos
                go_wp2_with fail
                refine (rremark_call s i _ _ hs9 HR.out).mono ?_
                rintro e w4 ⟨rfl, rfl⟩
                go_wp2_with fail
                refine (rlongest_call s i _ _ _ hlt hs9 HLO.out).mono ?_
                rintro e w5 ⟨rfl, b5⟩
                have hb5 := HBEL.out.trans (b5.mono HBEL.out.size)
                have HB5 := Lib.hid hb5
                have hws5 := hb5.size
                have HO5 := Lib.hid (own_on HOWN.out b5)
                have HL5 := Lib.hid (own_on HOWNL.out b5)
                clear b5 hb5
                go_upto_region 24 with (at_builtin; refine wpList_append_own _ rfl _ _ 30 rfl w.heap.size 40 i0 (.agg #[.int .i64 0, .string ⟨#[]⟩, .int .i64 0, .int .i64 0, .bool false]) 5 48 Tryz.underlying30 HI.out HZ0.out HZ1.out HZ2.out rfl (by decide) _ acc.length _ rfl (HO5.out.alloc _) ⟨w5.heap.size, 0, none⟩ 1 1 [.int .i64 k, .string X, .int .i64 i, .int .i64 ((i : Int) + n), .bool sp] rfl rfl (five_cells _ _ _ _ _ _ 40) (fun u hu => by simp at hu; rcases hu with rfl | rfl | rfl | rfl | rfl <;> rfl) (by unfold maxLen; omega) (by omega) (by simp; omega) ?_; intro v' w6 hown' hgrow _)
                have HO6 := Lib.hid hown'
                have HL6 := Lib.hid (other_row (HL5.out.alloc _) (HO5.out.alloc _) (by decide) hgrow)
                have hb6 := (HB5.out.alloc hws5 _).grown hgrow (by simp; omega) (fun k hk => (row_cells HO5.out hk).1)
                have hws6 := hb6.size
                have HB6 := Lib.hid hb6
                obtain ⟨oa6, oc6, rfl⟩ := row_shape hown'
                clear hown' hgrow hb6
                go_wp2_with (at_builtin; refine wpList_append_own _ rfl _ _ 36 rfl w.heap.size 9 j0 (.string ⟨#[]⟩) 1 16 Tryz.underlying36 HJ.out HY0.out HY1.out HY2.out rfl (by decide) _ line.length _ rfl (HL6.out.alloc _) ⟨w6.heap.size, 0, none⟩ 1 1 [.string X] rfl rfl (cells1_new _ _ 9) (fun u hu => by simp at hu; subst hu; rfl) (by unfold maxLen; have := HLL.out; omega) (by omega) (by simp; omega) ?_; intro v2 w7 hown2 hgrow2 _)
                have HL7 := Lib.hid hown2
                have HO7 := Lib.hid (other_row (HO6.out.alloc _) (HL6.out.alloc _) (by decide) hgrow2)
                have HB7 := Lib.hid ((HB6.out.alloc hws6 _).grown hgrow2 (by simp; omega) (fun k hk => (row_cells HL6.out hk).1))
                clear hown2 hgrow2
                go_wp2_with fail
                go_roundw
                case rel =>
                  exact ⟨i + n, (line ++ [((dl s).drop i).take n]), false, acc ++ [⟨k, ((dl s).drop i).take n, i, i + n, sp⟩], by go_num, rfl, hposO.out, (by rw [HT2.out, List.append_assoc]; rw [show lineOf line k (((dl s).drop i).take n) = line ++ [((dl s).drop i).take n] from by unfold lineOf; rw [if_neg HK9.out, if_neg HK8.out]]; rfl), HB7.out, (by
                      have h := HO7.out
                      rw [List.flatMap_append, List.length_append]
                      simpa [tkC, HXS.out] using h), (by
                      have h := HL7.out
                      rw [List.flatMap_append, List.length_append]
                      simpa [sB, HXS.out] using h), by have := hn0O.out; simp; omega, (by have := HLL.out; have := hn0O.out; simp; omega)⟩
                case measure => have := hposO.out; have := hn0O.out; simp [intOf]; omega
    · obtain rfl : i = s.size := by omega
      have hlt' : ¬ (s.size : Int) < s.size := by omega
      rw [drop_end (Nat.le_refl _), tksR_nil, List.append_nil] at hT
      have HBEL := Lib.hid hbel
      have HOWN := Lib.hid hown
      have HT := Lib.hid hT
      clear hT hbel hown hownl
      go_wp2_with fail
      go_ret2
      exact TkP.ok HT.out HBEL.out rfl HOWN.out
end Go.Proofs.YtbnhefibpjldfaaGreatDoor

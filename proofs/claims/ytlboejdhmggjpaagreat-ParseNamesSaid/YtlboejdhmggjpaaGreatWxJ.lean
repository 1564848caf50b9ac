/- ParseNames: the law. -/
import Derived.Test.YtlboejdhmggjpaaGreatWxI
import Derived.Test.YtlboejdhmggjpaaGreatPbA
set_option linter.all false
namespace Go.Proofs.YtlboejdhmggjpaaGreat.Pp
open Go.RowKit Go.BigFrame Go.Proofs.YtlboejdhmggjpaaGreat
set_option linter.unusedVariables false

theorem are_call {t : Bs} {K : List Int} (hg : goodT t K = true) (hl : K.length ≤ 1000) {w wk : World} (hm : Ww.Mx w) (hb : Below w.heap.size w wk) :
    Calls Tryz.prog 25 #[.string (str t), .slice (some ⟨wk.heap.size, 0, none⟩) K.length K.length] (wk.alloc (.cells (K.flatMap intC).toArray 3)) fun e w' => e = .returned (.bool true) ∧ Below w.heap.size w w' := by
  have h2 := hb.alloc hb.size (.cells (K.flatMap intC).toArray 3)
  exact (wk_are t K _ K.length _ (hm.of h2 hm.pos) hg hl (lit_row (new_cells _ _ _))).mono fun e w' ⟨h, hb'⟩ => ⟨h, h2.trans (hb'.mono h2.size)⟩
theorem none_call {t : Bs} (hg : goodT t [-110] = true) {w wk : World} (hm : Ww.Mx w) (hb : Below w.heap.size w wk) :
    Calls Tryz.prog 26 #[.string (str t)] wk fun e w' => e = .returned (.bool true) ∧ Below w.heap.size w w' :=
  (wk_none t wk (hm.of hb hm.pos) hg).mono fun e w' ⟨h, hb'⟩ => ⟨h, hb.trans (hb'.mono hb.size)⟩
theorem br_len (n : Nat) : (brL n).length = n := List.length_replicate
theorem br_prs {n : Nat} (hn : n ≤ 1000) {z : Int} {w w1 : World} (hz : (deepL (brL n) 0 = true ∧ z = 111) ∨ (deepL (brL n) 0 = false ∧ parseP (brL n) (fun _ => false) = none ∧ z = 110)) (hb : Below w.heap.size w w1) {a : Option Addr} {c X : Nat} (hr : w1.ownsRow X 54 2 (.slice a n c) n ((brL n).flatMap ctC)) :
    Calls Tryz.prog 10 #[.slice a n c] w1 fun e w' => e = .returned (.tuple #[nilS, .int .i64 z]) ∧ Below w.heap.size w w' := by
  have h := wk_Parse (brL n) a c w1 (Ct.own_rowAt (n := 2) (f := ctC) (fun _ => rfl) (by rw [br_len]; exact hr)) (by rw [br_len]; omega) (fun t ht => by rw [List.eq_of_mem_replicate ht]; decide)
  rw [br_len] at h
  refine h.mono ?_
  rintro e w' ⟨v, y, rfl, hb', h⟩
  refine ⟨?_, hb.trans (hb'.mono hb.size)⟩
  rcases hz with ⟨h1, rfl⟩ | ⟨h1, h2, rfl⟩
  · rcases h with ⟨-, rfl, rfl⟩ | ⟨h, -⟩ | ⟨P, h, -⟩
    · rfl
    · rw [h1] at h; cases h
    · rw [h1] at h; cases h
  · rcases h with ⟨h, -⟩ | ⟨-, -, rfl, rfl⟩ | ⟨P, -, h, -⟩
    · rw [h1] at h; cases h
    · rfl
    · rw [h2] at h; cases h
theorem br257 : deepL (brL 257) 0 = true := by decide +kernel
theorem br256 : deepL (brL 256) 0 = false := by decide +kernel
theorem br256n : parseP (brL 256) (fun _ => false) = none := by decide +kernel
def abT : Bs := [105, 110, 116, 32, 97, 59, 32, 105, 110, 116, 32, 98, 59]
theorem ab_good : goodT abT [1, 3, 5, 13, 14, 3, 5, 13, 14] = true := by decide +kernel
theorem ab_ext : deepL (tkC abT) 0 = false ∧ (extP (tkC abT) (fun _ => false)).map (fun r => r.2.1) = some 3 := by decide +kernel
theorem base_nil : baseF [[]] = fun _ => false := funext fun x => isTy_nil _
theorem ext_ab {w1 w2 : World} {a : Option Addr} {c X A : Nat} {S : Nat → Prop} (hr : w2.ownsRow X 54 2 (.slice a (tkC abT).length c) (tkC abT).length ((tkC abT).flatMap ctC)) (hsc : Sp.Sco w2 A 0 S [[]]) (hS : ∀ k, S k → w1.heap.size ≤ k) (hb : Below w1.heap.size w1 w2) :
    Calls Tryz.prog 19 #[.slice a (tkC abT).length c, .pointer (some ⟨A, 0, none⟩)] w2 fun e w' => ∃ v, e = .returned (.tuple #[v, .int .i64 3, .int .i64 0]) ∧ Below w1.heap.size w1 w' := by
  obtain ⟨-, h2, h3, -⟩ := goodT_toks ab_good
  have h := wk_External (tkC abT) a c A 0 S [[]] w2 (Ct.own_rowAt (n := 2) (f := ctC) (fun _ => rfl) hr) (by omega) h3 hsc (by decide) (fun f hf => by rw [List.mem_singleton.1 hf]; decide) (by decide)
  refine h.mono ?_
  rintro e w' ⟨v, z1, z2, rfl, h⟩
  obtain ⟨d1, d2⟩ := ab_ext
  rw [base_nil] at h
  rcases h with ⟨h, -⟩ | ⟨-, h, -⟩ | ⟨P, k, ds, -, h, rfl, rfl, -, S', -, -, hm⟩
  · rw [d1] at h; cases h
  · rw [h] at d2; cases d2
  · rw [h] at d2
    have : k = 3 := by simpa using d2
    subst this
    exact ⟨v, rfl, hb.trans (hm.below hb.size hS)⟩
set_option maxRecDepth 100000 in
set_option maxHeartbeats 16000000 in
theorem law_names (w : World) (hm : Ww.Mx w) : Calls Tryz.prog 7 #[] w fun e w' => e = .returned (.bool true) ∧ Below w.heap.size w w' := by
  have hb66 : Tryz.prog.built 66 [] = some #[.pointer none, .map none, .slice none 0 0] := by kernel_rfl
  obtain ⟨nab, hnab⟩ : ∃ n, (tkC abT).length = n := ⟨_, rfl⟩
  have HNAB := Lib.hid hnab
  have HM := Lib.hid hm
  clear hm hnab
  go_enter Tryz.func7, Tryz.ntmps7
  go_wp2_with fail
  refine (wk_alive w HM.out).mono ?_
  rintro e w0 ⟨rfl, hb⟩
  have HB0 := Lib.hid hb
  clear hb
  go_wp2_with fail
  refine (are_call (t := xt0) (K := xk0) xg0 (by decide) HM.out HB0.out).mono ?_
  rintro e w1 ⟨rfl, hb⟩
  have HB1 := Lib.hid hb
  clear hb
  go_wp2_with fail
  refine (are_call (t := xt1) (K := xk1) xg1 (by decide) HM.out HB1.out).mono ?_
  rintro e w2 ⟨rfl, hb⟩
  have HB2 := Lib.hid hb
  clear hb
  go_wp2_with fail
  refine (are_call (t := xt2) (K := xk2) xg2 (by decide) HM.out HB2.out).mono ?_
  rintro e w3 ⟨rfl, hb⟩
  have HB3 := Lib.hid hb
  clear hb
  go_wp2_with fail
  refine (are_call (t := xt3) (K := xk3) xg3 (by decide) HM.out HB3.out).mono ?_
  rintro e w4 ⟨rfl, hb⟩
  have HB4 := Lib.hid hb
  clear hb
  go_wp2_with fail
  refine (none_call (t := xt4) xg4 HM.out HB4.out).mono ?_
  rintro e w5 ⟨rfl, hb⟩
  have HB5 := Lib.hid hb
  clear hb
  go_wp2_with fail
  refine (none_call (t := xt5) xg5 HM.out HB5.out).mono ?_
  rintro e w6 ⟨rfl, hb⟩
  have HB6 := Lib.hid hb
  clear hb
  go_wp2_with fail
  refine (none_call (t := xt6) xg6 HM.out HB6.out).mono ?_
  rintro e w7 ⟨rfl, hb⟩
  have HB7 := Lib.hid hb
  clear hb
  go_wp2_with fail
  refine (none_call (t := xt7) xg7 HM.out HB7.out).mono ?_
  rintro e w8 ⟨rfl, hb⟩
  have HB8 := Lib.hid hb
  clear hb
  go_wp2_with fail
  refine (none_call (t := xt8) xg8 HM.out HB8.out).mono ?_
  rintro e w9 ⟨rfl, hb⟩
  have HB9 := Lib.hid hb
  clear hb
  go_wp2_with fail
  refine (none_call (t := xt9) xg9 HM.out HB9.out).mono ?_
  rintro e w10 ⟨rfl, hb⟩
  have HB10 := Lib.hid hb
  clear hb
  go_wp2_with fail
  refine (none_call (t := xt10) xg10 HM.out HB10.out).mono ?_
  rintro e w11 ⟨rfl, hb⟩
  have HB11 := Lib.hid hb
  clear hb
  go_wp2_with fail
  refine (none_call (t := xt11) xg11 HM.out HB11.out).mono ?_
  rintro e w12 ⟨rfl, hb⟩
  have HB12 := Lib.hid hb
  clear hb
  go_wp2_with fail
  refine (none_call (t := xt12) xg12 HM.out HB12.out).mono ?_
  rintro e w13 ⟨rfl, hb⟩
  have HB13 := Lib.hid hb
  clear hb
  go_wp2_with fail
  refine (none_call (t := xt13) xg13 HM.out HB13.out).mono ?_
  rintro e w14 ⟨rfl, hb⟩
  have HB14 := Lib.hid hb
  clear hb
  go_wp2_with fail
  refine (are_call (t := xt14) (K := xk14) xg14 (by decide) HM.out HB14.out).mono ?_
  rintro e w15 ⟨rfl, hb⟩
  have HB15 := Lib.hid hb
  clear hb
  go_wp2_with fail
  refine (are_call (t := xt15) (K := xk15) xg15 (by decide) HM.out HB15.out).mono ?_
  rintro e w16 ⟨rfl, hb⟩
  have HB16 := Lib.hid hb
  clear hb
  go_wp2_with fail
  refine (are_call (t := xt16) (K := xk16) xg16 (by decide) HM.out HB16.out).mono ?_
  rintro e w17 ⟨rfl, hb⟩
  have HB17 := Lib.hid hb
  clear hb
  go_wp2_with fail
  refine (are_call (t := xt17) (K := xk17) xg17 (by decide) HM.out HB17.out).mono ?_
  rintro e w18 ⟨rfl, hb⟩
  have HB18 := Lib.hid hb
  clear hb
  go_wp2_with fail
  refine (are_call (t := xt18) (K := xk18) xg18 (by decide) HM.out HB18.out).mono ?_
  rintro e w19 ⟨rfl, hb⟩
  have HB19 := Lib.hid hb
  clear hb
  go_wp2_with fail
  refine (are_call (t := xt19) (K := xk19) xg19 (by decide) HM.out HB19.out).mono ?_
  rintro e w20 ⟨rfl, hb⟩
  have HB20 := Lib.hid hb
  clear hb
  go_wp2_with fail
  refine (are_call (t := xt20) (K := xk20) xg20 (by decide) HM.out HB20.out).mono ?_
  rintro e w21 ⟨rfl, hb⟩
  have HB21 := Lib.hid hb
  clear hb
  go_wp2_with fail
  refine (are_call (t := xt21) (K := xk21) xg21 (by decide) HM.out HB21.out).mono ?_
  rintro e w22 ⟨rfl, hb⟩
  have HB22 := Lib.hid hb
  clear hb
  go_wp2_with fail
  refine (are_call (t := xt22) (K := xk22) xg22 (by decide) HM.out HB22.out).mono ?_
  rintro e w23 ⟨rfl, hb⟩
  have HB23 := Lib.hid hb
  clear hb
  go_wp2_with fail
  refine (none_call (t := xt23) xg23 HM.out HB23.out).mono ?_
  rintro e w24 ⟨rfl, hb⟩
  have HB24 := Lib.hid hb
  clear hb
  go_wp2_with fail
  refine (are_call (t := xt24) (K := xk24) xg24 (by decide) HM.out HB24.out).mono ?_
  rintro e w25 ⟨rfl, hb⟩
  have HB25 := Lib.hid hb
  clear hb
  go_wp2_with fail
  refine (none_call (t := xt25) xg25 HM.out HB25.out).mono ?_
  rintro e w26 ⟨rfl, hb⟩
  have HB26 := Lib.hid hb
  clear hb
  go_wp2_with fail
  refine (are_call (t := xt26) (K := xk26) xg26 (by decide) HM.out HB26.out).mono ?_
  rintro e w27 ⟨rfl, hb⟩
  have HB27 := Lib.hid hb
  clear hb
  go_wp2_with fail
  refine (none_call (t := xt27) xg27 HM.out HB27.out).mono ?_
  rintro e w28 ⟨rfl, hb⟩
  have HB28 := Lib.hid hb
  clear hb
  go_wp2_with fail
  refine (none_call (t := xt28) xg28 HM.out HB28.out).mono ?_
  rintro e w29 ⟨rfl, hb⟩
  have HB29 := Lib.hid hb
  clear hb
  go_wp2_with fail
  refine (wk_brackets 257 w29 (by decide)).mono ?_
  rintro e w30 ⟨v30, rfl, hb, hown⟩
  obtain ⟨a30, c30, rfl⟩ := row_shape hown
  have HB30 := Lib.hid (HB29.out.trans (hb.mono HB29.out.size))
  have HO30 := Lib.hid hown
  clear hb hown
  go_wp2_with fail
  refine (br_prs (by decide) (.inl ⟨br257, rfl⟩) HB30.out HO30.out).mono ?_
  rintro e w31 ⟨rfl, hb⟩
  have HB31 := Lib.hid hb
  clear hb
  go_wp2_with fail
  refine (wk_brackets 256 w31 (by decide)).mono ?_
  rintro e w32 ⟨v32, rfl, hb, hown⟩
  obtain ⟨a32, c32, rfl⟩ := row_shape hown
  have HB32 := Lib.hid (HB31.out.trans (hb.mono HB31.out.size))
  have HO32 := Lib.hid hown
  clear hb hown
  go_wp2_with fail
  refine (br_prs (by decide) (.inr ⟨br256, br256n, rfl⟩) HB32.out HO32.out).mono ?_
  rintro e w33 ⟨rfl, hb⟩
  have HB33 := Lib.hid hb
  clear hb
  go_wp2_with fail
  refine (ext_no _ w33 (.inl rfl)).mono ?_
  rintro e w34 ⟨rfl, hb⟩
  have HB34 := Lib.hid (HB33.out.trans (hb.mono HB33.out.size))
  clear hb
  go_wp2_with fail
  have hbz := HB34.out.alloc HB34.out.size (.cells #[.pointer none, .map none, .slice none 0 0] 66)
  refine (ext_no _ _ (.inr ⟨w34.heap.size, rfl, new_cells _ _ _⟩)).mono ?_
  rintro e w35 ⟨rfl, hb⟩
  have HB35 := Lib.hid (hbz.trans (hb.mono hbz.size))
  clear hb hbz
  go_wp2_with fail
  refine (Ct.toks_is Ct.ok2_ok (goodT_toks ab_good).1 w35 (HM.out.of HB35.out HM.out.pos)).mono ?_
  rintro e w36 ⟨v, rfl, hb, hown⟩
  obtain ⟨a, c, rfl⟩ := row_shape hown
  have HB36 := Lib.hid (HB35.out.trans (hb.mono HB35.out.size))
  have HO := Lib.hid hown
  rw [HNAB.out]
  clear hb hown
  go_wp2_with fail
  refine (Sp.Ow.new w36 w36 (Below.refl _ _)).mono ?_
  rintro e w37 ⟨A, rfl, S, hsc, hS, hb⟩
  have HE := Lib.hid (ext_ab (ownsRow_ext HO.out hb) hsc hS hb)
  have HBE := Lib.hid hb
  clear hsc hS hb
  go_wp2_with fail
  rw [← HNAB.out]
  refine HE.out.mono ?_
  rintro e w38 ⟨v2, rfl, hb⟩
  have HBZ := Lib.hid (HB36.out.trans (hb.mono HB36.out.size))
  clear hb
  go_wp2_with fail
  go_ret
  exact ⟨rfl, HBZ.out⟩
end Go.Proofs.YtlboejdhmggjpaaGreat.Pp

/- ParseRenamed: the law. -/
import Derived.Test.YtlboejdhmggjpaaGreatWtE
set_option linter.all false
namespace Go.Proofs.YtlboejdhmggjpaaGreat.Pp
open Go.RowKit Go.BigFrame Go.Proofs.YtlboejdhmggjpaaGreat
set_option linter.unusedVariables false

def outP (L : List Ct) : List Nd × Int := if deepL L 0 = true then ([], 111) else match parseP L (fun _ => false) with
  | none => ([], 110)
  | some P => (P, 0)
theorem prs_out {L : List Ct} {w w' : World} {e : Ending} (h : PrsPost L w e w') : ∃ v, e = .returned (.tuple #[v, .int .i64 (outP L).2]) ∧ Below w.heap.size w w' ∧ w'.ownsRow w.heap.size 38 4 v (outP L).1.length ((outP L).1.flatMap ndC) := by
  obtain ⟨v, z, rfl, hb, h⟩ := h
  refine ⟨v, ?_, hb, ?_⟩
  all_goals (unfold outP; rcases h with ⟨h1, rfl, rfl⟩ | ⟨h1, h2, rfl, rfl⟩ | ⟨P, h1, h2, rfl, h3⟩)
  · rw [h1]; rfl
  · rw [h1, h2]; rfl
  · rw [h1, h2]; rfl
  · rw [h1]; exact World.ownsRow_nil _ _ _ _
  · rw [h1, h2]; exact World.ownsRow_nil _ _ _ _
  · rw [h1, h2]; exact h3
theorem outP_len (L : List Ct) (hl : L.length ≤ 100000) : (outP L).1.length ≤ 1000000000 := by
  unfold outP
  split
  · simp
  · cases hp : parseP L (fun _ => false) with
    | none => simp
    | some P =>
      unfold parseP at hp
      cases hr : run L (fun _ => false) (fu L) .unit s0 with
      | out => rw [hr] at hp; cases hp
      | no => rw [hr] at hp; cases hp
      | ok v s =>
        rw [hr] at hp
        cases hp
        obtain ⟨ht, -, -⟩ := (unit_good L (fun _ => false)).2 _ _ hr
        obtain ⟨-, -, -, hlen, -⟩ := ht.ahead
        show (aheadP s.done).length ≤ _
        rw [hlen]
        have := ht.len
        omega
theorem str_isb' {t l : Bs} {b : Bool} (h : ((str t).toList == l) = b) : (t = l) = (b = true) := by
  rw [← h]
  by_cases e : t = l
  · rw [str_is e]; simp [e]
  · rw [str_no e]; simp [e]
theorem ren_take {a b : Bs} {L : List Ct} {i : Nat} (h : i < L.length) : (L.take (i + 1)).map (renT a b) = (L.take i).map (renT a b) ++ [renT a b L[i]] := by
  rw [List.take_add_one, List.getElem?_eq_getElem h, List.map_append]; rfl
set_option maxRecDepth 100000 in
set_option maxHeartbeats 16000000 in
theorem law_renamed (L : List Ct) (la : Option Addr) (lc : Nat) (a b : Bs) (w : World) (hm : Ww.Mx w) (hrow : RowAt 2 ctC w la L) (htx : ∀ t ∈ L, t.t.length ≤ maxLen) (hbig : L.length ≤ 9223372036854775807) (hbl : b.length ≤ maxLen) :
    Calls Tryz.prog 6 #[.slice la L.length lc, .string (str a), .string (str b)] w fun e w' => e = .returned (.bool true) ∧ Below w.heap.size w w' := by
  obtain ⟨n, hn⟩ : ∃ n, L.length = n := ⟨_, rfl⟩
  have HM := Lib.hid hm
  have HROW := Lib.hid hrow
  have HTX := Lib.hid htx
  have HN := Lib.hid hn
  have HBL := Lib.hid hbl
  rw [hn] at hbig ⊢
  clear hm hrow htx hn hbl
  obtain ⟨ba, h0a⟩ : ∃ q, ((str a).toList == []) = q := ⟨_, rfl⟩
  obtain ⟨bb, h0b⟩ : ∃ q, ((str b).toList == []) = q := ⟨_, rfl⟩
  have hae : (a = []) = (ba = true) := str_isb' h0a
  have hbe : (b = []) = (bb = true) := str_isb' h0b
  have HAE := Lib.hid hae
  have HBE := Lib.hid hbe
  obtain ⟨sa, hsa⟩ : ∃ s : ByteArray, str a = s := ⟨_, rfl⟩
  obtain ⟨sb, hsb⟩ : ∃ s : ByteArray, str b = s := ⟨_, rfl⟩
  have HSA := Lib.hid hsa
  have HSB := Lib.hid hsb
  rw [hsa] at h0a ⊢
  rw [hsb] at h0b ⊢
  clear hae hbe hsa hsb
  obtain ⟨i0, hi, hz0, hz1, hz2⟩ := info_parts3 Ct.info54
  have HI := Lib.hid hi
  have HZ0 := Lib.hid hz0
  have HZ1 := Lib.hid hz1
  have HZ2 := Lib.hid hz2
  clear hi hz0 hz1 hz2
  go_enter Tryz.func6, Tryz.ntmps6
  go_wp2_with fail
  refine (wk_alive w HM.out).mono ?_
  rintro e w1 ⟨rfl, hb1⟩
  have HB1 := Lib.hid hb1
  clear hb1
  by_cases h3 : 3000 < n
  · have h3d : decide ((3000 : Int) < n) = true := decide_eq_true (by omega)
    go_wp2_with fail
    go_ret
    exact ⟨rfl, HB1.out⟩
  have h3d : decide ((3000 : Int) < n) = false := decide_eq_false (by omega)
  cases bb
  case true =>
    go_wp2_with fail
    go_ret
    exact ⟨rfl, HB1.out⟩
  cases ba
  case true =>
    go_wp2_with fail
    go_ret
    exact ⟨rfl, HB1.out⟩
  have HA0 := Lib.hid (show a ≠ [] from fun e => by have := HAE.out; rw [e] at this; simp at this)
  have HB0 := Lib.hid (show b ≠ [] from fun e => by have := HBE.out; rw [e] at this; simp at this)
  obtain ⟨g1, hg1⟩ : ∃ g, w1.heap.size = g := ⟨_, rfl⟩
  have HG1 := Lib.hid hg1
  clear hg1
  go_wp2_with fail

  go_loopw [8, 9] (fun s8 s9 wr => ∃ i : Nat, i ≤ n ∧ s9 = .int .i64 i ∧ (∀ t ∈ L.take i, ¬ (t.c = 2 ∧ t.t = b)) ∧ Below g1 w1 wr ∧ wr.ownsRow g1 54 2 s8 i (((L.take i).map (renT a b)).flatMap ctC)) (fun s8 s9 _ => n - (intOf s9).toNat)
  case atStart => exact ⟨0, Nat.zero_le _, rfl, fun t h => by simp at h, by rw [← HG1.out]; exact Below.refl _ _, World.ownsRow_nil _ _ _ _⟩
  case round =>
    obtain ⟨i, hi, rfl, hno, hbel, hown⟩ := hrel
    obtain ⟨oa, oc, rfl⟩ := row_shape hown
    have hws := hbel.size
    rw [HG1.out] at hws
    have HNO := Lib.hid hno
    have HBEL := Lib.hid hbel
    have HOWN := Lib.hid hown
    clear hno hbel hown
    by_cases hlt : i < n
    · have hlt2 : decide (i < n) = true := decide_eq_true hlt
      have hi0 : i < L.length := by rw [HN.out]; exact hlt
      have hbw : Below w.heap.size w wr := HB1.out.trans ((by rw [HG1.out]; exact HBEL.out : Below w1.heap.size w1 wr).mono HB1.out.size)
      obtain ⟨gb, off, hla, h2, h3'⟩ := HROW.out.at (by rintro e; rw [e] at hi0; simp at hi0)
      have hc := (h3' i hi0).below hbw h2
      obtain ⟨T, hT⟩ : ∃ T, L[i] = T := ⟨_, rfl⟩
      rw [hT] at hc
      obtain ⟨c, t⟩ := T
      have d0 : wr.cell? ⟨gb, off + i * 2, none⟩ = some (.int .i64 c) := hc 0 _ rfl
      have d1 : wr.cell? ⟨gb, off + i * 2 + 1, none⟩ = some (.string (str t)) := hc 1 _ rfl
      have HT := Lib.hid hT
      have HBW := Lib.hid hbw
      obtain ⟨bc, hbc⟩ : ∃ q, (c == 2) = q := ⟨_, rfl⟩
      obtain ⟨eb, heb⟩ : ∃ q, ((str t).toList == (str b).toList) = q := ⟨_, rfl⟩
      obtain ⟨ea, hea⟩ : ∃ q, ((str t).toList == (str a).toList) = q := ⟨_, rfl⟩
      obtain ⟨st, hst⟩ : ∃ s : ByteArray, str t = s := ⟨_, rfl⟩
      rw [hst] at d1
      have HEB := Lib.hid heb
      have HEA := Lib.hid hea
      have HC := Lib.hid hbc
      rw [hst, HSB.out] at heb
      rw [hst, HSA.out] at hea
      have HST := Lib.hid hst
      subst hla
      clear hT hc hst h3' hbw
      cases bc
      case false =>
        go_wp2_with (first | (at_builtin; refine wpList_append_own _ rfl _ _ 22 rfl g1 54 i0 (.agg #[.int .i64 0, .string ⟨#[]⟩]) 2 24 Tryz.underlying22 HI.out HZ0.out HZ1.out HZ2.out rfl (by decide) _ i _ rfl ((HOWN.out.alloc _).alloc _) ⟨wr.heap.size + 1, 0, none⟩ 1 1 [.int .i64 c, .string st] rfl rfl (by simpa using Ct.two_cells (wr.alloc (.cells #[.int .i64 c, .string st] 54)) (.int .i64 c) (.string st) 54) (fun u hu => by simp at hu; rcases hu with rfl | rfl <;> rfl) (by unfold maxLen; omega) (by omega) (by simp; omega) ?_; intro v' w5 hown' hgrow _) | fail)
        have HOWN' := Lib.hid hown'
        have HBE' := Lib.hid (((HBEL.out.alloc hws (.cells #[.int .i64 c, .string st] 54)).alloc (by simp; omega) (.cells #[.int .i64 c, .string st] 54)).grown hgrow (by simp; omega) (fun k hk => (HOWN.out.lt k hk).1))
        clear hown' hgrow
        go_wp2_with fail
        go_roundw
        case rel =>
          have hT := HT.out
          have hno : ¬ (c = 2 ∧ t = b) := fun h => by have := HC.out; rw [h.1] at this; simp at this
          have hren : renT a b ⟨c, t⟩ = ⟨c, t⟩ := if_neg (fun h => by have e : c = 2 := h.1; have := HC.out; rw [e] at this; simp at this)
          refine ⟨i + 1, by omega, by go_num, fun q hq => ?_, HBE'.out, ?_⟩
          · rw [List.take_add_one, List.getElem?_eq_getElem hi0, hT] at hq
            rcases List.mem_append.1 hq with hq | hq
            · exact HNO.out q hq
            · simp at hq; subst hq; exact hno
          · rw [ren_take hi0, hT, hren, List.flatMap_append]
            have h := HOWN'.out
            simpa [ctC, HST.out] using h
        case measure => simp [intOf]; omega
      cases eb
      case true =>
        go_wp2_with fail
        go_ret
        exact ⟨rfl, (HBW.out.alloc HBW.out.size _)⟩
      have HTB := Lib.hid (show ¬ t = b from fun e => by have := HEB.out; rw [e] at this; simp at this)
      cases ea
      case false =>
        go_wp2_with (first | (at_builtin; refine wpList_append_own _ rfl _ _ 22 rfl g1 54 i0 (.agg #[.int .i64 0, .string ⟨#[]⟩]) 2 24 Tryz.underlying22 HI.out HZ0.out HZ1.out HZ2.out rfl (by decide) _ i _ rfl ((HOWN.out.alloc _).alloc _) ⟨wr.heap.size + 1, 0, none⟩ 1 1 [.int .i64 c, .string st] rfl rfl (by simpa using Ct.two_cells (wr.alloc (.cells #[.int .i64 c, .string st] 54)) (.int .i64 c) (.string st) 54) (fun u hu => by simp at hu; rcases hu with rfl | rfl <;> rfl) (by unfold maxLen; omega) (by omega) (by simp; omega) ?_; intro v' w5 hown' hgrow _) | fail)
        have HOWN' := Lib.hid hown'
        have HBE' := Lib.hid (((HBEL.out.alloc hws (.cells #[.int .i64 c, .string st] 54)).alloc (by simp; omega) (.cells #[.int .i64 c, .string st] 54)).grown hgrow (by simp; omega) (fun k hk => (HOWN.out.lt k hk).1))
        clear hown' hgrow
        go_wp2_with fail
        go_roundw
        case rel =>
          have hT := HT.out
          have hno : ¬ (c = 2 ∧ t = b) := fun h => HTB.out h.2
          have hren : renT a b ⟨c, t⟩ = ⟨c, t⟩ := if_neg (fun h => by have e : t = a := h.2; have := HEA.out; rw [e] at this; simp at this)
          refine ⟨i + 1, by omega, by go_num, fun q hq => ?_, HBE'.out, ?_⟩
          · rw [List.take_add_one, List.getElem?_eq_getElem hi0, hT] at hq
            rcases List.mem_append.1 hq with hq | hq
            · exact HNO.out q hq
            · simp at hq; subst hq; exact hno
          · rw [ren_take hi0, hT, hren, List.flatMap_append]
            have h := HOWN'.out
            simpa [ctC, HST.out] using h
        case measure => simp [intOf]; omega
      go_wp2_with (first | (at_builtin; refine wpList_append_own _ rfl _ _ 22 rfl g1 54 i0 (.agg #[.int .i64 0, .string ⟨#[]⟩]) 2 24 Tryz.underlying22 HI.out HZ0.out HZ1.out HZ2.out rfl (by decide) _ i _ rfl ((HOWN.out.alloc _).alloc _) ⟨wr.heap.size + 1, 0, none⟩ 1 1 [.int .i64 c, .string sb] rfl rfl (by simpa using Ct.two_cells (wr.alloc (.cells #[.int .i64 c, .string sb] 54)) (.int .i64 c) (.string sb) 54) (fun u hu => by simp at hu; rcases hu with rfl | rfl <;> rfl) (by unfold maxLen; omega) (by omega) (by simp; omega) ?_; intro v' w5 hown' hgrow _) | fail)
      have HOWN' := Lib.hid hown'
      have HBE' := Lib.hid (((HBEL.out.alloc hws (.cells #[.int .i64 c, .string sb] 54)).alloc (by simp; omega) (.cells #[.int .i64 c, .string sb] 54)).grown hgrow (by simp; omega) (fun k hk => (HOWN.out.lt k hk).1))
      clear hown' hgrow
      go_wp2_with fail
      go_roundw
      case rel =>
        have hT := HT.out
        have hno : ¬ (c = 2 ∧ t = b) := fun h => HTB.out h.2
        have hren : renT a b ⟨c, t⟩ = ⟨c, b⟩ := if_pos ⟨by simpa using HC.out, by have := HEA.out; rw [beq_iff_eq, ByteArray.toList_eq, ByteArray.toList_eq] at this; exact (str_data t).symm.trans (this.trans (str_data a))⟩
        refine ⟨i + 1, by omega, by go_num, fun q hq => ?_, HBE'.out, ?_⟩
        · rw [List.take_add_one, List.getElem?_eq_getElem hi0, hT] at hq
          rcases List.mem_append.1 hq with hq | hq
          · exact HNO.out q hq
          · simp at hq; subst hq; exact hno
        · rw [ren_take hi0, hT, hren, List.flatMap_append]
          have h := HOWN'.out
          simpa [ctC, HSB.out] using h
      case measure => simp [intOf]; omega
    · obtain rfl : i = n := by omega
      have hlt2 : decide (i < i) = false := decide_eq_false hlt
      have hbw : Below w.heap.size w wr := HB1.out.trans ((by rw [HG1.out]; exact HBEL.out : Below w1.heap.size w1 wr).mono HB1.out.size)
      have hp1 := wk_Parse L la lc wr (HROW.out.below hbw (Nat.le_refl _) hbw.size) (by rw [HN.out]; omega) HTX.out
      rw [HN.out] at hp1
      have HP1 := Lib.hid hp1
      have htk : L.take i = L := List.take_of_length_le (by rw [HN.out]; exact Nat.le_refl _)
      have hno := HNO.out
      have hom := HOWN.out
      rw [htk] at hno hom
      have HNO2 := Lib.hid hno
      have HOM := Lib.hid hom
      have HBW := Lib.hid hbw
      obtain ⟨M, hM⟩ : ∃ M, L.map (renT a b) = M := ⟨_, rfl⟩
      have hml : M.length = i := by rw [← hM, List.length_map]; exact HN.out
      have hmo : outP M = outP L := by
        unfold outP
        rw [← hM, ren_deep, ren_parse HA0.out HB0.out hno]
      have hmt : ∀ t ∈ M, t.t.length ≤ maxLen := by
        intro t ht
        rw [← hM] at ht
        obtain ⟨q, hq, rfl⟩ := List.mem_map.1 ht
        unfold renT
        split
        · exact HBL.out
        · exact HTX.out q hq
      have HM := Lib.hid hM
      have HML := Lib.hid hml
      have HMO := Lib.hid hmo
      have HMT := Lib.hid hmt
      clear hbw hp1 htk hno hom hM hml hmo hmt
      go_wp2_with fail
      refine HP1.out.mono ?_
      intro e w2 he
      obtain ⟨v1, rfl, hb2, hr1⟩ := prs_out he
      obtain ⟨PZ, hPZ⟩ : ∃ q, outP L = q := ⟨_, rfl⟩
      have hpl := outP_len L (by rw [HN.out]; omega)
      have hom2 : RowAt 2 ctC w2 oa M := by
        have q := HOM.out
        rw [HM.out] at q
        rw [← HML.out] at q
        exact Ct.own_rowAt (f := ctC) (n := 2) (fun _ => rfl) (ownsRow_ext q hb2)
      have hp2 := wk_Parse M oa oc w2 hom2 (by rw [HML.out]; omega) HMT.out
      rw [HML.out] at hp2
      have HP2 := Lib.hid hp2
      rw [hPZ] at hr1 hpl ⊢
      have hmo := HMO.out
      rw [hPZ] at hmo
      have HMO2 := Lib.hid hmo
      have HR1 := Lib.hid hr1
      have HB2 := Lib.hid hb2
      have HPL := Lib.hid hpl
      clear hr1 hpl hom2 hp2 hb2 he hPZ hmo
      obtain ⟨P, z⟩ := PZ
      go_wp2_with fail
      refine HP2.out.mono ?_
      intro e w3 he
      obtain ⟨v2, rfl, hb3, hr2⟩ := prs_out he
      rw [HMO2.out] at hr2 ⊢
      have hsm := wk_Same P _ _ v1 v2 w3 (ownsRow_ext HR1.out hb3) hr2 HPL.out
      have HSM := Lib.hid hsm
      have HB3 := Lib.hid hb3
      clear hsm hb3 hr2 he
      go_wp2_with fail
      refine HSM.out.mono ?_
      rintro e w4 ⟨rfl, hb4⟩
      have HB4 := Lib.hid hb4
      clear hb4
      go_wp2_with fail
      go_ret
      have hbw := HBW.out
      have b2 := hbw.trans (HB2.out.mono hbw.size)
      have b3 := b2.trans (HB3.out.mono b2.size)
      exact ⟨rfl, b3.trans (HB4.out.mono b3.size)⟩
end Go.Proofs.YtlboejdhmggjpaaGreat.Pp

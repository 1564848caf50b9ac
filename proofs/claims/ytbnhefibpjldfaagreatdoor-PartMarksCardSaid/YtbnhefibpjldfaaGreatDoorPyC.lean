/- the document: Says, less. -/
import Derived.Test.YtbnhefibpjldfaaGreatDoorPxW
import Derived.Test.YtbnhefibpjldfaaGreatDoorPxA
import Derived.Test.YtbnhefibpjldfaaGreatDoorPxU
import Derived.Test.YtbnhefibpjldfaaGreatDoorPxH
namespace Go.Proofs.YtbnhefibpjldfaaGreatDoor
open Go.RowKit Go.BigFrame Go.Shelf
set_option linter.unusedVariables false

def RsPost (S : List Tk) (w : World) (e : Ending) (w' : World) : Prop := ∃ a' c', e = .returned (.slice a' S.length c') ∧ RowAt 5 tkC w' a' S ∧ S.length ≤ 1000000000 ∧ Below w.heap.size w w'
set_option maxRecDepth 100000 in
set_option maxHeartbeats 4000000 in
theorem Rf.says (d : Bool) (nm : Bs) (tk : List Tk) (a : Option Addr) (c : Nat) (w : World) (hr : RowAt 5 tkC w a tk) (hl : tk.length ≤ 1000000000) : Calls Tryz.prog 53 #[.agg #[.bool d, .string (str nm), .slice a tk.length c]] w (RsPost (YtbnhefibpjldfaaGreatDoor.says ⟨d, nm, tk⟩) w) := by
  obtain ⟨S, hS⟩ : ∃ S, YtbnhefibpjldfaaGreatDoor.says ⟨d, nm, tk⟩ = S := ⟨_, rfl⟩
  have HS := Lib.hid hS
  rw [hS]
  clear hS
  obtain ⟨W, hW⟩ : ∃ W, W = w.alloc (.cells #[.bool d, .string (str nm), .slice a tk.length c] 78) := ⟨_, rfl⟩
  have hbW : Below w.heap.size w W := by rw [hW]; exact below_alloc _ _
  have hq : W.heap[w.heap.size]? = some (.cells #[.bool d, .string (str nm), .slice a tk.length c] 78 (0, 0)) := by rw [hW]; exact heap_alloc_new _ _
  have hrW := hr.below hbW (Nat.le_refl _) hbW.size
  have c0 : W.cell? ⟨w.heap.size, 0, none⟩ = some (.bool d) := by simp [World.cell?, hq]
  have c1 : W.cell? ⟨w.heap.size, 1, none⟩ = some (.string (str nm)) := by simp [World.cell?, hq]
  have c2 : W.cell? ⟨w.heap.size, 2, none⟩ = some (.slice a tk.length c) := by simp [World.cell?, hq]
  have hWs : w.heap.size < W.heap.size := (Array.getElem?_eq_some_iff.1 hq).1
  have HW := Lib.hid hW
  have HBW := Lib.hid hbW
  have HRW := Lib.hid hrW
  clear hW hbW hq hrW hr
  go_enter Tryz.func53, Tryz.ntmps53
  go_wp2_with fail
  rw [← HW.out]
  refine (Rf.bare a c tk W HRW.out hl).mono ?_
  rintro e w1 ⟨v1, rfl, hown, b1⟩
  have d0 := (b1.cell (p := ⟨w.heap.size, 0, none⟩) hWs).trans c0
  have d1 := (b1.cell (p := ⟨w.heap.size, 1, none⟩) hWs).trans c1
  have hs1 := b1.size
  have HB1 := Lib.hid (HBW.out.trans (b1.mono (by omega)))
  obtain ⟨a1, cap1, rfl, hcap1, hnil1, hrow1⟩ := SlV.of tkC_len hown rfl
  obtain ⟨L, hL⟩ : ∃ L, YtbnhefibpjldfaaGreatDoor.bare tk = L := ⟨_, rfl⟩
  have hsays : S = if d then L.drop (if nm = [] then 1 else 2) else L := by rw [← HS.out, ← hL]; rfl
  have HSY := Lib.hid hsays
  rw [hL] at hown hcap1 hrow1 ⊢
  have hLl : L.length ≤ 1000000000 := by
    rw [← hL]
    exact Nat.le_trans (bare_len tk false) hl
  have HROW1 := Lib.hid hrow1
  have HCAP1 := Lib.hid hcap1
  clear hown hnil1 hrow1 b1 hL hsays hcap1 c0 c1 c2
  cases d with
  | false =>
    go_wp2_with fail
    go_ret
    rw [HSY.out]
    exact ⟨_, _, rfl, HROW1.out, hLl, HB1.out⟩
  | true =>
    cases L with
    | nil =>
      have hsy : S = [] := by rw [HSY.out]; simp
      have HSY2 := Lib.hid hsy
      clear hsy
      go_wp2_with fail
      go_ret
      rw [HSY2.out]
      exact ⟨_, _, rfl, HROW1.out, by simp, HB1.out⟩
    | cons t0 L' =>
      obtain ⟨bb, bo, rfl, hbb, hbc⟩ := HROW1.out.at (by simp)
      have hp : RowAt 5 tkC w1 (some ⟨bb, bo + 5, none⟩) L' := .inr ⟨bb, bo + 5, rfl, hbb, fun i hi => by
        have := hbc (i + 1) (by simp; omega)
        rw [show bo + (i + 1) * 5 = bo + 5 + i * 5 by omega] at this
        exact this⟩
      have HP := Lib.hid hp
      have hlen : (t0 :: L').length = L'.length + 1 := rfl
      have hcp := HCAP1.out
      rw [hlen] at hLl hcp ⊢
      have hm0 : (0 : Int) < (L'.length : Int) + 1 := by omega
      have hm1 : (1 : Int) ≤ (L'.length : Int) + 1 := by omega
      have HCP := Lib.hid hcp
      clear hlen hp hbc hcp
      by_cases hn : nm = []
      · subst hn
        have hsy : S = L' := by rw [HSY.out, if_pos rfl, if_pos rfl]; rfl
        have HSY2 := Lib.hid hsy
        clear hsy
        go_wp2_with fail
        all_goals
          go_ret
          rw [HSY2.out]
          refine ⟨_, _, rfl, ?_, by omega, HB1.out⟩
          first
          | exact HP.out
          | exact .inl (List.length_eq_zero_iff.1 (by have := HCP.out; omega))
      · have hnm : (0 : Int) < nm.length := by have := List.length_pos_iff.2 hn; omega
        have hsy : S = L'.drop 1 := by rw [HSY.out, if_pos rfl, if_neg hn]; rfl
        have HSY2 := Lib.hid hsy
        clear hn hsy
        cases L' with
        | nil =>
          go_wp2_with fail
          all_goals
            go_ret
            rw [HSY2.out]
            exact ⟨_, _, rfl, .inl rfl, by simp, HB1.out⟩
        | cons t1 L2 =>
          have hp : RowAt 5 tkC w1 (some ⟨bb, bo + 5 + 5, none⟩) L2 := by
            obtain ⟨b2, o2, e2, hb2, hc2⟩ := HP.out.at (by simp)
            cases e2
            exact .inr ⟨bb, bo + 5 + 5, rfl, hb2, fun i hi => by
              have := hc2 (i + 1) (by simp; omega)
              rw [show bo + 5 + (i + 1) * 5 = bo + 5 + 5 + i * 5 by omega] at this
              exact this⟩
          have HP2 := Lib.hid hp
          have hlen : (t1 :: L2).length = L2.length + 1 := rfl
          rw [hlen] at hLl HCP ⊢
          have hcq : ¬ cap1 = 1 := by have := HCP.out; omega
          have hc1' : (1 : Int) ≤ cap1 := by have := HCP.out; omega
          have hsy : S = L2 := by rw [HSY2.out]; rfl
          have HSY3 := Lib.hid hsy
          clear hlen hp hm0 hm1 hsy
          have hm0 : (0 : Int) < (L2.length : Int) + 1 + 1 := by omega
          have hm1 : (1 : Int) ≤ (L2.length : Int) + 1 + 1 := by omega
          have hm2 : (0 : Int) < (L2.length : Int) + 1 := by omega
          have hm3 : (1 : Int) ≤ (L2.length : Int) + 1 := by omega
          go_wp2_with fail
          all_goals
            go_ret
            rw [HSY3.out]
            refine ⟨_, _, rfl, ?_, by omega, HB1.out⟩
            first
            | exact HP2.out
            | exact .inl (List.length_eq_zero_iff.1 (by have := HCP.out; omega))
theorem Rf.says_call (r : Rw) (a : Option Addr) (n c : Nat) (w : World) (S : List Tk) (hS : YtbnhefibpjldfaaGreatDoor.says r = S) (hn : n = r.toks.length) (hv : SlV 5 tkC w (.slice a n c) r.toks) (hl : r.toks.length ≤ 1000000000) : Calls Tryz.prog 53 #[.agg #[.bool r.dir, .string (str r.name), .slice a n c]] w (RsPost S w) := by
  subst hS hn
  obtain ⟨a', c', he, _, _, hr⟩ := hv
  simp only [Value.slice.injEq, true_and] at he
  obtain ⟨rfl, rfl⟩ := he
  exact Rf.says r.dir r.name r.toks a c w hr hl
end Go.Proofs.YtbnhefibpjldfaaGreatDoor

/- PyA -/
namespace Go.Proofs.YtbnhefibpjldfaaGreatDoor
open Go.RowKit Go.BigFrame Go.Shelf
set_option linter.unusedVariables false

/-- A list of texts, as a new slice. -/
def StsPost (L : List Bs) (w : World) (e : Ending) (w' : World) : Prop := ∃ v, e = .returned v ∧ w'.ownsRow w.heap.size 9 1 v L.length (L.flatMap sB) ∧ Below w.heap.size w w'
theorem comms_at {l : List Tk} {i : Nat} (h : i < l.length) : comms (l.drop i) = if l[i].kind = 8 then l[i].text :: comms (l.drop (i + 1)) else comms (l.drop (i + 1)) := by
  rw [List.drop_eq_getElem_cons h]
  unfold comms
  generalize l[i] = t
  generalize l.drop (i + 1) = r
  by_cases e : t.kind = 8
  · rw [if_pos e]; simp [e]
  · rw [if_neg e]; simp [e]
set_option maxRecDepth 100000 in
set_option maxHeartbeats 4000000 in
theorem Rf.comments (a : Option Addr) (c : Nat) (l : List Tk) (w : World) (hr : RowAt 5 tkC w a l) (hl : l.length ≤ 1000000000) : Calls Tryz.prog 23 #[.slice a l.length c] w (StsPost (comms l) w) := by
  have HROW := Lib.hid hr
  obtain ⟨j0, hj, hy0, hy1, hy2⟩ := info_parts info9
  have HJ := Lib.hid hj
  have HY0 := Lib.hid hy0
  have HY1 := Lib.hid hy1
  have HY2 := Lib.hid hy2
  obtain ⟨V, hV⟩ : ∃ V, comms l = V := ⟨_, rfl⟩
  rw [hV]
  have HV := Lib.hid hV
  clear hr hj hy0 hy1 hy2 hV
  go_enter Tryz.func23, Tryz.ntmps23
  go_wp2_with fail
  go_loopw [3, 4] (fun s3 s4 wr => ∃ (i : Nat) (acc : List Bs), i ≤ l.length ∧ s4 = .int .i64 i ∧ V = acc ++ comms (l.drop i) ∧ Below w.heap.size w wr ∧ wr.ownsRow w.heap.size 9 1 s3 acc.length (acc.flatMap sB) ∧ acc.length ≤ i) (fun _ s4 _ => l.length - (intOf s4).toNat)
  case atStart => exact ⟨0, [], Nat.zero_le _, rfl, HV.out.symm, Below.refl _ _, World.ownsRow_nil _ _ _ _, Nat.le_refl _⟩
  case round =>
    obtain ⟨i, acc, hi, rfl, hb, hbel, hown, hal⟩ := hrel
    obtain ⟨oa, oc, rfl⟩ := row_shape hown
    by_cases hlt : i < l.length
    · obtain ⟨gb, go, rfl, hgb, hgc⟩ := HROW.out.at (by intro e; simp [e] at hlt)
      obtain ⟨k0, k1, -, -, -⟩ := CellsAt.get5 ((hgc i hlt).below hbel hgb)
      rw [comms_at hlt] at hb
      have hlt' : (i : Int) < l.length := by omega
      generalize l[i] = t at *
      obtain ⟨kd, tx, lo, hi', sp⟩ := t
      simp only at k0 k1 hb
      have HBEL := Lib.hid hbel
      have HOWN := Lib.hid hown
      have hws := hbel.size
      by_cases h8 : kd = 8
      · subst h8
        rw [if_pos rfl] at hb
        have HB := Lib.hid hb
        clear hb hbel hown hgc
        go_wp2_with (at_builtin; refine wpList_append_own _ rfl _ _ 36 rfl w.heap.size 9 j0 (.string ⟨#[]⟩) 1 16 Tryz.underlying36 HJ.out HY0.out HY1.out HY2.out rfl (by decide) _ acc.length _ rfl (HOWN.out.alloc _) ⟨wr.heap.size, 0, none⟩ 1 1 [.string (str tx)] rfl rfl (cells1_new _ _ 9) (fun u hu => by simp at hu; subst hu; rfl) (by unfold maxLen; omega) (by omega) (by simp; omega) ?_; intro v2 w2 hown2 hgrow2 _)
        have HO2 := Lib.hid hown2
        have HB2 := Lib.hid ((HBEL.out.alloc hws _).grown hgrow2 (by simp; omega) (fun k hk => (row_cells HOWN.out hk).1))
        clear hown2 hgrow2
        go_wp2_with fail
        go_roundw
        case rel =>
          refine ⟨i + 1, acc ++ [tx], by omega, by go_num, by rw [HB.out, List.append_assoc]; rfl, HB2.out, ?_, by simp; omega⟩
          rw [List.flatMap_append, List.length_append]
          exact HO2.out
        case measure => simp [intOf]; omega
      · rw [if_neg h8] at hb
        have h8' : ((kd : Int) == 8) = false := by rw [beq_eq_false_iff_ne]; omega
        have HB := Lib.hid hb
        clear hb hbel hown hgc h8
        go_wp2_with fail
        go_roundw
        case rel => exact ⟨i + 1, acc, by omega, by go_num, HB.out, HBEL.out, HOWN.out, by omega⟩
        case measure => simp [intOf]; omega
    · obtain rfl : i = l.length := by omega
      rw [List.drop_length, show comms [] = [] from rfl, List.append_nil] at hb
      have HB := Lib.hid hb
      have HBEL := Lib.hid hbel
      have HOWN := Lib.hid hown
      clear hb hbel hown
      go_wp2_with fail
      go_ret
      exact ⟨_, rfl, by rw [HB.out]; exact HOWN.out, HBEL.out⟩
set_option maxRecDepth 100000 in
set_option maxHeartbeats 4000000 in
theorem Rf.line (s : ByteArray) (p : Nat) (w : World) (hp : p ≤ s.size) (hs : s.size ≤ 1000000000) : Calls Tryz.prog 14 #[.string s, .int .i64 p] w fun e w' => e = .returned (.int .i64 (nlc (dl s) p)) ∧ w' = w := by
  obtain ⟨V, hV⟩ : ∃ V, nlc (dl s) p = V := ⟨_, rfl⟩
  rw [hV]
  have HV := Lib.hid hV
  clear hV
  go_enter Tryz.func14, Tryz.ntmps14
  go_wp2_with fail
  go_loopw [5, 6] (fun s5 s6 wr => ∃ (i : Nat), i ≤ p ∧ s6 = .int .i64 i ∧ s5 = .int .i64 (nlc (dl s) i) ∧ nlc (dl s) i ≤ i ∧ wr = w) (fun _ s6 _ => p - (intOf s6).toNat)
  case atStart => exact ⟨0, Nat.zero_le _, rfl, rfl, Nat.le_refl _, rfl⟩
  case round =>
    obtain ⟨i, hi, rfl, rfl, hle, rfl⟩ := hrel
    by_cases hlt : i < p
    · have hlt' : (i : Int) < p := by omega
      have hls : i < s.size := by omega
      have hls' : (i : Int) < s.size := by omega
      have htk : (dl s).take (i + 1) = (dl s).take i ++ [s[i]] := by rw [List.take_add_one, dl_get hls]; rfl
      by_cases e10 : s[i] = 10
      · obtain ⟨d1, d2⟩ := bqT 10 rfl e10
        have hn : nlc (dl s) (i + 1) = nlc (dl s) i + 1 := by unfold nlc; rw [htk, e10, List.count_append]; rfl
        have HN := Lib.hid hn
        generalize nlc (dl s) i = n at *
        have hnn : (n : Int) ≤ i := by omega
        clear e10 htk hn
        go_wp2_with fail
        go_roundw
        case rel => exact ⟨i + 1, by omega, by go_num, by rw [HN.out]; go_num, by rw [HN.out]; omega, by trivial⟩
        case measure => simp [intOf]; omega
      · obtain ⟨d1, d2⟩ := bqF 10 rfl e10
        have hn : nlc (dl s) (i + 1) = nlc (dl s) i := by unfold nlc; rw [htk, List.count_append, List.count_singleton, if_neg (by simpa using e10)]; rfl
        have HN := Lib.hid hn
        generalize nlc (dl s) i = n at *
        clear e10 htk hn
        go_wp2_with fail
        go_roundw
        case rel => exact ⟨i + 1, by omega, by go_num, by rw [HN.out], by rw [HN.out]; omega, by trivial⟩
        case measure => simp [intOf]; omega
    · obtain rfl : i = p := by omega
      have hlt' : ¬ (i : Int) < i := by omega
      rw [HV.out]
      clear hle HV
      go_wp2_with fail
      go_ret
      exact ⟨rfl, rfl⟩
set_option maxRecDepth 100000 in
set_option maxHeartbeats 4000000 in
theorem Rf.sameTexts (a1 a2 : Option Addr) (c1 c2 : Nat) (xs ys : List Bs) (w : World) (h1 : RowAt 1 sB w a1 xs) (h2 : RowAt 1 sB w a2 ys) (l1 : xs.length ≤ 1000000000) (l2 : ys.length ≤ 1000000000) :
    Calls Tryz.prog 56 #[.slice a1 xs.length c1, .slice a2 ys.length c2] w fun e w' => e = .returned (.bool (xs == ys)) ∧ Below w.heap.size w w' := by
  have H1 := Lib.hid h1
  have H2 := Lib.hid h2
  obtain ⟨V, hV⟩ : ∃ V, (xs == ys) = V := ⟨_, rfl⟩
  have hV2 := hV
  rw [hV]
  have HV := Lib.hid hV
  clear h1 h2 hV
  by_cases hlen : xs.length = ys.length
  · have hne : ((xs.length : Int) != ys.length) = false := by rw [bne_eq_false_iff_eq]; omega
    have HLEN := Lib.hid hlen
    clear hlen hV2
    go_enter Tryz.func56, Tryz.ntmps56
    go_wp2_with fail
    go_loopw [5] (fun s5 wr => ∃ (i : Nat), i ≤ xs.length ∧ s5 = .int .i64 i ∧ (xs.drop i == ys.drop i) = V ∧ Below w.heap.size w wr) (fun s5 _ => xs.length - (intOf s5).toNat)
    case atStart => exact ⟨0, Nat.zero_le _, rfl, HV.out, Below.refl _ _⟩
    case round =>
      obtain ⟨i, hi, rfl, hv, hbel⟩ := hrel
      by_cases hlt : i < xs.length
      · have hlt2 : i < ys.length := by have := HLEN.out; omega
        have hlt' : (i : Int) < xs.length := by omega
        have hlt2' : (i : Int) < ys.length := by omega
        obtain ⟨gb, go, rfl, hgb, hgc⟩ := H1.out.at (by intro e; simp [e] at hlt)
        obtain ⟨kb, ko, rfl, hkb, hkc⟩ := H2.out.at (by intro e; simp [e] at hlt2)
        have k0 := (hgc i hlt).below hbel hgb 0 _ rfl
        have m0 := (hkc i hlt2).below hbel hkb 0 _ rfl
        rw [List.drop_eq_getElem_cons hlt, List.drop_eq_getElem_cons hlt2, List.cons_beq_cons] at hv
        simp only [Nat.add_zero, Nat.mul_one] at k0 m0
        generalize xs[i] = x at *
        generalize ys[i] = y at *
        have HBB : Hid (∀ nq, Below w.heap.size w (wr.drewN nq)) := Lib.hid fun nq => hbel.trans ((below_drewN _ _ nq).mono (Nat.le_refl _))
        by_cases hxy : x = y
        · subst hxy
          have e : ((str x).toList != (str x).toList) = false := by simp
          rw [beq_self_eq_true, Bool.true_and] at hv
          have HV2 := Lib.hid hv
          clear hv hbel hgc hkc
          go_wp2_with fail
          go_quiet (fail)
          go_wp2_with fail
          go_roundw
          case rel => exact ⟨i + 1, by omega, by go_num, HV2.out, HBB.out _⟩
          case measure => simp [intOf]; omega
        · have e : ((str x).toList != (str y).toList) = true := by rw [str_tl, str_tl, bne_iff_ne]; exact hxy
          have e' : ((str x).toList == (str y).toList) = false := by rw [str_tl, str_tl, beq_eq_false_iff_ne]; exact hxy
          rw [beq_eq_false_iff_ne.2 hxy, Bool.false_and] at hv
          subst hv
          clear hbel hgc hkc hxy HV
          go_wp2_with fail
          go_quiet (fail)
          go_wp2_with fail
          go_ret
          exact ⟨rfl, HBB.out _⟩
      · obtain rfl : i = xs.length := by omega
        rw [List.drop_length, HLEN.out, List.drop_length] at hv
        have hv0 : V = true := hv.symm
        subst hv0
        have HBEL := Lib.hid hbel
        clear hv hbel HV
        go_wp2_with fail
        go_ret
        exact ⟨rfl, HBEL.out⟩
  · have hne : ((xs.length : Int) != ys.length) = true := by rw [bne_iff_ne]; omega
    have hv0 : V = false := by rw [← hV2, beq_eq_false_iff_ne]; exact fun e => hlen (by rw [e])
    subst hv0
    clear hlen hV2 HV
    go_enter Tryz.func56, Tryz.ntmps56
    go_wp2_with fail
    go_ret
    exact ⟨rfl, Below.refl _ _⟩
end Go.Proofs.YtbnhefibpjldfaaGreatDoor

/- PyB -/
namespace Go.Proofs.YtbnhefibpjldfaaGreatDoor
open Go.RowKit Go.BigFrame Go.Shelf
set_option linter.unusedVariables false

def whiteL (line : Bool) (c : UInt8) : Bool := if line then white6 c else white5 c
/-- Bytes of white space, as they are asked. -/
theorem white_ways (line : Bool) (c : UInt8) : (((c.toNat : Int) == 32) = true ∧ whiteL line c = true) ∨
    (((c.toNat : Int) == 32) = false ∧ (9 : Int) ≤ c.toNat ∧ (c.toNat : Int) ≤ 13 ∧ line = true ∧ whiteL line c = true) ∨
    (((c.toNat : Int) == 32) = false ∧ (9 : Int) ≤ c.toNat ∧ (c.toNat : Int) ≤ 13 ∧ line = false ∧ ((c.toNat : Int) != 10) = true ∧ whiteL line c = true) ∨
    (((c.toNat : Int) == 32) = false ∧ (9 : Int) ≤ c.toNat ∧ (c.toNat : Int) ≤ 13 ∧ line = false ∧ ((c.toNat : Int) != 10) = false ∧ whiteL line c = false) ∨
    (((c.toNat : Int) == 32) = false ∧ ¬ (9 : Int) ≤ c.toNat ∧ whiteL line c = false) ∨
    (((c.toNat : Int) == 32) = false ∧ (9 : Int) ≤ c.toNat ∧ ¬ (c.toNat : Int) ≤ 13 ∧ whiteL line c = false) := by
  unfold whiteL white6 white5
  by_cases h32 : c.toNat = 32
  · left; exact ⟨by rw [beq_iff_eq]; omega, by simp [h32]⟩
  have n32 : ((c.toNat : Int) == 32) = false := by rw [beq_eq_false_iff_ne]; omega
  by_cases h9 : 9 ≤ c.toNat
  · by_cases h13 : c.toNat ≤ 13
    · cases line with
      | true => right; left; exact ⟨n32, by omega, by omega, rfl, by simp [h9, h13]⟩
      | false =>
        by_cases h10 : c.toNat = 10
        · right; right; right; left; exact ⟨n32, by omega, by omega, rfl, by rw [bne_eq_false_iff_eq]; omega, by simp [h10]⟩
        · right; right; left; exact ⟨n32, by omega, by omega, rfl, by rw [bne_iff_ne]; omega, by simp [h9, h13, h10]⟩
    · right; right; right; right; right; exact ⟨n32, by omega, by omega, by simp [h32, h13]⟩
  · right; right; right; right; left; exact ⟨n32, by omega, by simp [h32, h9]⟩
/-- What the loop over pieces keeps: behind all bytes nothing is left. -/
def PcI (q : UInt8 → Bool) (s : ByteArray) (V : List Bs) (w : World) (i f : Nat) (acc : List Bs) (v : Value) (W : World) : Prop :=
  ((i ≤ s.size ∧ f ≤ i ∧ V = acc ++ fldsF q (((dl s).drop f).take (i - f)) ((dl s).drop i)) ∨ (i = s.size + 1 ∧ V = acc)) ∧ Below w.heap.size w W ∧ W.ownsRow w.heap.size 9 1 v acc.length (acc.flatMap sB) ∧ acc.length ≤ i
theorem piece_more {s : ByteArray} {f i : Nat} (hf : f ≤ i) (hi : i < s.size) : ((dl s).drop f).take (i + 1 - f) = ((dl s).drop f).take (i - f) ++ [s[i]] := by
  rw [show i + 1 - f = (i - f) + 1 by omega, List.take_add_one, List.getElem?_drop, show f + (i - f) = i by omega, dl_get hi]; rfl
theorem piece_nil {s : ByteArray} {f i : Nat} (hf : f ≤ i) (hi : i ≤ s.size) : ((dl s).drop f).take (i - f) = [] ↔ ¬ f < i := by
  have hl : (((dl s).drop f).take (i - f)).length = i - f := by rw [List.length_take, List.length_drop, ← size_dl]; omega
  rw [← List.length_eq_zero_iff, hl]; omega
set_option maxRecDepth 100000 in
set_option maxHeartbeats 8000000 in
theorem Rf.piecesW (s : ByteArray) (line : Bool) (w : World) (hs : s.size ≤ 1000000000) : Calls Tryz.prog 36 #[.string s, .bool line] w (StsPost (flds (whiteL line) (dl s)) w) := by
  obtain ⟨j0, hj, hy0, hy1, hy2⟩ := info_parts info9
  have HJ := Lib.hid hj
  have HY0 := Lib.hid hy0
  have HY1 := Lib.hid hy1
  have HY2 := Lib.hid hy2
  obtain ⟨V, hV⟩ : ∃ V, flds (whiteL line) (dl s) = V := ⟨_, rfl⟩
  rw [hV]
  have h0 : PcI (whiteL line) s V w 0 0 [] (.slice none 0 0) w := ⟨.inl ⟨Nat.zero_le _, Nat.le_refl _, hV.symm⟩, Below.refl _ _, World.ownsRow_nil _ _ _ _, Nat.le_refl _⟩
  have H0 := Lib.hid h0
  clear hj hy0 hy1 hy2 hV h0
  go_enter Tryz.func36, Tryz.ntmps36
  go_wp2_with fail
  go_loopw [5, 6, 7] (fun s5 s6 s7 wr => ∃ (i f : Nat) (acc : List Bs), s7 = .int .i64 i ∧ s6 = .int .i64 f ∧ PcI (whiteL line) s V w i f acc s5 wr) (fun _ _ s7 _ => s.size + 1 - (intOf s7).toNat)
  case atStart => exact ⟨0, 0, [], rfl, rfl, H0.out⟩
  case round =>
    clear H0
    obtain ⟨i, f, acc, rfl, rfl, hc, hbel, hown, hal⟩ := hrel
    obtain ⟨oa, oc, rfl⟩ := row_shape hown
    have hws := hbel.size
    have HBEL := Lib.hid hbel
    have HOWN := Lib.hid hown
    rcases hc with ⟨hi, hf, hV⟩ | ⟨rfl, rfl⟩
    · have hi' : (i : Int) ≤ s.size := by omega
      obtain ⟨W, hW⟩ : ∃ W : Bool, (if h : i < s.size then whiteL line s[i] else true) = W := ⟨_, rfl⟩
      have hstep : V = acc ++ (if W then (if f < i then [((dl s).drop f).take (i - f)] else []) ++ (if i < s.size then fldsF (whiteL line) [] ((dl s).drop (i + 1)) else []) else fldsF (whiteL line) (((dl s).drop f).take (i + 1 - f)) ((dl s).drop (i + 1))) ∧ (W = false → i < s.size) := by
        by_cases hlt : i < s.size
        · rw [dif_pos hlt] at hW
          refine ⟨?_, fun _ => hlt⟩
          rw [hV, drop_at hlt, fldsF, hW]
          congr 1
          cases W with
          | true =>
            simp only [if_true]
            by_cases hfi : f < i
            · rw [if_neg (fun e => (piece_nil hf hi).1 e hfi), if_pos hfi, if_pos hlt]; rfl
            · rw [if_pos ((piece_nil hf hi).2 hfi), if_neg hfi, if_pos hlt]; rfl
          | false =>
            rw [if_neg (by decide), if_neg (by decide), piece_more hf hlt]
        · rw [dif_neg hlt] at hW
          subst hW
          refine ⟨?_, fun e => by cases e⟩
          rw [hV, drop_end (i := i) (by omega)]
          show acc ++ (if ((dl s).drop f).take (i - f) = [] then [] else [((dl s).drop f).take (i - f)]) = _
          simp only [if_true, if_neg hlt, List.append_nil]
          congr 1
          by_cases hfi : f < i
          · rw [if_neg (fun e => (piece_nil hf hi).1 e hfi), if_pos hfi]
          · rw [if_pos ((piece_nil hf hi).2 hfi), if_neg hfi]
      have HSTEP := Lib.hid hstep
      have HW := Lib.hid hW
      clear hV hstep hW hbel hown
      go_upto_region 6 with fail
      go_cut [8] (fun s8 wx => s8 = .bool W ∧ wx = wr)
      case first =>
        by_cases hlt : i < s.size
        · have hlt' : (i : Int) < s.size := by omega
          have hne : ((i : Int) == s.size) = false := by rw [beq_eq_false_iff_ne]; omega
          have hw := HW.out
          rw [dif_pos hlt] at hw
          have HW2 := Lib.hid hw
          clear hw
          rcases white_ways line s[i] with ⟨h1, h2⟩ | ⟨h1, h3, h4, h5, h2⟩ | ⟨h1, h3, h4, h5, h6, h2⟩ | ⟨h1, h3, h4, h5, h6, h2⟩ | ⟨h1, h3, h2⟩ | ⟨h1, h3, h4, h2⟩
          · rw [HW2.out] at h2
            subst h2
            clear HW2 HW
            go_wp2_with fail
            all_goals (go_meet; exact ⟨rfl, rfl⟩)
          · rw [HW2.out] at h2
            subst h2
            subst h5
            clear HW2 HW
            go_wp2_with fail
            all_goals (go_meet; exact ⟨rfl, rfl⟩)
          · rw [HW2.out] at h2
            subst h2
            subst h5
            clear HW2 HW
            go_wp2_with fail
            all_goals (go_meet; exact ⟨rfl, rfl⟩)
          · rw [HW2.out] at h2
            subst h2
            subst h5
            clear HW2 HW
            go_wp2_with fail
            all_goals (go_meet; exact ⟨rfl, rfl⟩)
          · rw [HW2.out] at h2
            subst h2
            clear HW2 HW
            go_wp2_with fail
            all_goals (go_meet; exact ⟨rfl, rfl⟩)
          · rw [HW2.out] at h2
            subst h2
            clear HW2 HW
            go_wp2_with fail
            all_goals (go_meet; exact ⟨rfl, rfl⟩)
        · have hne : ((i : Int) == s.size) = true := by rw [beq_iff_eq]; omega
          have hw : W = true := by have := HW.out; rw [dif_neg hlt] at this; exact this.symm
          subst hw
          go_wp2_with fail
          go_meet
          exact ⟨rfl, rfl⟩
      case rest =>
        obtain ⟨rfl, rfl⟩ := hcut
        rename World => w1
        cases W with
        | false =>
          have hlt := HSTEP.out.2 rfl
          have hv := HSTEP.out.1
          simp only [Bool.false_eq_true, if_false] at hv
          have HV := Lib.hid hv
          clear hv
          go_wp2_with fail
          go_roundw
          case rel => exact ⟨i + 1, f, acc, by go_num, rfl, .inl ⟨by omega, by omega, HV.out⟩, HBEL.out, HOWN.out, by omega⟩
          case measure => simp [intOf]; omega
        | true =>
          have hv := HSTEP.out.1
          simp only [if_true] at hv
          by_cases hfi : f < i
          · have hfi' : (f : Int) < i := by omega
            have hfi2 : (f : Int) ≤ i := by omega
            rw [if_pos hfi] at hv
            obtain ⟨X, hX⟩ : ∃ X, s.extract f i = X := ⟨_, rfl⟩
            have hXs : X = str (((dl s).drop f).take (i - f)) := by rw [← hX, ext_str]
            have HXS := Lib.hid hXs
            have HV := Lib.hid hv
            clear hv hXs
            go_wp2_with (at_builtin; refine wpList_append_own _ rfl _ _ 36 rfl w.heap.size 9 j0 (.string ⟨#[]⟩) 1 16 Tryz.underlying36 HJ.out HY0.out HY1.out HY2.out rfl (by decide) _ acc.length _ rfl (HOWN.out.alloc _) ⟨w1.heap.size, 0, none⟩ 1 1 [.string X] rfl rfl (cells1_new _ _ 9) (fun u hu => by simp at hu; subst hu; rfl) (by unfold maxLen; omega) (by omega) (by simp; omega) ?_; intro v2 w2 hown2 hgrow2 _)
            have HO2 := Lib.hid hown2
            have HB2 := Lib.hid ((HBEL.out.alloc hws _).grown hgrow2 (by simp; omega) (fun k hk => (row_cells HOWN.out hk).1))
            clear hown2 hgrow2
            go_wp2_with fail
            go_roundw
            case rel =>
              refine ⟨i + 1, i + 1, acc ++ [((dl s).drop f).take (i - f)], by go_num, by go_num, ?_, HB2.out, ?_, by simp; omega⟩
              · have h := HV.out
                by_cases hlt : i < s.size
                · rw [if_pos hlt] at h
                  exact .inl ⟨by omega, Nat.le_refl _, by rw [h, List.append_assoc, Nat.sub_self, List.take_zero]⟩
                · rw [if_neg hlt, List.append_nil] at h
                  exact .inr ⟨by omega, h⟩
              · rw [List.flatMap_append, List.length_append]
                have h := HO2.out
                rw [HXS.out] at h
                exact h
            case measure => simp [intOf]; omega
          · have hfi' : ¬ (f : Int) < i := by omega
            rw [if_neg hfi, List.nil_append] at hv
            have HV := Lib.hid hv
            clear hv
            go_wp2_with fail
            go_roundw
            case rel =>
              refine ⟨i + 1, i + 1, acc, by go_num, by go_num, ?_, HBEL.out, HOWN.out, by omega⟩
              have h := HV.out
              by_cases hlt : i < s.size
              · rw [if_pos hlt] at h
                exact .inl ⟨by omega, Nat.le_refl _, by rw [h, Nat.sub_self, List.take_zero]⟩
              · rw [if_neg hlt, List.append_nil] at h
                exact .inr ⟨by omega, h⟩
            case measure => simp [intOf]; omega
    · have hi' : ¬ ((s.size + 1 : Nat) : Int) ≤ s.size := by omega
      have hi2 : ¬ (s.size : Int) + 1 ≤ s.size := by omega
      clear hbel hown
      go_wp2_with fail
      go_ret
      exact ⟨_, rfl, HOWN.out, HBEL.out⟩
end Go.Proofs.YtbnhefibpjldfaaGreatDoor

/- PyC -/
namespace Go.Proofs.YtbnhefibpjldfaaGreatDoor
open Go.RowKit Go.BigFrame Go.Shelf
set_option linter.unusedVariables false

theorem whiteL_true : whiteL true = white6 := funext fun _ => rfl
theorem whiteL_false : whiteL false = white5 := funext fun _ => rfl
theorem rpieces_call (s : ByteArray) (line : Bool) (w : World) (q : UInt8 → Bool) (hq : whiteL line = q) (L : List Bs) (h : flds q (dl s) = L) (hs : s.size ≤ 1000000000) : Calls Tryz.prog 36 #[.string s, .bool line] w (StsPost L w) := by
  subst hq h
  exact Rf.piecesW s line w hs
theorem com_one {s : ByteArray} (h : isCom (dl s)) : ∃ h1 : 1 < s.size, 2 ≤ s.size ∧ (isBlock (dl s) = true → 4 ≤ s.size ∧ s[1] = 42) ∧ (isBlock (dl s) = false → s[1] ≠ 42) := by
  obtain ⟨a, b, c⟩ := com_len h
  rw [← size_dl] at a b
  have h1 : 1 < s.size := by omega
  rw [dl_get h1, Option.some.injEq] at c
  exact ⟨h1, a, fun e => ⟨b e, c.2 e⟩, fun e e2 => by rw [c.1 e2] at e; cases e⟩
set_option maxRecDepth 100000 in
set_option maxHeartbeats 4000000 in
theorem Rf.mark (s : ByteArray) (w : World) (hs : s.size ≤ 1000000000) (hc : isCom (dl s)) : Calls Tryz.prog 13 #[.string s] w fun e w' => e = .returned (.int .i64 (markP (dl s))) ∧ Below w.heap.size w w' := by
  obtain ⟨h1, h2, hb1, hb0⟩ := com_one hc
  have hi1 : (1 : Int) < s.size := by omega
  obtain ⟨F, hF⟩ : ∃ F, flds white6 (inside (dl s)) = F := ⟨_, rfl⟩
  have hmk : markP (dl s) = markW F := by rw [← hF]; rfl
  rw [hmk]
  obtain ⟨M, hM⟩ : ∃ M, markW F = M := ⟨_, rfl⟩
  rw [hM]
  have hs2 : (2 : Int) ≤ s.size := by omega
  clear hmk hc
  cases hb : isBlock (dl s) with
  | false =>
    obtain ⟨d1, d2⟩ := bqF (m := 42) 42 rfl (hb0 hb)
    have hx : flds white6 (dl (s.extract 2 s.size)) = F := by rw [← hF, ext_to, dl_str]; simp [inside, hb]
    have HPC := Lib.hid (fun W : World => rpieces_call (s.extract 2 s.size) true W white6 whiteL_true F hx (by simp; omega))
    clear hF hx hb hb1 hb0
    go_enter Tryz.func13, Tryz.ntmps13
    go_wp2_with fail
    refine (HPC.out _).mono ?_
    rintro e w3 ⟨v, rfl, hown, hbel⟩
    obtain ⟨fa, fc, rfl⟩ := row_shape hown
    have hrow := (rowAt_owns (f := sB) (fun g => rfl) hown rfl).2
    have HBEL := Lib.hid hbel
    have HROW := Lib.hid hrow
    clear hbel hown hrow HPC
    by_cases hl : F.length = 2
    · match F, hl, hM, HROW with
      | [a, b], _, hM, HROW =>
        obtain ⟨gb, go, rfl, hgb, hgc⟩ := HROW.out.at (by simp)
        have k0 := hgc 0 (by simp) 0 _ rfl
        have k1 := hgc 1 (by simp) 0 _ rfl
        simp only [Nat.add_zero, Nat.zero_mul, Nat.one_mul, List.getElem_cons_zero, List.getElem_cons_succ] at k0 k1
        clear hgc
        simp only [markW] at hM
        by_cases ha : a = cfmt'
        · have a1 : ((str a).toList != [99, 102, 109, 116]) = false := by rw [str_tl, ha]; rfl
          have a2 : ((str a).toList == [99, 102, 109, 116]) = true := by rw [str_tl, ha]; rfl
          rw [if_pos ha] at hM
          by_cases hb1 : b = off'
          · have b1 : ((str b).toList == [111, 102, 102]) = true := by rw [str_tl, hb1]; rfl
            rw [if_pos hb1] at hM
            subst hM
            clear ha hb1
            go_wp2_with fail
            go_ret
            exact ⟨rfl, HBEL.out⟩
          · have b1 : ((str b).toList == [111, 102, 102]) = false := by rw [str_tl]; simpa [off'] using hb1
            rw [if_neg hb1] at hM
            by_cases hb2 : b = on'
            · have b2 : ((str b).toList == [111, 110]) = true := by rw [str_tl, hb2]; rfl
              rw [if_pos hb2] at hM
              subst hM
              clear ha hb1 hb2
              go_wp2_with fail
              go_ret
              exact ⟨rfl, HBEL.out⟩
            · have b2 : ((str b).toList == [111, 110]) = false := by rw [str_tl]; simpa [on'] using hb2
              rw [if_neg hb2] at hM
              subst hM
              clear ha hb1 hb2
              go_wp2_with fail
              go_ret
              exact ⟨rfl, HBEL.out⟩
        · have a1 : ((str a).toList != [99, 102, 109, 116]) = true := by rw [str_tl]; simpa [cfmt'] using ha
          have a2 : ((str a).toList == [99, 102, 109, 116]) = false := by rw [str_tl]; simpa [cfmt'] using ha
          rw [if_neg ha] at hM
          subst hM
          clear ha
          go_wp2_with fail
          go_ret
          exact ⟨rfl, HBEL.out⟩
    · have hm : M = 0 := by
        rw [← hM]
        match F, hl with
        | [], _ => rfl
        | [_], _ => rfl
        | [_, _], h => exact absurd rfl h
        | _ :: _ :: _ :: _, _ => rfl
      have hl' : ((F.length : Int) != 2) = true := by rw [bne_iff_ne]; omega
      subst hm
      clear hl hM HROW
      go_wp2_with fail
      go_ret
      exact ⟨rfl, HBEL.out⟩
  | true =>
    obtain ⟨h4, e42⟩ := hb1 hb
    obtain ⟨d1, d2⟩ := bqT 42 rfl e42
    have hx : flds white6 (dl (s.extract 2 (s.size - 2))) = F := by
      rw [← hF, ext_str, dl_str]; simp only [inside, hb, if_true]
      rw [size_dl, show (dl s).length - 2 - 2 = (dl s).length - 4 by omega]
    have HPC := Lib.hid (fun W : World => rpieces_call (s.extract 2 (s.size - 2)) true W white6 whiteL_true F hx (by simp; omega))
    have w1' : IntKind.i64.wrap ((s.size : Int) - 2) = (s.size : Int) - 2 := IntWalk.i64_in _ (by omega)
    have w2' : (2 : Int) ≤ (s.size : Int) - 2 := by omega
    have w3' : (s.size : Int) - 2 ≤ (s.size : Int) := by omega
    have w4' : ((s.size : Int) - 2).toNat = s.size - 2 := by omega
    have w0' : (4 : Int) ≤ (s.size : Int) := by omega
    clear hF hx hb hb1 hb0 e42
    go_enter Tryz.func13, Tryz.ntmps13
    go_wp2_with fail
    refine (HPC.out _).mono ?_
    rintro e w3 ⟨v, rfl, hown, hbel⟩
    obtain ⟨fa, fc, rfl⟩ := row_shape hown
    have hrow := (rowAt_owns (f := sB) (fun g => rfl) hown rfl).2
    have HBEL := Lib.hid hbel
    have HROW := Lib.hid hrow
    clear hbel hown hrow HPC
    by_cases hl : F.length = 2
    · match F, hl, hM, HROW with
      | [a, b], _, hM, HROW =>
        obtain ⟨gb, go, rfl, hgb, hgc⟩ := HROW.out.at (by simp)
        have k0 := hgc 0 (by simp) 0 _ rfl
        have k1 := hgc 1 (by simp) 0 _ rfl
        simp only [Nat.add_zero, Nat.zero_mul, Nat.one_mul, List.getElem_cons_zero, List.getElem_cons_succ] at k0 k1
        clear hgc
        simp only [markW] at hM
        by_cases ha : a = cfmt'
        · have a1 : ((str a).toList != [99, 102, 109, 116]) = false := by rw [str_tl, ha]; rfl
          have a2 : ((str a).toList == [99, 102, 109, 116]) = true := by rw [str_tl, ha]; rfl
          rw [if_pos ha] at hM
          by_cases hb1 : b = off'
          · have b1 : ((str b).toList == [111, 102, 102]) = true := by rw [str_tl, hb1]; rfl
            rw [if_pos hb1] at hM
            subst hM
            clear ha hb1
            go_wp2_with fail
            go_ret
            exact ⟨rfl, HBEL.out⟩
          · have b1 : ((str b).toList == [111, 102, 102]) = false := by rw [str_tl]; simpa [off'] using hb1
            rw [if_neg hb1] at hM
            by_cases hb2 : b = on'
            · have b2 : ((str b).toList == [111, 110]) = true := by rw [str_tl, hb2]; rfl
              rw [if_pos hb2] at hM
              subst hM
              clear ha hb1 hb2
              go_wp2_with fail
              go_ret
              exact ⟨rfl, HBEL.out⟩
            · have b2 : ((str b).toList == [111, 110]) = false := by rw [str_tl]; simpa [on'] using hb2
              rw [if_neg hb2] at hM
              subst hM
              clear ha hb1 hb2
              go_wp2_with fail
              go_ret
              exact ⟨rfl, HBEL.out⟩
        · have a1 : ((str a).toList != [99, 102, 109, 116]) = true := by rw [str_tl]; simpa [cfmt'] using ha
          have a2 : ((str a).toList == [99, 102, 109, 116]) = false := by rw [str_tl]; simpa [cfmt'] using ha
          rw [if_neg ha] at hM
          subst hM
          clear ha
          go_wp2_with fail
          go_ret
          exact ⟨rfl, HBEL.out⟩
    · have hm : M = 0 := by
        rw [← hM]
        match F, hl with
        | [], _ => rfl
        | [_], _ => rfl
        | [_, _], h => exact absurd rfl h
        | _ :: _ :: _ :: _, _ => rfl
      have hl' : ((F.length : Int) != 2) = true := by rw [bne_iff_ne]; omega
      subst hm
      clear hl hM HROW
      go_wp2_with fail
      go_ret
      exact ⟨rfl, HBEL.out⟩
end Go.Proofs.YtbnhefibpjldfaaGreatDoor

/- reflow: the iterator over lines. -/
import Derived.Test.YtbnhefibpjldfaaGreatDoorPzN
import Derived.Test.YtbnhefibpjldfaaGreatDoorPyH
import Derived.Test.YtbnhefibpjldfaaGreatDoorRfs
namespace Go.Proofs.YtbnhefibpjldfaaGreatDoor
open Go.RowKit Go.BigFrame Go.Shelf
set_option linter.unusedVariables false
attribute [local go_sem] Oper.semAt_some

def cutU (i : Nat) (x : Bs) : Bs := if i = 0 then x else unstar (trimW x)
/-- The lines that are yielded. -/
def lnL (y : Bs) : List Bs := (splF [] y).mapIdx cutU
theorem lnL_words (y : Bs) : (splF [] y).mapIdx lineW = (lnL y).map (flds white5) := by
  unfold lnL
  exact List.ext_getElem (by simp) (fun i h1 h2 => by simp [lineW, cutU])
/-- A block of cells stays. -/
def KL (G : Nat) (a b : World) : Prop := a.heap.size ≤ b.heap.size ∧ ∀ cs t, a.heap[G]? = some (.cells cs t (0, 0)) → b.heap[G]? = some (.cells cs t (0, 0))
theorem KL.trans {G : Nat} {a b c : World} (h : KL G a b) (k : KL G b c) : KL G a c := ⟨Nat.le_trans h.1 k.1, fun cs t x => k.2 cs t (h.2 cs t x)⟩
theorem KL.of_below {G : Nat} {w w' : World} (h : Below w.heap.size w w') : KL G w w' := ⟨h.size, fun cs t x => heap_below h x (Array.getElem?_eq_some_iff.1 x).1⟩
theorem KL.putObj {G : Nat} {w : World} {l : Nat} {o o' : Obj} (ho : w.heap[l]? = some o) (hc : o.isCells = false) : KL G w (w.putObj l o') := ⟨by simp, fun cs t x => by
  rw [World.putObj_heap_other (fun e => by
    subst e
    rw [ho] at x
    cases x
    cases hc)]
  exact x⟩
theorem Lw.lines (s : ByteArray) (w : World) : Calls Tryz.prog 102 #[.string s] w fun e w' => e = .returned (.func (.func 119) #[] #[.pointer (some ⟨w.heap.size, 0, none⟩)]) ∧ w' = w.alloc (.cells #[.string s] 9) := by
  go_enter Tryz.func102, Tryz.ntmps102
  go_wp2
  go_ret
  exact ⟨rfl, rfl⟩
theorem rune5_white (c : UInt8) : rune5 (c.toNat : Int) = white5 c := by
  have hb := c.toNat_lt
  rw [Bool.eq_iff_iff]
  simp [rune5, white5]
  omega
theorem white122 (c : UInt8) (w : World) (b : Bool) (h : white5 c = b) : Calls Tryz.prog 122 #[.int .i32 c.toNat] w fun e w' => e = .returned (.bool b) ∧ w' = w := by
  have := Re.whiteF c.toNat w
  rw [rune5_white, h] at this
  exact this
theorem trim121 (x : Bs) (y : ByteArray) (w : World) (h : str (trimW x) = y) : Calls Tryz.prog 121 #[.string (str x), .func (.func 122) #[] #[]] w fun e w' => e = .returned (.string y) ∧ Below w.heap.size w w' := by
  have := trimL_call (str x) w
  rw [dl_str, h] at this
  exact this
theorem len_mem {l : List Bs} {x : Bs} (h : x ∈ l) : x.length ≤ (l.map (·.length)).sum := by
  induction l with
  | nil => cases h
  | cons a r ih =>
    rw [List.map_cons, List.sum_cons]
    rcases List.mem_cons.1 h with rfl | h
    · omega
    · have := ih h; omega
set_option maxRecDepth 100000 in
set_option maxHeartbeats 8000000 in
theorem Lw.lseq (n B : Nat) (s : ByteArray) (w : World) (N : Nat) (h0 : w.heap[B]? = some (.cells #[.string s] 9 (0, 0))) (hs : s.size ≤ 100000000) (hm : Mx w) :
    SeqGN Fence.wide n Tryz.prog 119 #[.pointer (some ⟨B, 0, none⟩)] (fun x : Bs => #[.string (str x)]) (KL N) (fun pre x => ∃ r, lnL (dl s) = pre ++ x :: r) (fun _ => False)
      (fun zs => zs = lnL (dl s)) (fun zs => ∃ r, lnL (dl s) = zs ++ r) N w := fun l J Jx W hN hW hJ hJx hY hj0 => by
  have g0 := heap_below hW h0 (Array.getElem?_eq_some_iff.1 h0).1
  have hmW := hm.of hW hm.pos
  have hsm := splF_sum (dl s) []
  obtain ⟨V, hV⟩ : ∃ V, lnL (dl s) = V := ⟨_, rfl⟩
  rw [hV] at hY ⊢
  unfold lnL at hV
  have hsp := split_call s W (by omega) hmW
  rw [hN] at hsp
  generalize splF [] (dl s) = T at hsp hsm hV
  have hVT : V.length = T.length := by rw [← hV]; simp
  have hVi : ∀ i (h : i < T.length) (h2 : i < V.length), V[i] = cutU i T[i] := fun i h h2 => by simp only [← hV, List.getElem_mapIdx]
  have hTs : ∀ i (h : i < T.length), T[i].length ≤ s.size := fun i h => by
    have h1 := len_mem (List.getElem_mem h)
    have h2 := hsm.1
    rw [size_dl]
    simp only [List.length_nil, Nat.zero_add] at h2
    omega
  have hTl : T.length ≤ s.size + 1 := by have := hsm.2; rw [size_dl]; omega
  obtain ⟨W2, hW2⟩ : ∃ W2, W2 = W.alloc (.cells (T.map fun x => Value.string (str x)).toArray 9) := ⟨_, rfl⟩
  rw [← hW2] at hsp
  have hb2 : Below W.heap.size W W2 := by rw [hW2]; exact below_alloc _ _
  have hg2 : W2.heap[N]? = some (.cells (T.map fun x => Value.string (str x)).toArray 9 (0, 0)) := by rw [hW2, ← hN]; exact heap_alloc_new _ _
  have hj2 := hJ _ _ _ hj0 (Mod.of_below hb2)
  have c00 : W.cell? ⟨B, 0, none⟩ = some (.string s) := by simp [World.cell?, g0]
  have HSP := Lib.hid hsp
  have HG2 := Lib.hid hg2
  have HJ := Lib.hid hJ
  have HY := Lib.hid hY
  have HJ2 := Lib.hid hj2
  have HVT := Lib.hid hVT
  have HVI := Lib.hid hVi
  have HTS := Lib.hid hTs
  clear h0 hJ hJx g0 hY hj0 hm hmW hsm hV hsp hVT hVi hTs hW2 hb2 hg2 hj2 hN
  refine callsIn_of_wp Tryz.func119 rfl trivial ?_ rfl
  simp only [Tryz.ntmps119, List.size_toArray, List.length_cons, List.length_nil, Nat.reduceAdd, Nat.reduceSub, Array.replicate_succ, Array.replicate_zero, List.push_toArray, List.append_toArray, List.nil_append, List.cons_append]
  gi_wp2_with (fail)
  first
  | refine ⟨trivial, (fun hh => by cases hh), (callsIn_wide.2 HSP.out).mono ?_⟩
  | refine ⟨trivial, (callsIn_wide.2 HSP.out).mono ?_⟩
  | refine (callsIn_wide.2 HSP.out).mono ?_
  rintro e w3 ⟨rfl, rfl⟩
  clear c00
  gi_wp2_with (fail)
  gi_loopw [8] (fun s8 wr => ∃ i : Nat, i ≤ T.length ∧ s8 = .int .i64 i ∧ wr.heap[N]? = some (.cells (T.map fun x => Value.string (str x)).toArray 9 (0, 0)) ∧ J (V.take i) wr) (fun s8 _ => T.length - (intOf s8).toNat)
  case atStart => exact ⟨0, Nat.zero_le _, rfl, HG2.out, HJ2.out⟩
  case round =>
    clear HJ2 HG2
    obtain ⟨i, hi, rfl, g0, hjp⟩ := hrel
    have G0 := Lib.hid g0
    have HJP := Lib.hid hjp
    have hNs := (Array.getElem?_eq_some_iff.1 g0).1
    by_cases hlt : i < T.length
    · have hlt' : (i : Int) < T.length := by omega
      have hV2 : i < V.length := by rw [HVT.out]; exact hlt
      have k0 : wr.cell? ⟨N, i, none⟩ = some (.string (str T[i])) := by simp [World.cell?, g0, hlt]
      have hpre : V = V.take i ++ V[i] :: V.drop (i + 1) := by rw [← List.drop_eq_getElem_cons hV2, List.take_append_drop]
      have hnx : V.take i ++ [V[i]] = V.take (i + 1) := by rw [List.take_add_one, List.getElem?_eq_getElem hV2]; rfl
      have hvi := HVI.out i hlt hV2
      have hxs := HTS.out i hlt
      generalize V[i] = v at *
      generalize T[i] = x at *
      have HPRE := Lib.hid hpre
      have HNX := Lib.hid hnx
      have hxs2 : (str x).size ≤ 100000000 := by rw [str_size]; omega
      clear g0 hjp hpre hnx
      by_cases hi0 : i = 0
      · have hi1 : ¬ (0 : Int) < i := by omega
        have hi1' : decide (0 < i) = false := by simp [hi0]
        have hv : str v = str x := by rw [hvi, hi0]; rfl
        have HV := Lib.hid hv
        clear hvi hv
        obtain ⟨y, hy⟩ : ∃ y, str x = y := ⟨_, rfl⟩
        rw [hy] at HV k0
        clear hy hxs hxs2 hi0
        have hjw := HJ.out (V.take i) wr wr HJP.out (Mod.of_below (Below.refl _ _))
        obtain ⟨fn1, tm1, as1, bo1, hyy1, hR1⟩ := HY.out (V.take i) v wr hjw ⟨_, HPRE.out⟩
        rw [HV.out] at hyy1
        have HB := Lib.hid (show Below wr.heap.size wr wr from Below.refl _ _)
        clear hjw
        gi_wp2_with (fail)
        refine ⟨(fun hh => by cases hh), hR1.mono ?_⟩
        rintro e W1 (⟨rfl, hJ1, hk1⟩ | ⟨rfl, hx1⟩)
        · have g1 := hk1.2 _ _ (heap_below HB.out G0.out hNs)
          rw [HNX.out] at hJ1
          have HJ1 := Lib.hid hJ1
          have G1 := Lib.hid g1
          clear g1 hk1 hJ1 hyy1 hR1
          gi_wp2_with (fail)
          go_roundw
          case rel => exact ⟨i + 1, by omega, by go_num, G1.out, HJ1.out⟩
          case measure => simp [intOf]; omega
        · rw [HNX.out] at hx1
          have HX1 := Lib.hid hx1
          clear hx1 hyy1 hR1
          gi_wp2_with (fail)
          refine bodyPost_ret (results_none rfl _ _ _) rfl ?_
          exact ⟨⟨_, rfl⟩, .inr ⟨_, ⟨_, (List.take_append_drop (i + 1) V).symm⟩, HX1.out⟩⟩
      · have hi1 : (0 : Int) < i := by omega
        have hi1' : decide (0 < i) = true := by simpa using Nat.pos_of_ne_zero hi0
        unfold cutU at hvi
        rw [if_neg hi0, unstar_eq] at hvi
        obtain ⟨y, hy⟩ : ∃ y, str (trimW x) = y := ⟨_, rfl⟩
        have htr := fun u : World => trim121 x y u hy
        have hzl := trimW_len x
        have hys : y.size = (trimW x).length := by rw [← hy, str_size]
        have hyl : y.toList = trimW x := by rw [← hy, str_tl]
        have hyd : trimW x = dl y := by rw [← hy, dl_str]
        rw [hyd] at hvi
        have HTR := Lib.hid htr
        have hysb : y.size ≤ 100000000 := by omega
        rw [hyd] at hyl
        clear hy htr hzl hys hyd
        have HYL := Lib.hid hyl
        clear hyl hi0
        by_cases hy0 : y.size = 0
        · have hd : dl y = [] := (trimW_end hy0).2
          have t1 : (y.toList == [42]) = false := by rw [HYL.out, hd]; rfl
          have hyn : ¬ (1 : Int) < y.size := by omega
          have hv : str v = y := by rw [hvi, hd]; show str [] = y; rw [← hd]; exact str_of y
          have HV := Lib.hid hv
          clear hvi hv hd hy0
          have hjt := HJ.out (V.take i) wr
          gi_wp2_with (fail)
          refine ⟨trivial, (fun hh => by cases hh), (callsIn_wide.2 (HTR.out wr)).mono ?_⟩
          rintro e w2 ⟨rfl, hb2⟩
          have B2 := Lib.hid hb2
          clear hb2 hjt
          have hjw := HJ.out (V.take i) wr w2 HJP.out (Mod.of_below (B2.out))
          obtain ⟨fn1, tm1, as1, bo1, hyy1, hR1⟩ := HY.out (V.take i) v w2 hjw ⟨_, HPRE.out⟩
          rw [HV.out] at hyy1
          have HB := Lib.hid (show Below wr.heap.size wr w2 from B2.out)
          clear hjw
          gi_wp2_with (fail)
          refine ⟨trivial, ?_⟩
          gi_wp2_with (fail)
          refine ⟨(fun hh => by cases hh), hR1.mono ?_⟩
          rintro e W1 (⟨rfl, hJ1, hk1⟩ | ⟨rfl, hx1⟩)
          · have g1 := hk1.2 _ _ (heap_below HB.out G0.out hNs)
            rw [HNX.out] at hJ1
            have HJ1 := Lib.hid hJ1
            have G1 := Lib.hid g1
            clear g1 hk1 hJ1 hyy1 hR1
            gi_wp2_with (fail)
            go_roundw
            case rel => exact ⟨i + 1, by omega, by go_num, G1.out, HJ1.out⟩
            case measure => simp [intOf]; omega
          · rw [HNX.out] at hx1
            have HX1 := Lib.hid hx1
            clear hx1 hyy1 hR1
            gi_wp2_with (fail)
            refine bodyPost_ret (results_none rfl _ _ _) rfl ?_
            exact ⟨⟨_, rfl⟩, .inr ⟨_, ⟨_, (List.take_append_drop (i + 1) V).symm⟩, HX1.out⟩⟩
        · have hyp : 0 < y.size := by omega
          have hyp' : (0 : Int) < y.size := by omega
          have hd := drop_at hyp
          rw [List.drop_zero, Nat.zero_add] at hd
          by_cases e42 : y[0]'hyp = 42
          · obtain ⟨d1, d2⟩ := bqT 42 rfl e42
            by_cases hy1 : y.size = 1
            · have t1 : (y.toList == [42]) = true := by rw [HYL.out, hd, drop_end (i := 1) (by omega), e42]; rfl
              have hst : starB (dl y) = true := by rw [hd, drop_end (i := 1) (by omega), e42]; rfl
              rw [hst, if_pos rfl] at hvi
              have hv : str v = y.extract 1 y.size := by rw [hvi, ext_to]
              have HV := Lib.hid hv
              have hyi : (1 : Int) ≤ y.size := by omega
              clear hvi hv hst hd e42 hy0 hy1
              have hjt := HJ.out (V.take i) wr
              gi_wp2_with (fail)
              refine ⟨trivial, (fun hh => by cases hh), (callsIn_wide.2 (HTR.out wr)).mono ?_⟩
              rintro e w2 ⟨rfl, hb2⟩
              have B2 := Lib.hid hb2
              clear hb2 hjt
              have hjw := HJ.out (V.take i) wr w2 HJP.out (Mod.of_below (B2.out))
              obtain ⟨fn1, tm1, as1, bo1, hyy1, hR1⟩ := HY.out (V.take i) v w2 hjw ⟨_, HPRE.out⟩
              rw [HV.out] at hyy1
              have HB := Lib.hid (show Below wr.heap.size wr w2 from B2.out)
              clear hjw
              gi_wp2_with (fail)
              all_goals (try (rename_i h1 h2; exact absurd h1 (by simp [undef])))
              refine ⟨trivial, ?_⟩
              gi_wp2_with (fail)
              refine ⟨(fun hh => by cases hh), hR1.mono ?_⟩
              rintro e W1 (⟨rfl, hJ1, hk1⟩ | ⟨rfl, hx1⟩)
              · have g1 := hk1.2 _ _ (heap_below HB.out G0.out hNs)
                rw [HNX.out] at hJ1
                have HJ1 := Lib.hid hJ1
                have G1 := Lib.hid g1
                clear g1 hk1 hJ1 hyy1 hR1
                gi_wp2_with (fail)
                go_roundw
                case rel => exact ⟨i + 1, by omega, by go_num, G1.out, HJ1.out⟩
                case measure => simp [intOf]; omega
              · rw [HNX.out] at hx1
                have HX1 := Lib.hid hx1
                clear hx1 hyy1 hR1
                gi_wp2_with (fail)
                refine bodyPost_ret (results_none rfl _ _ _) rfl ?_
                exact ⟨⟨_, rfl⟩, .inr ⟨_, ⟨_, (List.take_append_drop (i + 1) V).symm⟩, HX1.out⟩⟩
            · have t1 : (y.toList == [42]) = false := by
                rw [HYL.out, hd, drop_at (show 1 < y.size by omega)]
                simp
              have hyq : 1 < y.size := by omega
              have hyq' : (1 : Int) < y.size := by omega
              have hyi : (1 : Int) ≤ y.size := by omega
              have hu8 := (y[1]'hyq).toNat_lt
              have hw32 : wrap32 ((y[1]'hyq).toNat : Int) = ((y[1]'hyq).toNat : Int) := by go_arith
              clear hu8
              cases hw5 : white5 (y[1]'hyq) with
              | true =>
                have hst : starB (dl y) = true := by rw [hd, drop_at hyq, e42]; simp [starB, hw5]
                rw [hst, if_pos rfl] at hvi
                have hv : str v = y.extract 1 y.size := by rw [hvi, ext_to]
                have HV := Lib.hid hv
                have HW5 := Lib.hid hw5
                clear hvi hv hst hd e42 hy0 hy1 hw5
                have hjt := HJ.out (V.take i) wr
                gi_wp2_with (fail)
                refine ⟨trivial, (fun hh => by cases hh), (callsIn_wide.2 (HTR.out wr)).mono ?_⟩
                rintro e w2 ⟨rfl, hb2⟩
                have B2 := Lib.hid hb2
                clear hb2 hjt
                have hjw := HJ.out (V.take i) wr w2 HJP.out (Mod.of_below B2.out)
                obtain ⟨fn1, tm1, as1, bo1, hyy1, hR1⟩ := HY.out (V.take i) v w2 hjw ⟨_, HPRE.out⟩
                rw [HV.out] at hyy1
                have HB := Lib.hid (show Below wr.heap.size wr w2 from B2.out)
                clear hjw
                gi_wp2_with (fail)
                refine ⟨trivial, (fun hh => by cases hh), (callsIn_wide.2 (white122 _ _ true HW5.out)).mono ?_⟩
                rintro e w9 ⟨rfl, rfl⟩
                gi_wp2_with (fail)
                refine ⟨(fun hh => by cases hh), hR1.mono ?_⟩
                rintro e W1 (⟨rfl, hJ1, hk1⟩ | ⟨rfl, hx1⟩)
                · have g1 := hk1.2 _ _ (heap_below HB.out G0.out hNs)
                  rw [HNX.out] at hJ1
                  have HJ1 := Lib.hid hJ1
                  have G1 := Lib.hid g1
                  clear g1 hk1 hJ1 hyy1 hR1
                  gi_wp2_with (fail)
                  go_roundw
                  case rel => exact ⟨i + 1, by omega, by go_num, G1.out, HJ1.out⟩
                  case measure => simp [intOf]; omega
                · rw [HNX.out] at hx1
                  have HX1 := Lib.hid hx1
                  clear hx1 hyy1 hR1
                  gi_wp2_with (fail)
                  refine bodyPost_ret (results_none rfl _ _ _) rfl ?_
                  exact ⟨⟨_, rfl⟩, .inr ⟨_, ⟨_, (List.take_append_drop (i + 1) V).symm⟩, HX1.out⟩⟩
              | false =>
                have hst : starB (dl y) = false := by rw [hd, drop_at hyq, e42]; simp [starB, hw5]
                rw [hst, if_neg (by decide)] at hvi
                have hv : str v = y := by rw [hvi]; exact str_of y
                have HV := Lib.hid hv
                have HW5 := Lib.hid hw5
                clear hvi hv hst hd e42 hy0 hy1 hw5
                have hjt := HJ.out (V.take i) wr
                gi_wp2_with (fail)
                refine ⟨trivial, (fun hh => by cases hh), (callsIn_wide.2 (HTR.out wr)).mono ?_⟩
                rintro e w2 ⟨rfl, hb2⟩
                have B2 := Lib.hid hb2
                clear hb2 hjt
                have hjw := HJ.out (V.take i) wr w2 HJP.out (Mod.of_below B2.out)
                obtain ⟨fn1, tm1, as1, bo1, hyy1, hR1⟩ := HY.out (V.take i) v w2 hjw ⟨_, HPRE.out⟩
                rw [HV.out] at hyy1
                have HB := Lib.hid (show Below wr.heap.size wr w2 from B2.out)
                clear hjw
                gi_wp2_with (fail)
                refine ⟨trivial, (fun hh => by cases hh), (callsIn_wide.2 (white122 _ _ false HW5.out)).mono ?_⟩
                rintro e w9 ⟨rfl, rfl⟩
                gi_wp2_with (fail)
                refine ⟨(fun hh => by cases hh), hR1.mono ?_⟩
                rintro e W1 (⟨rfl, hJ1, hk1⟩ | ⟨rfl, hx1⟩)
                · have g1 := hk1.2 _ _ (heap_below HB.out G0.out hNs)
                  rw [HNX.out] at hJ1
                  have HJ1 := Lib.hid hJ1
                  have G1 := Lib.hid g1
                  clear g1 hk1 hJ1 hyy1 hR1
                  gi_wp2_with (fail)
                  go_roundw
                  case rel => exact ⟨i + 1, by omega, by go_num, G1.out, HJ1.out⟩
                  case measure => simp [intOf]; omega
                · rw [HNX.out] at hx1
                  have HX1 := Lib.hid hx1
                  clear hx1 hyy1 hR1
                  gi_wp2_with (fail)
                  refine bodyPost_ret (results_none rfl _ _ _) rfl ?_
                  exact ⟨⟨_, rfl⟩, .inr ⟨_, ⟨_, (List.take_append_drop (i + 1) V).symm⟩, HX1.out⟩⟩
          · obtain ⟨d1, d2⟩ := bqF 42 rfl e42
            have t1 : (y.toList == [42]) = false := by
              rw [HYL.out, hd, beq_eq_false_iff_ne]
              intro h
              rw [List.cons.injEq] at h
              exact e42 h.1
            have hst : starB (dl y) = false := by
              rw [hd]
              cases (dl y).drop 1 with
              | nil => simp [starB, e42]
              | cons a b => simp [starB, e42]
            rw [hst, if_neg (by decide)] at hvi
            have hv : str v = y := by rw [hvi]; exact str_of y
            have HV := Lib.hid hv
            clear hvi hv hst hd e42 hy0
            by_cases hy1 : y.size = 1
            · have hyn : ¬ (1 : Int) < y.size := by omega
              have hjt := HJ.out (V.take i) wr
              gi_wp2_with (fail)
              refine ⟨trivial, (fun hh => by cases hh), (callsIn_wide.2 (HTR.out wr)).mono ?_⟩
              rintro e w2 ⟨rfl, hb2⟩
              have B2 := Lib.hid hb2
              clear hb2 hjt
              have hjw := HJ.out (V.take i) wr w2 HJP.out (Mod.of_below (B2.out))
              obtain ⟨fn1, tm1, as1, bo1, hyy1, hR1⟩ := HY.out (V.take i) v w2 hjw ⟨_, HPRE.out⟩
              rw [HV.out] at hyy1
              have HB := Lib.hid (show Below wr.heap.size wr w2 from B2.out)
              clear hjw
              gi_wp2_with (fail)
              refine ⟨trivial, ?_⟩
              gi_wp2_with (fail)
              refine ⟨(fun hh => by cases hh), hR1.mono ?_⟩
              rintro e W1 (⟨rfl, hJ1, hk1⟩ | ⟨rfl, hx1⟩)
              · have g1 := hk1.2 _ _ (heap_below HB.out G0.out hNs)
                rw [HNX.out] at hJ1
                have HJ1 := Lib.hid hJ1
                have G1 := Lib.hid g1
                clear g1 hk1 hJ1 hyy1 hR1
                gi_wp2_with (fail)
                go_roundw
                case rel => exact ⟨i + 1, by omega, by go_num, G1.out, HJ1.out⟩
                case measure => simp [intOf]; omega
              · rw [HNX.out] at hx1
                have HX1 := Lib.hid hx1
                clear hx1 hyy1 hR1
                gi_wp2_with (fail)
                refine bodyPost_ret (results_none rfl _ _ _) rfl ?_
                exact ⟨⟨_, rfl⟩, .inr ⟨_, ⟨_, (List.take_append_drop (i + 1) V).symm⟩, HX1.out⟩⟩
            · have hyq' : (1 : Int) < y.size := by omega
              have hjt := HJ.out (V.take i) wr
              gi_wp2_with (fail)
              refine ⟨trivial, (fun hh => by cases hh), (callsIn_wide.2 (HTR.out wr)).mono ?_⟩
              rintro e w2 ⟨rfl, hb2⟩
              have B2 := Lib.hid hb2
              clear hb2 hjt
              have hjw := HJ.out (V.take i) wr w2 HJP.out (Mod.of_below (B2.out))
              obtain ⟨fn1, tm1, as1, bo1, hyy1, hR1⟩ := HY.out (V.take i) v w2 hjw ⟨_, HPRE.out⟩
              rw [HV.out] at hyy1
              have HB := Lib.hid (show Below wr.heap.size wr w2 from B2.out)
              clear hjw
              gi_wp2_with (fail)
              refine ⟨trivial, ?_⟩
              gi_wp2_with (fail)
              refine ⟨(fun hh => by cases hh), hR1.mono ?_⟩
              rintro e W1 (⟨rfl, hJ1, hk1⟩ | ⟨rfl, hx1⟩)
              · have g1 := hk1.2 _ _ (heap_below HB.out G0.out hNs)
                rw [HNX.out] at hJ1
                have HJ1 := Lib.hid hJ1
                have G1 := Lib.hid g1
                clear g1 hk1 hJ1 hyy1 hR1
                gi_wp2_with (fail)
                go_roundw
                case rel => exact ⟨i + 1, by omega, by go_num, G1.out, HJ1.out⟩
                case measure => simp [intOf]; omega
              · rw [HNX.out] at hx1
                have HX1 := Lib.hid hx1
                clear hx1 hyy1 hR1
                gi_wp2_with (fail)
                refine bodyPost_ret (results_none rfl _ _ _) rfl ?_
                exact ⟨⟨_, rfl⟩, .inr ⟨_, ⟨_, (List.take_append_drop (i + 1) V).symm⟩, HX1.out⟩⟩
    · obtain rfl : i = T.length := by omega
      have hfin : V.take T.length = V := List.take_of_length_le (by rw [HVT.out]; exact Nat.le_refl _)
      rw [hfin] at hjp
      have HJE := Lib.hid hjp
      clear g0 hjp hfin
      gi_wp2_with (fail)
      go_end0
      exact ⟨⟨_, rfl⟩, .inl ⟨_, rfl, HJE.out⟩⟩
end Go.Proofs.YtbnhefibpjldfaaGreatDoor

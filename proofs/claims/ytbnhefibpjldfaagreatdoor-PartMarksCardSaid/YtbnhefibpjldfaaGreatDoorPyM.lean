/- the document: how many lines; the ranges of a set. -/
import Derived.Test.YtbnhefibpjldfaaGreatDoorPyC
import Derived.Test.YtbnhefibpjldfaaGreatDoorPxL
import Derived.Test.YtbnhefibpjldfaaGreatDoorPwW
namespace Go.Proofs.YtbnhefibpjldfaaGreatDoor
open Go.RowKit Go.BigFrame Go.Shelf
set_option linter.unusedVariables false

set_option maxRecDepth 100000 in
set_option maxHeartbeats 8000000 in
theorem Rf.lines12 (s : ByteArray) (w : World) (hs : s.size ≤ 1000000000) (hend : s.size = 0 ∨ (dl s).getLast? = some 10) : Calls Tryz.prog 12 #[.string s] w fun e w' => ∃ a c, e = .returned (.slice a (nlc (dl s) s.size) c) ∧ Below w.heap.size w w' := by
  obtain ⟨j0, hj, hy0, hy1, hy2⟩ := info_parts info9
  have HJ := Lib.hid hj
  have HY0 := Lib.hid hy0
  have HY1 := Lib.hid hy1
  have HY2 := Lib.hid hy2
  have HEND := Lib.hid hend
  clear hj hy0 hy1 hy2 hend
  go_enter Tryz.func12, Tryz.ntmps12
  go_wp2_with fail
  go_loopw [3, 4, 5] (fun s3 s4 s5 wr => ∃ (i f m : Nat) (xs : List Value), i ≤ s.size ∧ s5 = .int .i64 i ∧ s4 = .int .i64 f ∧ f ≤ i ∧ (f = i ∨ ∃ h : i - 1 < s.size, 0 < i ∧ s[i - 1] ≠ 10) ∧ m = nlc (dl s) i ∧ m ≤ i ∧ Below w.heap.size w wr ∧ wr.ownsRow w.heap.size 9 1 s3 m xs) (fun _ _ s5 _ => s.size - (intOf s5).toNat)
  case atStart => exact ⟨0, 0, 0, [], Nat.zero_le _, rfl, rfl, Nat.le_refl _, .inl rfl, rfl, Nat.le_refl _, Below.refl _ _, World.ownsRow_nil _ _ _ _⟩
  case round =>
    obtain ⟨i, f, m, xs, hi, rfl, rfl, hf, hfi, hm, hmi, hbel, hown⟩ := hrel
    obtain ⟨oa, oc, rfl⟩ := row_shape hown
    have hws := hbel.size
    have HBEL := Lib.hid hbel
    have HOWN := Lib.hid hown
    by_cases hlt : i < s.size
    · have hlt' : (i : Int) < s.size := by omega
      have htk : (dl s).take (i + 1) = (dl s).take i ++ [s[i]] := by rw [List.take_add_one, dl_get hlt]; rfl
      by_cases e10 : s[i] = 10
      · obtain ⟨d1, d2⟩ := bqT 10 rfl e10
        have hn : nlc (dl s) (i + 1) = nlc (dl s) i + 1 := by unfold nlc; rw [htk, e10, List.count_append]; rfl
        rw [← hm] at hn
        have HN := Lib.hid hn
        have hif : (f : Int) ≤ (i : Int) + 1 := by omega
        have hil : (i : Int) + 1 ≤ s.size := by omega
        have hit : ((i : Int) + 1).toNat = i + 1 := by omega
        clear hbel hown htk e10 hn hm hfi
        go_wp2_with (at_builtin; refine wpList_append_own _ rfl _ _ 36 rfl w.heap.size 9 j0 (.string ⟨#[]⟩) 1 16 Tryz.underlying36 HJ.out HY0.out HY1.out HY2.out rfl (by decide) _ m _ rfl (HOWN.out.alloc _) ⟨wr.heap.size, 0, none⟩ 1 1 [.string (s.extract f (i + 1))] rfl rfl (cells1_new _ _ 9) (fun u hu => by simp at hu; subst hu; rfl) (by unfold maxLen; omega) (by omega) (by simp; omega) ?_; intro v2 w2 hown2 hgrow2 _)
        have HO2 := Lib.hid hown2
        have HB2 := Lib.hid ((HBEL.out.alloc hws _).grown hgrow2 (by simp; omega) (fun k hk => (row_cells HOWN.out hk).1))
        clear hown2 hgrow2
        go_wp2_with fail
        go_roundw
        case rel => exact ⟨i + 1, i + 1, m + 1, _, by omega, by go_num, by go_num, Nat.le_refl _, .inl rfl, HN.out.symm, by omega, HB2.out, HO2.out⟩
        case measure => simp [intOf]; omega
      · obtain ⟨d1, d2⟩ := bqF 10 rfl e10
        have hn : nlc (dl s) (i + 1) = nlc (dl s) i := by unfold nlc; rw [htk, List.count_append, List.count_singleton, if_neg (by simpa using e10)]; rfl
        rw [← hm] at hn
        have HN := Lib.hid hn
        have HE : Hid (∃ h : i + 1 - 1 < s.size, 0 < i + 1 ∧ s[i + 1 - 1] ≠ 10) := Lib.hid ⟨by omega, by omega, e10⟩
        clear hbel hown htk e10 hn hm hfi
        go_wp2_with fail
        go_roundw
        case rel => exact ⟨i + 1, f, m, xs, by omega, by go_num, rfl, by omega, .inr HE.out, HN.out.symm, by omega, HBEL.out, HOWN.out⟩
        case measure => simp [intOf]; omega
    · obtain rfl : i = s.size := by omega
      have hlt' : ¬ (s.size : Int) < s.size := by omega
      have hff : f = s.size := by
        rcases hfi with h | ⟨h1, h2, h3⟩
        · exact h
        · rcases HEND.out with h | h
          · omega
          · rw [List.getLast?_eq_getElem?, ← size_dl, dl_get h1, Option.some.injEq] at h
            exact absurd h h3
      subst hff
      have HM := Lib.hid hm
      clear hbel hown hm hfi
      go_wp2_with fail
      go_ret
      exact ⟨⟨oa, oc, by rw [← HM.out]; rfl⟩, HBEL.out⟩
/-- The ranges so far: the last of them may go on. -/
def StI (mem : Nat → Bool) (n i : Nat) (R : List (Nat × Nat)) : Prop :=
  (∃ D f, R = D ++ [(f, i)] ∧ rgs mem none 0 n = D ++ rgs mem (some f) i (n - i)) ∨ ((∀ p, R.getLast? = some p → p.2 ≠ i ∧ p.2 ≤ i) ∧ rgs mem none 0 n = R ++ rgs mem none i (n - i))
theorem StI.no {mem : Nat → Bool} {n i : Nat} {R : List (Nat × Nat)} (h : StI mem n i R) (hi : i < n) (hm : mem i = false) : StI mem n (i + 1) R := by
  rcases h with ⟨D, f, rfl, h2⟩ | ⟨h1, h2⟩
  · refine .inr ⟨fun p hp => ?_, ?_⟩
    · simp at hp; subst hp; simp
    · rw [h2, rgs_step mem _ hi, hm, List.append_assoc]; rfl
  · refine .inr ⟨fun p hp => ?_, ?_⟩
    · have := h1 p hp; omega
    · rw [h2, rgs_step mem _ hi, hm]
theorem StI.go {mem : Nat → Bool} {n i f : Nat} {D : List (Nat × Nat)} (h : StI mem n i (D ++ [(f, i)])) (hi : i < n) (hm : mem i = true) : StI mem n (i + 1) (D ++ [(f, i + 1)]) := by
  rcases h with ⟨D', f', h1, h2⟩ | ⟨h1, h2⟩
  · obtain ⟨rfl, h3⟩ := List.append_inj' h1 rfl
    simp only [List.cons.injEq, Prod.mk.injEq, and_true] at h3
    subst h3
    exact .inl ⟨D, f, rfl, by rw [h2, rgs_step mem _ hi, hm]⟩
  · exact absurd rfl (h1 (f, i) (by simp)).1
theorem StI.new {mem : Nat → Bool} {n i : Nat} {R : List (Nat × Nat)} (h : StI mem n i R) (hi : i < n) (hm : mem i = true) (hl : ∀ p, R.getLast? = some p → p.2 ≠ i) : StI mem n (i + 1) (R ++ [(i, i + 1)]) := by
  rcases h with ⟨D, f, rfl, h2⟩ | ⟨h1, h2⟩
  · exact absurd rfl (hl (f, i) (by simp))
  · exact .inl ⟨R, i, rfl, by rw [h2, rgs_step mem _ hi, hm]⟩
theorem StI.fin {mem : Nat → Bool} {n : Nat} {R : List (Nat × Nat)} (h : StI mem n n R) : rgs mem none 0 n = R := by
  rcases h with ⟨D, f, rfl, h2⟩ | ⟨h1, h2⟩
  · rw [h2, Nat.sub_self]; rfl
  · rw [h2, Nat.sub_self]; simp [rgs]
theorem rg_flat (d : List (Nat × Nat)) (c : Nat × Nat) : ((d ++ [c]).flatMap rgC)[d.length * 2 + 1]? = some (.int .i64 c.2) := by
  have h1 := flat_get 2 rgC (fun _ => rfl) (d ++ [c]) d.length 1 (by simp) (by omega)
  rw [show (d ++ [c])[d.length]'(by simp) = c from by simp] at h1
  exact h1
set_option maxRecDepth 100000 in
set_option maxHeartbeats 8000000 in
theorem Rf.set (b n c : Nat) (mem : Nat → Bool) (w : World) (hb : BlkB w b n mem) (hn : n ≤ 1000000000) : Calls Tryz.prog 15 #[.slice (some ⟨b, 0, none⟩) n c] w (RgPost (rgs mem none 0 n) w) := by
  obtain ⟨cs, hcs, hcn, hcm⟩ := hb
  have hbl : b < w.heap.size := (Array.getElem?_eq_some_iff.1 hcs).1
  have HCS := Lib.hid hcs
  have HCM := Lib.hid hcm
  obtain ⟨i0, hi, hz0, hz1, hz2⟩ := info_parts info45
  have HI := Lib.hid hi
  have HZ0 := Lib.hid hz0
  have HZ1 := Lib.hid hz1
  have HZ2 := Lib.hid hz2
  obtain ⟨V, hV⟩ : ∃ V, rgs mem none 0 n = V := ⟨_, rfl⟩
  have HV := Lib.hid hV
  rw [hV]
  have hs0 : StI mem n 0 [] := .inr ⟨fun p hp => by simp at hp, by simp⟩
  have HS0 := Lib.hid hs0
  clear hcs hcm hcn hi hz0 hz1 hz2 hV hs0
  go_enter Tryz.func15, Tryz.ntmps15
  go_wp2_with fail
  go_loopw [3, 4] (fun s3 s4 wr => ∃ (i : Nat) (R : List (Nat × Nat)), i ≤ n ∧ s4 = .int .i64 i ∧ StI mem n i R ∧ R.length ≤ i ∧ Below w.heap.size w wr ∧ wr.ownsRow w.heap.size 45 2 s3 R.length (R.flatMap rgC)) (fun _ s4 _ => n - (intOf s4).toNat)
  case atStart => exact ⟨0, [], Nat.zero_le _, rfl, HS0.out, Nat.le_refl _, Below.refl _ _, World.ownsRow_nil _ _ _ _⟩
  case round =>
    clear HS0
    obtain ⟨i, R, hi, rfl, hst, hRi, hbel, hown⟩ := hrel
    obtain ⟨oa, oc, rfl⟩ := row_shape hown
    have hws := hbel.size
    have HBEL := Lib.hid hbel
    by_cases hlt : i < n
    · have hlt' : (i : Int) < n := by omega
      have hcell : wr.cell? ⟨b, i, none⟩ = some (.bool (mem i)) := by
        have h1 := heap_below hbel HCS.out hbl
        simp [World.cell?, h1, HCM.out i hlt]
      cases hm : mem i with
      | false =>
        rw [hm] at hcell
        have HST := Lib.hid (hst.no hlt hm)
        have HOWN := Lib.hid hown
        clear hst hown hbel hm
        go_wp2_with fail
        go_roundw
        case rel => exact ⟨i + 1, R, by omega, by go_num, HST.out, by omega, HBEL.out, HOWN.out⟩
        case measure => simp [intOf]; omega
      | true =>
        rw [hm] at hcell
        rcases last_cases R with rfl | ⟨D, ⟨f, q⟩, rfl⟩
        · have HST := Lib.hid (hst.new hlt hm (fun p hp => by simp at hp))
          have HOWN := Lib.hid hown
          simp only [List.length_nil] at *
          clear hst hown hbel hm
          go_wp2_with (at_builtin; refine wpList_append_own _ rfl _ _ 22 rfl w.heap.size 45 i0 (.agg #[.int .i64 0, .int .i64 0]) 2 16 Tryz.underlying22 HI.out HZ0.out HZ1.out HZ2.out rfl (by decide) _ 0 _ rfl (HOWN.out.alloc _) ⟨wr.heap.size, 0, none⟩ 1 1 [.int .i64 i, .int .i64 ((i : Int) + 1)] rfl rfl (two_cells _ _ _ 45) (fun u hu => by simp at hu; rcases hu with rfl | rfl <;> rfl) (by unfold maxLen; omega) (by omega) (by simp; omega) ?_; intro v2 w2 hown2 hgrow2 _)
          have HO2 := Lib.hid hown2
          have HB2 := Lib.hid ((HBEL.out.alloc hws _).grown hgrow2 (by simp; omega) (fun k hk => (row_cells HOWN.out hk).1))
          clear hown2 hgrow2
          go_wp2_with fail
          go_roundw
          case rel => exact ⟨i + 1, [] ++ [(i, i + 1)], by omega, by go_num, HST.out, by simp, HB2.out, HO2.out⟩
          case measure => simp [intOf]; omega
        · have hl : (D ++ [(f, q)]).length = D.length + 1 := by simp
          rw [hl] at hown hRi ⊢
          obtain ⟨G, rfl⟩ : ∃ G, oa = some ⟨G, 0, none⟩ := by
            rcases hown.2 with ⟨hv, hz⟩ | ⟨g, cap', cur, hv, _⟩
            · omega
            · simp only [Value.slice.injEq] at hv
              exact ⟨g, hv.1⟩
          obtain ⟨hBG, cur, hG⟩ := row_cells hown rfl
          have hBG : w.heap.size ≤ G := hBG
          have hG : wr.heap[G]? = some (.cells cur 45 (0, 0)) := hG
          have g1 : wr.cell? ⟨G, D.length * 2 + 1, none⟩ = some (.int .i64 q) := by rw [hown.cellAt _ (by omega), rg_flat]
          have fz : wr.frozen? ⟨G, D.length * 2 + 1, none⟩ = false := Lib.frozen_of_heap hG _
          have hGl : G < wr.heap.size := (Array.getElem?_eq_some_iff.1 hG).1
          have u1' : IntKind.i64.wrap (((D.length : Int) + 1) - 1) = (D.length : Int) := by rw [show ((D.length : Int) + 1) - 1 = D.length by omega]; exact IntWalk.i64_in _ (by omega)
          have hdn : (D.length : Int) < (D.length : Int) + 1 := by omega
          have hd1 : (0 : Int) < (D.length : Int) + 1 := by omega
          have w0' : (1 : Int) ≤ (D.length : Int) + 1 := by omega
          have HOWN := Lib.hid hown
          by_cases hq : q = i
          · subst hq
            have hqe : ((q : Int) == q) = true := by rw [beq_iff_eq]
            have HST := Lib.hid (hst.go hlt hm)
            clear hst hown hbel hm hl hG
            go_wp2_with fail
            go_roundw
            case rel =>
              have r1 := (HOWN.out.stored (D.length * 2 + 1) (.int .i64 ((q : Int) + 1))).1
              rw [flat_set 2 rgC (fun _ => rfl) D (f, q) [] 1 (by omega)] at r1
              have e1 : D.flatMap rgC ++ ((rgC (f, q)).set 1 (.int .i64 ((q : Int) + 1)) ++ ([] : List (Nat × Nat)).flatMap rgC) = (D ++ [(f, q + 1)]).flatMap rgC := by
                rw [List.flatMap_append]; rfl
              rw [e1] at r1
              refine ⟨q + 1, D ++ [(f, q + 1)], by omega, by go_num, HST.out, by rw [List.length_append, List.length_singleton]; omega, HBEL.out.setCell (p := ⟨G, D.length * 2 + 1, none⟩) hBG _, ?_⟩
              rw [List.length_append, List.length_singleton]
              exact r1
            case measure => simp [intOf]; omega
          · have hqe : ((q : Int) == i) = false := by rw [beq_eq_false_iff_ne]; omega
            have HST := Lib.hid (hst.new hlt hm (fun p hp => by simp at hp; subst hp; exact hq))
            clear hst hown hbel hm hl hG hq
            go_wp2_with (at_builtin; refine wpList_append_own _ rfl _ _ 22 rfl w.heap.size 45 i0 (.agg #[.int .i64 0, .int .i64 0]) 2 16 Tryz.underlying22 HI.out HZ0.out HZ1.out HZ2.out rfl (by decide) _ (D.length + 1) _ rfl (HOWN.out.alloc _) ⟨wr.heap.size, 0, none⟩ 1 1 [.int .i64 i, .int .i64 ((i : Int) + 1)] rfl rfl (two_cells _ _ _ 45) (fun u hu => by simp at hu; rcases hu with rfl | rfl <;> rfl) (by unfold maxLen; omega) (by omega) (by simp; omega) ?_; intro v2 w2 hown2 hgrow2 _)
            have HO2 := Lib.hid hown2
            have HB2 := Lib.hid ((HBEL.out.alloc hws _).grown hgrow2 (by simp; omega) (fun k hk => (row_cells HOWN.out hk).1))
            clear hown2 hgrow2
            go_wp2_with fail
            go_roundw
            case rel =>
              refine ⟨i + 1, (D ++ [(f, q)]) ++ [(i, i + 1)], by omega, by go_num, HST.out, by simp; omega, HB2.out, ?_⟩
              rw [List.flatMap_append, List.length_append, List.length_append, List.length_singleton]
              exact HO2.out
            case measure => simp [intOf]; omega
    · obtain rfl : i = n := by omega
      have hlt' : ¬ (i : Int) < i := by omega
      have hv := hst.fin
      rw [HV.out] at hv
      have HVR := Lib.hid hv
      have HOWN := Lib.hid hown
      clear hst hown hbel hv
      go_wp2_with fail
      go_ret
      exact ⟨_, rfl, by rw [HVR.out]; exact HOWN.out, HBEL.out⟩
end Go.Proofs.YtbnhefibpjldfaaGreatDoor

/- PyM -/
namespace Go.Proofs.YtbnhefibpjldfaaGreatDoor
open Go.RowKit Go.BigFrame Go.Shelf
set_option linter.unusedVariables false

theorem stood45 : Tryz.prog.stoodInHeld 45 = false := by kernel_rfl
theorem neq45 (w : World) (a b c d : Nat) : (binOp .neq 45 (.agg #[.int .i64 a, .int .i64 b]) (.agg #[.int .i64 c, .int .i64 d])).run Tryz.prog w = .ok (.bool (!(a == c && b == d))) w := by
  have hu := Tryz.underlying45
  have hs := stood45
  simp only [go_sem, hu, hs]
  simp [go_sem, hu, hs]
  by_cases h1 : a = c
  · by_cases h2 : b = d
    · simp_all
    · have h2' : ¬ ((b : Int) = d) := by omega
      simp_all
  · have h1' : ¬ ((a : Int) = c) := by omega
    simp_all
theorem rgC_len (g : Nat × Nat) : (rgC g).length = 2 := rfl
theorem CellsAt.get2 {w : World} {b o : Nat} {x y : Value} (h : CellsAt w b o [x, y]) : w.cell? ⟨b, o, none⟩ = some x ∧ w.cell? ⟨b, o + 1, none⟩ = some y := ⟨h 0 x rfl, h 1 y rfl⟩
theorem drop_eq_at {l m : List (Nat × Nat)} {i : Nat} (h : i < l.length) (h2 : i < m.length) : decide (l.drop i = m.drop i) = ((l[i].1 == m[i].1 && l[i].2 == m[i].2) && decide (l.drop (i + 1) = m.drop (i + 1))) := by
  rw [Bool.eq_iff_iff]
  simp only [decide_eq_true_eq, Bool.and_eq_true, beq_iff_eq]
  rw [List.drop_eq_getElem_cons h, List.drop_eq_getElem_cons h2, List.cons.injEq, Prod.ext_iff]
set_option maxRecDepth 100000 in
set_option maxHeartbeats 4000000 in
theorem Rf.sameR (a1 a2 : Option Addr) (c1 c2 : Nat) (l m : List (Nat × Nat)) (w : World) (hr1 : RowAt 2 rgC w a1 l) (hr2 : RowAt 2 rgC w a2 m) (hl : l.length ≤ 1000000000) (hm : m.length ≤ 1000000000) :
    Calls Tryz.prog 6 #[.slice a1 l.length c1, .slice a2 m.length c2] w fun e w' => e = .returned (.bool (decide (l = m))) ∧ Below w.heap.size w w' := by
  have HR1 := Lib.hid hr1
  have HR2 := Lib.hid hr2
  clear hr1 hr2
  by_cases hlen : l.length = m.length
  · have hne : ((l.length : Int) != m.length) = false := by rw [bne_eq_false_iff_eq]; omega
    obtain ⟨V, hV⟩ : ∃ V, decide (l = m) = V := ⟨_, rfl⟩
    rw [hV]
    have HV := Lib.hid (show V = decide (l.drop 0 = m.drop 0) from hV.symm)
    have HLEN := Lib.hid hlen
    clear hV
    go_enter Tryz.func6, Tryz.ntmps6
    go_wp2_with fail
    go_loopw [5] (fun s5 wr => ∃ (i : Nat), i ≤ l.length ∧ s5 = .int .i64 i ∧ V = decide (l.drop i = m.drop i) ∧ Below w.heap.size w wr) (fun s5 _ => l.length - (intOf s5).toNat)
    case atStart => exact ⟨0, Nat.zero_le _, rfl, HV.out, Below.refl _ _⟩
    case round =>
      obtain ⟨i, hi, rfl, hb, hbel⟩ := hrel
      by_cases hlt : i < l.length
      · have hlt2 : i < m.length := by omega
        obtain ⟨gb, go, rfl, hgb, hgc⟩ := HR1.out.at (by intro e; simp [e] at hlt)
        obtain ⟨kb, ko, rfl, hkb, hkc⟩ := HR2.out.at (by intro e; simp [e] at hlt2)
        obtain ⟨k0, k1⟩ := CellsAt.get2 ((hgc i hlt).below hbel hgb)
        obtain ⟨g0, g1⟩ := CellsAt.get2 ((hkc i hlt2).below hbel hkb)
        rw [drop_eq_at hlt hlt2] at hb
        have hlt' : (i : Int) < l.length := by omega
        have hlt2' : (i : Int) < m.length := by omega
        generalize l[i] = t at *
        generalize m[i] = u at *
        obtain ⟨x, y⟩ := t
        obtain ⟨x2, y2⟩ := u
        simp only at k0 k1 g0 g1 hb
        have HBEL := Lib.hid hbel
        obtain ⟨q, hq⟩ : ∃ q, (x == x2 && y == y2) = q := ⟨_, rfl⟩
        have NEQ := fun wx => neq45 wx x y x2 y2
        rw [hq] at hb NEQ
        have hws := hbel.size
        have hgw : gb < wr.heap.size := by omega
        have hkw : kb < wr.heap.size := by omega
        have HD : ∀ n, Below w.heap.size w (wr.drewN n) := fun n => HBEL.out.trans (below_drewN _ _ n)
        have HBB := Lib.hid HD
        have HB := Lib.hid hb
        clear hb hbel hgc hkc hq HD
        cases q with
        | true =>
          go_wp2_with fail
          go_quiet (fail)
          go_wp2_with fail
          go_roundw
          case rel => exact ⟨i + 1, by omega, by go_num, by rw [HB.out]; simp, HBB.out _⟩
          case measure => simp [intOf]; omega
        | false =>
          go_wp2_with fail
          go_quiet (fail)
          go_wp2_with fail
          go_ret
          exact ⟨by rw [HB.out]; rfl, HBB.out _⟩
      · obtain rfl : i = l.length := by omega
        rw [List.drop_length, hlen, List.drop_length] at hb
        have HB := Lib.hid hb
        have HBEL := Lib.hid hbel
        clear hb hbel
        go_wp2_with fail
        go_ret
        exact ⟨by rw [HB.out]; rfl, HBEL.out⟩
  · have hne : ((l.length : Int) != m.length) = true := by rw [bne_iff_ne]; omega
    have hv : decide (l = m) = false := by rw [decide_eq_false_iff_not]; intro e; rw [e] at hlen; exact hlen rfl
    rw [hv]
    clear hlen hv
    go_enter Tryz.func6, Tryz.ntmps6
    go_wp2_with fail
    go_ret
    exact ⟨rfl, Below.refl _ _⟩
end Go.Proofs.YtbnhefibpjldfaaGreatDoor

/- scan: One of a block; Bare. -/
import Derived.Test.YtbnhefibpjldfaaGreatDoorPwO
import Derived.Test.YtbnhefibpjldfaaGreatDoorPwP
namespace Go.Proofs.YtbnhefibpjldfaaGreatDoor
open Go.RowKit Go.BigFrame Go.Shelf
set_option linter.unusedVariables false
attribute [local go_sem] Oper.semAt_some

/-- Amid One: how many items, and of which kind. -/
def OnI (s : ByteArray) (w W0 : World) (pre : List It) (W : World) : Prop :=
  W.heap[w.heap.size + 1]? = some (.cells #[.int .i64 (if pre = [] then 0 else 8 : Nat)] 3 (0, 0)) ∧ W.heap[w.heap.size + 2]? = some (.cells #[.int .i64 pre.length] 3 (0, 0)) ∧ KT Tk4 W0 W ∧ Below w.heap.size w W
set_option maxRecDepth 100000 in
set_option maxHeartbeats 8000000 in
theorem Sc.one (s : ByteArray) (w : World) (hs : s.size ≤ 1000000000) (hits : its (dl s) 0 0 = [⟨8, 0, s.size, 0⟩]) (hm : Mx w) : Calls Tryz.prog 101 #[.string s] w fun e w' => e = .returned (.tuple #[.int .i64 8, .bool true]) ∧ Below w.heap.size w w' := by
  obtain ⟨W0, hW0⟩ : ∃ W0, W0 = (((w.alloc (.cells #[.string s] 9)).alloc (.cells #[.int .i64 0] 3)).alloc (.cells #[.int .i64 0] 3)).alloc (.cells #[.string s] 9) := ⟨_, rfl⟩
  have hs0 : W0.heap.size = w.heap.size + 4 := by rw [hW0]; simp
  have hb0 : Below w.heap.size w W0 := by rw [hW0]; exact ((((Below.refl _ _).alloc (Nat.le_refl _) _).alloc (by simp) _).alloc (by simp; omega) _).alloc (by simp; omega) _
  have e0 : W0.heap[w.heap.size]? = some (.cells #[.string s] 9 (0, 0)) := by
    rw [hW0]; exact heap_alloc_old' _ (heap_alloc_old' _ (heap_alloc_old' _ (heap_alloc_new _ _)))
  have e1 : W0.heap[w.heap.size + 1]? = some (.cells #[.int .i64 0] 3 (0, 0)) := by
    have := heap_alloc_new (w.alloc (.cells #[.string s] 9)) (.cells #[.int .i64 0] 3)
    rw [hW0]; exact heap_alloc_old' _ (heap_alloc_old' _ (by simpa using this))
  have e2 : W0.heap[w.heap.size + 2]? = some (.cells #[.int .i64 0] 3 (0, 0)) := by
    have := heap_alloc_new ((w.alloc (.cells #[.string s] 9)).alloc (.cells #[.int .i64 0] 3)) (.cells #[.int .i64 0] 3)
    rw [hW0]; exact heap_alloc_old' _ (by simpa using this)
  have e3 : W0.heap[w.heap.size + 3]? = some (.cells #[.string s] 9 (0, 0)) := by
    have := heap_alloc_new (((w.alloc (.cells #[.string s] 9)).alloc (.cells #[.int .i64 0] 3)).alloc (.cells #[.int .i64 0] 3)) (.cells #[.string s] 9)
    rw [hW0]; simpa using this
  have hseq := Sc.seq 4 (w.heap.size + 3) s W0 e3 hs (hm.of hb0 hm.pos)
  have hI0 : OnI s w W0 [] W0 := ⟨e1, e2, KT.refl _ _, hb0⟩
  have HSEQ := Lib.hid hseq
  have HS0 := Lib.hid hs0
  have HI0 := Lib.hid hI0
  have HW0 := Lib.hid hW0
  have HE0 := Lib.hid e0
  have HITS := Lib.hid hits
  have hmp := hm.pos
  clear hW0 hs0 hb0 e0 e1 e2 e3 hseq hI0 hits hm
  refine (callsIn_wide (n := 5)).1 ?_
  refine callsIn_of_wp_marks Tryz.func101 rfl trivial ?_ rfl
  simp only [Tryz.ntmps101, List.size_toArray, List.length_cons, List.length_nil, Nat.reduceAdd, Nat.reduceSub, Array.replicate_succ, Array.replicate_zero, List.push_toArray, List.append_toArray, List.nil_append, List.cons_append]
  gi_wp2_with (fail)
  refine wpIn_wide.2 (wp_scope_straight ((wpIn_wide (n := 5)).1 ?_))
  gi_wp2_with (fail)
  refine wpIn_label ?_
  gi_wp2_with (fail)
  refine ⟨trivial, ?_⟩
  refine (callsIn_wide.2 (Sc.items s _)).mono ?_
  rintro e w2 ⟨rfl, rfl⟩
  rw [← HW0.out]
  gi_wp2_with (fail)
  refine wpIn_rangeFunc_asg rfl (by omega) (gf := 59) (lb := #[.pointer (some ⟨w.heap.size + 1 + 1 + 1, 0, none⟩)]) rfl trivial (enters_of Tryz.func59 (by kernel_rfl) rfl)
    HSEQ.out (fun k hk => hk.elim) (fun h k => h.trans k) (fun W l o o' hl hW ho _ => KM.putObj hW ho) (Below.refl _ _) (fun _ => rfl)
    (OnI s w W0) (fun _ _ _ => False)
    (fun t A B ⟨h1, h2, h3, h4⟩ hm => by
      have hs0 := HS0.out
      have hm' : Mod (fun k => W0.heap.size ≤ k ∧ nc A k) A B := hm.mono (fun k _ hk => hk.elim (fun h => h.elim) id)
      exact ⟨hm'.keep h1 (fun hk => by have := hk.1; omega), hm'.keep h2 (fun hk => by have := hk.1; omega), h3.trans (KT.of_nc hm'), h4.trans (hm'.below (by have := h4.size; omega) (fun k hk => by have := hk.1; omega))⟩)
    (fun c t A B h _ => h)
    HI0.out
    (fun (x : It) a' W => ∃ b, W.heap[b]? = some (.cells #[.int .i64 x.k, .int .i64 x.a, .int .i64 x.b] 66 (0, 0)) ∧
      a' = { tmps := #[.string s, .pointer (some ⟨w.heap.size, 0, none⟩), .int .i64 0, .bool false, .pointer (some ⟨w.heap.size + 1, 0, none⟩), .pointer (some ⟨w.heap.size + 1 + 1, 0, none⟩), .pointer (some ⟨b, 0, none⟩), .int .i64 x.e, .string s, .func (.func 59) #[] #[.pointer (some ⟨w.heap.size + 1 + 1 + 1, 0, none⟩)], itV x.k x.a x.b, .int .i64 x.e, undef, undef, undef, undef, undef, undef, undef, undef, undef, undef, undef, undef, undef, undef, undef, undef, undef, undef, undef], defers := [] })
    (fun h => KM.of_below h)
    (fun p a' W l o o' hl ho ⟨b, hb, ha⟩ => ⟨b, by
      rw [World.putObj_heap_other (fun e => by
        subst e
        rw [hl] at hb
        cases hb
        cases ho)]
      exact hb, ha⟩)
    ?assign ?body ?done ?stop
  case assign =>
    intro l z W K hK
    gi_wp2
    exact hK _ _ (below_alloc W _) ⟨W.heap.size, heap_alloc_new _ _, rfl⟩
  case body =>
    rintro l pre x a' W ⟨h1, h2, h3, h4⟩ ⟨r, hr⟩ ⟨b, hb, rfl⟩
    rw [HITS.out] at hr
    obtain ⟨rfl, rfl⟩ : pre = [] ∧ x = ⟨8, 0, s.size, 0⟩ := by
      cases pre with
      | nil => injection hr with q1 q2; exact ⟨rfl, q1.symm⟩
      | cons p q => simp at hr
    simp only at hb
    have hs2 := h3.2 _ _ _ _ (show Tk4 9 = true from rfl) HE0.out
    have b0 : W.cell? ⟨b, 0, none⟩ = some (.int .i64 8) := by simp [World.cell?, hb]
    have b1 : W.cell? ⟨b, 1, none⟩ = some (.int .i64 0) := by simp [World.cell?, hb]
    have b2 : W.cell? ⟨b, 2, none⟩ = some (.int .i64 s.size) := by simp [World.cell?, hb]
    have c0 : W.cell? ⟨w.heap.size, 0, none⟩ = some (.string s) := by simp [World.cell?, hs2]
    have c1 : W.cell? ⟨w.heap.size + 1, 0, none⟩ = some (.int .i64 0) := by simp [World.cell?, h1]
    have c2 : W.cell? ⟨w.heap.size + 1 + 1, 0, none⟩ = some (.int .i64 0) := by simp [World.cell?, h2]
    have f1 : W.frozen? ⟨w.heap.size + 1, 0, none⟩ = false := Lib.frozen_of_heap h1 0
    have f2 : W.frozen? ⟨w.heap.size + 1 + 1, 0, none⟩ = false := Lib.frozen_of_heap h2 0
    have H1 := Lib.hid h1
    have H2 := Lib.hid h2
    have H3 := Lib.hid h3
    have H4 := Lib.hid h4
    clear h1 h2 h3 h4 hr hb hs2
    gi_wp2_with (fail)
    have g1 := heap_setCell_same W (w.heap.size + 1) 0 _ _ (.int .i64 8) H1.out
    have g2 : (W.setCell ⟨w.heap.size + 1, 0, none⟩ (.int .i64 8)).heap[w.heap.size + 2]? = _ := (Below.heap_setCell _ _ _ _ (by simp)).trans H2.out
    have g3 := heap_setCell_same _ (w.heap.size + 2) 0 _ _ (.int .i64 1) g2
    refine ⟨(KeepsFrom.of_cells H1.out _).trans (KeepsFrom.of_cells g2 _), (KM.set H1.out rfl (by omega) _ _).trans (KM.set g2 rfl (by omega) _ _), ?_, by simpa using g3, (H3.out.set H1.out rfl _ _).set g2 rfl _ _, (H4.out.setCell (p := ⟨w.heap.size + 1, 0, none⟩) (by simp) _).setCell (p := ⟨w.heap.size + 2, 0, none⟩) (by simp) _⟩
    exact (Below.heap_setCell _ _ _ _ (by simp)).trans (by simpa using g1)
  case done =>
    rintro Dd zs W hD hzs ⟨h1, h2, h3, h4⟩ hK
    rw [HITS.out] at hzs
    subst hzs
    have c1 : W.cell? ⟨w.heap.size + 1, 0, none⟩ = some (.int .i64 8) := by simp [World.cell?, h1]
    have c2 : W.cell? ⟨w.heap.size + 1 + 1, 0, none⟩ = some (.int .i64 1) := by simp [World.cell?, h2]
    have H4 := Lib.hid h4
    have HK := Lib.hid hK
    clear h1 h2 h3 h4 hK
    gi_wp2_with (fail)
    rw [Exit.noGoto_ret]
    refine ⟨by simp, .inl ⟨_, _, rfl, run_takeDeferred HK.out, ?_⟩⟩
    exact ⟨.tuple #[.int .i64 8, .bool true], by simp [results, Tryz.results101, go_sem], rfl, H4.out.trans (below_put (by have := HS0.out; omega) HK.out)⟩
  case stop =>
    rintro Dd c pre W hD _ h _
    exact h.elim
end Go.Proofs.YtbnhefibpjldfaaGreatDoor

/- PwR -/
namespace Go.Proofs.YtbnhefibpjldfaaGreatDoor
open Go.RowKit Go.BigFrame Go.Shelf
set_option linter.unusedVariables false

theorem CellsAt.get5 {w : World} {b o : Nat} {x y z u v : Value} (h : CellsAt w b o [x, y, z, u, v]) : w.cell? ⟨b, o, none⟩ = some x ∧ w.cell? ⟨b, o + 1, none⟩ = some y ∧ w.cell? ⟨b, o + 2, none⟩ = some z ∧ w.cell? ⟨b, o + 3, none⟩ = some u ∧ w.cell? ⟨b, o + 4, none⟩ = some v :=
  ⟨h 0 x rfl, h 1 y rfl, h 2 z rfl, h 3 u rfl, h 4 v rfl⟩
theorem five_cells (w : World) (p q r s t : Value) (ty : TypeId) : ∀ j u, [p, q, r, s, t][j]? = some u → (w.alloc (.cells #[p, q, r, s, t] ty)).cell? ((⟨w.heap.size, 0, none⟩ : Addr).add j) = some u := by
  intro j u hj
  match j, hj with
  | 0, hj => simp at hj; subst hj; simp [Addr.add]
  | 1, hj => simp at hj; subst hj; simp [Addr.add]
  | 2, hj => simp at hj; subst hj; simp [Addr.add]
  | 3, hj => simp at hj; subst hj; simp [Addr.add]
  | 4, hj => simp at hj; subst hj; simp [Addr.add]
theorem bareD_at {l : List Tk} {i : Nat} (h : i < l.length) (d : Bool) : bareD d (l.drop i) = if l[i].kind = 8 ∨ l[i].kind = 9 then bareD true (l.drop (i + 1)) else { l[i] with space := l[i].space || d } :: bareD false (l.drop (i + 1)) := by
  rw [List.drop_eq_getElem_cons h, bareD]
def BarePost (l : List Tk) (w : World) (e : Ending) (w' : World) : Prop := ∃ v, e = .returned v ∧ w'.ownsRow w.heap.size 40 5 v (bare l).length ((bare l).flatMap tkC) ∧ Below w.heap.size w w'
set_option maxRecDepth 100000 in
set_option maxHeartbeats 8000000 in
theorem Sc.bare (a : Option Addr) (c : Nat) (l : List Tk) (w : World) (hr : RowAt 5 tkC w a l) (hl : l.length ≤ 1000000000) : Calls Tryz.prog 77 #[.slice a l.length c] w (BarePost l w) := by
  have HROW := Lib.hid hr
  obtain ⟨i0, hi, hz0, hz1, hz2⟩ := info_parts info40
  have HI := Lib.hid hi
  have HZ0 := Lib.hid hz0
  have HZ1 := Lib.hid hz1
  have HZ2 := Lib.hid hz2
  clear hi hz0 hz1 hz2 hr
  go_enter Tryz.func77, Tryz.ntmps77
  go_wp2_with fail
  go_step3
  go_wp2_with fail
  go_step3
  go_wp2_with fail
  go_loopw [3, 4, 9] (fun s3 s4 s9 wr => ∃ (i : Nat) (d : Bool) (acc : List Tk), i ≤ l.length ∧ s9 = .int .i64 i ∧ s4 = .bool d ∧ YtbnhefibpjldfaaGreatDoor.bare l = acc ++ bareD d (l.drop i) ∧ Below w.heap.size w wr ∧ wr.ownsRow w.heap.size 40 5 s3 acc.length (acc.flatMap tkC) ∧ acc.length ≤ i) (fun _ _ s9 _ => l.length - (intOf s9).toNat)
  case atStart => exact ⟨0, false, [], Nat.zero_le _, rfl, rfl, rfl, Below.refl _ _, World.ownsRow_nil _ _ _ _, Nat.le_refl _⟩
  case round =>
    obtain ⟨i, d, acc, hi, rfl, rfl, hb, hbel, hown, hal⟩ := hrel
    obtain ⟨oa, oc, rfl⟩ := row_shape hown
    by_cases hlt : i < l.length
    · obtain ⟨gb, go, rfl, hgb, hgc⟩ := HROW.out.at (by intro e; simp [e] at hlt)
      obtain ⟨k0, k1, k2, k3, k4⟩ := CellsAt.get5 ((hgc i hlt).below hbel hgb)
      rw [bareD_at hlt] at hb
      have hlt' : (i : Int) < l.length := by omega
      generalize l[i] = t at *
      obtain ⟨kd, tx, lo, hi', sp⟩ := t
      simp only at k0 k1 k2 k3 k4 hb
      have HBEL := Lib.hid hbel
      have HOWN := Lib.hid hown
      have hws := hbel.size
      by_cases h8 : kd = 8
      · subst h8
        rw [if_pos (.inl rfl)] at hb
        have HB := Lib.hid hb
        clear hb hbel hown hgc
        go_wp2_with fail
        go_roundw
        case rel => exact ⟨i + 1, true, acc, by omega, by go_num, rfl, HB.out, HBEL.out.trans ((below_alloc _ _).mono hws), HOWN.out.alloc _, by omega⟩
        case measure => simp [intOf]; omega
      by_cases h9 : kd = 9
      · subst h9
        rw [if_pos (.inr rfl)] at hb
        have HB := Lib.hid hb
        clear hb hbel hown hgc
        go_wp2_with fail
        go_roundw
        case rel => exact ⟨i + 1, true, acc, by omega, by go_num, rfl, HB.out, HBEL.out.trans ((below_alloc _ _).mono hws), HOWN.out.alloc _, by omega⟩
        case measure => simp [intOf]; omega
      · rw [if_neg (by omega)] at hb
        have h8' : ((kd : Int) == 8) = false := by rw [beq_eq_false_iff_ne]; omega
        have h9' : ((kd : Int) == 9) = false := by rw [beq_eq_false_iff_ne]; omega
        obtain ⟨sq, hsq⟩ : ∃ sq, (sp || d) = sq := ⟨_, rfl⟩
        rw [hsq] at hb
        have HB := Lib.hid hb
        have HSQ := Lib.hid hsq
        clear hb hbel hown hgc h8 h9 hsq
        cases sp
        · have e := HSQ.out
          simp only [Bool.false_or] at e
          subst e
          go_wp2_with (at_builtin; refine wpList_append_own _ rfl _ _ 30 rfl w.heap.size 40 i0 (.agg #[.int .i64 0, .string ⟨#[]⟩, .int .i64 0, .int .i64 0, .bool false]) 5 48 Tryz.underlying30 HI.out HZ0.out HZ1.out HZ2.out rfl (by decide) _ acc.length _ rfl ((HOWN.out.alloc _).alloc _) ⟨wr.heap.size + 1, 0, none⟩ 1 1 [.int .i64 kd, .string (str tx), .int .i64 lo, .int .i64 hi', .bool d] rfl rfl (by simpa using five_cells (wr.alloc (.cells #[.int .i64 kd, .string (str tx), .int .i64 lo, .int .i64 hi', .bool d] 40)) (.int .i64 kd) (.string (str tx)) (.int .i64 lo) (.int .i64 hi') (.bool d) 40) (fun u hu => by simp at hu; rcases hu with rfl | rfl | rfl | rfl | rfl <;> rfl) (by unfold maxLen; omega) (by omega) (by simp; omega) ?_; intro v' w1 hown' hgrow _)
          have HOWN' := Lib.hid hown'
          have HBE' := Lib.hid (((HBEL.out.alloc hws (.cells #[.int .i64 kd, .string (str tx), .int .i64 lo, .int .i64 hi', .bool d] 40)).alloc (by simp; omega) (.cells #[.int .i64 kd, .string (str tx), .int .i64 lo, .int .i64 hi', .bool d] 40)).grown hgrow (by simp; omega) (fun k hk => (row_cells HOWN.out hk).1))
          clear hown' hgrow
          go_wp2_with fail
          go_roundw
          case rel =>
            refine ⟨i + 1, false, acc ++ [⟨kd, tx, lo, hi', d⟩], by omega, by go_num, rfl, by rw [HB.out, List.append_assoc]; rfl, HBE'.out, ?_, by simp; omega⟩
            have h := HOWN'.out
            rw [List.flatMap_append, List.length_append]
            simpa [tkC] using h
          case measure => simp [intOf]; omega
        · have e := HSQ.out
          simp only [Bool.true_or] at e
          subst e
          go_wp2_with (at_builtin; refine wpList_append_own _ rfl _ _ 30 rfl w.heap.size 40 i0 (.agg #[.int .i64 0, .string ⟨#[]⟩, .int .i64 0, .int .i64 0, .bool false]) 5 48 Tryz.underlying30 HI.out HZ0.out HZ1.out HZ2.out rfl (by decide) _ acc.length _ rfl ((HOWN.out.alloc _).alloc _) ⟨wr.heap.size + 1, 0, none⟩ 1 1 [.int .i64 kd, .string (str tx), .int .i64 lo, .int .i64 hi', .bool true] rfl rfl (by simpa using five_cells (wr.alloc (.cells #[.int .i64 kd, .string (str tx), .int .i64 lo, .int .i64 hi', .bool true] 40)) (.int .i64 kd) (.string (str tx)) (.int .i64 lo) (.int .i64 hi') (.bool true) 40) (fun u hu => by simp at hu; rcases hu with rfl | rfl | rfl | rfl | rfl <;> rfl) (by unfold maxLen; omega) (by omega) (by simp; omega) ?_; intro v' w1 hown' hgrow _)
          have HOWN' := Lib.hid hown'
          have HBE' := Lib.hid (((HBEL.out.alloc hws (.cells #[.int .i64 kd, .string (str tx), .int .i64 lo, .int .i64 hi', .bool true] 40)).alloc (by simp; omega) (.cells #[.int .i64 kd, .string (str tx), .int .i64 lo, .int .i64 hi', .bool true] 40)).grown hgrow (by simp; omega) (fun k hk => (row_cells HOWN.out hk).1))
          clear hown' hgrow
          go_wp2_with fail
          go_roundw
          case rel =>
            refine ⟨i + 1, false, acc ++ [⟨kd, tx, lo, hi', true⟩], by omega, by go_num, rfl, by rw [HB.out, List.append_assoc]; rfl, HBE'.out, ?_, by simp; omega⟩
            have h := HOWN'.out
            rw [List.flatMap_append, List.length_append]
            simpa [tkC] using h
          case measure => simp [intOf]; omega
    · obtain rfl : i = l.length := by omega
      rw [List.drop_length] at hb
      have HB := Lib.hid hb
      have HBEL := Lib.hid hbel
      have HOWN := Lib.hid hown
      clear hb hbel hown
      go_wp2_with fail
      rw [Exit.noGoto_ret]
      go_ret
      refine ⟨_, rfl, ?_, HBEL.out⟩
      have h := HB.out
      simp only [bareD, List.append_nil] at h
      rw [h]
      exact HOWN.out
end Go.Proofs.YtbnhefibpjldfaaGreatDoor

/- scan: One of a block; Bare. -/
import Derived.Test.YtbnhefibpjldfaaGreatDoorPwO
import Derived.Test.YtbnhefibpjldfaaGreatDoorPwP
namespace Go.Proofs.YtbnhefibpjldfaaGreatDoor
open Go.RowKit Go.BigFrame Go.Shelf
set_option linter.unusedVariables false
attribute [local go_sem] Oper.semAt_some

/-- Amid One: how many items, and of which kind. -/
def OnI (s : ByteArray) (w W0 : World) (pre : List It) (W : World) : Prop :=
  W.heap[w.heap.size + 1]? = some (.cells #[.int .i64 (if pre = [] then 0 else 8 : Nat)] 3 (0, 0)) ∧ W.heap[w.heap.size + 2]? = some (.cells #[.int .i64 pre.length] 3 (0, 0)) ∧ KT Tk4 W0 W ∧ Below w.heap.size w W
set_option maxRecDepth 100000 in
set_option maxHeartbeats 8000000 in
theorem Sc.one (s : ByteArray) (w : World) (hs : s.size ≤ 1000000000) (hits : its (dl s) 0 0 = [⟨8, 0, s.size, 0⟩]) (hm : Mx w) : Calls Tryz.prog 101 #[.string s] w fun e w' => e = .returned (.tuple #[.int .i64 8, .bool true]) ∧ Below w.heap.size w w' := by
  obtain ⟨W0, hW0⟩ : ∃ W0, W0 = (((w.alloc (.cells #[.string s] 9)).alloc (.cells #[.int .i64 0] 3)).alloc (.cells #[.int .i64 0] 3)).alloc (.cells #[.string s] 9) := ⟨_, rfl⟩
  have hs0 : W0.heap.size = w.heap.size + 4 := by rw [hW0]; simp
  have hb0 : Below w.heap.size w W0 := by rw [hW0]; exact ((((Below.refl _ _).alloc (Nat.le_refl _) _).alloc (by simp) _).alloc (by simp; omega) _).alloc (by simp; omega) _
  have e0 : W0.heap[w.heap.size]? = some (.cells #[.string s] 9 (0, 0)) := by
    rw [hW0]; exact heap_alloc_old' _ (heap_alloc_old' _ (heap_alloc_old' _ (heap_alloc_new _ _)))
  have e1 : W0.heap[w.heap.size + 1]? = some (.cells #[.int .i64 0] 3 (0, 0)) := by
    have := heap_alloc_new (w.alloc (.cells #[.string s] 9)) (.cells #[.int .i64 0] 3)
    rw [hW0]; exact heap_alloc_old' _ (heap_alloc_old' _ (by simpa using this))
  have e2 : W0.heap[w.heap.size + 2]? = some (.cells #[.int .i64 0] 3 (0, 0)) := by
    have := heap_alloc_new ((w.alloc (.cells #[.string s] 9)).alloc (.cells #[.int .i64 0] 3)) (.cells #[.int .i64 0] 3)
    rw [hW0]; exact heap_alloc_old' _ (by simpa using this)
  have e3 : W0.heap[w.heap.size + 3]? = some (.cells #[.string s] 9 (0, 0)) := by
    have := heap_alloc_new (((w.alloc (.cells #[.string s] 9)).alloc (.cells #[.int .i64 0] 3)).alloc (.cells #[.int .i64 0] 3)) (.cells #[.string s] 9)
    rw [hW0]; simpa using this
  have hseq := Sc.seq 4 (w.heap.size + 3) s W0 e3 hs (hm.of hb0 hm.pos)
  have hI0 : OnI s w W0 [] W0 := ⟨e1, e2, KT.refl _ _, hb0⟩
  have HSEQ := Lib.hid hseq
  have HS0 := Lib.hid hs0
  have HI0 := Lib.hid hI0
  have HW0 := Lib.hid hW0
  have HE0 := Lib.hid e0
  have HITS := Lib.hid hits
  have hmp := hm.pos
  clear hW0 hs0 hb0 e0 e1 e2 e3 hseq hI0 hits hm
  refine (callsIn_wide (n := 5)).1 ?_
  refine callsIn_of_wp_marks Tryz.func101 rfl trivial ?_ rfl
  simp only [Tryz.ntmps101, List.size_toArray, List.length_cons, List.length_nil, Nat.reduceAdd, Nat.reduceSub, Array.replicate_succ, Array.replicate_zero, List.push_toArray, List.append_toArray, List.nil_append, List.cons_append]
  gi_wp2_with (fail)
  refine wpIn_wide.2 (wp_scope_straight ((wpIn_wide (n := 5)).1 ?_))
  gi_wp2_with (fail)
  refine wpIn_label ?_
  gi_wp2_with (fail)
  refine ⟨trivial, ?_⟩
  refine (callsIn_wide.2 (Sc.items s _)).mono ?_
  rintro e w2 ⟨rfl, rfl⟩
  rw [← HW0.out]
  gi_wp2_with (fail)
  refine wpIn_rangeFunc_asg rfl (by omega) (gf := 59) (lb := #[.pointer (some ⟨w.heap.size + 1 + 1 + 1, 0, none⟩)]) rfl trivial (enters_of Tryz.func59 (by kernel_rfl) rfl)
    HSEQ.out (fun k hk => hk.elim) (fun h k => h.trans k) (fun W l o o' hl hW ho _ => KM.putObj hW ho) (Below.refl _ _) (fun _ => rfl)
    (OnI s w W0) (fun _ _ _ => False)
    (fun t A B ⟨h1, h2, h3, h4⟩ hm => by
      have hs0 := HS0.out
      have hm' : Mod (fun k => W0.heap.size ≤ k ∧ nc A k) A B := hm.mono (fun k _ hk => hk.elim (fun h => h.elim) id)
      exact ⟨hm'.keep h1 (fun hk => by have := hk.1; omega), hm'.keep h2 (fun hk => by have := hk.1; omega), h3.trans (KT.of_nc hm'), h4.trans (hm'.below (by have := h4.size; omega) (fun k hk => by have := hk.1; omega))⟩)
    (fun c t A B h _ => h)
    HI0.out
    (fun (x : It) a' W => ∃ b, W.heap[b]? = some (.cells #[.int .i64 x.k, .int .i64 x.a, .int .i64 x.b] 66 (0, 0)) ∧
      a' = { tmps := #[.string s, .pointer (some ⟨w.heap.size, 0, none⟩), .int .i64 0, .bool false, .pointer (some ⟨w.heap.size + 1, 0, none⟩), .pointer (some ⟨w.heap.size + 1 + 1, 0, none⟩), .pointer (some ⟨b, 0, none⟩), .int .i64 x.e, .string s, .func (.func 59) #[] #[.pointer (some ⟨w.heap.size + 1 + 1 + 1, 0, none⟩)], itV x.k x.a x.b, .int .i64 x.e, undef, undef, undef, undef, undef, undef, undef, undef, undef, undef, undef, undef, undef, undef, undef, undef, undef, undef, undef], defers := [] })
    (fun h => KM.of_below h)
    (fun p a' W l o o' hl ho ⟨b, hb, ha⟩ => ⟨b, by
      rw [World.putObj_heap_other (fun e => by
        subst e
        rw [hl] at hb
        cases hb
        cases ho)]
      exact hb, ha⟩)
    ?assign ?body ?done ?stop
  case assign =>
    intro l z W K hK
    gi_wp2
    exact hK _ _ (below_alloc W _) ⟨W.heap.size, heap_alloc_new _ _, rfl⟩
  case body =>
    rintro l pre x a' W ⟨h1, h2, h3, h4⟩ ⟨r, hr⟩ ⟨b, hb, rfl⟩
    rw [HITS.out] at hr
    obtain ⟨rfl, rfl⟩ : pre = [] ∧ x = ⟨8, 0, s.size, 0⟩ := by
      cases pre with
      | nil => injection hr with q1 q2; exact ⟨rfl, q1.symm⟩
      | cons p q => simp at hr
    simp only at hb
    have hs2 := h3.2 _ _ _ _ (show Tk4 9 = true from rfl) HE0.out
    have b0 : W.cell? ⟨b, 0, none⟩ = some (.int .i64 8) := by simp [World.cell?, hb]
    have b1 : W.cell? ⟨b, 1, none⟩ = some (.int .i64 0) := by simp [World.cell?, hb]
    have b2 : W.cell? ⟨b, 2, none⟩ = some (.int .i64 s.size) := by simp [World.cell?, hb]
    have c0 : W.cell? ⟨w.heap.size, 0, none⟩ = some (.string s) := by simp [World.cell?, hs2]
    have c1 : W.cell? ⟨w.heap.size + 1, 0, none⟩ = some (.int .i64 0) := by simp [World.cell?, h1]
    have c2 : W.cell? ⟨w.heap.size + 1 + 1, 0, none⟩ = some (.int .i64 0) := by simp [World.cell?, h2]
    have f1 : W.frozen? ⟨w.heap.size + 1, 0, none⟩ = false := Lib.frozen_of_heap h1 0
    have f2 : W.frozen? ⟨w.heap.size + 1 + 1, 0, none⟩ = false := Lib.frozen_of_heap h2 0
    have H1 := Lib.hid h1
    have H2 := Lib.hid h2
    have H3 := Lib.hid h3
    have H4 := Lib.hid h4
    clear h1 h2 h3 h4 hr hb hs2
    gi_wp2_with (fail)
    have g1 := heap_setCell_same W (w.heap.size + 1) 0 _ _ (.int .i64 8) H1.out
    have g2 : (W.setCell ⟨w.heap.size + 1, 0, none⟩ (.int .i64 8)).heap[w.heap.size + 2]? = _ := (Below.heap_setCell _ _ _ _ (by simp)).trans H2.out
    have g3 := heap_setCell_same _ (w.heap.size + 2) 0 _ _ (.int .i64 1) g2
    refine ⟨(KeepsFrom.of_cells H1.out _).trans (KeepsFrom.of_cells g2 _), (KM.set H1.out rfl (by omega) _ _).trans (KM.set g2 rfl (by omega) _ _), ?_, by simpa using g3, (H3.out.set H1.out rfl _ _).set g2 rfl _ _, (H4.out.setCell (p := ⟨w.heap.size + 1, 0, none⟩) (by simp) _).setCell (p := ⟨w.heap.size + 2, 0, none⟩) (by simp) _⟩
    exact (Below.heap_setCell _ _ _ _ (by simp)).trans (by simpa using g1)
  case done =>
    rintro Dd zs W hD hzs ⟨h1, h2, h3, h4⟩ hK
    rw [HITS.out] at hzs
    subst hzs
    have c1 : W.cell? ⟨w.heap.size + 1, 0, none⟩ = some (.int .i64 8) := by simp [World.cell?, h1]
    have c2 : W.cell? ⟨w.heap.size + 1 + 1, 0, none⟩ = some (.int .i64 1) := by simp [World.cell?, h2]
    have H4 := Lib.hid h4
    have HK := Lib.hid hK
    clear h1 h2 h3 h4 hK
    gi_wp2_with (fail)
    rw [Exit.noGoto_ret]
    refine ⟨by simp, .inl ⟨_, _, rfl, run_takeDeferred HK.out, ?_⟩⟩
    exact ⟨.tuple #[.int .i64 8, .bool true], by simp [results, Tryz.results101, go_sem], rfl, H4.out.trans (below_put (by have := HS0.out; omega) HK.out)⟩
  case stop =>
    rintro Dd c pre W hD _ h _
    exact h.elim
end Go.Proofs.YtbnhefibpjldfaaGreatDoor

/- PwR -/
namespace Go.Proofs.YtbnhefibpjldfaaGreatDoor
open Go.RowKit Go.BigFrame Go.Shelf
set_option linter.unusedVariables false

theorem CellsAt.get5 {w : World} {b o : Nat} {x y z u v : Value} (h : CellsAt w b o [x, y, z, u, v]) : w.cell? ⟨b, o, none⟩ = some x ∧ w.cell? ⟨b, o + 1, none⟩ = some y ∧ w.cell? ⟨b, o + 2, none⟩ = some z ∧ w.cell? ⟨b, o + 3, none⟩ = some u ∧ w.cell? ⟨b, o + 4, none⟩ = some v :=
  ⟨h 0 x rfl, h 1 y rfl, h 2 z rfl, h 3 u rfl, h 4 v rfl⟩
theorem five_cells (w : World) (p q r s t : Value) (ty : TypeId) : ∀ j u, [p, q, r, s, t][j]? = some u → (w.alloc (.cells #[p, q, r, s, t] ty)).cell? ((⟨w.heap.size, 0, none⟩ : Addr).add j) = some u := by
  intro j u hj
  match j, hj with
  | 0, hj => simp at hj; subst hj; simp [Addr.add]
  | 1, hj => simp at hj; subst hj; simp [Addr.add]
  | 2, hj => simp at hj; subst hj; simp [Addr.add]
  | 3, hj => simp at hj; subst hj; simp [Addr.add]
  | 4, hj => simp at hj; subst hj; simp [Addr.add]
theorem bareD_at {l : List Tk} {i : Nat} (h : i < l.length) (d : Bool) : bareD d (l.drop i) = if l[i].kind = 8 ∨ l[i].kind = 9 then bareD true (l.drop (i + 1)) else { l[i] with space := l[i].space || d } :: bareD false (l.drop (i + 1)) := by
  rw [List.drop_eq_getElem_cons h, bareD]
def BarePost (l : List Tk) (w : World) (e : Ending) (w' : World) : Prop := ∃ v, e = .returned v ∧ w'.ownsRow w.heap.size 40 5 v (bare l).length ((bare l).flatMap tkC) ∧ Below w.heap.size w w'
set_option maxRecDepth 100000 in
set_option maxHeartbeats 8000000 in
theorem Sc.bare (a : Option Addr) (c : Nat) (l : List Tk) (w : World) (hr : RowAt 5 tkC w a l) (hl : l.length ≤ 1000000000) : Calls Tryz.prog 77 #[.slice a l.length c] w (BarePost l w) := by
  have HROW := Lib.hid hr
  obtain ⟨i0, hi, hz0, hz1, hz2⟩ := info_parts info40
  have HI := Lib.hid hi
  have HZ0 := Lib.hid hz0
  have HZ1 := Lib.hid hz1
  have HZ2 := Lib.hid hz2
  clear hi hz0 hz1 hz2 hr
  go_enter Tryz.func77, Tryz.ntmps77
  go_wp2_with fail
  go_step3
  go_wp2_with fail
  go_step3
  go_wp2_with fail
  go_loopw [3, 4, 9] (fun s3 s4 s9 wr => ∃ (i : Nat) (d : Bool) (acc : List Tk), i ≤ l.length ∧ s9 = .int .i64 i ∧ s4 = .bool d ∧ YtbnhefibpjldfaaGreatDoor.bare l = acc ++ bareD d (l.drop i) ∧ Below w.heap.size w wr ∧ wr.ownsRow w.heap.size 40 5 s3 acc.length (acc.flatMap tkC) ∧ acc.length ≤ i) (fun _ _ s9 _ => l.length - (intOf s9).toNat)
  case atStart => exact ⟨0, false, [], Nat.zero_le _, rfl, rfl, rfl, Below.refl _ _, World.ownsRow_nil _ _ _ _, Nat.le_refl _⟩
  case round =>
    obtain ⟨i, d, acc, hi, rfl, rfl, hb, hbel, hown, hal⟩ := hrel
    obtain ⟨oa, oc, rfl⟩ := row_shape hown
    by_cases hlt : i < l.length
    · obtain ⟨gb, go, rfl, hgb, hgc⟩ := HROW.out.at (by intro e; simp [e] at hlt)
      obtain ⟨k0, k1, k2, k3, k4⟩ := CellsAt.get5 ((hgc i hlt).below hbel hgb)
      rw [bareD_at hlt] at hb
      have hlt' : (i : Int) < l.length := by omega
      generalize l[i] = t at *
      obtain ⟨kd, tx, lo, hi', sp⟩ := t
      simp only at k0 k1 k2 k3 k4 hb
      have HBEL := Lib.hid hbel
      have HOWN := Lib.hid hown
      have hws := hbel.size
      by_cases h8 : kd = 8
      · subst h8
        rw [if_pos (.inl rfl)] at hb
        have HB := Lib.hid hb
        clear hb hbel hown hgc
        go_wp2_with fail
        go_roundw
        case rel => exact ⟨i + 1, true, acc, by omega, by go_num, rfl, HB.out, HBEL.out.trans ((below_alloc _ _).mono hws), HOWN.out.alloc _, by omega⟩
        case measure => simp [intOf]; omega
      by_cases h9 : kd = 9
      · subst h9
        rw [if_pos (.inr rfl)] at hb
        have HB := Lib.hid hb
        clear hb hbel hown hgc
        go_wp2_with fail
        go_roundw
        case rel => exact ⟨i + 1, true, acc, by omega, by go_num, rfl, HB.out, HBEL.out.trans ((below_alloc _ _).mono hws), HOWN.out.alloc _, by omega⟩
        case measure => simp [intOf]; omega
      · rw [if_neg (by omega)] at hb
        have h8' : ((kd : Int) == 8) = false := by rw [beq_eq_false_iff_ne]; omega
        have h9' : ((kd : Int) == 9) = false := by rw [beq_eq_false_iff_ne]; omega
        obtain ⟨sq, hsq⟩ : ∃ sq, (sp || d) = sq := ⟨_, rfl⟩
        rw [hsq] at hb
        have HB := Lib.hid hb
        have HSQ := Lib.hid hsq
        clear hb hbel hown hgc h8 h9 hsq
        cases sp
        · have e := HSQ.out
          simp only [Bool.false_or] at e
          subst e
          go_wp2_with (at_builtin; refine wpList_append_own _ rfl _ _ 30 rfl w.heap.size 40 i0 (.agg #[.int .i64 0, .string ⟨#[]⟩, .int .i64 0, .int .i64 0, .bool false]) 5 48 Tryz.underlying30 HI.out HZ0.out HZ1.out HZ2.out rfl (by decide) _ acc.length _ rfl ((HOWN.out.alloc _).alloc _) ⟨wr.heap.size + 1, 0, none⟩ 1 1 [.int .i64 kd, .string (str tx), .int .i64 lo, .int .i64 hi', .bool d] rfl rfl (by simpa using five_cells (wr.alloc (.cells #[.int .i64 kd, .string (str tx), .int .i64 lo, .int .i64 hi', .bool d] 40)) (.int .i64 kd) (.string (str tx)) (.int .i64 lo) (.int .i64 hi') (.bool d) 40) (fun u hu => by simp at hu; rcases hu with rfl | rfl | rfl | rfl | rfl <;> rfl) (by unfold maxLen; omega) (by omega) (by simp; omega) ?_; intro v' w1 hown' hgrow _)
          have HOWN' := Lib.hid hown'
          have HBE' := Lib.hid (((HBEL.out.alloc hws (.cells #[.int .i64 kd, .string (str tx), .int .i64 lo, .int .i64 hi', .bool d] 40)).alloc (by simp; omega) (.cells #[.int .i64 kd, .string (str tx), .int .i64 lo, .int .i64 hi', .bool d] 40)).grown hgrow (by simp; omega) (fun k hk => (row_cells HOWN.out hk).1))
          clear hown' hgrow
          go_wp2_with fail
          go_roundw
          case rel =>
            refine ⟨i + 1, false, acc ++ [⟨kd, tx, lo, hi', d⟩], by omega, by go_num, rfl, by rw [HB.out, List.append_assoc]; rfl, HBE'.out, ?_, by simp; omega⟩
            have h := HOWN'.out
            rw [List.flatMap_append, List.length_append]
            simpa [tkC] using h
          case measure => simp [intOf]; omega
        · have e := HSQ.out
          simp only [Bool.true_or] at e
          subst e
          go_wp2_with (at_builtin; refine wpList_append_own _ rfl _ _ 30 rfl w.heap.size 40 i0 (.agg #[.int .i64 0, .string ⟨#[]⟩, .int .i64 0, .int .i64 0, .bool false]) 5 48 Tryz.underlying30 HI.out HZ0.out HZ1.out HZ2.out rfl (by decide) _ acc.length _ rfl ((HOWN.out.alloc _).alloc _) ⟨wr.heap.size + 1, 0, none⟩ 1 1 [.int .i64 kd, .string (str tx), .int .i64 lo, .int .i64 hi', .bool true] rfl rfl (by simpa using five_cells (wr.alloc (.cells #[.int .i64 kd, .string (str tx), .int .i64 lo, .int .i64 hi', .bool true] 40)) (.int .i64 kd) (.string (str tx)) (.int .i64 lo) (.int .i64 hi') (.bool true) 40) (fun u hu => by simp at hu; rcases hu with rfl | rfl | rfl | rfl | rfl <;> rfl) (by unfold maxLen; omega) (by omega) (by simp; omega) ?_; intro v' w1 hown' hgrow _)
          have HOWN' := Lib.hid hown'
          have HBE' := Lib.hid (((HBEL.out.alloc hws (.cells #[.int .i64 kd, .string (str tx), .int .i64 lo, .int .i64 hi', .bool true] 40)).alloc (by simp; omega) (.cells #[.int .i64 kd, .string (str tx), .int .i64 lo, .int .i64 hi', .bool true] 40)).grown hgrow (by simp; omega) (fun k hk => (row_cells HOWN.out hk).1))
          clear hown' hgrow
          go_wp2_with fail
          go_roundw
          case rel =>
            refine ⟨i + 1, false, acc ++ [⟨kd, tx, lo, hi', true⟩], by omega, by go_num, rfl, by rw [HB.out, List.append_assoc]; rfl, HBE'.out, ?_, by simp; omega⟩
            have h := HOWN'.out
            rw [List.flatMap_append, List.length_append]
            simpa [tkC] using h
          case measure => simp [intOf]; omega
    · obtain rfl : i = l.length := by omega
      rw [List.drop_length] at hb
      have HB := Lib.hid hb
      have HBEL := Lib.hid hbel
      have HOWN := Lib.hid hown
      clear hb hbel hown
      go_wp2_with fail
      rw [Exit.noGoto_ret]
      go_ret
      refine ⟨_, rfl, ?_, HBEL.out⟩
      have h := HB.out
      simp only [bareD, List.append_nil] at h
      rw [h]
      exact HOWN.out
end Go.Proofs.YtbnhefibpjldfaaGreatDoor

/- PwS -/
namespace Go.Proofs.YtbnhefibpjldfaaGreatDoor
open Go.RowKit Go.BigFrame Go.Shelf
set_option linter.unusedVariables false

theorem dirP_at {l : List Tk} {i : Nat} (h : i < l.length) (m : Bool) : dirP m (l.drop i) = if l[i].kind = 8 ∨ l[i].kind = 9 then dirP m (l.drop (i + 1)) else if m then (if l[i].kind = 1 then (l[i].text, true) else ([], true)) else if l[i].kind = 5 ∧ isHash l[i].text = true then dirP true (l.drop (i + 1)) else ([], false) := by
  rw [List.drop_eq_getElem_cons h, dirP]
theorem str_tl (x : Bs) : (str x).toList = x := by rw [toList_dl, dl_str]
theorem hash_no {x : Bs} (h : isHash x = false) : ((str x).toList == [35]) = false ∧ ((str x).toList == [37, 58]) = false := by
  simp only [isHash, Bool.or_eq_false_iff] at h
  rw [str_tl]
  exact h
set_option maxRecDepth 100000 in
set_option maxHeartbeats 8000000 in
theorem Ls.directive (a : Option Addr) (c : Nat) (l : List Tk) (w : World) (hr : RowAt 5 tkC w a l) (hl : l.length ≤ 1000000000) : Calls Tryz.prog 40 #[.slice a l.length c] w fun e w' => e = .returned (.tuple #[.string (str (dirP false l).1), .bool (dirP false l).2]) ∧ Below w.heap.size w w' := by
  have HROW := Lib.hid hr
  clear hr
  go_enter Tryz.func40, Tryz.ntmps40
  go_wp2_with fail
  go_loopw [4, 9] (fun s4 s9 wr => ∃ (i : Nat) (m : Bool), i ≤ l.length ∧ s9 = .int .i64 i ∧ s4 = .bool m ∧ dirP false l = dirP m (l.drop i) ∧ Below w.heap.size w wr) (fun _ s9 _ => l.length - (intOf s9).toNat)
  case atStart => exact ⟨0, false, Nat.zero_le _, rfl, rfl, rfl, Below.refl _ _⟩
  case round =>
    obtain ⟨i, m, hi, rfl, rfl, hb, hbel⟩ := hrel
    by_cases hlt : i < l.length
    · obtain ⟨gb, go, rfl, hgb, hgc⟩ := HROW.out.at (by intro e; simp [e] at hlt)
      obtain ⟨k0, k1, k2, k3, k4⟩ := CellsAt.get5 ((hgc i hlt).below hbel hgb)
      rw [dirP_at hlt] at hb
      have hlt' : (i : Int) < l.length := by omega
      generalize l[i] = t at *
      obtain ⟨kd, tx, lo, hi', sp⟩ := t
      simp only at k0 k1 k2 k3 k4 hb
      have HBEL := Lib.hid hbel
      have hws := hbel.size
      by_cases h8 : kd = 8
      · subst h8
        rw [if_pos (.inl rfl)] at hb
        have HB := Lib.hid hb
        clear hb hbel hgc
        go_wp2_with fail
        go_roundw
        case rel => exact ⟨i + 1, m, by omega, by go_num, rfl, HB.out, HBEL.out.trans ((below_alloc _ _).mono hws)⟩
        case measure => simp [intOf]; omega
      by_cases h9 : kd = 9
      · subst h9
        rw [if_pos (.inr rfl)] at hb
        have HB := Lib.hid hb
        clear hb hbel hgc
        go_wp2_with fail
        go_roundw
        case rel => exact ⟨i + 1, m, by omega, by go_num, rfl, HB.out, HBEL.out.trans ((below_alloc _ _).mono hws)⟩
        case measure => simp [intOf]; omega
      rw [if_neg (by omega)] at hb
      have h8' : ((kd : Int) == 8) = false := by rw [beq_eq_false_iff_ne]; omega
      have h9' : ((kd : Int) == 9) = false := by rw [beq_eq_false_iff_ne]; omega
      cases m
      · rw [if_neg (by simp)] at hb
        by_cases h5 : kd = 5
        · subst h5
          cases hh : isHash tx
          · obtain ⟨n1, n2⟩ := hash_no hh
            rw [if_neg (by simp [hh])] at hb
            have HB := Lib.hid hb
            clear hb hbel hgc h8 h9 hh
            go_wp2_with fail
            refine bodyPost_ret (v := .tuple #[.string (str (dirP false l).1), .bool (dirP false l).2]) (by rw [HB.out]; simp [results, Tryz.results40, go_sem]; try rfl) rfl ⟨rfl, ?_⟩
            exact HBEL.out.trans ((below_alloc _ _).mono hws)
          · rw [if_pos ⟨rfl, hh⟩] at hb
            have HB := Lib.hid hb
            simp only [isHash, Bool.or_eq_true, beq_iff_eq] at hh
            rcases hh with rfl | rfl
            · have n1 : ((str [35]).toList == [35]) = true := by rw [str_tl]; rfl
              clear hb hbel hgc h8 h9
              go_wp2_with fail
              go_roundw
              case rel => exact ⟨i + 1, true, by omega, by go_num, rfl, HB.out, HBEL.out.trans ((below_alloc _ _).mono hws)⟩
              case measure => simp [intOf]; omega
            · have n1 : ((str [37, 58]).toList == [35]) = false := by rw [str_tl]; rfl
              have n2 : ((str [37, 58]).toList == [37, 58]) = true := by rw [str_tl]; rfl
              clear hb hbel hgc h8 h9
              go_wp2_with fail
              go_roundw
              case rel => exact ⟨i + 1, true, by omega, by go_num, rfl, HB.out, HBEL.out.trans ((below_alloc _ _).mono hws)⟩
              case measure => simp [intOf]; omega
        · rw [if_neg (by simp [h5])] at hb
          have h5' : ((kd : Int) != 5) = true := by rw [bne_iff_ne]; omega
          have HB := Lib.hid hb
          clear hb hbel hgc h8 h9 h5
          go_wp2_with fail
          refine bodyPost_ret (v := .tuple #[.string (str (dirP false l).1), .bool (dirP false l).2]) (by rw [HB.out]; simp [results, Tryz.results40, go_sem]; try rfl) rfl ⟨rfl, ?_⟩
          exact HBEL.out.trans ((below_alloc _ _).mono hws)
      · rw [if_pos rfl] at hb
        by_cases h1 : kd = 1
        · subst h1
          rw [if_pos rfl] at hb
          have HB := Lib.hid hb
          clear hb hbel hgc h8 h9
          go_wp2_with fail
          refine bodyPost_ret (v := .tuple #[.string (str (dirP false l).1), .bool (dirP false l).2]) (by rw [HB.out]; simp [results, Tryz.results40, go_sem]; try rfl) rfl ⟨rfl, ?_⟩
          exact HBEL.out.trans ((below_alloc _ _).mono hws)
        · rw [if_neg h1] at hb
          have h1' : ((kd : Int) == 1) = false := by rw [beq_eq_false_iff_ne]; omega
          have HB := Lib.hid hb
          clear hb hbel hgc h8 h9 h1
          go_wp2_with fail
          refine bodyPost_ret (v := .tuple #[.string (str (dirP false l).1), .bool (dirP false l).2]) (by rw [HB.out]; simp [results, Tryz.results40, go_sem]; try rfl) rfl ⟨rfl, ?_⟩
          exact HBEL.out.trans ((below_alloc _ _).mono hws)
    · obtain rfl : i = l.length := by omega
      rw [List.drop_length] at hb
      have HB := Lib.hid hb
      have HBEL := Lib.hid hbel
      clear hb hbel
      go_wp2_with fail
      refine bodyPost_ret (v := .tuple #[.string (str (dirP false l).1), .bool (dirP false l).2]) (by rw [HB.out]; simp [results, Tryz.results40, go_sem, dirP]; try rfl) rfl ⟨rfl, ?_⟩
      exact HBEL.out
end Go.Proofs.YtbnhefibpjldfaaGreatDoor

/- PwU -/
namespace Go.Proofs.YtbnhefibpjldfaaGreatDoor
open Go.RowKit Go.BigFrame Go.Shelf
set_option linter.unusedVariables false

theorem tkC_len (t : Tk) : (tkC t).length = 5 := rfl
theorem tkC_one (t : Tk) : ∀ u ∈ tkC t, u.oneCell' = true := fun u hu => by simp [tkC] at hu; rcases hu with rfl | rfl | rfl | rfl | rfl <;> rfl
/-- A copy of tokens. -/
def CloneTk (l : List Tk) (w : World) (e : Ending) (w' : World) : Prop := ∃ v, e = .returned v ∧ w'.ownsRow w.heap.size 40 5 v l.length (l.flatMap tkC) ∧ Below w.heap.size w w'
set_option maxRecDepth 100000 in
set_option maxHeartbeats 2000000 in
theorem Ls.clone (a : Option Addr) (c : Nat) (l : List Tk) (w : World) (hr : RowAt 5 tkC w a l) (hnil : a = none → l = [] ∧ c = 0) (hl : l.length ≤ 1000000000) : Calls Tryz.prog 41 #[.slice a l.length c] w (CloneTk l w) := by
  obtain ⟨i0, hi, hz0, hz1, hz2⟩ := info_parts info40
  cases a with
  | none =>
    obtain ⟨rfl, rfl⟩ := hnil rfl
    have hq := Lib.run_eql_slice_nil w 30 _ none 0 0 0 0 Tryz.underlying30
    clear hr hnil hi hz0 hz1 hz2
    go_enter Tryz.func41, Tryz.ntmps41
    go_wp2_with fail
    go_ret
    exact ⟨_, rfl, World.ownsRow_nil _ _ _ _, Below.refl _ _⟩
  | some ad =>
    obtain ⟨W, hW⟩ : ∃ W, W = w.alloc (.cells #[] 40) := ⟨_, rfl⟩
    have hown : W.ownsRow w.heap.size 40 5 (.slice (some ⟨w.heap.size, 0, none⟩) 0 0) 0 [] := by rw [hW]; exact World.ownsRow_made w #[] 0 (Nat.le_refl _) (Nat.zero_le _) rfl
    have hbW : Below w.heap.size w W := by rw [hW]; exact below_alloc _ _
    have hrW : RowAt 5 tkC W (some ad) l := hr.below hbW (Nat.le_refl _) hbW.size
    have HI := Lib.hid hi
    have HZ0 := Lib.hid hz0
    have HZ1 := Lib.hid hz1
    have HZ2 := Lib.hid hz2
    have HW := Lib.hid hW
    have HOWN := Lib.hid hown
    have HBW := Lib.hid hbW
    have HRW := Lib.hid hrW
    have hq := Lib.run_eql_slice_nil w 30 _ (some ad) l.length c 0 0 Tryz.underlying30
    clear hr hnil hi hz0 hz1 hz2 hW hown hbW hrW
    go_enter Tryz.func41, Tryz.ntmps41
    go_wp2_with (at_builtin; rw [← HW.out]; refine wpList_append_rows tkC rfl _ _ 30 rfl w.heap.size 40 i0 (.agg #[.int .i64 0, .string ⟨#[]⟩, .int .i64 0, .int .i64 0, .bool false]) 5 48 Tryz.underlying30 HI.out HZ0.out HZ1.out HZ2.out rfl (by decide) tkC_len tkC_one _ 0 [] rfl HOWN.out (some ad) l c rfl (fun e => by cases e) HRW.out (by unfold maxLen; omega) (by omega) HBW.out.size ?_)
    intro v' w1 hown' hgrow
    have hB : Below w.heap.size w w1 := HBW.out.grown hgrow HBW.out.size (fun k hk => by simp [Value.ownBlock] at hk; omega)
    have hown2 : w1.ownsRow w.heap.size 40 5 v' l.length (l.flatMap tkC) := by simpa using hown'
    obtain ⟨a', c', rfl⟩ := row_shape hown2
    have HO2 := Lib.hid hown2
    have HB := Lib.hid hB
    clear hown' hown2 hgrow hB
    go_wp2_with fail
    go_ret
    exact ⟨_, rfl, HO2.out, HB.out⟩
end Go.Proofs.YtbnhefibpjldfaaGreatDoor

/- PwV -/
namespace Go.Proofs.YtbnhefibpjldfaaGreatDoor
open Go.RowKit Go.BigFrame Go.Shelf
set_option linter.unusedVariables false

theorem row_part {α : Type} {n : Nat} {f : α → List Value} {w : World} {a : Option Addr} {l : List α} (h : RowAt n f w a l) (k cap : Nat) (hc : l.length ≤ cap) : RowAt n f w (if cap = k then a else a.map (fun q => q.add (k * n))) (l.drop k) := by
  by_cases hk : l.length ≤ k
  · left; rw [List.drop_eq_nil_iff]; exact hk
  · obtain ⟨b, off, rfl, hb, hcc⟩ := h.at (by intro e; simp [e] at hk)
    right
    rw [if_neg (by omega)]
    refine ⟨b, off + k * n, by simp [Addr.add], hb, fun i hi => ?_⟩
    have := hcc (k + i) (by simp at hi; omega)
    rw [List.getElem_drop, show off + k * n + i * n = off + (k + i) * n from by rw [Nat.add_mul]; omega]
    exact this
theorem row_take {α : Type} {n : Nat} {f : α → List Value} {w : World} {a : Option Addr} {l : List α} (h : RowAt n f w a l) (k : Nat) : RowAt n f w a (l.take k) := by
  rcases h with rfl | ⟨b, off, ha, hb, hcc⟩
  · left; simp
  · exact .inr ⟨b, off, ha, hb, fun i hi => by
      rw [List.getElem_take]; exact hcc i (by simp at hi; omega)⟩
/-- A slice's value that reads as a list. -/
def SlV {α : Type} (n : Nat) (f : α → List Value) (w : World) (v : Value) (l : List α) : Prop :=
  ∃ a cap, v = .slice a l.length cap ∧ l.length ≤ cap ∧ (a = none → l = [] ∧ cap = 0) ∧ RowAt n f w a l
theorem SlV.of {α : Type} {n e : Nat} {f : α → List Value} (hf : ∀ g, (f g).length = n) {w : World} {base m : Nat} {v : Value} {l : List α} (h : w.ownsRow base e n v m (l.flatMap f)) (hm : m = l.length) : SlV n f w v l := by
  subst hm
  obtain ⟨a, cap, rfl⟩ := row_shape h
  obtain ⟨h1, h2⟩ := rowAt_owns hf h rfl
  refine ⟨a, cap, rfl, ?_, h1, h2⟩
  rcases h.2 with ⟨hv, hz⟩ | ⟨g, cap', cur, hv, _, _, hc, _⟩
  · omega
  · simp only [Value.slice.injEq] at hv
    omega
theorem SlV.below {α : Type} {n : Nat} {f : α → List Value} {w w' : World} {v : Value} {l : List α} (h : SlV n f w v l) (hb : Below w.heap.size w w') : SlV n f w' v l := by
  obtain ⟨a, cap, h1, h2, h3, h4⟩ := h
  exact ⟨a, cap, h1, h2, h3, h4.below hb (Nat.le_refl _) hb.size⟩
def rwV (r : Rw) (v : Value) : Value := .agg #[.bool r.dir, .string (str r.name), v]
theorem bare_len : ∀ (l : List Tk) (d : Bool), (bareD d l).length ≤ l.length
  | [], d => Nat.le_refl _
  | t :: r, d => by
    simp only [bareD]
    split
    · exact Nat.le_succ_of_le (bare_len r true)
    · exact Nat.succ_le_succ (bare_len r false)
theorem drop_min {α : Type} (l : List α) (k : Nat) : l.drop (min (k : Int) (l.length : Int)).toNat = l.drop k := by
  by_cases h : k ≤ l.length
  · rw [show (min (k : Int) (l.length : Int)).toNat = k by omega]
  · rw [List.drop_of_length_le (by omega), List.drop_of_length_le (by omega)]
theorem drop_min1 {α : Type} (l : List α) : l.drop (min 1 (l.length : Int)).toNat = l.drop 1 := drop_min l 1
theorem drop_min2 {α : Type} (l : List α) : l.drop (min 2 (l.length : Int)).toNat = l.drop 2 := drop_min l 2
def SaysPost (l : List Tk) (w : World) (e : Ending) (w' : World) : Prop := ∃ v, e = .returned v ∧ w'.ownsRow w.heap.size 40 5 v l.length (l.flatMap tkC) ∧ Below w.heap.size w w'
set_option maxRecDepth 100000 in
set_option maxHeartbeats 8000000 in
theorem Ls.says (r : Rw) (v : Value) (w : World) (hv : SlV 5 tkC w v r.toks) (hl : r.toks.length ≤ 1000000000) : Calls Tryz.prog 37 #[rwV r v] w (SaysPost (YtbnhefibpjldfaaGreatDoor.says r) w) := by
  obtain ⟨a, cap, rfl, hcap, hnil, hrow⟩ := hv
  obtain ⟨d, nm, tk⟩ := r
  simp only at hcap hnil hrow hl ⊢
  obtain ⟨W, hW⟩ : ∃ W, W = w.alloc (.cells #[.bool d, .string (str nm), .slice a tk.length cap] 78) := ⟨_, rfl⟩
  have hbW : Below w.heap.size w W := by rw [hW]; exact below_alloc _ _
  have hq : W.heap[w.heap.size]? = some (.cells #[.bool d, .string (str nm), .slice a tk.length cap] 78 (0, 0)) := by rw [hW]; exact heap_alloc_new _ _
  have hrW := hrow.below hbW (Nat.le_refl _) hbW.size
  have c0 : W.cell? ⟨w.heap.size, 0, none⟩ = some (.bool d) := by simp [World.cell?, hq]
  have c1 : W.cell? ⟨w.heap.size, 1, none⟩ = some (.string (str nm)) := by simp [World.cell?, hq]
  have c2 : W.cell? ⟨w.heap.size, 2, none⟩ = some (.slice a tk.length cap) := by simp [World.cell?, hq]
  have hWs : w.heap.size < W.heap.size := (Array.getElem?_eq_some_iff.1 hq).1
  have HW := Lib.hid hW
  have HBW := Lib.hid hbW
  have HRW := Lib.hid hrW
  have HNIL := Lib.hid hnil
  clear hW hbW hq hrW hrow hnil
  unfold rwV
  go_enter Tryz.func37, Tryz.ntmps37
  go_wp2_with fail
  rw [← HW.out]
  refine (Sc.bare a cap tk W HRW.out hl).mono ?_
  rintro e w1 ⟨v1, rfl, hown, b1⟩
  have hv1 := SlV.of tkC_len hown rfl
  have d0 := (b1.cell (p := ⟨w.heap.size, 0, none⟩) hWs).trans c0
  have d1 := (b1.cell (p := ⟨w.heap.size, 1, none⟩) hWs).trans c1
  have hs1 := b1.size
  have HB1 := Lib.hid (HBW.out.trans (b1.mono (by omega)))
  have HOWN := Lib.hid (own_base hown (Nat.le_of_lt hWs))
  obtain ⟨a1, cap1, rfl, hcap1, hnil1, hrow1⟩ := hv1
  obtain ⟨L, hL⟩ : ∃ L, YtbnhefibpjldfaaGreatDoor.bare tk = L := ⟨_, rfl⟩
  rw [hL] at hown hcap1 hnil1 hrow1 HOWN ⊢
  have HNIL1 := Lib.hid hnil1
  have HROW1 := Lib.hid hrow1
  have hLl : L.length ≤ tk.length := by
    rw [← hL]
    exact bare_len tk false
  have HL := Lib.hid hL
  clear hown hnil1 hrow1 b1 hL
  cases d
  · go_wp2_with fail
    go_ret
    refine ⟨_, rfl, ?_, HB1.out⟩
    simp only [YtbnhefibpjldfaaGreatDoor.says, Bool.false_eq_true, if_false]
    rw [HL.out]
    exact HOWN.out
  · have key : ∀ k : Nat, k ≤ L.length → Calls Tryz.prog 41 #[.slice (if cap1 = k then a1 else a1.map (fun q => q.add (k * 5))) (L.length - k) (cap1 - k)] w1 (CloneTk (L.drop k) w1) := by
      intro k hk
      have := Ls.clone (if cap1 = k then a1 else a1.map (fun q => q.add (k * 5))) (cap1 - k) (L.drop k) w1 (row_part HROW1.out k cap1 hcap1) (fun e => by
        cases a1 with
        | none =>
          obtain ⟨h1, h2⟩ := HNIL1.out rfl
          rw [h1, h2]
          simp
        | some q => split at e <;> simp at e) (by simp; omega)
      simpa using this
    have KEY := Lib.hid key
    clear key
    by_cases hn : nm = []
    · subst hn
      have n1 : ((str []).toList == []) = true := by rw [str_tl]; rfl
      go_wp2_with fail
      all_goals
        have A := KEY.out (min 1 (L.length : Int)).toNat (by omega)
        first
        | rw [if_pos (show cap1 = (min 1 (L.length : Int)).toNat by omega), show cap1 - (min 1 (L.length : Int)).toNat = 0 by omega] at A
        | rw [if_neg (show ¬ cap1 = (min 1 (L.length : Int)).toNat by omega)] at A
        refine A.mono ?_
        clear A
        rintro e w2 ⟨v2, rfl, hown2, b2⟩
        obtain ⟨a2, c2, rfl⟩ := row_shape hown2
        have HO2 := Lib.hid (own_base hown2 (Nat.le_trans (Nat.le_of_lt hWs) hs1))
        have HB2 := Lib.hid (HB1.out.trans (b2.mono (Nat.le_trans (Nat.le_of_lt hWs) hs1)))
        clear hown2 b2
        go_wp2_with fail
        go_ret
        refine ⟨_, rfl, ?_, HB2.out⟩
        simp only [YtbnhefibpjldfaaGreatDoor.says, if_true]
        rw [HL.out]
        have h := HO2.out
        rw [drop_min1] at h
        have e : L.length - (min 1 (L.length : Int)).toNat = (L.drop 1).length := by simp; omega
        try rw [e]
        exact h
    · have n1 : ((str nm).toList == []) = false := by rw [str_tl]; cases nm with | nil => exact absurd rfl hn | cons _ _ => rfl
      go_wp2_with fail
      all_goals
        have A := KEY.out (min 2 (L.length : Int)).toNat (by omega)
        first
        | rw [if_pos (show cap1 = (min 2 (L.length : Int)).toNat by omega), show cap1 - (min 2 (L.length : Int)).toNat = 0 by omega] at A
        | rw [if_neg (show ¬ cap1 = (min 2 (L.length : Int)).toNat by omega)] at A
        refine A.mono ?_
        clear A
        rintro e w2 ⟨v2, rfl, hown2, b2⟩
        obtain ⟨a2, c2, rfl⟩ := row_shape hown2
        have HO2 := Lib.hid (own_base hown2 (Nat.le_trans (Nat.le_of_lt hWs) hs1))
        have HB2 := Lib.hid (HB1.out.trans (b2.mono (Nat.le_trans (Nat.le_of_lt hWs) hs1)))
        clear hown2 b2
        go_wp2_with fail
        go_ret
        refine ⟨_, rfl, ?_, HB2.out⟩
        simp only [YtbnhefibpjldfaaGreatDoor.says, if_true]
        rw [HL.out, if_neg hn]
        have h := HO2.out
        rw [drop_min2] at h
        have e : L.length - (min 2 (L.length : Int)).toNat = (L.drop 2).length := by simp; omega
        try rw [e]
        exact h
end Go.Proofs.YtbnhefibpjldfaaGreatDoor

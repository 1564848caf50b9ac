/- scan: One of a string. -/
import Derived.Test.YtlboejdhmggjpaaGreatWwO
import Derived.Shelf.Bits.Mul64
import Derived.Test.YtlboejdhmggjpaaGreatTal
set_option linter.all false
namespace Go.Proofs.YtlboejdhmggjpaaGreat.Ww
open Go.Proofs.YtlboejdhmggjpaaGreat
open Go.RowKit Go.BigFrame Go.Shelf
set_option linter.unusedVariables false
attribute [local go_sem] Oper.semAt_some

/-- Amid One: how many items, and of which kind. -/
def OnI (s : ByteArray) (w W0 : World) (pre : List It) (W : World) : Prop :=
  W.heap[w.heap.size + 1]? = some (.cells #[.int .i64 (if pre = [] then 0 else 4 : Nat)] 3 (0, 0)) ∧ W.heap[w.heap.size + 2]? = some (.cells #[.int .i64 pre.length] 3 (0, 0)) ∧ KT Tk4 W0 W ∧ Below w.heap.size w W
set_option maxRecDepth 100000 in
set_option maxHeartbeats 8000000 in
theorem Sc.one (s : ByteArray) (w : World) (hs : s.size ≤ 1000000000) (hits : its (dl s) 0 0 = [⟨4, 0, s.size, 0⟩]) (hm : Mx w) : Calls Tryz.prog 152 #[.string s] w fun e w' => e = .returned (.tuple #[.int .i64 4, .bool true]) ∧ Below w.heap.size w w' := by
  obtain ⟨W0, hW0⟩ : ∃ W0, W0 = (((w.alloc (.cells #[.string s] 9)).alloc (.cells #[.int .i64 0] 3)).alloc (.cells #[.int .i64 0] 3)).alloc (.cells #[.string s] 9) := ⟨_, rfl⟩
  have hs0 : W0.heap.size = w.heap.size + 4 := by rw [hW0]; simp
  have hb0 : Below w.heap.size w W0 := by rw [hW0]; exact ((((Below.refl _ _).alloc (Nat.le_refl _) _).alloc (by simp) _).alloc (by simp; omega) _).alloc (by simp; omega) _
  have e0 : W0.heap[w.heap.size]? = some (.cells #[.string s] 9 (0, 0)) := by
    rw [hW0]; exact heap_alloc_old' _ (heap_alloc_old' _ (heap_alloc_old' _ (heap_alloc_new _ _)))
  have e1 : W0.heap[w.heap.size + 1]? = some (.cells #[.int .i64 0] 3 (0, 0)) := by
    have := heap_alloc_new (w.alloc (.cells #[.string s] 9)) (.cells #[.int .i64 0] 3)
    rw [hW0]; exact heap_alloc_old' _ (heap_alloc_old' _ (by simpa using this))
  have e2 : W0.heap[w.heap.size + 2]? = some (.cells #[.int .i64 0] 3 (0, 0)) := by
    have := heap_alloc_new ((w.alloc (.cells #[.string s] 9)).alloc (.cells #[.int .i64 0] 3)) (.cells #[.int .i64 0] 3)
    rw [hW0]; exact heap_alloc_old' _ (by simpa using this)
  have e3 : W0.heap[w.heap.size + 3]? = some (.cells #[.string s] 9 (0, 0)) := by
    have := heap_alloc_new (((w.alloc (.cells #[.string s] 9)).alloc (.cells #[.int .i64 0] 3)).alloc (.cells #[.int .i64 0] 3)) (.cells #[.string s] 9)
    rw [hW0]; simpa using this
  have hseq := Sc.seq 4 (w.heap.size + 3) s W0 e3 hs (hm.of hb0 hm.pos)
  have hI0 : OnI s w W0 [] W0 := ⟨e1, e2, KT.refl _ _, hb0⟩
  have HSEQ := Lib.hid hseq
  have HS0 := Lib.hid hs0
  have HI0 := Lib.hid hI0
  have HW0 := Lib.hid hW0
  have HE0 := Lib.hid e0
  have HITS := Lib.hid hits
  have hmp := hm.pos
  clear hW0 hs0 hb0 e0 e1 e2 e3 hseq hI0 hits hm
  refine (callsIn_wide (n := 5)).1 ?_
  refine callsIn_of_wp_marks Tryz.func152 rfl trivial ?_ rfl
  simp only [Tryz.ntmps152, List.size_toArray, List.length_cons, List.length_nil, Nat.reduceAdd, Nat.reduceSub, Array.replicate_succ, Array.replicate_zero, List.push_toArray, List.append_toArray, List.nil_append, List.cons_append]
  gi_wp2_with (fail)
  refine wpIn_wide.2 (wp_scope_straight ((wpIn_wide (n := 5)).1 ?_))
  gi_wp2_with (fail)
  refine wpIn_label ?_
  gi_wp2_with (fail)
  refine ⟨trivial, ?_⟩
  refine (callsIn_wide.2 (Sc.items s _)).mono ?_
  rintro e w2 ⟨rfl, rfl⟩
  rw [← HW0.out]
  gi_wp2_with (fail)
  refine wpIn_rangeFunc_asg rfl (by omega) (gf := 106) (lb := #[.pointer (some ⟨w.heap.size + 1 + 1 + 1, 0, none⟩)]) rfl trivial (enters_of Tryz.func106 (by kernel_rfl) rfl)
    HSEQ.out (fun k hk => hk.elim) (fun h k => h.trans k) (fun W l o o' hl hW ho _ => KM.putObj hW ho) (Below.refl _ _) (fun _ => rfl)
    (OnI s w W0) (fun _ _ _ => False)
    (fun t A B ⟨h1, h2, h3, h4⟩ hm => by
      have hs0 := HS0.out
      have hm' : Mod (fun k => W0.heap.size ≤ k ∧ nc A k) A B := hm.mono (fun k _ hk => hk.elim (fun h => h.elim) id)
      exact ⟨hm'.keep h1 (fun hk => by have := hk.1; omega), hm'.keep h2 (fun hk => by have := hk.1; omega), h3.trans (KT.of_nc hm'), h4.trans (hm'.below (by have := h4.size; omega) (fun k hk => by have := hk.1; omega))⟩)
    (fun c t A B h _ => h)
    HI0.out
    (fun (x : It) a' W => ∃ b, W.heap[b]? = some (.cells #[.int .i64 x.k, .int .i64 x.a, .int .i64 x.b] 143 (0, 0)) ∧
      a' = { tmps := #[.string s, .pointer (some ⟨w.heap.size, 0, none⟩), .int .i64 0, .bool false, .pointer (some ⟨w.heap.size + 1, 0, none⟩), .pointer (some ⟨w.heap.size + 1 + 1, 0, none⟩), .pointer (some ⟨b, 0, none⟩), .int .i64 x.e, .string s, .func (.func 106) #[] #[.pointer (some ⟨w.heap.size + 1 + 1 + 1, 0, none⟩)], itV x.k x.a x.b, .int .i64 x.e, undef, undef, undef, undef, undef, undef, undef, undef, undef, undef, undef, undef, undef, undef, undef, undef, undef, undef, undef], defers := [] })
    (fun h => KM.of_below h)
    (fun p a' W l o o' hl ho ⟨b, hb, ha⟩ => ⟨b, by
      rw [World.putObj_heap_other (fun e => by
        subst e
        rw [hl] at hb
        cases hb
        cases ho)]
      exact hb, ha⟩)
    ?assign ?body ?done ?stop
  case assign =>
    intro l z W K hK
    gi_wp2
    exact hK _ _ (below_alloc W _) ⟨W.heap.size, heap_alloc_new _ _, rfl⟩
  case body =>
    rintro l pre x a' W ⟨h1, h2, h3, h4⟩ ⟨r, hr⟩ ⟨b, hb, rfl⟩
    rw [HITS.out] at hr
    obtain ⟨rfl, rfl⟩ : pre = [] ∧ x = ⟨4, 0, s.size, 0⟩ := by
      cases pre with
      | nil => injection hr with q1 q2; exact ⟨rfl, q1.symm⟩
      | cons p q => simp at hr
    simp only at hb
    have hs2 := h3.2 _ _ _ _ (show Tk4 9 = true from rfl) HE0.out
    have b0 : W.cell? ⟨b, 0, none⟩ = some (.int .i64 4) := by simp [World.cell?, hb]
    have b1 : W.cell? ⟨b, 1, none⟩ = some (.int .i64 0) := by simp [World.cell?, hb]
    have b2 : W.cell? ⟨b, 2, none⟩ = some (.int .i64 s.size) := by simp [World.cell?, hb]
    have c0 : W.cell? ⟨w.heap.size, 0, none⟩ = some (.string s) := by simp [World.cell?, hs2]
    have c1 : W.cell? ⟨w.heap.size + 1, 0, none⟩ = some (.int .i64 0) := by simp [World.cell?, h1]
    have c2 : W.cell? ⟨w.heap.size + 1 + 1, 0, none⟩ = some (.int .i64 0) := by simp [World.cell?, h2]
    have f1 : W.frozen? ⟨w.heap.size + 1, 0, none⟩ = false := Lib.frozen_of_heap h1 0
    have f2 : W.frozen? ⟨w.heap.size + 1 + 1, 0, none⟩ = false := Lib.frozen_of_heap h2 0
    have H1 := Lib.hid h1
    have H2 := Lib.hid h2
    have H3 := Lib.hid h3
    have H4 := Lib.hid h4
    clear h1 h2 h3 h4 hr hb hs2
    gi_wp2_with (fail)
    have g1 := heap_setCell_same W (w.heap.size + 1) 0 _ _ (.int .i64 4) H1.out
    have g2 : (W.setCell ⟨w.heap.size + 1, 0, none⟩ (.int .i64 4)).heap[w.heap.size + 2]? = _ := (Below.heap_setCell _ _ _ _ (by simp)).trans H2.out
    have g3 := heap_setCell_same _ (w.heap.size + 2) 0 _ _ (.int .i64 1) g2
    refine ⟨(KeepsFrom.of_cells H1.out _).trans (KeepsFrom.of_cells g2 _), (KM.set H1.out rfl (by omega) _ _).trans (KM.set g2 rfl (by omega) _ _), ?_, by simpa using g3, (H3.out.set H1.out rfl _ _).set g2 rfl _ _, (H4.out.setCell (p := ⟨w.heap.size + 1, 0, none⟩) (by simp) _).setCell (p := ⟨w.heap.size + 2, 0, none⟩) (by simp) _⟩
    exact (Below.heap_setCell _ _ _ _ (by simp)).trans (by simpa using g1)
  case done =>
    rintro Dd zs W hD hzs ⟨h1, h2, h3, h4⟩ hK
    rw [HITS.out] at hzs
    subst hzs
    have c1 : W.cell? ⟨w.heap.size + 1, 0, none⟩ = some (.int .i64 4) := by simp [World.cell?, h1]
    have c2 : W.cell? ⟨w.heap.size + 1 + 1, 0, none⟩ = some (.int .i64 1) := by simp [World.cell?, h2]
    have H4 := Lib.hid h4
    have HK := Lib.hid hK
    clear h1 h2 h3 h4 hK
    gi_wp2_with (fail)
    rw [Exit.noGoto_ret]
    refine ⟨by simp, .inl ⟨_, _, rfl, run_takeDeferred HK.out, ?_⟩⟩
    exact ⟨.tuple #[.int .i64 4, .bool true], by simp [results, Tryz.results152, go_sem], rfl, H4.out.trans (below_put (by have := HS0.out; omega) HK.out)⟩
  case stop =>
    rintro Dd c pre W hD _ h _
    exact h.elim
end Go.Proofs.YtlboejdhmggjpaaGreat.Ww

/- WxB -/
namespace Go.Proofs.YtlboejdhmggjpaaGreat.Ww
open Go.Proofs.YtlboejdhmggjpaaGreat
open Go.RowKit Go.BigFrame Go.Shelf
set_option linter.unusedVariables false
attribute [local go_sem] Oper.semAt_some

theorem Dg.digit (c : UInt8) (w : World) (h1 : 48 ≤ c.toNat) (h2 : c.toNat ≤ 57) : Calls Tryz.prog 176 #[.int .u8 c.toNat] w fun e w' => e = .returned (.int .i64 (c.toNat - 48 : Nat)) ∧ w' = w := by
  obtain ⟨n, hn⟩ : ∃ n, c.toNat = n := ⟨_, rfl⟩
  rw [hn] at h1 h2 ⊢
  obtain ⟨d, rfl⟩ : ∃ d, n = 48 + d := ⟨n - 48, by omega⟩
  have e1 : decide ((48 : Int) ≤ ((48 + d : Nat) : Int)) = true := decide_eq_true (by omega)
  have e2 : decide (((48 + d : Nat) : Int) ≤ 57) = true := decide_eq_true (by omega)
  clear hn
  go_enter Tryz.func176, Tryz.ntmps176
  go_wp2_with fail
  go_ret
  refine ⟨?_, rfl⟩
  simp
  try omega
theorem Dg.digits (s : ByteArray) (w : World) : Calls Tryz.prog 147 #[.string s] w fun e w' => e = .returned (.func (.func 175) #[] #[.pointer (some ⟨w.heap.size, 0, none⟩)]) ∧ w' = w.alloc (.cells #[.string s] 9) := by
  go_enter Tryz.func147, Tryz.ntmps147
  go_wp2
  go_ret
  exact ⟨rfl, rfl⟩
def T9 (t : TypeId) : Bool := t == 9
set_option maxRecDepth 100000 in
set_option maxHeartbeats 4000000 in
theorem Dg.seq (n B : Nat) (c : UInt8) (w : World) (h0 : w.heap[B]? = some (.cells #[.string ⟨#[c]⟩] 9 (0, 0))) (h1 : 48 ≤ c.toNat) (h2 : c.toNat ≤ 57) :
    SeqG Fence.wide n Tryz.prog 175 #[.pointer (some ⟨B, 0, none⟩)] (fun d : Nat => #[.int .i64 d]) (KT T9) (fun pre x => pre = [] ∧ x = c.toNat - 48) (fun _ => False)
      (fun zs => zs = [c.toNat - 48]) (fun zs => True) w := fun l J Jx W hW hJ hJx hY hj0 => by
  have g0 := heap_below hW h0 (Array.getElem?_eq_some_iff.1 h0).1
  have HJ := Lib.hid hJ
  have HY := Lib.hid hY
  have HJ0 := Lib.hid hj0
  have G0 := Lib.hid g0
  clear h0 hJ hJx g0 hY hj0
  refine callsIn_of_wp Tryz.func175 rfl trivial ?_ rfl
  simp only [Tryz.ntmps175, List.size_toArray, List.length_cons, List.length_nil, Nat.reduceAdd, Nat.reduceSub, Array.replicate_succ, Array.replicate_zero, List.push_toArray, List.append_toArray, List.nil_append, List.cons_append]
  have c0 : W.cell? ⟨B, 0, none⟩ = some (.string (⟨#[c]⟩ : ByteArray)) := by simp [World.cell?, G0.out]
  gi_wp2_with (fail)
  gi_loopw [6] (fun s6 wr => ∃ (i : Nat), i ≤ 1 ∧ s6 = .int .i64 i ∧ wr.heap[B]? = some (.cells #[.string ⟨#[c]⟩] 9 (0, 0)) ∧ J (if i = 0 then [] else [c.toNat - 48]) wr) (fun s6 _ => 1 - (intOf s6).toNat)
  case atStart => exact ⟨0, Nat.zero_le _, rfl, G0.out, HJ0.out⟩
  case round =>
    clear HJ0 G0 c0
    obtain ⟨i, hi, rfl, g0, hjp⟩ := hrel
    have c0 : wr.cell? ⟨B, 0, none⟩ = some (.string (⟨#[c]⟩ : ByteArray)) := by simp [World.cell?, g0]
    have G0 := Lib.hid g0
    have HJP := Lib.hid hjp
    clear g0 hjp
    rcases Nat.eq_zero_or_pos i with rfl | hp
    · have hdg := fun W => Dg.digit c W h1 h2
      have HD := Lib.hid hdg
      clear hdg
      gi_wp2_with (fail)
      refine ⟨trivial, (fun hh => by cases hh), (callsIn_wide.2 (HD.out wr)).mono ?_⟩
      rintro e w2 ⟨rfl, rfl⟩
      obtain ⟨fn1, tm1, as1, bo1, hyy1, hR1⟩ := HY.out [] (c.toNat - 48) w2 HJP.out ⟨rfl, rfl⟩
      gi_wp2_with (fail)
      refine ⟨(fun hh => by cases hh), hR1.mono ?_⟩
      rintro e W1 (⟨rfl, hJ1, hk1⟩ | ⟨rfl, hx1⟩)
      · have g0 := hk1.2 B _ 9 (0, 0) rfl G0.out
        have HJ1 := Lib.hid hJ1
        have GB := Lib.hid g0
        clear g0 hk1 hJ1 hyy1 hR1
        gi_wp2_with (fail)
        go_roundw
        case rel => exact ⟨1, Nat.le_refl _, by go_num, GB.out, HJ1.out⟩
        case measure => simp [intOf]
      · have HX1 := Lib.hid hx1
        clear hx1 hyy1 hR1
        gi_wp2_with (fail)
        refine bodyPost_ret (results_none rfl _ _ _) rfl ?_
        exact ⟨⟨_, rfl⟩, .inr ⟨_, trivial, HX1.out⟩⟩
    · obtain rfl : i = 1 := by omega
      gi_wp2_with (fail)
      go_end0
      exact ⟨⟨_, rfl⟩, .inl ⟨_, rfl, HJP.out⟩⟩
/-- Amid run: how many digits. -/
def RnI (w W0 : World) (pre : List Nat) (W : World) : Prop :=
  W.heap[w.heap.size]? = some (.cells #[.int .i64 10] 3 (0, 0)) ∧ W.heap[w.heap.size + 1]? = some (.cells #[.int .i64 pre.length] 3 (0, 0)) ∧ Below w.heap.size w W
set_option maxRecDepth 100000 in
set_option maxHeartbeats 8000000 in
theorem Dg.run (c : UInt8) (w : World) (k1 : 48 ≤ c.toNat) (k2 : c.toNat ≤ 57) : Calls Tryz.prog 146 #[.string ⟨#[c]⟩, .int .i64 10] w fun e w' => e = .returned (.int .i64 1) ∧ Below w.heap.size w w' := by
  obtain ⟨W0, hW0⟩ : ∃ W0, W0 = ((w.alloc (.cells #[.int .i64 10] 3)).alloc (.cells #[.int .i64 0] 3)).alloc (.cells #[.string ⟨#[c]⟩] 9) := ⟨_, rfl⟩
  have hs0 : W0.heap.size = w.heap.size + 3 := by rw [hW0]; simp
  have hb0 : Below w.heap.size w W0 := by rw [hW0]; exact (((Below.refl _ _).alloc (Nat.le_refl _) _).alloc (by simp) _).alloc (by simp; omega) _
  have e0 : W0.heap[w.heap.size]? = some (.cells #[.int .i64 10] 3 (0, 0)) := by
    rw [hW0]; exact heap_alloc_old' _ (heap_alloc_old' _ (heap_alloc_new _ _))
  have e1 : W0.heap[w.heap.size + 1]? = some (.cells #[.int .i64 0] 3 (0, 0)) := by
    have := heap_alloc_new (w.alloc (.cells #[.int .i64 10] 3)) (.cells #[.int .i64 0] 3)
    rw [hW0]; exact heap_alloc_old' _ (by simpa using this)
  have e2 : W0.heap[w.heap.size + 2]? = some (.cells #[.string ⟨#[c]⟩] 9 (0, 0)) := by
    have := heap_alloc_new ((w.alloc (.cells #[.int .i64 10] 3)).alloc (.cells #[.int .i64 0] 3)) (.cells #[.string ⟨#[c]⟩] 9)
    rw [hW0]; simpa using this
  have hseq := Dg.seq 4 (w.heap.size + 2) c W0 e2 k1 k2
  have hI0 : RnI w W0 [] W0 := ⟨e0, e1, hb0⟩
  have HSEQ := Lib.hid hseq
  have HS0 := Lib.hid hs0
  have HI0 := Lib.hid hI0
  have HW0 := Lib.hid hW0
  clear hW0 hs0 hb0 e0 e1 e2 hseq hI0
  refine (callsIn_wide (n := 5)).1 ?_
  refine callsIn_of_wp_marks Tryz.func146 rfl trivial ?_ rfl
  simp only [Tryz.ntmps146, List.size_toArray, List.length_cons, List.length_nil, Nat.reduceAdd, Nat.reduceSub, Array.replicate_succ, Array.replicate_zero, List.push_toArray, List.append_toArray, List.nil_append, List.cons_append]
  gi_wp2_with (fail)
  refine wpIn_wide.2 (wp_scope_straight ((wpIn_wide (n := 5)).1 ?_))
  gi_wp2_with (fail)
  refine wpIn_label ?_
  gi_wp2_with (fail)
  refine ⟨trivial, ?_⟩
  refine (callsIn_wide.2 (Dg.digits _ _)).mono ?_
  rintro e w2 ⟨rfl, rfl⟩
  rw [← HW0.out]
  gi_wp2_with (fail)
  refine wpIn_rangeFunc_gen rfl (by omega) (gf := 175) (lb := #[.pointer (some ⟨w.heap.size + 1 + 1, 0, none⟩)]) rfl trivial (enters_of Tryz.func175 (by kernel_rfl) rfl)
    HSEQ.out (fun k hk => hk.elim) (fun h k => h.trans k) (fun W l o o' hl hW ho _ => KT.putObj hW ho) (Below.refl _ _) (fun _ => rfl)
    (RnI w W0) (fun _ _ _ => False)
    (fun t A B ⟨h1, h2, h4⟩ hm => by
      have hs0 := HS0.out
      have hm' : Mod (fun k => W0.heap.size ≤ k ∧ nc A k) A B := hm.mono (fun k _ hk => hk.elim (fun h => h.elim) id)
      exact ⟨hm'.keep h1 (fun hk => by have := hk.1; omega), hm'.keep h2 (fun hk => by have := hk.1; omega), h4.trans (hm'.below (by have := h4.size; omega) (fun k hk => by have := hk.1; omega))⟩)
    (fun c t A B h _ => h)
    HI0.out
    (fun d => { tmps := #[.string ⟨#[c]⟩, .int .i64 10, undef, .pointer (some ⟨w.heap.size, 0, none⟩), .int .i64 0, .pointer (some ⟨w.heap.size + 1, 0, none⟩), .int .i64 d, .string ⟨#[c]⟩, .func (.func 175) #[] #[.pointer (some ⟨w.heap.size + 1 + 1, 0, none⟩)], .int .i64 d, undef, undef, undef, undef, undef, undef], defers := [] })
    ?assign ?body ?done ?stop
  case assign =>
    intro l x W K hK
    gi_wp2
    exact hK
  case body =>
    rintro l pre x W ⟨h1, h2, h4⟩ ⟨rfl, rfl⟩
    obtain ⟨d, hd⟩ : ∃ d, c.toNat - 48 = d := ⟨_, rfl⟩
    rw [hd]
    have e1 : decide ((10 : Int) ≤ (d : Int)) = false := decide_eq_false (by omega)
    have c1 : W.cell? ⟨w.heap.size, 0, none⟩ = some (.int .i64 10) := by simp [World.cell?, h1]
    have c2 : W.cell? ⟨w.heap.size + 1, 0, none⟩ = some (.int .i64 0) := by simp [World.cell?, h2]
    have f2 : W.frozen? ⟨w.heap.size + 1, 0, none⟩ = false := Lib.frozen_of_heap h2 0
    have H1 := Lib.hid h1
    have H2 := Lib.hid h2
    have H4 := Lib.hid h4
    clear h1 h2 h4 hd
    gi_wp2_with (fail)
    have g3 := heap_setCell_same _ (w.heap.size + 1) 0 _ _ (.int .i64 1) H2.out
    refine ⟨KeepsFrom.of_cells H2.out _, KT.set (KT.refl _ _) H2.out rfl _ _, ?_, by simpa using g3, H4.out.setCell (p := ⟨w.heap.size + 1, 0, none⟩) (by simp) _⟩
    exact (Below.heap_setCell _ _ _ _ (by simp)).trans H1.out
  case done =>
    rintro Dd zs W hD hzs ⟨h1, h2, h4⟩ hK
    subst hzs
    have c2 : W.cell? ⟨w.heap.size + 1, 0, none⟩ = some (.int .i64 1) := by simp [World.cell?, h2]
    have H4 := Lib.hid h4
    have HK := Lib.hid hK
    clear h1 h2 h4 hK
    gi_wp2_with (fail)
    rw [Exit.noGoto_ret]
    refine ⟨by simp, .inl ⟨_, _, rfl, run_takeDeferred HK.out, ?_⟩⟩
    exact ⟨.int .i64 1, by simp [results, Tryz.results146, go_sem], rfl, H4.out.trans (below_put (by have := HS0.out; omega) HK.out)⟩
  case stop =>
    rintro Dd c pre W hD _ h _
    exact h.elim
end Go.Proofs.YtlboejdhmggjpaaGreat.Ww

/- WxC -/
namespace Go.Proofs.YtlboejdhmggjpaaGreat.Ww
open Go.Proofs.YtlboejdhmggjpaaGreat
open Go.RowKit Go.BigFrame Go.Shelf
set_option linter.unusedVariables false
attribute [local go_sem] Oper.semAt_some

theorem Dg.hexed (c : UInt8) (w : World) : Calls Tryz.prog 145 #[.string ⟨#[c]⟩] w fun e w' => e = .returned (.bool false) ∧ w' = w := by
  go_enter Tryz.func145, Tryz.ntmps145
  go_wp2_with fail
  go_ret
  exact ⟨rfl, rfl⟩
theorem Dg.suffix (w : World) : Calls Tryz.prog 150 #[.string ⟨#[]⟩] w fun e w' => e = .returned (.tuple #[.bool false, .bool true]) ∧ w' = w := by
  go_enter Tryz.func150, Tryz.ntmps150
  go_wp2_with fail
  refine bodyPost_ret (v := .tuple #[.bool false, .bool true]) (by simp [results, Tryz.results150, go_sem]) rfl ⟨rfl, rfl⟩
theorem Dg.add64 (x : Nat) (hx : x ≤ 10) (w : World) : (callFunc 149 #[.int .u64 0, .int .u64 x, .int .u64 0]).run Tryz.prog w = .ok (.value (.tuple #[.int .u64 (x : Int), .int .u64 0])) w := by
  rw [run_callFunc_extern Tryz.func149 (by kernel_rfl) (by kernel_rfl) (by kernel_rfl) (e := add64Entry) (by kernel_rfl), run_add64 0 x 0 (by omega) (by omega) (by omega) (by omega)]
  have e1 : ((0 + (x : Int) + 0) % 18446744073709551616) = x := by omega
  have e2 : ((0 + (x : Int) + 0) / 18446744073709551616) = 0 := by omega
  simp only [Result.andThen]
  rw [e1, e2]
theorem Dg.all (c : UInt8) : (⟨#[c]⟩ : ByteArray).extract 0 1 = ⟨#[c]⟩ := rfl
theorem Dg.rest0 (c : UInt8) : (⟨#[c]⟩ : ByteArray).extract 1 1 = ⟨#[]⟩ := rfl
theorem Dg.mul (W : World) : Calls Tryz.prog 148 #[.int .u64 0, .int .u64 10] W fun e w' => e = .returned (.tuple #[.int .u64 0, .int .u64 0]) ∧ w' = W := by
  have h := Tryz.bits_Mul64 0 10 (by decide) (by decide) W
  simpa using h
/-- Amid Int. -/
structure InI (w : World) (d : Nat) (pre : List Nat) (W : World) : Prop where
  v : W.heap[w.heap.size]? = some (.cells #[.int .u64 (if pre = [] then 0 else d : Nat)] 181 (0, 0))
  s : W.heap[w.heap.size + 1]? = some (.cells #[.bool false] 4 (0, 0))
  e : W.heap[w.heap.size + 2]? = some (.cells #[.int .i64 0] 25 (0, 0))
  b : W.heap[w.heap.size + 3]? = some (.cells #[.int .i64 10] 3 (0, 0))
  h : Below w.heap.size w W
theorem InI.keep {w : World} {d : Nat} {pre : List Nat} {A B : World} {S : Nat → Prop} (h : InI w d pre A) (hm : Mod S A B) (hS : ∀ k, S k → w.heap.size + 4 ≤ k) : InI w d pre B :=
  ⟨hm.keep h.v (fun hk => by have := hS _ hk; omega), hm.keep h.s (fun hk => by have := hS _ hk; omega), hm.keep h.e (fun hk => by have := hS _ hk; omega), hm.keep h.b (fun hk => by have := hS _ hk; omega), h.h.trans (hm.below h.h.size (fun k hk => by have := hS _ hk; omega))⟩
set_option maxRecDepth 100000 in
set_option maxHeartbeats 8000000 in
theorem Dg.int (c : UInt8) (w : World) (k1 : 49 ≤ c.toNat) (k2 : c.toNat ≤ 57) : Calls Tryz.prog 111 #[.string ⟨#[c]⟩] w fun e w' => e = .returned (.tuple #[.int .u64 (c.toNat - 48 : Nat), .bool false, .int .i64 0]) ∧ Below w.heap.size w w' := by
  have hne : ((((⟨#[c]⟩ : ByteArray)[0]'Nat.zero_lt_one).toNat : Int) == 48) = false := by
    show ((c.toNat : Int) == 48) = false
    rw [beq_eq_false_iff_ne]; omega
  refine (callsIn_wide (n := 5)).1 ?_
  refine callsIn_of_wp_marks Tryz.func111 rfl trivial ?_ rfl
  simp only [Tryz.ntmps111, List.size_toArray, List.length_cons, List.length_nil, Nat.reduceAdd, Nat.reduceSub, Array.replicate_succ, Array.replicate_zero, List.push_toArray, List.append_toArray, List.nil_append, List.cons_append]
  gi_wp2_with (fail)
  refine ⟨trivial, (callsIn_wide.2 (Dg.hexed c _)).mono ?_⟩
  rintro e w2 ⟨rfl, rfl⟩
  gi_wp2_with (fail)
  refine ⟨trivial, (callsIn_wide.2 (Dg.run c _ (by omega) k2)).mono ?_⟩
  rintro e w2 ⟨rfl, hb2⟩
  have hI : ∀ x, InI w x [] w2 := fun x => by
    have hs : ∀ (a b c d : Value), ((((w.alloc (.cells #[a] 181)).alloc (.cells #[b] 4)).alloc (.cells #[c] 25)).alloc (.cells #[d] 3)).heap.size = w.heap.size + 4 := fun a b c d => by simp
    have g : ∀ {k : Nat} {o : Obj}, k < w.heap.size + 4 → ((((w.alloc (.cells #[.int .u64 0] 181)).alloc (.cells #[.bool false] 4)).alloc (.cells #[.int .i64 0] 25)).alloc (.cells #[.int .i64 10] 3)).heap[k]? = some o → w2.heap[k]? = some o := fun {k o} hk h => heap_below hb2 h (by rw [hs]; exact hk)
    refine ⟨g (by omega) (heap_alloc_old' _ (heap_alloc_old' _ (heap_alloc_old' _ (heap_alloc_new _ _)))), g (by omega) (heap_alloc_old' _ (heap_alloc_old' _ ?_)), g (by omega) (heap_alloc_old' _ ?_), g (by omega) ?_, ?_⟩
    · have := heap_alloc_new (w.alloc (.cells #[.int .u64 0] 181)) (.cells #[.bool false] 4)
      simpa using this
    · have := heap_alloc_new ((w.alloc (.cells #[.int .u64 0] 181)).alloc (.cells #[.bool false] 4)) (.cells #[.int .i64 0] 25)
      simpa using this
    · have := heap_alloc_new (((w.alloc (.cells #[.int .u64 0] 181)).alloc (.cells #[.bool false] 4)).alloc (.cells #[.int .i64 0] 25)) (.cells #[.int .i64 10] 3)
      simpa using this
    · exact ((((Below.refl _ _).alloc (Nat.le_refl _) _).alloc (by simp) _).alloc (by simp; omega) _).alloc (by simp; omega) _ |>.trans (hb2.mono (by simp; omega))
  have hsz2 : w.heap.size + 4 ≤ w2.heap.size := by have := hb2.size; simpa using this
  have HI := Lib.hid hI
  clear hI hb2
  gi_wp2_with (fail)
  rw [Dg.all]
  refine ⟨trivial, (callsIn_wide.2 (Dg.digits _ _)).mono ?_⟩
  rintro e w3 ⟨rfl, rfl⟩
  gi_wp2_with (fail)
  have ADD := Dg.add64
  generalize hzz : ((((⟨#[c]⟩ : ByteArray)[0]'Nat.zero_lt_one).toNat : Nat) : Int) = z
  clear hne
  have hsq := Dg.seq 4 w2.heap.size c (w2.alloc (.cells #[.string ⟨#[c]⟩] 9)) (heap_alloc_new _ _) (by omega) k2
  have hI0 : InI w (c.toNat - 48) [] (w2.alloc (.cells #[.string ⟨#[c]⟩] 9)) := (HI.out _).keep (Mod.of_below (S := fun _ => False) (below_alloc _ _)) (fun k hk => hk.elim)
  obtain ⟨W0, hW0⟩ : ∃ W0, W0 = w2.alloc (.cells #[.string ⟨#[c]⟩] 9) := ⟨_, rfl⟩
  have hs0 : w.heap.size + 4 ≤ W0.heap.size := by rw [hW0]; simp; omega
  rw [← hW0] at hsq hI0 ⊢
  have HSQ := Lib.hid hsq
  have HI0 := Lib.hid hI0
  have HS0 := Lib.hid hs0
  clear hsq hI0 hW0 hs0

  refine wpIn_rangeFunc_gen rfl (by omega) (gf := 175) (lb := #[.pointer (some ⟨w2.heap.size, 0, none⟩)]) rfl trivial (enters_of Tryz.func175 (by kernel_rfl) rfl)
    HSQ.out (fun k hk => hk.elim) (fun h k => h.trans k) (fun W l o o' hl hW ho _ => KT.putObj hW ho) (Below.refl _ _) (fun _ => rfl)
    (InI w (c.toNat - 48)) (fun _ _ _ => False)
    (fun t A B h hm => h.keep hm (fun k hk => hk.elim (fun h => h.elim) (fun h => Nat.le_trans HS0.out h.1)))
    (fun c t A B h _ => h)
    HI0.out
    (fun d => { tmps := #[.string ⟨#[c]⟩, undef, .pointer (some ⟨w.heap.size, 0, none⟩), .pointer (some ⟨w.heap.size + 1, 0, none⟩), .pointer (some ⟨w.heap.size + 1 + 1, 0, none⟩), .pointer (some ⟨w.heap.size + 1 + 1 + 1, 0, none⟩), .string ⟨#[c]⟩, .int .i64 1, .int .i64 d, undef, undef, undef, undef, undef, undef, undef, .string ⟨#[c]⟩, .bool false, .string ⟨#[c]⟩, .bool false, undef, undef, .bool false, .string ⟨#[c]⟩, .bool true, .bool true, .string ⟨#[c]⟩, .int .u8 z, .bool false, .bool false, .string ⟨#[c]⟩, .int .i64 10, .int .i64 1, .int .i64 1, .bool false, .string ⟨#[c]⟩, .int .i64 1, .string ⟨#[c]⟩, .func (.func 175) #[] #[.pointer (some ⟨w2.heap.size, 0, none⟩)], .int .i64 d, undef, undef, undef, undef, undef, undef, undef, undef, undef, undef, undef, undef, undef, undef, undef, undef, undef, undef, undef, undef, undef, undef, undef, undef, undef, undef, undef, undef, undef, undef, undef, undef, undef, undef, undef, undef, undef, undef, undef, undef, undef, undef, undef, undef, undef, undef, undef, undef], defers := [] })
    ?assign ?body ?done ?stop
  case assign =>
    intro l x W K hK
    gi_wp2
    exact hK
  case body =>
    rintro l pre x W h ⟨rfl, rfl⟩
    obtain ⟨d, hd⟩ : ∃ d, c.toNat - 48 = d := ⟨_, rfl⟩
    rw [hd] at h ⊢
    have hd10 : d ≤ 10 := by omega
    have c0 : W.cell? ⟨w.heap.size, 0, none⟩ = some (.int .u64 0) := by have := h.v; simp [World.cell?, this]
    have c3 : W.cell? ⟨w.heap.size + 1 + 1 + 1, 0, none⟩ = some (.int .i64 10) := by have := h.b; simp [World.cell?, this]
    have f2 : W.frozen? ⟨w.heap.size, 0, none⟩ = false := Lib.frozen_of_heap h.v 0
    have H := Lib.hid h
    clear h hd
    gi_wp2_with (fail)
    refine ⟨trivial, (calls_round (Dg.mul W)).mono ?_⟩
    rintro e w5 ⟨rfl, rfl⟩
    have ADD := Dg.add64 d hd10
    gi_wp2_with (fail)
    refine ⟨trivial, ?_⟩
    gi_wp2_with (fail)
    have g3 := heap_setCell_same _ w.heap.size 0 _ _ (.int .u64 d) H.out.v
    have hne : ∀ k, k ≠ w.heap.size → (w5.setCell ⟨w.heap.size, 0, none⟩ (.int .u64 d)).heap[k]? = w5.heap[k]? := fun k hk => Below.heap_setCell _ _ _ _ (fun e => hk e)
    refine ⟨KeepsFrom.of_cells H.out.v _, KT.set (KT.refl _ _) H.out.v rfl _ _, by simpa using g3, ?_, ?_, ?_, H.out.h.setCell (p := ⟨w.heap.size, 0, none⟩) (by simp) _⟩
    · rw [hne _ (by omega)]; exact H.out.s
    · rw [hne _ (by omega)]; exact H.out.e
    · rw [hne _ (by omega)]; exact H.out.b
  case done =>
    rintro Dd zs W hD hzs h hK
    subst hzs
    obtain ⟨d, hd⟩ : ∃ d, c.toNat - 48 = d := ⟨_, rfl⟩
    rw [hd] at h
    have hd10 : d ≤ 10 := by omega
    have HD := Lib.hid hd
    have c0 : W.cell? ⟨w.heap.size, 0, none⟩ = some (.int .u64 d) := by have := h.v; simp [World.cell?, this]
    have c1 : W.cell? ⟨w.heap.size + 1, 0, none⟩ = some (.bool false) := by have := h.s; simp [World.cell?, this]
    have c2 : W.cell? ⟨w.heap.size + 1 + 1, 0, none⟩ = some (.int .i64 0) := by have := h.e; simp [World.cell?, this]
    have c3 : W.cell? ⟨w.heap.size + 1 + 1 + 1, 0, none⟩ = some (.int .i64 10) := by have := h.b; simp [World.cell?, this]
    have f0 : W.frozen? ⟨w.heap.size, 0, none⟩ = false := Lib.frozen_of_heap h.v 0
    have f1 : W.frozen? ⟨w.heap.size + 1, 0, none⟩ = false := Lib.frozen_of_heap h.s 0
    have f2 : W.frozen? ⟨w.heap.size + 1 + 1, 0, none⟩ = false := Lib.frozen_of_heap h.e 0
    have e1 : decide ((9223372036854775807 : Int) < (d : Int)) = false := decide_eq_false (by omega)
    have H := Lib.hid h
    have HK := Lib.hid hK
    clear h hK hd
    gi_wp2_with (fail)
    refine ⟨trivial, (callsIn_wide.2 (Dg.suffix W)).mono ?_⟩
    rintro e w5 ⟨rfl, rfl⟩
    gi_wp2_with (fail)
    obtain ⟨W6, hW6⟩ : ∃ W6, W6 = ((w5.setCell ⟨w.heap.size, 0, none⟩ (.int .u64 d)).setCell ⟨w.heap.size + 1, 0, none⟩ (.bool false)).setCell ⟨w.heap.size + 1 + 1, 0, none⟩ (.int .i64 0) := ⟨_, rfl⟩
    rw [← hW6]
    have hk6 : ∀ {k : Nat} {o : Obj}, k ≠ w.heap.size → k ≠ w.heap.size + 1 → k ≠ w.heap.size + 2 → w5.heap[k]? = some o → W6.heap[k]? = some o := fun {k o} a1 a2 a3 h => by
      rw [hW6, Below.heap_setCell _ _ _ _ (fun e => a3 e), Below.heap_setCell _ _ _ _ (fun e => a2 e), Below.heap_setCell _ _ _ _ (fun e => a1 e)]; exact h
    have hdd : w.heap.size + 4 ≤ Dd := Nat.le_trans HS0.out hD
    have hd6 : W6.heap[Dd]? = some (.deferred (some [])) := hk6 (by omega) (by omega) (by omega) HK.out
    have hb6 : Below w.heap.size w W6 := by
      rw [hW6]
      exact ((H.out.h.setCell (p := ⟨w.heap.size, 0, none⟩) (by simp) _).setCell (p := ⟨w.heap.size + 1, 0, none⟩) (by simp) _).setCell (p := ⟨w.heap.size + 1 + 1, 0, none⟩) (by simp; omega) _
    have q0 : W6.heap[w.heap.size]? = some (.cells #[.int .u64 d] 181 (0, 0)) := by
      rw [hW6, Below.heap_setCell _ _ _ _ (fun e => by simp at e <;> omega), Below.heap_setCell _ _ _ _ (fun e => by simp at e <;> omega)]
      simpa using heap_setCell_same _ w.heap.size 0 _ _ (.int .u64 d) H.out.v
    have q1 : W6.heap[w.heap.size + 1]? = some (.cells #[.bool false] 4 (0, 0)) := by
      rw [hW6, Below.heap_setCell _ _ _ _ (fun e => by simp at e <;> omega)]
      simpa using heap_setCell_same _ (w.heap.size + 1) 0 _ _ (.bool false) ((Below.heap_setCell _ _ _ _ (by simp)).trans H.out.s)
    have q2 : W6.heap[w.heap.size + 1 + 1]? = some (.cells #[.int .i64 0] 25 (0, 0)) := by
      rw [hW6]
      simpa using heap_setCell_same _ (w.heap.size + 1 + 1) 0 _ _ (.int .i64 0) ((Below.heap_setCell _ _ _ _ (by simp)).trans ((Below.heap_setCell _ _ _ _ (by simp; omega)).trans H.out.e))
    have HK6 := Lib.hid hd6
    have HB6 := Lib.hid hb6
    clear hW6 hk6 hd6 hb6
    refine ⟨by simp, .inl ⟨_, _, rfl, run_takeDeferred HK6.out, ?_⟩⟩
    have p0 : (W6.putObj Dd (.deferred none)).cell? ⟨w.heap.size, 0, none⟩ = some (.int .u64 d) := by simp [World.cell?, World.putObj_heap_other (show w.heap.size ≠ Dd by omega), q0]
    have p1 : (W6.putObj Dd (.deferred none)).cell? ⟨w.heap.size + 1, 0, none⟩ = some (.bool false) := by simp [World.cell?, World.putObj_heap_other (show w.heap.size + 1 ≠ Dd by omega), q1]
    have p2 : (W6.putObj Dd (.deferred none)).cell? ⟨w.heap.size + 1 + 1, 0, none⟩ = some (.int .i64 0) := by simp [World.cell?, World.putObj_heap_other (show w.heap.size + 1 + 1 ≠ Dd by omega), q2]
    clear q0 q1 q2 c0 c1 c2 c3
    refine ⟨.tuple #[.int .u64 d, .bool false, .int .i64 0], by simp [results, Tryz.results111, go_sem, p0, p1, p2], ?_, HB6.out.trans (below_put (by omega) HK6.out)⟩
    rw [HD.out]
  case stop =>
    rintro Dd c pre W hD _ h _
    exact h.elim
end Go.Proofs.YtlboejdhmggjpaaGreat.Ww

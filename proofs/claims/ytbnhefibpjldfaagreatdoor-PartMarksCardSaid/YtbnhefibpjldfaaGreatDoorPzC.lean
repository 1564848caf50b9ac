/- slices.Collect of comments. -/
import Derived.Test.YtbnhefibpjldfaaGreatDoorPxE
import Derived.Test.YtbnhefibpjldfaaGreatDoorRfs
import Derived.Test.YtbnhefibpjldfaaGreatDoorPxL
import Derived.Test.YtbnhefibpjldfaaGreatDoorTal
import Derived.Test.YtbnhefibpjldfaaGreatDoorPxN
import Derived.BigQuiet
import Derived.Test.YtbnhefibpjldfaaGreatDoorPyN
import Derived.Laws.EntriesVeiled
namespace Go.Proofs.YtbnhefibpjldfaaGreatDoor
open Go.RowKit Go.BigFrame Go.Shelf
set_option linter.unusedVariables false
attribute [local go_sem] Oper.semAt_some

theorem KX.of_bel {B K : Nat} {w w' : World} (hB : B < K) (h : Below K w w') : KX B K w w' := ⟨h.size, fun cs t x => heap_below h x hB, fun _ => h⟩
/-- What the collector keeps. -/
def TcoI (w : World) (pre : List Tk) (W : World) : Prop :=
  ∃ v, W.heap[w.heap.size]? = some (.cells #[v] 30 (0, 0)) ∧ W.ownsRow w.heap.size 40 5 v pre.length (pre.flatMap tkC) ∧ Below w.heap.size w W ∧ w.heap.size < W.heap.size
def TkcPost (l : List Tk) (w : World) (e : Ending) (w' : World) : Prop :=
  ∃ v, e = .returned v ∧ w'.ownsRow w.heap.size 40 5 v l.length (l.flatMap tkC) ∧ Below w.heap.size w w'
set_option maxRecDepth 100000 in
set_option maxHeartbeats 8000000 in
theorem Cm.append (B gb go c : Nat) (l : List Tk) (a : Option Addr) (w : World) (h0 : w.heap[B]? = some (.cells #[.slice a l.length c] 30 (0, 0))) (hl : l.length ≤ 100000000)
    (hrow : l ≠ [] → a = some ⟨gb, go, none⟩ ∧ gb < w.heap.size ∧ ∀ i (h : i < l.length), CellsAt w gb (go + i * 5) (tkC l[i])) :
    Calls Tryz.prog 42 #[.slice none 0 0, .func (.func 43) #[] #[.pointer (some ⟨B, 0, none⟩)]] w (TkcPost (cmsT l) w) := by
  obtain ⟨W0, hW0⟩ : ∃ W0, W0 = w.alloc (.cells #[.slice none 0 0] 30) := ⟨_, rfl⟩
  have hBl : B < w.heap.size := (Array.getElem?_eq_some_iff.1 h0).1
  have hs0 : W0.heap.size = w.heap.size + 1 := by rw [hW0]; simp
  have hb0 : Below w.heap.size w W0 := by rw [hW0]; exact below_alloc _ _
  have e0 : W0.heap[w.heap.size]? = some (.cells #[.slice none 0 0] 30 (0, 0)) := by rw [hW0]; exact heap_alloc_new _ _
  have hI0 : TcoI w [] W0 := ⟨_, e0, World.ownsRow_nil _ _ _ _, hb0, by omega⟩
  have hseq := Cm.seq 4 B w.heap.size gb go c l a W0 (heap_below hb0 h0 hBl) (by omega) (by omega) (fun hne => by
    obtain ⟨q1, q2, q3⟩ := hrow hne
    exact ⟨q1, q2, fun i h => (q3 i h).below hb0 q2⟩)
  have hpl : (cmsT l).length ≤ l.length := List.length_filter_le _ _
  obtain ⟨R, hR⟩ : ∃ R, cmsT l = R := ⟨_, rfl⟩
  rw [hR] at hseq hpl ⊢
  obtain ⟨i0, hi, hz0, hz1, hz2⟩ := info_parts info40
  have HI := Lib.hid hi
  have HZ0 := Lib.hid hz0
  have HZ1 := Lib.hid hz1
  have HZ2 := Lib.hid hz2
  have HPL := Lib.hid hpl
  have HSEQ := Lib.hid hseq
  have HS0 := Lib.hid hs0
  have HI0 := Lib.hid hI0
  have HW0 := Lib.hid hW0
  have HBL := Lib.hid hBl
  clear hi hz0 hz1 hz2 hW0 hs0 hb0 e0 hseq hI0 h0 hrow hpl hR hBl
  refine (callsIn_wide (n := 5)).1 ?_
  refine callsIn_of_wp_marks Tryz.func42 rfl trivial ?_ rfl
  simp only [Tryz.ntmps42, List.size_toArray, List.length_cons, List.length_nil, Nat.reduceAdd, Nat.reduceSub, Array.replicate_succ, Array.replicate_zero, List.push_toArray, List.append_toArray, List.nil_append, List.cons_append]
  gi_wp2_with (fail)
  rw [← HW0.out]
  refine wpIn_rangeFunc_asg rfl (by omega) (gf := 43) (lb := #[.pointer (some ⟨B, 0, none⟩)]) rfl trivial (enters_of Tryz.func43 (by kernel_rfl) rfl)
    HSEQ.out (fun k hk => hk.elim) (fun h k => h.trans k) (fun W l o o' hl hW ho _ => KX.putObj (by have := HS0.out; omega) hW ho) (Below.refl _ _) (fun _ => rfl)
    (TcoI w) (fun _ _ _ => False)
    (fun t A B ⟨v, h1, h2, h3, h4⟩ hm => by
      have hs0 := HS0.out
      have hm' : Mod (fun k => W0.heap.size ≤ k ∧ nc A k) A B := hm.mono (fun k _ hk => hk.elim (fun h => h.elim) id)
      exact ⟨v, hm'.keep h1 (fun hk => by have := hk.1; omega), own_nc h2 hm', h3.trans (hm'.below (by have := h3.size; omega) (fun k hk => by have := hk.1; omega)), Nat.lt_of_lt_of_le h4 hm.size⟩)
    (fun c t A B h _ => h)
    HI0.out
    (fun (p : Tk) a' W => ∃ b, W.heap[b]? = some (.cells #[.int .i64 p.kind, .string (str p.text), .int .i64 p.lo, .int .i64 p.hi, .bool p.space] 40 (0, 0)) ∧
      a' = { tmps := #[.slice none 0 0, .func (.func 43) #[] #[.pointer (some ⟨B, 0, none⟩)], .pointer (some ⟨w.heap.size, 0, none⟩), undef, .slice none 0 0, .pointer (some ⟨b, 0, none⟩), .func (.func 43) #[] #[.pointer (some ⟨B, 0, none⟩)], tkV p, undef, undef, undef, undef, undef], defers := [] })
    (fun h => KX.of_below h)
    (fun p a' W l o o' hl ho ⟨b, hb, ha⟩ => ⟨b, by
      rw [World.putObj_heap_other (fun e => by
        subst e
        rw [hl] at hb
        cases hb
        cases ho)]
      exact hb, ha⟩)
    ?assign ?body ?done ?stop
  case assign =>
    intro l z W K hK
    simp only [tkV]
    gi_wp2
    exact hK _ _ (below_alloc W _) ⟨W.heap.size, heap_alloc_new _ _, rfl⟩
  case body =>
    rintro l' pre x a' W ⟨v, h1, h2, h3, h4⟩ ⟨r, hr⟩ ⟨b, hb, rfl⟩
    have hpl : pre.length ≤ l.length := by
      have q := HPL.out
      rw [hr] at q
      simp at q
      omega
    obtain ⟨kd, tx, lo, hi', sp⟩ := x
    simp only at hb
    have u0 : W.cell? ⟨b, 0, none⟩ = some (.int .i64 kd) := by simp [World.cell?, hb]
    have u1 : W.cell? ⟨b, 1, none⟩ = some (.string (str tx)) := by simp [World.cell?, hb]
    have u2 : W.cell? ⟨b, 2, none⟩ = some (.int .i64 lo) := by simp [World.cell?, hb]
    have u3 : W.cell? ⟨b, 3, none⟩ = some (.int .i64 hi') := by simp [World.cell?, hb]
    have u4 : W.cell? ⟨b, 4, none⟩ = some (.bool sp) := by simp [World.cell?, hb]
    have c1 : W.cell? ⟨w.heap.size, 0, none⟩ = some v := by simp [World.cell?, h1]
    obtain ⟨a0, cap0, rfl⟩ := row_shape h2
    have H1 := Lib.hid h1
    have H2 := Lib.hid h2
    have H3 := Lib.hid h3
    clear h1 h2 h3 hr hb
    gi_wp2_with (gi_at_builtin; refine wpListIn_append_own _ rfl _ _ 30 rfl w.heap.size 40 i0 (.agg #[.int .i64 0, .string ⟨#[]⟩, .int .i64 0, .int .i64 0, .bool false]) 5 48 Tryz.underlying30 HI.out HZ0.out HZ1.out HZ2.out rfl (by decide) _ _ _ rfl (H2.out.alloc _) ⟨W.heap.size, 0, none⟩ 1 1 [.int .i64 kd, .string (str tx), .int .i64 lo, .int .i64 hi', .bool sp] rfl rfl (five_cells _ _ _ _ _ _ 40) (fun u hu => by simp at hu; rcases hu with rfl | rfl | rfl | rfl | rfl <;> rfl) (by unfold maxLen; omega) (by omega) (by have := H3.out.size; simp; omega) ?_; intro v' W1 hown' hgrow _; have hd1 := lb_amid H1.out (by decide) H2.out hgrow; have HPU := Lib.hid (lb_push H1.out (by decide) H2.out hgrow hown'); obtain ⟨a', cap', hv'⟩ := row_shape hown'; subst hv'; have d1 : W1.cell? ⟨w.heap.size, 0, none⟩ = some (.slice a0 pre.length cap0) := (by simp [World.cell?, hd1]); have g1 : W1.frozen? ⟨w.heap.size, 0, none⟩ = false := Lib.frozen_of_heap hd1 0; clear hown' hgrow hd1)
    refine ⟨HPU.out.kf _, KX.of_bel HBL.out (HPU.out.bel _ (Nat.le_refl _) (Nat.le_refl _)), _, HPU.out.box, ?_, H3.out.trans (HPU.out.bel _ (Nat.le_refl _) (Nat.le_refl _)), Nat.lt_of_lt_of_le h4 (HPU.out.kf 0).size⟩
    have := HPU.out.row
    rw [List.flatMap_append, List.length_append]
    simpa [tkC] using this
  case done =>
    rintro Dd zs W hD rfl ⟨v, h1, h2, h3, h4⟩ hK
    have c1 : W.cell? ⟨w.heap.size, 0, none⟩ = some v := by simp [World.cell?, h1]
    obtain ⟨a, cap, rfl⟩ := row_shape h2
    have H2 := Lib.hid h2
    have H3 := Lib.hid h3
    have HK := Lib.hid hK
    clear h1 h2 h3 h4 hK
    gi_wp2_with (fail)
    refine ⟨by simp, .inl ⟨_, _, rfl, run_takeDeferred HK.out, ?_⟩⟩
    exact ⟨.slice a zs.length cap, by simp [results, Tryz.results42, go_sem], _, rfl, own_put H2.out HK.out rfl, H3.out.trans (below_put (by have := HS0.out; omega) HK.out)⟩
  case stop =>
    rintro Dd c pre W hD _ h _
    exact h.elim
theorem Cm.collect (B gb go c : Nat) (l : List Tk) (a : Option Addr) (w : World) (h0 : w.heap[B]? = some (.cells #[.slice a l.length c] 30 (0, 0))) (hl : l.length ≤ 100000000)
    (hrow : l ≠ [] → a = some ⟨gb, go, none⟩ ∧ gb < w.heap.size ∧ ∀ i (h : i < l.length), CellsAt w gb (go + i * 5) (tkC l[i])) :
    Calls Tryz.prog 19 #[.func (.func 43) #[] #[.pointer (some ⟨B, 0, none⟩)]] w (TkcPost (cmsT l) w) := by
  have H := Lib.hid (Cm.append B gb go c l a w h0 hl hrow)
  clear h0 hrow
  go_enter Tryz.func19, Tryz.ntmps19
  go_wp2_with fail
  refine H.out.mono ?_
  rintro e w2 ⟨v, rfl, h2, h3⟩
  obtain ⟨a, cap, rfl⟩ := row_shape h2
  have H2 := Lib.hid h2
  have H3 := Lib.hid h3
  clear h2 h3
  go_wp2_with fail
  go_ret
  exact ⟨_, rfl, H2.out, H3.out⟩
/-- The comments of a list of tokens, collected. -/
theorem Cm.coms (a : Option Addr) (n c : Nat) (l : List Tk) (w : World) (hv : SlV 5 tkC w (.slice a n c) l) (hl : l.length ≤ 100000000) :
    ∀ W B, Below w.heap.size w W → W.heap[B]? = some (.cells #[.slice a n c] 30 (0, 0)) → Calls Tryz.prog 19 #[.func (.func 43) #[] #[.pointer (some ⟨B, 0, none⟩)]] W (TkcPost (cmsT l) W) := by
  intro W B hW h0
  obtain ⟨a', c', he, _, _, hr⟩ := hv
  simp only [Value.slice.injEq] at he
  obtain ⟨rfl, rfl, rfl⟩ := he
  by_cases hne : l = []
  · exact Cm.collect B 0 0 c l a W h0 hl (fun h => absurd hne h)
  · obtain ⟨gb, go, rfl, hgb, hgc⟩ := hr.at hne
    exact Cm.collect B gb go c l _ W h0 hl (fun _ => ⟨rfl, Nat.lt_of_lt_of_le hgb hW.size, fun i h => (hgc i h).below hW hgb⟩)
end Go.Proofs.YtbnhefibpjldfaaGreatDoor

/- PzB -/
namespace Go.Proofs.YtbnhefibpjldfaaGreatDoor
open Go.RowKit Go.BigFrame Go.Shelf
set_option linter.unusedVariables false

theorem info3 : (Tryz.prog.info? 3).map (fun i => (i.zero, i.size, i.bytes)) = some (some (.int .i64 0), 1, 8) := by kernel_rfl
theorem upto_snoc {f k : Nat} (h : f ≤ k) : upto' f (k + 1) = upto' f k ++ [k] := by
  unfold upto'
  rw [show k + 1 - f = (k - f) + 1 by omega, List.range'_concat]
  congr 2
  omega
theorem upto_nil {f k : Nat} (h : k ≤ f) : upto' f k = [] := by unfold upto'; rw [Nat.sub_eq_zero_of_le h]; rfl
theorem upto_len (f k : Nat) : (upto' f k).length = k - f := by simp [upto']
/-- Numbers are put behind a list. -/
def AddPost (b3 X : Nat) (L : List Nat) (w : World) (e : Ending) (w' : World) : Prop :=
  (∃ r, e = .returned r) ∧ ∃ v', w'.heap[b3]? = some (.cells #[v'] 67 (0, 0)) ∧ w'.ownsRow X 3 1 v' L.length (L.flatMap intF) ∧ Mod (fun k => k = b3 ∨ X ≤ k) w w' ∧ ∀ B, KeepsFrom B w w'
set_option maxRecDepth 100000 in
set_option maxHeartbeats 8000000 in
theorem Pr.add (lo hi b3 X : Nat) (S : List Nat) (v : Value) (w : World) (h3 : w.heap[b3]? = some (.cells #[v] 67 (0, 0))) (ho : w.ownsRow X 3 1 v S.length (S.flatMap intF)) (hX : X ≤ w.heap.size) (hS : S.length ≤ 1000000) (hlo : lo ≤ 1000000) (hhi : hi ≤ 1000000) :
    Calls Tryz.prog 28 #[.int .i64 lo, .int .i64 hi, .pointer (some ⟨b3, 0, none⟩)] w (AddPost b3 X (S ++ upto' lo hi) w) := by
  obtain ⟨i0, hi0, hz0, hz1, hz2⟩ := info_parts info3
  have HI := Lib.hid hi0
  have HZ0 := Lib.hid hz0
  have HZ1 := Lib.hid hz1
  have HZ2 := Lib.hid hz2
  have H3 := Lib.hid h3
  have HO := Lib.hid ho
  clear hi0 hz0 hz1 hz2 h3 ho
  go_enter Tryz.func28, Tryz.ntmps28
  go_wp2_with fail
  go_loopw [5] (fun s5 wr => ∃ (i : Nat) (v' : Value), lo ≤ i ∧ (i ≤ hi ∨ i = lo) ∧ s5 = .int .i64 i ∧ wr.heap[b3]? = some (.cells #[v'] 67 (0, 0)) ∧ wr.ownsRow X 3 1 v' (S ++ upto' lo i).length ((S ++ upto' lo i).flatMap intF) ∧ Mod (fun k => k = b3 ∨ X ≤ k) w wr ∧ ∀ B, KeepsFrom B w wr) (fun s5 _ => hi - (intOf s5).toNat)
  case atStart => exact ⟨lo, v, Nat.le_refl _, .inr rfl, rfl, H3.out, by rw [upto_nil (Nat.le_refl _), List.append_nil]; exact HO.out, Mod.refl _ _, fun B => ⟨Nat.le_refl _, fun k o _ h _ => h⟩⟩
  case round =>
    clear H3 HO
    obtain ⟨i, v', hli, hih, rfl, h3, ho, hm, hkf⟩ := hrel
    have HKF := Lib.hid hkf
    clear hkf
    have hws := hm.size
    have hln : (S ++ upto' lo i).length ≤ 2000000 := by rw [List.length_append, upto_len]; omega
    obtain ⟨L, hL⟩ : ∃ L, S ++ upto' lo i = L := ⟨_, rfl⟩
    rw [hL] at ho hln
    obtain ⟨oa, oc, rfl⟩ := row_shape ho
    have c3 : wr.cell? ⟨b3, 0, none⟩ = some (.slice oa L.length oc) := by simp [World.cell?, h3]
    by_cases hlt : i < hi
    · have hlt' : (i : Int) < hi := by omega
      have hup : S ++ upto' lo (i + 1) = (S ++ upto' lo i) ++ [i] := by rw [upto_snoc hli, List.append_assoc]
      rw [hL] at hup
      have HUP := Lib.hid hup
      have HO := Lib.hid ho
      have H3 := Lib.hid h3
      have HM := Lib.hid hm
      clear ho h3 hm hup hih hL
      go_wp2_with (at_builtin; go_loud (refine wpList_append_own _ rfl _ _ 67 rfl X 3 i0 (.int .i64 0) 1 8 Tryz.underlying67 HI.out HZ0.out HZ1.out HZ2.out rfl (by decide) _ L.length _ rfl (HO.out.alloc _) ⟨wr.heap.size, 0, none⟩ 1 1 [.int .i64 i] rfl rfl (cells1_new _ _ 3) (fun u hu => by simp at hu; subst hu; rfl) (by unfold maxLen; omega) (by omega) (by simp; omega) ?_); intro v' W1 hown' hgrow _; have hd1 := lb_amid H3.out (by decide) HO.out hgrow; have HPU := Lib.hid (lb_push H3.out (by decide) HO.out hgrow hown'); obtain ⟨a', cap', hv'⟩ := row_shape hown'; subst hv'; have d1 : W1.cell? ⟨b3, 0, none⟩ = some (.slice oa L.length oc) := (by simp [World.cell?, hd1]); have g1 : W1.frozen? ⟨b3, 0, none⟩ = false := Lib.frozen_of_heap hd1 0; clear hown' hgrow hd1)
      go_roundw
      case rel =>
        refine ⟨i + 1, _, by omega, .inl (by omega), by go_num, HPU.out.box, ?_, HM.out.trans (HPU.out.mod.mono fun k _ hk => ?_), fun B => (HKF.out B).trans (HPU.out.kf B)⟩
        · rw [HUP.out, List.flatMap_append, List.length_append]
          exact HPU.out.row
        · rcases hk with hk | hk
          · exact .inl hk
          · exact .inr (row_cells HO.out hk).1
      case measure => simp [intOf]; omega
    · have hlt' : ¬ (i : Int) < hi := by omega
      have hu : upto' lo i = upto' lo hi := by
        rcases hih with h | h
        · rw [show i = hi by omega]
        · rw [upto_nil (by omega), upto_nil (by omega)]
      rw [hu] at hL
      rw [hL]
      have HO := Lib.hid ho
      have H3 := Lib.hid h3
      have HM := Lib.hid hm
      clear ho h3 hm hih hu hL
      go_wp2_with fail
      go_end0
      exact ⟨⟨_, rfl⟩, _, H3.out, HO.out, HM.out, HKF.out⟩
theorem nlc_split (s : ByteArray) {p q : Nat} (h : p ≤ q) (hq : q ≤ s.size) : nlc (dl s) q = nlc (dl s) p + Lib.countByte (s.extract p q).data.toList 10 := by
  have h1 : (s.extract p q).data.toList = ((dl s).drop p).take (q - p) := by
    have := ext_str s p q
    have h2 := dl_str (((dl s).drop p).take (q - p))
    rw [← this] at h2
    exact h2
  rw [h1]
  unfold nlc Lib.countByte
  rw [show q = p + (q - p) by omega, List.take_add, List.count_append, show p + (q - p) - p = q - p by omega]
/-- The line at a place is counted on. -/
def LinPost (b7 b8 q n : Nat) (w : World) (e : Ending) (w' : World) : Prop :=
  e = .returned (.int .i64 n) ∧ w'.heap[b7]? = some (.cells #[.int .i64 n] 3 (0, 0)) ∧ w'.heap[b8]? = some (.cells #[.int .i64 q] 3 (0, 0)) ∧ Mod (fun k => k = b7 ∨ k = b8) w w'
theorem count_call (s : ByteArray) (w : World) (k : Nat) (h : Lib.countByte s.data.toList 10 = k) : Calls Tryz.prog 30 #[.string s, .string ⟨#[10]⟩] w fun e w' => e = .returned (.int .i64 k) ∧ w' = w := h ▸ Tryz.strings_Count_one s 10 w
set_option maxRecDepth 100000 in
set_option maxHeartbeats 8000000 in
theorem Pr.line (s : ByteArray) (b7 b0 b8 p q n m : Nat) (w : World) (h7 : w.heap[b7]? = some (.cells #[.int .i64 n] 3 (0, 0))) (h0 : w.heap[b0]? = some (.cells #[.string s] 9 (0, 0))) (h8 : w.heap[b8]? = some (.cells #[.int .i64 p] 3 (0, 0))) (h78 : b7 ≠ b8)
    (hpq : p ≤ q) (hq : q ≤ s.size) (hs : s.size ≤ 1000000000) (hn : nlc (dl s) p = n) (hm : nlc (dl s) q = m) (qi : Int) (hqi : qi = q) :
    Calls Tryz.prog 29 #[.int .i64 qi, .pointer (some ⟨b7, 0, none⟩), .pointer (some ⟨b0, 0, none⟩), .pointer (some ⟨b8, 0, none⟩)] w (LinPost b7 b8 q m w) := by
  subst hqi
  have hsp := nlc_split s hpq hq
  rw [hn, hm] at hsp
  obtain ⟨k, hk⟩ : ∃ k, Lib.countByte (s.extract p q).data.toList 10 = k := ⟨_, rfl⟩
  rw [hk] at hsp
  have hml : m ≤ q := by
    rw [← hm]
    unfold nlc
    exact Nat.le_trans List.count_le_length (by rw [List.length_take]; omega)
  have CT := Lib.hid (fun W : World => count_call (s.extract p q) W k hk)
  have hmk : (n : Int) + k = m := by omega
  have c7 : w.cell? ⟨b7, 0, none⟩ = some (.int .i64 n) := by simp [World.cell?, h7]
  have c0 : w.cell? ⟨b0, 0, none⟩ = some (.string s) := by simp [World.cell?, h0]
  have c8 : w.cell? ⟨b8, 0, none⟩ = some (.int .i64 p) := by simp [World.cell?, h8]
  have f7 : w.frozen? ⟨b7, 0, none⟩ = false := Lib.frozen_of_heap h7 0
  have f8 : w.frozen? ⟨b8, 0, none⟩ = false := Lib.frozen_of_heap h8 0
  have hl7 := (Array.getElem?_eq_some_iff.1 h7).1
  have hl8 := (Array.getElem?_eq_some_iff.1 h8).1
  have hpi : (p : Int) ≤ q := by omega
  have hqi : (q : Int) ≤ s.size := by omega
  have H7 := Lib.hid h7
  have H8 := Lib.hid h8
  clear h7 h0 h8 hn hm hk hsp
  go_enter Tryz.func29, Tryz.ntmps29
  go_wp2_with fail
  refine wp_region_tail (C := fun w' => ∃ n, w' = w.drewN n) 7 (by kernel_rfl) (by kernel_rfl) ⟨1, rfl⟩ ?_
  simp only [List.take_succ_cons, List.take_zero, List.drop_succ_cons, List.drop_zero]
  repeat (go_big_quiet_step ((go_at_call 30; exact Calls.quiet_of ((CT.out _).mono (by rintro e w9 ⟨rfl, rfl⟩; exact ⟨rfl, 0, rfl⟩)))))
  refine wpQuiet_nil ?_
  rintro w' ⟨nq, rfl⟩
  have e7 := (Mod.drewN (fun _ => False) w nq).keep H7.out (fun h => h)
  have e8 := (Mod.drewN (fun _ => False) w nq).keep H8.out (fun h => h)
  obtain ⟨V, hV⟩ : ∃ V, V = w.drewN nq := ⟨_, rfl⟩
  rw [← hV] at e7 e8
  rw [← hV]
  have hVM : Mod (fun k => k = b7 ∨ k = b8) w V := by rw [hV]; exact Mod.drewN _ w nq
  have g7 : V.cell? ⟨b7, 0, none⟩ = some (.int .i64 n) := by simp [World.cell?, e7]
  have g8 : V.cell? ⟨b8, 0, none⟩ = some (.int .i64 p) := by simp [World.cell?, e8]
  have x7 : V.frozen? ⟨b7, 0, none⟩ = false := Lib.frozen_of_heap e7 0
  have x8 : V.frozen? ⟨b8, 0, none⟩ = false := Lib.frozen_of_heap e8 0
  have E7 := Lib.hid e7
  have E8 := Lib.hid e8
  have HVM := Lib.hid hVM
  clear e7 e8 hVM hV c7 c0 c8 f7 f8
  go_wp2_with fail
  go_ret
  have t1 := heap_setCell_same V b7 0 _ _ (.int .i64 m) E7.out
  have t2 := heap_setCell_same (V.setCell ⟨b7, 0, none⟩ (.int .i64 m)) b8 0 _ _ (.int .i64 q) ((heap_setCell_other _ _ _ _ (show b8 ≠ b7 from fun e => h78 e.symm)).trans E8.out)
  refine ⟨rfl, ?_, by simpa using t2, (Mod.setCell (Mod.setCell HVM.out _ (.inr (.inl rfl)) _) _ (.inr (.inr rfl)) _)⟩
  rw [heap_setCell_other _ _ _ _ (by exact h78)]
  simpa using t1
end Go.Proofs.YtbnhefibpjldfaaGreatDoor

/- PzC -/
namespace Go.Proofs.YtbnhefibpjldfaaGreatDoor
open Go.RowKit Go.BigFrame Go.Shelf
set_option linter.unusedVariables false
attribute [local go_sem] Oper.semAt_some

theorem prot_cms (s : Bs) : ∀ (L : List Tk) (off : Bool) (f : Nat) (S : List Nat), prot s (cmsT L) off f S = prot s L off f S
  | [], _, _, _ => rfl
  | t :: r, off, f, S => by
    unfold cmsT
    by_cases h8 : t.kind = 8
    · rw [List.filter_cons, if_pos (by simpa using h8)]
      simp only [prot, h8, if_true]
      have ih := fun o g T => prot_cms s r o g T
      unfold cmsT at ih
      rw [ih, ih, ih]
    · rw [List.filter_cons, if_neg (by simpa using h8)]
      have ih := prot_cms s r off f S
      unfold cmsT at ih
      rw [ih]
      simp only [prot, h8, if_false, if_true]
theorem prot_cons (s : Bs) (x : Tk) (r : List Tk) (h8 : x.kind = 8) (off : Bool) (f : Nat) (S : List Nat) : prot s (x :: r) off f S =
    if markP x.text = 0 then prot s r off f S
    else if off = decide (markP x.text = 1) then none
    else if markP x.text = 1 then prot s r true (nlc s x.lo) S
    else prot s r false f (S ++ upto' f (nlc s (x.hi - 1) + 1)) := by
  simp only [prot, h8, if_true]
theorem ord_weak {n : Nat} : ∀ (l : List Tk) (b c : Nat), c ≤ b → Ord n b l → Ord n c l
  | [], _, _, _, _ => trivial
  | x :: r, b, c, h, ⟨h1, h2, h3, h4⟩ => ⟨Nat.le_trans h h1, h2, h3, h4⟩
theorem ord_cms {n : Nat} : ∀ (l : List Tk) (b : Nat), Ord n b l → Ord n b (cmsT l)
  | [], _, _ => trivial
  | x :: r, b, ⟨h1, h2, h3, h4⟩ => by
    have ih := ord_cms r x.hi h4
    unfold cmsT at ih ⊢
    rw [List.filter_cons]
    split
    · exact ⟨h1, h2, h3, ih⟩
    · exact ord_weak _ _ _ (by omega) ih
theorem byB6 : ByB (fun x => r6 x) white6 where
  low := fun b h => by
    unfold r6 white6
    rw [Bool.eq_iff_iff]
    simp only [Bool.or_eq_true, Bool.and_eq_true, decide_eq_true_eq]
    omega
  high := fun r h => by
    unfold r6
    rw [Bool.eq_false_iff]
    simp only [ne_eq, Bool.or_eq_true, Bool.and_eq_true, decide_eq_true_eq]
    omega
  hib := fun b h => by
    unfold white6
    rw [Bool.eq_false_iff]
    simp only [ne_eq, Bool.or_eq_true, Bool.and_eq_true, decide_eq_true_eq]
    omega
theorem byB5 : ByB (fun x => r5 x) white5 where
  low := fun b h => by
    unfold r5 white5
    rw [Bool.eq_iff_iff]
    simp only [Bool.or_eq_true, Bool.and_eq_true, decide_eq_true_eq]
    omega
  high := fun r h => by
    unfold r5
    rw [Bool.eq_false_iff]
    simp only [ne_eq, Bool.or_eq_true, decide_eq_true_eq]
    omega
  hib := fun b h => by
    unfold white5
    rw [Bool.eq_false_iff]
    simp only [ne_eq, Bool.or_eq_true, Bool.and_eq_true, decide_eq_true_eq]
    omega
theorem pmark_call (x : Bs) (w : World) (m : Nat) (hs : x.length ≤ 1000000000) (hc : isCom x) (h : markP x = m) : Calls Tryz.prog 31 #[.string (str x)] w fun e w' => e = .returned (.int .i64 m) ∧ Below w.heap.size w w' := by
  obtain ⟨h2, h4, _⟩ := com_len hc
  have := Cm.mark (str x) w (by rw [str_size]; exact hs) (by rw [str_size]; exact h2) (by rw [dl_str, str_size]; exact h4)
  rw [dl_str, fields_flds byB6, dl_str] at this
  rw [← h]
  exact this
/-- What protected keeps in its boxes. -/
structure PrB (b : Nat) (s : ByteArray) (v : Value) (S : List Nat) (first st n p : Nat) (w W : World) : Prop where
  h0 : W.heap[b]? = some (.cells #[.string s] 9 (0, 0))
  h1 : W.heap[b + 1]? = some (.cells #[.slice none 0 0] 22 (0, 0))
  h2 : W.heap[b + 2]? = some (.cells #[.int .i64 0] 23 (0, 0))
  h3 : W.heap[b + 3]? = some (.cells #[v] 67 (0, 0))
  h4 : W.heap[b + 4]? = some (.cells #[.func (.func 28) #[] #[.pointer (some ⟨b + 3, 0, none⟩)]] 68 (0, 0))
  h5 : W.heap[b + 5]? = some (.cells #[.int .i64 first] 3 (0, 0))
  h6 : W.heap[b + 6]? = some (.cells #[.int .i64 st] 3 (0, 0))
  h7 : W.heap[b + 7]? = some (.cells #[.int .i64 n] 3 (0, 0))
  h8 : W.heap[b + 8]? = some (.cells #[.int .i64 p] 3 (0, 0))
  h9 : W.heap[b + 9]? = some (.cells #[.func (.func 29) #[] #[.pointer (some ⟨b + 7, 0, none⟩), .pointer (some ⟨b, 0, none⟩), .pointer (some ⟨b + 8, 0, none⟩)]] 70 (0, 0))
  bel : Below b w W
  own : W.ownsRow (b + 11) 3 1 v S.length (S.flatMap intF)
  siz : b + 11 ≤ W.heap.size
/-- A world in which blocks that are cells, ahead of a bound, may have been written. -/
theorem KeepsFrom.below {B : Nat} {W W' : World} (h : Below W.heap.size W W') : KeepsFrom B W W' := ⟨h.size, fun k o _ ho _ => heap_below h ho (Array.getElem?_eq_some_iff.1 ho).1⟩
theorem KeepsFrom.of_mod {B : Nat} {W W' : World} {S : Nat → Prop} (h : Mod S W W') (hS : ∀ k, S k → ∃ c t, W.heap[k]? = some (.cells c t (0, 0))) : KeepsFrom B W W' := ⟨h.size, fun k o _ ho hc => h.keep ho (fun hk => by
  obtain ⟨c, t, q⟩ := hS k hk
  rw [ho] at q
  cases q
  cases hc)⟩
theorem PrB.keep {b : Nat} {s : ByteArray} {v : Value} {S : List Nat} {first st n p : Nat} {w W W' : World} (h : PrB b s v S first st n p w W) {M : Nat → Prop} (hm : Mod (fun k => M k ∧ b + 11 ≤ k) W W') (ho : W'.ownsRow (b + 11) 3 1 v S.length (S.flatMap intF)) : PrB b s v S first st n p w W' where
  h0 := hm.keep h.h0 (by omega)
  h1 := hm.keep h.h1 (by omega)
  h2 := hm.keep h.h2 (by omega)
  h3 := hm.keep h.h3 (by omega)
  h4 := hm.keep h.h4 (by omega)
  h5 := hm.keep h.h5 (by omega)
  h6 := hm.keep h.h6 (by omega)
  h7 := hm.keep h.h7 (by omega)
  h8 := hm.keep h.h8 (by omega)
  h9 := hm.keep h.h9 (by omega)
  bel := h.bel.trans (hm.below (by have := h.siz; omega) (fun k hk => by omega))
  own := ho
  siz := Nat.le_trans h.siz hm.size
theorem PrB.below {b : Nat} {s : ByteArray} {v : Value} {S : List Nat} {first st n p : Nat} {w W W' : World} (h : PrB b s v S first st n p w W) (hb : Below W.heap.size W W') : PrB b s v S first st n p w W' :=
  h.keep (M := fun _ => False) (Mod.of_below hb) (ownsRow_mod h.own (S := fun _ => False) (Mod.of_below hb) (fun _ _ e => e))
theorem PrB.line {b : Nat} {s : ByteArray} {v : Value} {S : List Nat} {first st n p : Nat} {w W : World} (h : PrB b s v S first st n p w W) {q m : Nat} {e : Ending} {W' : World} (hl : LinPost (b + 7) (b + 8) q m W e W') : PrB b s v S first st m q w W' := by
  obtain ⟨_, g7, g8, hm⟩ := hl
  have hso := h.siz
  exact {
    h0 := hm.keep h.h0 (by omega)
    h1 := hm.keep h.h1 (by omega)
    h2 := hm.keep h.h2 (by omega)
    h3 := hm.keep h.h3 (by omega)
    h4 := hm.keep h.h4 (by omega)
    h5 := hm.keep h.h5 (by omega)
    h6 := hm.keep h.h6 (by omega)
    h7 := g7
    h8 := g8
    h9 := hm.keep h.h9 (by omega)
    bel := h.bel.trans (hm.below (by omega) (fun k hk => by omega))
    own := ownsRow_mod h.own hm (fun k hk e => by have := (row_cells h.own hk).1; omega)
    siz := Nat.le_trans h.siz hm.size }
theorem PrB.first {b : Nat} {s : ByteArray} {v : Value} {S : List Nat} {first st n p : Nat} {w W : World} (h : PrB b s v S first st n p w W) (f : Nat) : PrB b s v S f st n p w (W.setCell ⟨b + 5, 0, none⟩ (.int .i64 f)) := by
  have hm : Mod (fun k => k = b + 5) W (W.setCell ⟨b + 5, 0, none⟩ (.int .i64 f)) := Mod.setCell (Mod.refl (fun k => k = b + 5) W) ⟨b + 5, 0, none⟩ (.inr rfl) _
  have hso := h.siz
  exact {
    h0 := hm.keep h.h0 (by omega)
    h1 := hm.keep h.h1 (by omega)
    h2 := hm.keep h.h2 (by omega)
    h3 := hm.keep h.h3 (by omega)
    h4 := hm.keep h.h4 (by omega)
    h5 := by simpa using heap_setCell_same W (b + 5) 0 _ _ (.int .i64 f) h.h5
    h6 := hm.keep h.h6 (by omega)
    h7 := hm.keep h.h7 (by omega)
    h8 := hm.keep h.h8 (by omega)
    h9 := hm.keep h.h9 (by omega)
    bel := h.bel.trans (hm.below (by omega) (fun k hk => by omega))
    own := ownsRow_mod h.own hm (fun k hk e => by have := (row_cells h.own hk).1; omega)
    siz := Nat.le_trans h.siz hm.size }
theorem PrB.state {b : Nat} {s : ByteArray} {v : Value} {S : List Nat} {first st n p : Nat} {w W : World} (h : PrB b s v S first st n p w W) (f : Nat) : PrB b s v S first f n p w (W.setCell ⟨b + 6, 0, none⟩ (.int .i64 f)) := by
  have hm : Mod (fun k => k = b + 6) W (W.setCell ⟨b + 6, 0, none⟩ (.int .i64 f)) := Mod.setCell (Mod.refl (fun k => k = b + 6) W) ⟨b + 6, 0, none⟩ (.inr rfl) _
  have hso := h.siz
  exact {
    h0 := hm.keep h.h0 (by omega)
    h1 := hm.keep h.h1 (by omega)
    h2 := hm.keep h.h2 (by omega)
    h3 := hm.keep h.h3 (by omega)
    h4 := hm.keep h.h4 (by omega)
    h5 := hm.keep h.h5 (by omega)
    h6 := by simpa using heap_setCell_same W (b + 6) 0 _ _ (.int .i64 f) h.h6
    h7 := hm.keep h.h7 (by omega)
    h8 := hm.keep h.h8 (by omega)
    h9 := hm.keep h.h9 (by omega)
    bel := h.bel.trans (hm.below (by omega) (fun k hk => by omega))
    own := ownsRow_mod h.own hm (fun k hk e => by have := (row_cells h.own hk).1; omega)
    siz := Nat.le_trans h.siz hm.size }
theorem PrB.add {b : Nat} {s : ByteArray} {v : Value} {S T : List Nat} {first st n p : Nat} {w W : World} (h : PrB b s v S first st n p w W) {e : Ending} {W' : World} (ha : AddPost (b + 3) (b + 11) T W e W') : ∃ v', PrB b s v' T first st n p w W' := by
  obtain ⟨_, v', g3, go, hm, _⟩ := ha
  have hso := h.siz
  exact ⟨v', {
    h0 := hm.keep h.h0 (by omega)
    h1 := hm.keep h.h1 (by omega)
    h2 := hm.keep h.h2 (by omega)
    h3 := g3
    h4 := hm.keep h.h4 (by omega)
    h5 := hm.keep h.h5 (by omega)
    h6 := hm.keep h.h6 (by omega)
    h7 := hm.keep h.h7 (by omega)
    h8 := hm.keep h.h8 (by omega)
    h9 := hm.keep h.h9 (by omega)
    bel := h.bel.trans (hm.below (by omega) (fun k hk => by omega))
    own := go
    siz := Nat.le_trans h.siz hm.size }⟩
/-- Behind some comments. -/
def PrI (s : ByteArray) (PR : Option (List Nat)) (C : List Tk) (w : World) (pre : List Tk) (W : World) : Prop :=
  ∃ (v : Value) (S : List Nat) (first st n p : Nat), PrB w.heap.size s v S first st n p w W ∧ (st = 1 ∨ st = 2) ∧ PR = prot (dl s) (C.drop pre.length) (decide (st = 1)) first S ∧ Ord s.size p (C.drop pre.length) ∧ p ≤ s.size ∧ nlc (dl s) p = n ∧ first ≤ 1000 ∧ S.length ≤ pre.length * 1000 ∧ (∀ x ∈ S, x < 65536)
/-- Behind a mark that is wrong. -/
def PrX (PR : Option (List Nat)) (w : World) (c : Code) (W : World) : Prop := c = .ret ∧ PR = none ∧ W.heap[w.heap.size + 1]? = some (.cells #[.slice none 0 0] 22 (0, 0)) ∧ W.heap[w.heap.size + 2]? = some (.cells #[.int .i64 210] 23 (0, 0)) ∧ Below w.heap.size w W
theorem KX.of_mod {B K : Nat} {S : Nat → Prop} {W W' : World} (h : Mod S W W') (hB : ¬ S B) (hK : ∀ k, S k → K ≤ k) : KX B K W W' := ⟨h.size, fun cs t x => h.keep x hB, fun hk => h.below hk hK⟩
/-- What a round may do to the memory. -/
def StP (b : Nat) (W W' : World) : Prop := (∀ D, KeepsFrom D W W') ∧ KX (b + 10) b W W'
theorem StP.trans {b : Nat} {W1 W2 W3 : World} (h : StP b W1 W2) (k : StP b W2 W3) : StP b W1 W3 := ⟨fun D => (h.1 D).trans (k.1 D), h.2.trans k.2⟩
theorem StP.below {b : Nat} {W1 W2 : World} (h : Below W1.heap.size W1 W2) : StP b W1 W2 := ⟨fun D => KeepsFrom.below h, KX.of_below h⟩
theorem StP.line {b : Nat} {s : ByteArray} {v : Value} {S : List Nat} {first st n p : Nat} {w W : World} (h : PrB b s v S first st n p w W) {q m : Nat} {e : Ending} {W' : World} (hl : LinPost (b + 7) (b + 8) q m W e W') : StP b W W' :=
  ⟨fun D => KeepsFrom.of_mod hl.2.2.2 (fun k hk => by
    rcases hk with rfl | rfl
    · exact ⟨_, _, h.h7⟩
    · exact ⟨_, _, h.h8⟩), KX.of_mod hl.2.2.2 (by omega) (fun k hk => by omega)⟩
theorem StP.set {b : Nat} {W : World} {i : Nat} {cs : Array Value} {t : TypeId} (h : W.heap[b + i]? = some (.cells cs t (0, 0))) (hi : i < 10) (j : Nat) (v : Value) : StP b W (W.setCell ⟨b + i, j, none⟩ v) :=
  ⟨fun D => KeepsFrom.of_cells h v, KX.of_mod (Mod.setCell (Mod.refl (fun k => k = b + i) W) ⟨b + i, j, none⟩ (.inr rfl) v) (by omega) (fun k hk => by omega)⟩
theorem StP.add {b : Nat} {T : List Nat} {W : World} {e : Ending} {W' : World} (ha : AddPost (b + 3) (b + 11) T W e W') : StP b W W' := by
  obtain ⟨_, v', g3, go, hm, hk⟩ := ha
  exact ⟨hk, KX.of_mod hm (by omega) (fun k hk => by omega)⟩
end Go.Proofs.YtbnhefibpjldfaaGreatDoor

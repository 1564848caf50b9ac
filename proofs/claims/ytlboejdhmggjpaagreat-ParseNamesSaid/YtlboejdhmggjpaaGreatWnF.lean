/- parse: ahead. -/
import Derived.Test.YtlboejdhmggjpaaGreatPdB
import Derived.Test.YtlboejdhmggjpaaGreatWkY
set_option linter.all false
namespace Go.Proofs.YtlboejdhmggjpaaGreat.Pp
set_option maxRecDepth 100000
set_option maxHeartbeats 16000000
open Go.RowKit Go.BigFrame Go.Proofs.YtlboejdhmggjpaaGreat
attribute [local go_sem] Oper.semAt_some

def Pin (L : List Nd) (pl : List Nat) : Prop := pl.length = L.length ∧ ∀ j, j < L.length → pl.getD j 0 + (L.getD j n0).sz ≤ L.length
theorem made_const (z : Array Value) (v : Value) (h0 : 0 < z.size) (hz : ∀ k, k < z.size → z[k]! = v) (m : Nat) : (madeCells z m).toList = List.replicate m v := by
 refine List.ext_getElem (by simp [madeCells]) fun k h1 h2 => ?_
 simp only [madeCells, Array.getElem_toList, Array.getElem_map, Array.getElem_range, List.getElem_replicate]
 exact hz _ (Nat.mod_lt _ h0)
theorem flat_rep : ∀ n, (List.replicate n n0).flatMap ndC = List.replicate (n * 4) (.int .i64 0)
 | 0 => rfl
 | n + 1 => by
  rw [List.replicate_succ, List.flatMap_cons, flat_rep n, Nat.succ_mul, Nat.add_comm, ← List.replicate_append_replicate]
  rfl
theorem int_rep : ∀ n, (List.replicate n 0).map (fun k : Nat => Value.int .i64 k) = List.replicate n (.int .i64 0)
 | 0 => rfl
 | n + 1 => by rw [List.replicate_succ, List.map_cons, int_rep n]; rfl
def plA (pl : List Nat) : Array Value := (pl.map fun k : Nat => Value.int .i64 k).toArray
def rsA (rs : List Nd) : Array Value := (rs.flatMap ndC).toArray
theorem Pin.start {L : List Nd} (h : Aok L) : Pin L (List.replicate L.length 0) := by
 refine ⟨by simp, fun j hj => ?_⟩
 obtain ⟨lf, h1, h2, -⟩ := h j hj
 rw [List.getD_eq_getElem?_getD, List.getElem?_replicate, if_pos hj, h1]
 simp only [Option.getD_some]
 omega
theorem putK_pin {L : List Nd} : ∀ (n left k e : Nat) (pl : List Nat), KOk L n left k → left ≤ e → e ≤ L.length → Pin L pl → Pin L (putK L (kidL L n left k) e pl)
 | 0, left, k, e, pl, h, _, _, hp => by
  obtain rfl : left = 0 := h
  exact hp
 | n + 1, left, k, e, pl, h, hl, he, hp => by
  rcases Nat.eq_zero_or_pos left with h0 | h0
  ·subst h0; rw [kidL_zero]; exact hp
  ·obtain ⟨m, hm, q1, q2, q3, q4, q5, q6⟩ := h.step h0
   obtain rfl : n = m := by omega
   rw [q6]
   unfold putK
   refine putK_pin n _ _ _ _ q5 (by omega) (by omega) ⟨by rw [List.length_set]; exact hp.1, fun j hj => ?_⟩
   rw [List.getD_eq_getElem?_getD, List.getElem?_set]
   by_cases hjk : k = j
   ·subst hjk
    rw [if_pos rfl, if_pos (by rw [hp.1]; exact q2)]
    simp only [Option.getD_some]
    omega
   ·rw [if_neg hjk, ← List.getD_eq_getElem?_getD]
    exact hp.2 j hj
theorem Pin.step {L : List Nd} (h : Aok L) {i : Nat} (hi : i < L.length) {st : List Nat × List Nd} (hp : Pin L st.1) : Pin L (ahS L i st).1 := by
 obtain ⟨lf, h1, h2, h3⟩ := h i hi
 have hb := hp.2 i hi
 unfold ahS
 rw [h1] at hb ⊢
 exact putK_pin _ _ _ _ _ h3 (by show lf ≤ _; omega) hb hp
structure AhM (wr : World) (L : List Nd) (g lc b0 b1 b2 b3 : Nat) (pl : List Nat) (rs : List Nd) : Prop where
 h0 : wr.heap[b0]? = some (.cells #[.slice (some ⟨g, 0, none⟩) L.length lc] 24 (0, 0))
 h1 : wr.heap[b1]? = some (.cells (rsA rs) 38 (0, 0))
 h2 : wr.heap[b2]? = some (.cells (plA pl) 3 (0, 0))
 h3 : wr.heap[b3]? = some (.cells #[.slice (some ⟨b2, 0, none⟩) L.length L.length] 61 (0, 0))
theorem plA_cell {w : World} {b j : Nat} {pl : List Nat} (h : w.heap[b]? = some (.cells (plA pl) 3 (0, 0))) (hj : j < pl.length) : w.cell? ⟨b, j, none⟩ = some (.int .i64 (pl.getD j 0)) := by
 simp [World.cell?, h, plA, List.getD_eq_getElem?_getD, List.getElem?_eq_getElem hj]
theorem plA_set (pl : List Nat) (j v : Nat) : (plA pl).setIfInBounds j (.int .i64 v) = plA (pl.set j v) := by
 simp [plA, List.map_set]
theorem rsA_size (rs : List Nd) : (rsA rs).size = rs.length * 4 := by
 unfold rsA; rw [List.size_toArray]; exact flat_len 4 ndC (fun _ => rfl) rs
theorem rsA_set (rs : List Nd) (p : Nat) (x : Nd) (h : p < rs.length) : ((rsA rs).toList.take (p * 4) ++ ndC x ++ (rsA rs).toList.drop (p * 4 + 4)).toArray = rsA (rs.set p x) := by
 unfold rsA
 exact congrArg _ (flat_set 4 ndC (fun _ => rfl) rs p x h)
def putS (L : List Nd) (q : Nat × List Nat) (k : Nat) : Nat × List Nat := (q.1 - (L.getD k n0).sz, q.2.set k (q.1 - (L.getD k n0).sz))
theorem putK_fold (L : List Nd) : ∀ (ks : List Nat) (e : Nat) (pl : List Nat), putK L ks e pl = (ks.foldl (putS L) (e, pl)).2
 | [], e, pl => rfl
 | k :: ks, e, pl => by unfold putK; rw [putK_fold L ks]; rfl
theorem fold_len (L : List Nd) : ∀ (ks : List Nat) (q : Nat × List Nat), (ks.foldl (putS L) q).2.length = q.2.length
 | [], q => rfl
 | k :: ks, q => by rw [List.foldl_cons, fold_len L ks]; exact List.length_set
theorem kid_fold {L : List Nd} : ∀ (n left k0 : Nat) (q : Nat × List Nat) (pre : List Nat) (x : Nat) (r : List Nat), KOk L n left k0 → left ≤ q.1 → kidL L n left k0 = pre ++ x :: r → x < L.length ∧ (L.getD x n0).sz ≤ (pre.foldl (putS L) q).1 ∧ (pre.foldl (putS L) q).1 ≤ q.1
 | 0, left, k0, q, pre, x, r, h, hl, he => by simp [kidL] at he
 | n + 1, left, k0, q, pre, x, r, h, hl, he => by
  rcases Nat.eq_zero_or_pos left with h0 | h0
  ·subst h0; rw [kidL_zero] at he; simp at he
  ·obtain ⟨m, hm, q1, q2, q3, q4, q5, q6⟩ := h.step h0
   obtain rfl : n = m := by omega
   rw [q6] at he
   cases pre with
   | nil =>
    simp only [List.nil_append, List.cons.injEq] at he
    obtain ⟨rfl, -⟩ := he
    exact ⟨q2, by show _ ≤ q.1; omega, Nat.le_refl _⟩
   | cons y pre =>
    simp only [List.cons_append, List.cons.injEq] at he
    obtain ⟨rfl, he⟩ := he
    obtain ⟨a1, a2, a3⟩ := kid_fold n _ _ (putS L q k0) pre x r q5 (by show left - _ ≤ q.1 - _; omega) he
    exact ⟨a1, a2, Nat.le_trans a3 (by show q.1 - _ ≤ _; omega)⟩
theorem wk_children (a : Option Addr) (n c i : Nat) (w : World) : Calls Tryz.prog 55 #[.slice a n c, .int .i64 i] w fun e w' => e = .returned (.func (.func 91) #[] #[.pointer (some ⟨w.heap.size, 0, none⟩), .pointer (some ⟨w.heap.size + 1, 0, none⟩)]) ∧ w' = (w.alloc (.cells #[.slice a n c] 24)).alloc (.cells #[.int .i64 i] 3) := by
 go_enter Tryz.func55, Tryz.ntmps55
 go_wp2
 go_ret
 exact ⟨rfl, rfl⟩
theorem frame_named2 {c : Code} {Q : Exit → Act → World → Prop} {T : Array Value} {ds : List Deferred} {w : World} (h : ∀ T', T = T' → c.wp Tryz.prog Q { tmps := T', defers := ds } w) : c.wp Tryz.prog Q { tmps := T, defers := ds } w := h T rfl
structure AhI (V : World) (L : List Nd) (b2 m e0 : Nat) (pl : List Nat) (ks : List Nat) (W : World) : Prop where
 md : Mod (fun k => k = b2 ∨ k = m) V W
 pw : W.heap[b2]? = some (.cells (plA (ks.foldl (putS L) (e0, pl)).2) 3 (0, 0))
 en : W.heap[m]? = some (.cells #[.int .i64 (ks.foldl (putS L) (e0, pl)).1] 3 (0, 0))
theorem AhI.keep {V : World} {L : List Nd} {b2 m e0 B : Nat} {pl ks : List Nat} {X : Nat → Prop} {A C : World} (h : AhI V L b2 m e0 pl ks A) (hX : ∀ k, ¬ X k) (hB : V.heap.size ≤ B) (hm : Mod (fun k => X k ∨ (B ≤ k ∧ nc A k)) A C) : AhI V L b2 m e0 pl ks C := by
 have hn : ∀ (k : Nat) (cs : Array Value) (t : TypeId) (fz : Nat × Nat), A.heap[k]? = some (.cells cs t fz) → C.heap[k]? = some (.cells cs t fz) := fun k cs t fz hk => hm.keep hk (fun e => by
  rcases e with e | ⟨-, o, ho, hc⟩
  ·exact hX k e
  ·rw [hk] at ho; cases ho; cases hc)
 refine ⟨⟨hm.os.trans h.md.os, hm.tape.trans h.md.tape, hm.output.trans h.md.output, Nat.le_trans h.md.size hm.size, fun k hk hs => ?_⟩, hn _ _ _ _ h.pw, hn _ _ _ _ h.en⟩
 rw [hm.block k (Nat.lt_of_lt_of_le hk h.md.size) (fun e => by
  rcases e with e | ⟨e, -⟩
  ·exact hX k e
  ·omega)]
 exact h.md.block k hk hs
def AhInv (w : World) (L : List Nd) (g lc NN b0 b1 b2 b3 : Nat) (a' : Act) (wr : World) : Prop :=
 ∃ (i : Nat) (z : Int) (ds : List Deferred) (pl : List Nat) (rs : List Nd) (u6 u17 u18 u19 u20 u21 u22 u23 u24 u25 u26 u27 u28 u29 u30 u31 u32 u33 u34 u35 u36 u37 u38 u39 u40 u41 u42 u43 : Value), z = (i : Int) - 1 ∧ i ≤ NN ∧ ahN L (NN - i) NN (List.replicate NN 0, List.replicate NN n0) = (pl, rs) ∧ AhM wr L g lc b0 b1 b2 b3 pl rs ∧ Pin L pl ∧ rs.length = NN ∧ Below b0 w wr ∧ b0 + 4 ≤ wr.heap.size ∧ Marks b0 wr ds ∧ a' = { tmps := #[.slice (some ⟨g, 0, none⟩) NN lc, .pointer (some ⟨b0, 0, none⟩), .slice none 0 0, .slice (some ⟨b1, 0, none⟩) NN NN, .pointer (some ⟨b3, 0, none⟩), .int .i64 z, u6, undef, .slice (some ⟨g, 0, none⟩) NN lc, .int .i64 NN, .slice (some ⟨b1, 0, none⟩) NN NN, .slice (some ⟨g, 0, none⟩) NN lc, .int .i64 NN, .slice (some ⟨b2, 0, none⟩) NN NN, .slice (some ⟨g, 0, none⟩) NN lc, .int .i64 NN, .int .i64 ((NN : Int) - 1), u17, u18, u19, u20, u21, u22, u23, u24, u25, u26, u27, u28, u29, u30, u31, u32, u33, u34, u35, u36, u37, u38, u39, u40, u41, u42, u43, undef, undef, undef, undef, undef, undef, undef, undef, undef, undef, undef, undef, undef], defers := ds }
theorem wk_ahead (L : List Nd) (X g lc : Nat) (w : World) (hX : X ≤ w.heap.size) (hrow : w.ownsRow X 38 4 (.slice (some ⟨g, 0, none⟩) L.length lc) L.length (L.flatMap ndC)) (h0 : 0 < L.length) (hlen : L.length ≤ 500000) (hok : Aok L) :
  Calls Tryz.prog 36 #[.slice (some ⟨g, 0, none⟩) L.length lc] w fun e w' => ∃ v, e = .returned v ∧ w'.ownsRow w.heap.size 38 4 v L.length ((aheadP L).flatMap ndC) ∧ Below w.heap.size w w' := by
 obtain ⟨NN, hN⟩ : ∃ NN, L.length = NN := ⟨_, rfl⟩
 obtain ⟨B, hB⟩ : ∃ B, w.heap.size = B := ⟨_, rfl⟩
 obtain ⟨i0, hi0, hz0, hz1, hz2⟩ := info_parts3 info38
 obtain ⟨i1, hi1, hz3, hz4, hz5⟩ := info_parts3 info3
 rw [hN, hB]
 rw [hN] at h0 hlen
 have HI0 := Hh hi0
 have HZ0 := Hh hz0
 have HZ1 := Hh hz1
 have HZ2 := Hh hz2
 have HI1 := Hh hi1
 have HZ3 := Hh hz3
 have HZ4 := Hh hz4
 have HZ5 := Hh hz5
 have HROW := Hh hrow
 have HOK := Hh hok
 have HN := Hh hN
 have HB := Hh hB
 have HX := Hh hX
 clear hi0 hz0 hz1 hz2 hi1 hz3 hz4 hz5 hrow hok hN hX
 obtain ⟨R0, hR0⟩ : ∃ R0, rsA (List.replicate NN n0) = R0 := ⟨_, rfl⟩
 obtain ⟨P0, hP0⟩ : ∃ P0, plA (List.replicate NN 0) = P0 := ⟨_, rfl⟩
 have HR0 := Hh hR0
 have HP0 := Hh hP0
 have HM0 := Hh (show madeCells (Value.agg #[.int .i64 0, .int .i64 0, .int .i64 0, .int .i64 0]).cells (NN * 4) = R0 by
  rw [← hR0]
  unfold rsA
  rw [flat_rep, ← made_const #[.int .i64 0, .int .i64 0, .int .i64 0, .int .i64 0] (.int .i64 0) (by simp) (fun k hk => by
   match k, hk with
   | 0, _ => rfl
   | 1, _ => rfl
   | 2, _ => rfl
   | 3, _ => rfl
   | k + 4, hk => simp at hk; omega)]
  exact (Array.toArray_toList).symm)
 have HM1 := Hh (show madeCells (Value.int .i64 0).cells (NN * 1) = P0 by
  rw [← hP0, Nat.mul_one]
  unfold plA
  rw [int_rep, ← made_const #[.int .i64 0] (.int .i64 0) (by simp) (fun k hk => by
   obtain rfl : k = 0 := by simpa using hk
   rfl)]
  exact (Array.toArray_toList).symm)
 clear hR0 hP0 hB
 refine (callsIn_wide (n := 5)).1 ?_
 refine callsIn_of_wp_marks Tryz.func36 rfl trivial ?_ rfl
 simp only [Tryz.ntmps36, List.size_toArray, List.length_cons, List.length_nil, Nat.reduceAdd, Nat.reduceSub, Array.replicate_succ, Array.replicate_zero, List.push_toArray, List.append_toArray, List.nil_append, List.cons_append]
 refine wpIn_wide.2 ?_
 go_wp2_with (first
  | (at_make; refine wpList_make_at _ rfl _ _ 24 rfl 38 i0 (.agg #[.int .i64 0, .int .i64 0, .int .i64 0, .int .i64 0]) 4 Tryz.underlying24 HI0.out HZ0.out HZ1.out .i64 .i64 NN NN NN rfl rfl rfl rfl (by rw [HZ2.out]; omega) (by omega) R0 HM0.out ?_)
  | (at_make; refine wpList_make_at _ rfl _ _ 61 rfl 3 i1 (.int .i64 0) 1 Tryz.underlying61 HI1.out HZ3.out HZ4.out .i64 .i64 NN NN NN rfl rfl rfl rfl (by rw [HZ5.out]; omega) (by omega) P0 HM1.out ?_)
  | fail)
 obtain ⟨b0, hb0⟩ : ∃ b, w.heap.size = b := ⟨_, rfl⟩
 have HS0 := Hh hb0
 obtain ⟨V0, hV0⟩ : ∃ V0, V0 = (((w.alloc (.cells #[.slice (some ⟨g, 0, none⟩) NN lc] 24)).alloc (.cells R0 38)).alloc (.cells P0 3)).alloc (.cells #[.slice (some ⟨w.heap.size + 1 + 1, 0, none⟩) NN NN] 61) := ⟨_, rfl⟩
 have hbV : Below w.heap.size w V0 := by rw [hV0]; exact ((((Below.refl _ w).alloc (Nat.le_refl _) _).alloc (by simp) _).alloc (by simp <;> omega) _).alloc (by simp <;> omega) _
 have hsV : V0.heap.size = w.heap.size + 4 := by rw [hV0]; simp
 have e0 : V0.heap[w.heap.size]? = some (.cells #[.slice (some ⟨g, 0, none⟩) NN lc] 24 (0, 0)) := by rw [hV0, Lib.alloc_old _ _ _ (by simp <;> omega), Lib.alloc_old _ _ _ (by simp <;> omega), Lib.alloc_old _ _ _ (by simp)]; exact new_cells _ _ _
 have e1 : V0.heap[w.heap.size + 1]? = some (.cells R0 38 (0, 0)) := by
  rw [hV0, Lib.alloc_old _ _ _ (by simp <;> omega), Lib.alloc_old _ _ _ (by simp)]
  have := new_cells (w.alloc (.cells #[.slice (some ⟨g, 0, none⟩) NN lc] 24)) R0 38
  simpa using this
 have e2 : V0.heap[w.heap.size + 1 + 1]? = some (.cells P0 3 (0, 0)) := by
  rw [hV0, Lib.alloc_old _ _ _ (by simp)]
  have := new_cells ((w.alloc (.cells #[.slice (some ⟨g, 0, none⟩) NN lc] 24)).alloc (.cells R0 38)) P0 3
  simpa using this
 have e3 : V0.heap[w.heap.size + 1 + 1 + 1]? = some (.cells #[.slice (some ⟨w.heap.size + 1 + 1, 0, none⟩) NN NN] 61 (0, 0)) := by
  rw [hV0]
  have := new_cells (((w.alloc (.cells #[.slice (some ⟨g, 0, none⟩) NN lc] 24)).alloc (.cells R0 38)).alloc (.cells P0 3)) #[.slice (some ⟨w.heap.size + 1 + 1, 0, none⟩) NN NN] 61
  simpa using this
 rw [← hV0]
 clear hV0
 simp only [hb0] at hbV hsV e0 e1 e2 e3 ⊢
 clear hb0
 obtain ⟨b1, hb1⟩ : ∃ b, b0 + 1 = b := ⟨_, rfl⟩
 simp only [hb1] at e1 e2 e3 ⊢
 obtain ⟨b2, hb2⟩ : ∃ b, b1 + 1 = b := ⟨_, rfl⟩
 simp only [hb2] at e2 e3 ⊢
 obtain ⟨b3, hb3⟩ : ∃ b, b2 + 1 = b := ⟨_, rfl⟩
 simp only [hb3] at e3 ⊢
 have hst : AhM V0 L g lc b0 b1 b2 b3 (List.replicate NN 0) (List.replicate NN n0) := ⟨by rw [HN.out]; exact e0, by rw [HR0.out]; exact e1, by rw [HP0.out]; exact e2, by rw [HN.out]; exact e3⟩
 have HBS := Hh (show b1 = b0 + 1 ∧ b2 = b0 + 2 ∧ b3 = b0 + 3 from ⟨by omega, by omega, by omega⟩)
 have HST := Hh hst
 have HBV := Hh hbV
 have HSV := Hh hsV
 clear hbV hsV e0 e1 e2 e3 hb1 hb2 hb3 hst HR0 HP0 HM0 HM1
 have hpin0 := Pin.start HOK.out
 have HPIN := Hh hpin0
 clear hpin0
 refine wp_loop (AhInv w L g lc NN b0 b1 b2 b3) (fun a' _ => (intOf (a'.tmps.getD 5 undef) + 1).toNat) ?_ ?_
 ·exact ⟨NN, _, [], _, _, _, _, _, _, _, _, _, _, _, _, _, _, _, _, _, _, _, _, _, _, _, _, _, _, _, _, _, _, by rfl, Nat.le_refl _, by rw [Nat.sub_self]; rfl, HST.out, by rw [← HN.out]; exact HPIN.out, by simp, HBV.out, by rw [HSV.out]; exact Nat.le_refl _, Marks.nil _ _, rfl⟩
 ·rintro a' wr ⟨i, z, ds, pl, rs, u6, u17, u18, u19, u20, u21, u22, u23, u24, u25, u26, u27, u28, u29, u30, u31, u32, u33, u34, u35, u36, u37, u38, u39, u40, u41, u42, u43, hz, hi, hah, hmem, hpin, hrl, hbel, hsz, hmk, rfl⟩
  dsimp only []
  cases i with
  | zero =>
   obtain rfl : z = -1 := by omega
   have HMEM := Hh hmem
   have HMK := Hh hmk
   have HBEL := Hh hbel
   rw [Nat.sub_zero] at hah
   have hrs : aheadP L = rs := by unfold aheadP; rw [HN.out, hah]
   have HRS := Hh hrs
   have HRL := Hh hrl
   clear hah hmem hpin hrl hbel hsz hmk hrs hz hi
   go_wp2_with fail
   refine leaves_marks (by simp) ds wr HMK.out fun w' hm => ?_
   rw [show B = b0 from HB.out.symm.trans HS0.out]
   have hbs := HBS.out
   have hr1 := hm.keep HMEM.out.h1 (fun e => by
    obtain ⟨-, o, ho, hc⟩ := e
    rw [HMEM.out.h1] at ho; cases ho; cases hc)
   refine ⟨.slice (some ⟨b1, 0, none⟩) NN NN, by simp [results, Tryz.results36, go_sem], _, rfl, ?_, HBEL.out.trans (hm.below (by have := HBEL.out.size; have := HS0.out; omega) (fun k hk => hk.1))⟩
   rw [HRS.out]
   have hl : (rs.flatMap ndC).length = NN * 4 := by rw [flat_len 4 ndC (fun _ => rfl), HRL.out]
   exact ⟨hl, .inr ⟨b1, NN, rsA rs, rfl, by omega, hr1, Nat.le_refl _, by unfold maxLen; omega, by rw [rsA_size, HRL.out], by show List.take (NN * 4) (rs.flatMap ndC) = _; rw [← hl]; exact List.take_length⟩⟩
  | succ j =>
   obtain rfl : z = (j : Int) := by omega
   have hjN : j < NN := by omega
   obtain ⟨lf, k1, k2, k3⟩ := HOK.out j (by rw [HN.out]; exact hjN)
   obtain ⟨p, hp⟩ : ∃ p, pl.getD j 0 = p := ⟨_, rfl⟩
   have hpn := hpin.2 j (by rw [HN.out]; exact hjN)
   rw [k1, hp, HN.out] at hpn
   have hpb : p < NN := by omega
   have c0 : wr.cell? ⟨b0, 0, none⟩ = some (.slice (some ⟨g, 0, none⟩) NN lc) := by simp [World.cell?, hmem.h0, HN.out]
   have c3 : wr.cell? ⟨b3, 0, none⟩ = some (.slice (some ⟨b2, 0, none⟩) NN NN) := by simp [World.cell?, hmem.h3, HN.out]
   have cp := plA_cell hmem.h2 (j := j) (by rw [hpin.1, HN.out]; exact hjN)
   rw [hp] at cp
   have hroW : wr.ownsRow X 38 4 (.slice (some ⟨g, 0, none⟩) L.length lc) L.length (L.flatMap ndC) := ownsRow_ext HROW.out (by rw [HS0.out]; exact hbel)
   obtain ⟨n1, n2, n3, n4⟩ := nd_cell hroW (i := j) (by rw [HN.out]; exact hjN)
   obtain ⟨nd, hnd⟩ : ∃ nd, L.getD j n0 = nd := ⟨_, rfl⟩
   rw [hnd] at n1 n2 n3 n4 k1
   have HC := Hh (fun n : Nat => (show CellsAt (wr.drewN n) g (j * 4) (ndC nd) from fun q v hv => by
    match q, hv with
    | 0, hv => cases hv; exact n1
    | 1, hv => cases hv; exact n2
    | 2, hv => cases hv; exact n3
    | 3, hv => cases hv; exact n4
    | q + 4, hv => simp [ndC] at hv))
   have HMEM := Hh hmem
   have HPI := Hh hpin
   have HAH := Hh hah
   have HBEL := Hh hbel
   have HMK := Hh hmk
   have HSZ := Hh hsz
   have HK3 := Hh k3
   have HK1 := Hh k1
   have HK2 := Hh k2
   have HND := Hh hnd
   have HRL := Hh hrl
   have HPN := Hh hpn
   have HROWW := Hh hroW
   have HPP := Hh hp
   clear hmem hpin hah hbel hmk hsz k1 k2 k3 hnd hrl hpn hroW n1 n2 n3 n4 hp hz
   go_wp2_with fail
   refine wp_region_tail (C := fun w' => ∃ n, w' = wr.drewN n) 10 (by kernel_rfl) (by kernel_rfl) ⟨1, rfl⟩ ?_
   simp only [List.take_succ_cons, List.take_zero, List.drop_succ_cons, List.drop_zero]
   repeat (first
    | (go_big_quiet_want; (with_reducible refine quiet_load_at 38 _ rfl g (j * 4) rfl (ndC nd) _ (fun w' hw' => by obtain ⟨n, rfl⟩ := hw'; exact HC.out n) Tryz.underlying38 rfl (by kernel_rfl) ?_); go_big_quiet_on; simp only [ndC, Act.put, List.setIfInBounds_toArray, List.set_cons_succ, List.set_cons_zero])
    | go_big_quiet_step (fail))
   refine wpQuiet_nil ?_
   rintro w' ⟨nr, rfl⟩
   have hszr : p * 4 + 4 ≤ (rsA rs).size := by rw [rsA_size, HRL.out]; omega
   refine wpList_store_at rfl 38 _ _ rfl b1 (p * 4) rfl (ndC nd) rfl (rsA rs) 38 HMEM.out.h1 hszr (fun u hu => by simp [ndC] at hu; rcases hu with rfl | rfl | rfl | rfl <;> rfl) (by kernel_rfl) ?_
   simp only [Act.put]
   rw [show (ndC nd).length = 4 from rfl, rsA_set rs p nd (by rw [HRL.out]; exact hpb)]
   obtain ⟨W2, hW2⟩ : ∃ W2, W2 = (wr.drewN nr).setRow b1 (rsA (rs.set p nd)) := ⟨_, rfl⟩
   have hs2 : W2.heap.size = wr.heap.size := by rw [hW2]; simp [World.setRow]
   have ho2 : ∀ k, k ≠ b1 → W2.heap[k]? = wr.heap[k]? := fun k hk => by
    rw [hW2]
    simp only [World.setRow, Array.getElem?_modify]
    rw [if_neg (fun e => hk e.symm)]
    rfl
   have hr2 : W2.heap[b1]? = some (.cells (rsA (rs.set p nd)) 38 (0, 0)) := by rw [hW2]; exact setRow_heap _ _ _ _ _ _ HMEM.out.h1
   have hbs := HBS.out
   have hmem2 : AhM W2 L g lc b0 b1 b2 b3 pl (rs.set p nd) := ⟨by rw [ho2 _ (by omega)]; exact HMEM.out.h0, hr2, by rw [ho2 _ (by omega)]; exact HMEM.out.h2, by rw [ho2 _ (by omega)]; exact HMEM.out.h3⟩
   have hbel2 : Below b0 w W2 := by
    have q := HBEL.out
    rw [hW2]
    exact ⟨q.os, q.tape, q.output, by simpa [World.setRow] using q.size, fun k hk => by
     have := ho2 k (by omega)
     rw [hW2] at this
     rw [this]
     exact q.block k hk⟩
   have hmk2 : Marks b0 W2 ds := HMK.out.mod fun D hD => by
    rw [ho2 D (fun e => by rw [e, HMEM.out.h1] at hD; cases hD)]
    exact hD
   clear HMEM HBEL HMK ho2 hr2 hszr
   rw [← hW2]
   clear hW2
   have c0 : W2.cell? ⟨b0, 0, none⟩ = some (.slice (some ⟨g, 0, none⟩) NN lc) := by simp [World.cell?, hmem2.h0, HN.out]
   have c3 : W2.cell? ⟨b3, 0, none⟩ = some (.slice (some ⟨b2, 0, none⟩) NN NN) := by simp [World.cell?, hmem2.h3, HN.out]
   have cp := plA_cell hmem2.h2 (j := j) (by rw [HPI.out.1, HN.out]; exact hjN)
   rw [HPP.out] at cp
   have hroW2 : W2.ownsRow X 38 4 (.slice (some ⟨g, 0, none⟩) L.length lc) L.length (L.flatMap ndC) := ownsRow_ext HROW.out (by rw [HS0.out]; exact hbel2)
   obtain ⟨-, -, -, n4⟩ := nd_cell hroW2 (i := j) (by rw [HN.out]; exact hjN)
   rw [HND.out, HK1.out] at n4
   obtain ⟨m, hm⟩ : ∃ m, W2.heap.size = m := ⟨_, rfl⟩
   obtain ⟨V1, hV1⟩ : ∃ V1, V1 = W2.drew.alloc (.cells #[.int .i64 0] 3) := ⟨_, rfl⟩
   have hbV1 : Below W2.heap.size W2 V1 := by rw [hV1]; exact ((Below.refl _ W2).drew).alloc (Nat.le_refl _) _
   have hV : ∃ V : Nat → World, V 0 = W2.drew ∧ ∀ j, 1 ≤ j → V j = V1 := ⟨fun j => match j with | 0 => W2.drew | _ => V1, rfl, fun j hj => by
    match j, hj with
    | j + 1, _ => rfl⟩
   obtain ⟨V, hV0, hVj⟩ := hV
   have hst : ∀ (a : Addr) (v : Value), W2.cell? a = some v → ∀ j, (V j).cell? a = some v := fun a v hq j => by
    match j with
    | 0 => rw [hV0]; exact hq
    | j + 1 => rw [hVj _ (by omega)]; exact (hbV1.cell (World.block_lt_of_cell? W2 a hq)).trans hq
   have d0 := hst _ _ c0
   have d3 := hst _ _ c3
   have dp := hst _ _ cp
   have d4 := hst _ _ n4
   have hlf : lf ≤ 500000 := by have := HK2.out; omega
   have HM2 := Hh hmem2
   have HBEL := Hh hbel2
   have HMK := Hh hmk2
   have HM := Hh hm
   have HV1 := Hh hV1
   have HBV1 := Hh hbV1
   have K0 := Hh hV0
   have K1 := Hh hVj
   have HR2 := Hh hroW2
   have HS2 := Hh hs2
   clear hmem2 hbel2 hmk2 hV1 hbV1 hV0 hVj hst c0 c3 cp n4 hroW2 hs2 hbs hm
   go_wp2_with fail
   refine wp_region_chain_tail V [10] 11 K0.out (by kernel_rfl) (by kernel_rfl) ?_
   simp only [List.take_succ_cons, List.take_zero, List.drop_succ_cons, List.drop_zero]
   refine chain_reads_at 10 (by kernel_rfl) ?_
   simp only [List.take_succ_cons, List.take_zero, List.drop_succ_cons, List.drop_zero]
   repeat (go_big_quiet_step (fail))
   refine wpQuiet_nil ?_
   refine chain_op 0 (.pointer (some ⟨W2.heap.size, 0, none⟩)) (by kernel_rfl) rfl (.inl ?_) ?_
   ·rw [K0.out, K1.out _ (Nat.le_refl _), HV1.out]
    kernel_rfl
   refine chain_end ?_
   rw [show V ([10] : List Nat).length = V1 from K1.out _ (Nat.le_refl _)]
   simp only [Act.put, List.setIfInBounds_toArray, List.set_cons_succ, List.set_cons_zero]
   rw [HM.out]
   have hm2 := HM.out
   have hbs := HBS.out
   have hsz := HSZ.out
   have hs2 := HS2.out
   have v1m : V1.heap[m]? = some (.cells #[.int .i64 0] 3 (0, 0)) := by rw [HV1.out, ← hm2]; exact new_cells W2.drew _ _
   have v1c : V1.cell? ⟨m, 0, none⟩ = some (.int .i64 0) := by simp [World.cell?, v1m]
   have v1f : V1.frozen? ⟨m, 0, none⟩ = false := Lib.frozen_of_heap v1m 0
   have hsV1 : V1.heap.size = m + 1 := by rw [HV1.out, ← hm2]; simp
   have hbv := HBV1.out
   obtain ⟨V2, hV2⟩ : ∃ V2, V2 = V1.setCell ⟨m, 0, none⟩ (.int .i64 ((p : Int) + ((lf : Int) + 1))) := ⟨_, rfl⟩
   have hsV2 : V2.heap.size = m + 1 := by rw [hV2]; simpa using hsV1
   have hbV2 : Below m W2 V2 := by
    rw [hV2]
    rw [hm2] at hbv
    exact hbv.setCell (Nat.le_refl _) _
   have v2m : V2.heap[m]? = some (.cells #[.int .i64 ((p : Int) + ((lf : Int) + 1))] 3 (0, 0)) := by rw [hV2]; have := box_set (i := 0) (v := .int .i64 ((p : Int) + ((lf : Int) + 1))) v1m; simpa using this
   have hkeep2 : ∀ (k : Nat) (o : Obj), W2.heap[k]? = some o → V2.heap[k]? = some o := fun k o hk => heap_below hbV2 hk (by have := (Array.getElem?_eq_some_iff.1 hk).1; omega)
   have hm22 := HM2.out
   have hmemV : AhM V2 L g lc b0 b1 b2 b3 pl (rs.set p nd) := ⟨hkeep2 _ _ hm22.h0, hkeep2 _ _ hm22.h1, hkeep2 _ _ hm22.h2, hkeep2 _ _ hm22.h3⟩
   have x0 : V2.cell? ⟨b0, 0, none⟩ = some (.slice (some ⟨g, 0, none⟩) NN lc) := by simp [World.cell?, hmemV.h0, HN.out]
   have x0' : (V1.setCell ⟨m, 0, none⟩ (.int .i64 ((p : Int) + ((lf : Int) + 1)))).cell? ⟨b0, 0, none⟩ = some (.slice (some ⟨g, 0, none⟩) NN lc) := by rw [← hV2]; exact x0
   have hMV := Hh hmemV
   have hSV2 := Hh hsV2
   have hBV2 := Hh hbV2
   have hK2 := Hh hkeep2
   have hVM := Hh v2m
   have hV2' := Hh hV2
   clear hm2 hbs hsz hs2 v1m hsV1 hbv hV2 hsV2 hbV2 v2m hkeep2 hm22 hmemV x0 d0 d3 dp d4
   go_wp2_with fail
   refine (wk_children _ _ _ _ _).mono ?_
   rintro e we ⟨rfl, rfl⟩
   simp only [← hV2'.out, hSV2.out]
   clear x0' v1c v1f
   go_wp2_with fail
   obtain ⟨V3, hV3⟩ : ∃ V3, V3 = (V2.alloc (.cells #[.slice (some ⟨g, 0, none⟩) NN lc] 24)).alloc (.cells #[.int .i64 j] 3) := ⟨_, rfl⟩
   have hbV3 : Below V2.heap.size V2 V3 := by rw [hV3]; exact (below_alloc _ _).trans ((below_alloc _ _).mono (by simp))
   have hsV3 : V3.heap.size = m + 3 := by rw [hV3]; simp [hSV2.out]
   have y0 : V3.heap[m + 1]? = some (.cells #[.slice (some ⟨g, 0, none⟩) NN lc] 24 (0, 0)) := by
    rw [hV3, Lib.alloc_old _ _ _ (by simp [hSV2.out]), ← hSV2.out]; exact new_cells _ _ _
   have y1 : V3.heap[m + 1 + 1]? = some (.cells #[.int .i64 j] 3 (0, 0)) := by
    rw [hV3]
    have := new_cells (V2.alloc (.cells #[.slice (some ⟨g, 0, none⟩) NN lc] 24)) #[.int .i64 j] 3
    simpa [hSV2.out] using this
   rw [← hV3]
   clear hV3
   have hkeep3 : ∀ (k : Nat) (o : Obj), W2.heap[k]? = some o → V3.heap[k]? = some o := fun k o hk => by have q := hK2.out k o hk; exact heap_below hbV3 q (Array.getElem?_eq_some_iff.1 q).1
   have z2 : V3.heap[m]? = some (.cells #[.int .i64 ((p : Int) + ((lf : Int) + 1))] 3 (0, 0)) := heap_below hbV3 hVM.out (Array.getElem?_eq_some_iff.1 hVM.out).1
   have hbel3 : Below b0 w V3 := (HBEL.out.trans (hBV2.out.mono (by have := HBEL.out.size; have := HS0.out; have := HM.out; omega))).trans (hbV3.mono (by have := HBEL.out.size; have := HS0.out; have := hSV2.out; have := HM.out; omega))
   have hmk3 : Marks b0 V3 ds := HMK.out.mod fun D hD => hkeep3 _ _ hD
   have hm22 := HM2.out
   have hmem3 : AhM V3 L g lc b0 b1 b2 b3 pl (rs.set p nd) := ⟨hkeep3 _ _ hm22.h0, hkeep3 _ _ hm22.h1, hkeep3 _ _ hm22.h2, hkeep3 _ _ hm22.h3⟩
   have hrow3 : V3.ownsRow X 38 4 (.slice (some ⟨g, 0, none⟩) L.length lc) L.length (L.flatMap ndC) := ownsRow_ext HROW.out (by rw [HS0.out]; exact hbel3)
   have hnd1 := HND.out
   have hseq := Kd.seq 4 (m + 1) (m + 1 + 1) X g lc j lf L V3 (by have := HX.out; have := hbel3.size; have := HS0.out; omega) (by rw [HN.out]; exact y0) y1 hrow3 (by rw [HN.out]; exact hjN) (by rw [HN.out]; omega) (by rw [hnd1]; exact HK1.out) (by omega) HK3.out (fun _ => by have := HK2.out; omega)
   have HSEQ := Hh hseq
   have HS3 := Hh hsV3
   have HI0 := Hh (show AhI V3 L b2 m (p + (lf + 1)) pl [] V3 from ⟨Mod.refl _ _, hmem3.h2, by rw [z2]; simp⟩)
   have HM3 := Hh hmem3
   have HMK3 := Hh hmk3
   have HBEL3 := Hh hbel3
   clear hseq hsV3 hmem3 hmk3 hbel3 hrow3 hm22 z2 hkeep3 y0 y1 hbV3 hnd1 HMK HBEL HM2 hMV hBV2 hK2 hVM hV2' HV1 HBV1 K0 K1
   refine frame_named2 ?_
   intro T hT
   have HT := Hh hT
   clear hT
   refine (wpIn_wide (n := 5)).1 ?_
   refine wpIn_rangeFunc_asg rfl (by omega) (gf := 91) (lb := #[.pointer (some ⟨m + 1, 0, none⟩), .pointer (some ⟨m + 1 + 1, 0, none⟩)]) (by have h := HT.out; subst h; rfl) trivial (enters_of Tryz.func91 (by kernel_rfl) rfl) HSEQ.out (fun k hk => hk.elim) (fun h k => h.trans k) (fun W l o o' hl hW ho _ => K3.putObj hW ho) (Below.refl _ _) (fun _ => rfl) (AhI V3 L b2 m (p + (lf + 1)) pl) (fun _ _ _ => False) (fun t A B h hm => h.keep (fun k e => e) (Nat.le_refl _) hm) (fun c t A B h _ => h) HI0.out (fun (x : Nat) a' W => a' = { tmps := (T.setIfInBounds 44 (.int .i64 x)).setIfInBounds 7 (.int .i64 x), defers := [] }) (fun h => K3.of_below h) (fun p a' W l o o' hl ho ha => ha) ?assign ?body ?done ?stop
   case stop => rintro Dd c pre W hD _ h _; exact h.elim
   case assign =>
    intro l z W K hK
    have hT := HT.out
    subst hT
    gi_wp2_with (fail)
    refine hK _ _ (Below.refl _ W) ?_
    simp only [List.setIfInBounds_toArray, List.set_cons_succ, List.set_cons_zero]
   case body =>
    rintro l pre x a' W hi ⟨rr, hr⟩ rfl
    have hbs := HBS.out
    have hsz := HSZ.out
    have hs2 := HS2.out
    have hm2 := HM.out
    have hs3 := HS3.out
    have h2 := HK2.out
    obtain ⟨q1, q2, q3⟩ := kid_fold lf lf (j - 1) (p + (lf + 1), pl) pre x rr HK3.out (by show lf ≤ p + (lf + 1); omega) hr
    have hfl := fold_len L pre (p + (lf + 1), pl)
    have hen := hi.en
    have hpw := hi.pw
    have hmd := hi.md
    have hm3 := HM3.out
    obtain ⟨E, hE⟩ : ∃ E, (pre.foldl (putS L) (p + (lf + 1), pl)).1 = E := ⟨_, rfl⟩
    obtain ⟨PL, hPL⟩ : ∃ PL, (pre.foldl (putS L) (p + (lf + 1), pl)).2 = PL := ⟨_, rfl⟩
    obtain ⟨sx, hsx⟩ : ∃ sx, (L.getD x n0).sz = sx := ⟨_, rfl⟩
    rw [hE] at q2 q3 hen
    rw [hPL] at hfl hpw
    rw [hsx] at q2
    simp only at q3 hfl
    rw [HN.out] at q1
    rw [HPI.out.1, HN.out] at hfl
    have hpn := HPN.out
    have w0 : W.heap[b0]? = some (.cells #[.slice (some ⟨g, 0, none⟩) L.length lc] 24 (0, 0)) := hmd.keep hm3.h0 (by omega)
    have w3 : W.heap[b3]? = some (.cells #[.slice (some ⟨b2, 0, none⟩) L.length L.length] 61 (0, 0)) := hmd.keep hm3.h3 (by omega)
    have hbw : Below b0 w W := HBEL3.out.trans (hmd.below (by omega) (fun k hk => by omega))
    have hrw : W.ownsRow X 38 4 (.slice (some ⟨g, 0, none⟩) L.length lc) L.length (L.flatMap ndC) := ownsRow_ext HROW.out (by rw [HS0.out]; exact hbw)
    obtain ⟨-, -, -, r4⟩ := nd_cell hrw (i := x) (by rw [HN.out]; exact q1)
    rw [hsx] at r4
    have a0 : W.cell? ⟨b0, 0, none⟩ = some (.slice (some ⟨g, 0, none⟩) NN lc) := by simp [World.cell?, w0, HN.out]
    have am : W.cell? ⟨m, 0, none⟩ = some (.int .i64 E) := by simp [World.cell?, hen]
    have fm : W.frozen? ⟨m, 0, none⟩ = false := Lib.frozen_of_heap hen 0
    have hne : b2 ≠ m := by omega
    have hEb : E ≤ 1000000 := by omega
    have hsb : sx ≤ E := q2
    -- behind the first store
    obtain ⟨W4, hW4⟩ : ∃ W4, W4 = W.setCell ⟨m, 0, none⟩ (.int .i64 ((E : Int) - sx)) := ⟨_, rfl⟩
    have k4 : ∀ k, k ≠ m → W4.heap[k]? = W.heap[k]? := fun k hk => by rw [hW4]; exact Below.heap_setCell _ _ _ _ hk
    have m4 : W4.heap[m]? = some (.cells #[.int .i64 ((E : Int) - sx)] 3 (0, 0)) := by rw [hW4]; have := box_set (i := 0) (v := .int .i64 ((E : Int) - sx)) hen; simpa using this
    have p4 : W4.heap[b2]? = some (.cells (plA PL) 3 (0, 0)) := by rw [k4 _ hne]; exact hpw
    have b4 : W4.heap[b3]? = some (.cells #[.slice (some ⟨b2, 0, none⟩) L.length L.length] 61 (0, 0)) := by rw [k4 _ (by omega)]; exact w3
    have t4 : ∀ n, (((W.drewN n).setCell ⟨m, 0, none⟩ (.int .i64 ((E : Int) - sx))).cell? ⟨b3, 0, none⟩ = some (.slice (some ⟨b2, 0, none⟩) NN NN)) ∧ (((W.drewN n).setCell ⟨m, 0, none⟩ (.int .i64 ((E : Int) - sx))).cell? ⟨m, 0, none⟩ = some (.int .i64 ((E : Int) - sx))) ∧ (((W.drewN n).setCell ⟨m, 0, none⟩ (.int .i64 ((E : Int) - sx))).cell? ⟨b2, x, none⟩ = some (.int .i64 (PL.getD x 0))) ∧ (((W.drewN n).setCell ⟨m, 0, none⟩ (.int .i64 ((E : Int) - sx))).frozen? ⟨b2, x, none⟩ = false) := fun n => by
     have e : ((W.drewN n).setCell ⟨m, 0, none⟩ (.int .i64 ((E : Int) - sx))).heap = W4.heap := by rw [hW4]; rfl
     refine ⟨?_, ?_, ?_, ?_⟩
     ·unfold World.cell?; rw [e]; simp [b4, HN.out]
     ·unfold World.cell?; rw [e]; simp [m4]
     ·have := plA_cell p4 (j := x) (by rw [hfl]; exact q1)
      unfold World.cell? at this ⊢; rw [e]; exact this
     ·have := Lib.frozen_of_heap p4 x
      unfold World.frozen? at this ⊢; rw [e]; exact this
    have HI := Hh hi
    have HE := Hh hE
    have HPL := Hh hPL
    have HSX := Hh hsx
    have M4 := Hh m4
    have P4 := Hh p4
    have T4 := Hh t4
    have HW4 := Hh hW4
    have HEN := Hh hen
    have HFL := Hh hfl
    clear hbs hsz hs2 hm2 hs3 h2 hr hfl hen hpw hmd hm3 hE hPL hsx hi w0 w3 hbw hrw k4 m4 p4 b4 t4 hpn q2 q3 hW4
    have hT := HT.out
    subst hT
    simp only [List.setIfInBounds_toArray, List.set_cons_succ, List.set_cons_zero]
    gi_wp2_with (fail)
    refine wpIn_region_tail (C := fun w' => ∃ n, w' = W.drewN n) 7 (by kernel_rfl) (by kernel_rfl) ⟨1, rfl⟩ ?_
    simp only [List.take_succ_cons, List.take_zero, List.drop_succ_cons, List.drop_zero]
    repeat (go_big_quiet_step (fail))
    refine wpQuiet_nil ?_
    rintro w' ⟨nr, rfl⟩
    obtain ⟨u1, u2, u3, u4⟩ := T4.out nr
    go_wp2_with fail
    refine NoOut.normal ?_
    gi_wp2_with (fail)
    obtain ⟨W5, hW5⟩ : ∃ W5, W5 = ((W.drewN nr).setCell ⟨m, 0, none⟩ (.int .i64 ((E : Int) - sx))).setCell ⟨b2, x, none⟩ (.int .i64 ((E : Int) - sx)) := ⟨_, rfl⟩
    rw [← hW5]
    have e4 : ((W.drewN nr).setCell ⟨m, 0, none⟩ (.int .i64 ((E : Int) - sx))).heap = W4.heap := by rw [HW4.out]; rfl
    have k5 : ∀ k, k ≠ m → k ≠ b2 → W5.heap[k]? = W.heap[k]? := fun k h1 h2 => by
     rw [hW5, Below.heap_setCell _ _ _ _ h2, Below.heap_setCell _ _ _ _ h1]
     rfl
    have s5 : W5.heap.size = W.heap.size := by rw [hW5]; simp
    have m5 : W5.heap[m]? = some (.cells #[.int .i64 ((E - sx : Nat) : Int)] 3 (0, 0)) := by
     rw [hW5, Below.heap_setCell _ _ _ _ (fun e => hne e.symm), e4, M4.out, Int.ofNat_sub hsb]
    have p5 : W5.heap[b2]? = some (.cells (plA (PL.set x (E - sx))) 3 (0, 0)) := by
     have := box_set (w := (W.drewN nr).setCell ⟨m, 0, none⟩ (.int .i64 ((E : Int) - sx))) (i := x) (v := .int .i64 ((E : Int) - sx)) (by rw [e4]; exact P4.out)
     rw [← hW5] at this
     rw [this, ← Int.ofNat_sub hsb, plA_set]
    have hfo : (pre ++ [x]).foldl (putS L) (p + (lf + 1), pl) = (E - sx, PL.set x (E - sx)) := by
     rw [List.foldl_append, List.foldl_cons, List.foldl_nil]
     show ((pre.foldl (putS L) (p + (lf + 1), pl)).1 - (L.getD x n0).sz, (pre.foldl (putS L) (p + (lf + 1), pl)).2.set x ((pre.foldl (putS L) (p + (lf + 1), pl)).1 - (L.getD x n0).sz)) = _
     rw [HE.out, HPL.out, HSX.out]
    have hi := HI.out
    refine ⟨⟨by rw [s5]; exact Nat.le_refl _, fun k o hB hk ho => ?_⟩, ⟨by rw [s5]; exact Nat.le_refl _, fun k cs t fz ht hk => ?_⟩, ⟨by rw [hW5]; exact hi.md.os, by rw [hW5]; exact hi.md.tape, by rw [hW5]; exact hi.md.output, by rw [s5]; exact hi.md.size, fun k hk hs => ?_⟩, by rw [hfo]; exact p5, by rw [hfo]; exact m5⟩
    ·rw [k5 k (fun e => by subst e; rw [hi.en] at hk; cases hk; cases ho) (fun e => by subst e; rw [hi.pw] at hk; cases hk; cases ho)]
     exact hk
    ·rw [k5 k (fun e => by subst e; rw [hi.en] at hk; cases hk; exact ht rfl) (fun e => by subst e; rw [hi.pw] at hk; cases hk; exact ht rfl)]
     exact hk
    ·rw [k5 k (fun e => hs (.inr e)) (fun e => hs (.inl e))]
     exact hi.md.block k hk hs
   case done =>
    rintro D xs W hD rfl hi hK
    have HI := Hh hi
    have HD := Hh hD
    have HK := Hh hK
    clear hi hD hK
    have hT := HT.out
    subst hT
    go_wp2_with fail
    have hbs := HBS.out
    have hsz := HSZ.out
    have hs2 := HS2.out
    have hm2 := HM.out
    have hs3 := HS3.out
    have hi := HI.out
    have hm3 := HM3.out
    have hah : ahN L (NN - j) NN (List.replicate NN 0, List.replicate NN n0) = ahS L j (pl, rs) := by
     rw [show NN - j = (NN - (j + 1)) + 1 by omega, ahN_add, HAH.out]
     show ahS L (NN - (NN - (j + 1)) - 1) _ = _
     congr 1
     omega
    have hst : ahS L j (pl, rs) = (((kidL L lf lf (j - 1)).foldl (putS L) (p + (lf + 1), pl)).2, rs.set p nd) := by
     unfold ahS
     have e1 := HK1.out
     have e2 := HND.out
     have e3 := HPP.out
     simp only [e2, e3, e1, Nat.add_sub_cancel]
     rw [putK_fold]
    have hpin := Pin.step HOK.out (i := j) (by rw [HN.out]; omega) (st := (pl, rs)) HPI.out
    rw [hst] at hah hpin
    have hbelW : Below b0 w W := HBEL3.out.trans (hi.md.below (by omega) (fun k hk => by omega))
    have hkm : ∀ D' : Nat, V3.heap[D']? = some (.deferred (some [])) → W.heap[D']? = some (.deferred (some [])) := fun D' hD' => hi.md.keep hD' (fun e => by
     rcases e with e | e
     ·rw [e, hm3.h2] at hD'; cases hD'
     ·subst e
      have q := HI0.out.en
      rw [q] at hD'; cases hD')
    refine ⟨⟨j, _, markD D :: ds, _, _, _, _, _, _, _, _, _, _, _, _, _, _, _, _, _, _, _, _, _, _, _, _, _, _, _, _, _, _, by rfl, by omega, hah, ⟨hi.md.keep hm3.h0 (by omega), hi.md.keep hm3.h1 (by omega), hi.pw, hi.md.keep hm3.h3 (by omega)⟩, hpin, by rw [List.length_set]; exact HRL.out, hbelW, by have := hi.md.size; omega, HMK3.out.push hkm (by have := HD.out; omega) HK.out HD.out, rfl⟩, ?_⟩
    simp [intOf]
    omega
end Go.Proofs.YtlboejdhmggjpaaGreat.Pp

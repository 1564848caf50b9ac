/- told: tell. -/
import Derived.Test.YtodjhgalbaelkaaDoorTwL
import Derived.Lib.ItoaLen
import Derived.Lib.AppendIntMem
import Derived.Lib.LaidTab
import Derived.Lib.BufferKept
namespace Go.Proofs.YtodjhgalbaelkaaDoor
open Go.RowKit Go.BigFrame Go.Shelf
set_option linter.unusedVariables false

def Tab (w : World) : Prop := Lib.TabIs Tryd.prog w "internal/strconv.uint64pow10" .u64 Lib.pow10Tab
theorem gPow : ∃ g, Tryd.prog.globalNamed "internal/strconv.uint64pow10" = some g ∧ g < 2 ∧ 1 ≤ g := ⟨1, by kernel_rfl, by decide, by decide⟩
theorem Tab.to {w w' : World} (h : Tab w) (hk : ∀ g, Tryd.prog.globalNamed "internal/strconv.uint64pow10" = some g → g < w.heap.size → w'.heap[g]? = w.heap[g]?) : Tab w' := by
  obtain ⟨g, hg, _⟩ := gPow
  unfold Tab Lib.TabIs World.var? at h ⊢
  rw [hg] at h ⊢
  simp only [Option.bind_some] at h ⊢
  have hlt : g < w.heap.size := by
    rcases Nat.lt_or_ge g w.heap.size with h' | h'
    · exact h'
    · rw [Array.getElem?_eq_none h'] at h; cases h
  rw [hk g hg hlt]
  exact h
theorem Tab.on {w w' : World} (h : Tab w) (hb : Below w.heap.size w w') : Tab w' := h.to fun g _ hlt => hb.block g hlt
theorem Tab.onB {w w' : World} {B : Nat} (h : Tab w) (hb : Below B w w') (hB : 2 ≤ B) : Tab w' := h.to fun g hg hlt => hb.block g (by
  obtain ⟨g', hg', h8, _⟩ := gPow
  rw [hg] at hg'
  cases hg'
  omega)

theorem Tab.size {w : World} (h : Tab w) : 2 ≤ w.heap.size := by
  obtain ⟨g, hg, _, h1⟩ := gPow
  unfold Tab Lib.TabIs World.var? at h
  rw [hg] at h
  simp only [Option.bind_some] at h
  rcases Nat.lt_or_ge g w.heap.size with h' | h'
  · omega
  · rw [Array.getElem?_eq_none h'] at h; cases h

theorem Td.itoa (n : Int) (h0 : -9223372036854775808 ≤ n) (h1 : n ≤ 9223372036854775807) (w : World) (ht : Tab w) : Calls Tryd.prog 40 #[.int .i64 n] w fun e w' => e = .returned (.string (str (Lib.itoa n))) ∧ Below w.heap.size w w' :=
  (Tryd.strconv_Itoa n h0 h1 w ht).mono fun e w' ⟨h1, k, os, h2⟩ => ⟨h1, by rw [h2]; exact Lib.below_grow _ _ (Nat.le_refl _) _ _⟩

/-- What tell writes. -/
def tellB (x : Edi) : Bs :=
  [64, 32] ++ (Lib.itoa (x.a + 1) ++ (32 :: (Lib.itoa (x.b - x.a) ++ (32 :: (Lib.itoa ((lines (dl x.t)).length : Int) ++ (10 :: ((lines (dl x.t)).flatMap (fun l => 43 :: l) ++ (if x.t.size ≠ 0 ∧ ends (dl x.t) = false then [10, 45, 10] else []))))))))
theorem flat43 : ∀ l : List Bs, (l.flatMap (fun l => (43 : UInt8) :: l)).length = l.length + l.flatten.length
  | [] => rfl
  | x :: l => by rw [List.flatMap_cons, List.length_append, flat43 l]; simp; omega
theorem tellB_len (x : Edi) (h : 0 ≤ x.a ∧ x.a ≤ x.b ∧ x.b ≤ 65536) (ht : x.t.size ≤ 2000000) : (tellB x).length ≤ 80 + 2 * x.t.size := by
  have h1 := Lib.itoa_length_le (x.a + 1) (by omega) (by omega)
  have h2 := Lib.itoa_length_le (x.b - x.a) (by omega) (by omega)
  have h4 := lines_le (dl x.t)
  have h3 := Lib.itoa_length_le ((lines (dl x.t)).length : Int) (by omega) (by rw [← size_dl] at h4; omega)
  have h5 := flat43 (lines (dl x.t))
  rw [lines_flat, ← size_dl] at h5
  rw [← size_dl] at h4
  unfold tellB
  split <;> simp only [List.length_append, List.length_cons, List.length_nil] <;> omega

/-- A builder that is being written, since W1. -/
structure Tl (B b : Nat) (W1 : World) (l : Bs) (w : World) : Prop where
  bw : Bw B b l w
  ok : Lib.OthersKept 5 (some b) W1 w
  be : Below B W1 w
  le : B ≤ w.heap.size
theorem Tl.on {B b : Nat} {W1 w w' : World} {l : Bs} (h : Tl B b W1 l w) (hb : Below w.heap.size w w') : Tl B b W1 l w' :=
  ⟨h.bw.on hb, Lib.OthersKept.below h.ok hb, h.be.trans (hb.mono h.le), Nat.le_trans h.le hb.size⟩
theorem Tl.ws {B b : Nat} {W1 w : World} {l : Bs} (h : Tl B b W1 l w) (s : ByteArray) (hl : l.length + s.size ≤ 140737488355328) :
    Calls Tryd.prog 21 #[.pointer (some ⟨b, 0, none⟩), .string s] w fun e w' => (∃ v, e = .returned v) ∧ Tl B b W1 (l ++ dl s) w' :=
  (Bw.writeString s h.bw hl h.le).mono fun e w' ⟨h1, h2, h3, h4⟩ => ⟨⟨_, h1⟩, h2, h.ok.trans h4, h.be.trans h3, Nat.le_trans h.le h3.size⟩
theorem Tl.wb {B b : Nat} {W1 w : World} {l : Bs} (h : Tl B b W1 l w) (c : UInt8) (hl : l.length + 1 ≤ 140737488355328) :
    Calls Tryd.prog 22 #[.pointer (some ⟨b, 0, none⟩), .int .u8 c.toNat] w fun e w' => (∃ v, e = .returned v) ∧ Tl B b W1 (l ++ [c]) w' :=
  (Bw.writeByte c h.bw hl h.le).mono fun e w' ⟨h1, h2, h3, h4⟩ => ⟨⟨_, h1⟩, h2, h.ok.trans h4, h.be.trans h3, Nat.le_trans h.le h3.size⟩
theorem Tl.cell {B b : Nat} {W1 w : World} {l : Bs} (h : Tl B b W1 l w) {k i : Nat} {cs : Array Value} {t : TypeId} {v : Value} (hk : W1.heap[k]? = some (.cells cs t (0, 0))) (hkb : k ≠ b) (ht : t ≠ 5) (hv : cs[i]? = some v) : w.cell? ⟨k, i, none⟩ = some v := by
  have := h.ok k _ hk (fun e => hkb (Option.some.inj e)) (fun c fz e => ht (by cases e; rfl))
  simp [World.cell?, this, hv]
theorem Tl.tab {B b : Nat} {W1 w : World} {l : Bs} (h : Tl B b W1 l w) (ht : Tab W1) (hB : 2 ≤ B) : Tab w := ht.onB h.be hB
theorem Tl.comp {B b : Nat} {W1 W2 w : World} {l m : Bs} (h : Tl B b W1 l W2) (k : Tl B b W2 m w) : Tl B b W1 m w := ⟨k.bw, h.ok.trans k.ok, h.be.trans k.be, k.le⟩
theorem Tl.start {B b : Nat} {W1 W2 : World} {l : Bs} (h : Tl B b W1 l W2) : Tl B b W2 l W2 := ⟨h.bw, Lib.OthersKept.refl _ _ _, Below.refl _ _, h.le⟩
theorem ownsRow_ok {w w' : World} {base e size n b : Nat} {v : Value} {xs : List Value} (h : w.ownsRow base e size v n xs) (hk : Lib.OthersKept 5 (some b) w w') (he : e ≠ 5) (hb : b < base) : w'.ownsRow base e size v n xs := by
  refine ⟨h.1, ?_⟩
  rcases h.2 with hn | ⟨g, cap, cur, rfl, hb', hg, rest⟩
  · exact .inl hn
  · exact .inr ⟨g, cap, cur, rfl, hb', hk g _ hg (fun e => by have := Option.some.inj e; omega) (fun c fz e' => he (by cases e'; rfl)), rest⟩
theorem dl_str (l : Bs) : dl (str l) = l := by simp [dl]

set_option maxRecDepth 100000 in
set_option maxHeartbeats 16000000 in
theorem Td.tell (B b : Nat) (x : Edi) (l : Bs) (W0 w : World) (h : Tl B b W0 l w) (hbB : b < w.heap.size) (htab : Tab w) (hB : 2 ≤ B) (hx : 0 ≤ x.a ∧ x.a ≤ x.b ∧ x.b ≤ 65536) (ht : x.t.size ≤ 2000000) (hl : l.length ≤ 100000000000) :
    Calls Tryd.prog 23 #[.pointer (some ⟨b, 0, none⟩), .agg #[.int .i64 x.a, .int .i64 x.b, .string x.t]] w fun e w' => (∃ v, e = .returned v) ∧ Tl B b W0 (l ++ tellB x) w' := by
  obtain ⟨R, hR⟩ : ∃ R, tellB x = R := ⟨_, rfl⟩
  rw [hR]
  unfold tellB at hR
  obtain ⟨xa, xb, xt⟩ := x
  simp only at hx ht hR ⊢
  have HR := Lib.hid hR
  have H := Lib.hid h
  have hLL := lines_le (dl xt)
  rw [← size_dl] at hLL
  have hi1 := Lib.itoa_length_le (xa + 1) (by omega) (by omega)
  have hi2 := Lib.itoa_length_le (xb - xa) (by omega) (by omega)
  have hi3 := Lib.itoa_length_le ((lines (dl xt)).length : Int) (by omega) (by omega)
  obtain ⟨W1, hW1⟩ : ∃ W1, W1 = w.alloc (.cells #[.int .i64 xa, .int .i64 xb, .string xt] 50) := ⟨_, rfl⟩
  have hk := heap_alloc_new w (.cells #[.int .i64 xa, .int .i64 xb, .string xt] 50)
  rw [← hW1] at hk
  have hb1 : Below w.heap.size w W1 := by rw [hW1]; exact below_alloc _ _
  have htab1 : Tab W1 := htab.on hb1
  have h1 : Tl B b W1 l W1 := ⟨h.bw.on hb1, Lib.OthersKept.refl _ _ _, Below.refl _ _, Nat.le_trans h.le hb1.size⟩
  have hd : Lib.OthersKept 5 (some b) W0 W1 := Lib.OthersKept.below h.ok hb1
  have hd2 : Below B W0 W1 := h.be.trans (hb1.mono h.le)
  have HD := Lib.hid hd
  have HD2 := Lib.hid hd2
  have hne : w.heap.size ≠ b := by omega
  have HK := Lib.hid hk
  have HT := Lib.hid htab1
  have H1 := Lib.hid h1
  have HW := Lib.hid hW1
  have hc0 : ∀ (l : Bs) (u : World), Tl B b W1 l u → u.cell? ⟨w.heap.size, 0, none⟩ = some (.int .i64 xa) := fun l u hu => hu.cell HK.out hne (by decide) rfl
  have hc1 : ∀ (l : Bs) (u : World), Tl B b W1 l u → u.cell? ⟨w.heap.size, 1, none⟩ = some (.int .i64 xb) := fun l u hu => hu.cell HK.out hne (by decide) rfl
  have hc2 : ∀ (l : Bs) (u : World), Tl B b W1 l u → u.cell? ⟨w.heap.size, 2, none⟩ = some (.string xt) := fun l u hu => hu.cell HK.out hne (by decide) rfl
  have HC0 := Lib.hid hc0
  have HC1 := Lib.hid hc1
  have HC2 := Lib.hid hc2
  clear hR h htab hW1 hk hb1 htab1 h1 hd hd2 hc0 hc1 hc2 H
  go_enter Tryd.func23, Tryd.ntmps23
  go_wp2_with fail
  rw [← HW.out]
  refine (H1.out.ws _ (by simp [ByteArray.size]; omega)).mono ?_
  rintro e w2 ⟨⟨v2, rfl⟩, h2⟩
  rw [show dl (⟨#[64, 32]⟩ : ByteArray) = [64, 32] from rfl] at h2
  have c0 := HC0.out _ _ h2
  have H2 := Lib.hid h2
  clear h2
  go_wp2_with fail
  refine (Td.itoa (xa + 1) (by omega) (by omega) w2 (H2.out.tab HT.out hB)).mono ?_
  rintro e w3 ⟨rfl, b3⟩
  have H3 := Lib.hid (H2.out.on b3)
  clear b3 c0
  go_wp2_with fail
  refine (H3.out.ws _ (by simp; omega)).mono ?_
  rintro e w4 ⟨⟨v4, rfl⟩, h4⟩
  rw [dl_str] at h4
  have H4 := Lib.hid h4
  clear h4
  go_wp2_with fail
  refine (H4.out.wb 32 (by simp; omega)).mono ?_
  rintro e w5 ⟨⟨v5, rfl⟩, h5⟩
  have c0 := HC0.out _ _ h5
  have c1 := HC1.out _ _ h5
  have H5 := Lib.hid h5
  clear h5
  go_wp2_with fail
  refine (Td.itoa (xb - xa) (by omega) (by omega) w5 (H5.out.tab HT.out hB)).mono ?_
  rintro e w6 ⟨rfl, b6⟩
  have H6 := Lib.hid (H5.out.on b6)
  clear b6 c0 c1
  go_wp2_with fail
  refine (H6.out.ws _ (by simp; omega)).mono ?_
  rintro e w7 ⟨⟨v7, rfl⟩, h7⟩
  rw [dl_str] at h7
  have H7 := Lib.hid h7
  clear h7
  go_wp2_with fail
  refine (H7.out.wb 32 (by simp; omega)).mono ?_
  rintro e w8 ⟨⟨v8, rfl⟩, h8⟩
  have c2 := HC2.out _ _ h8
  have H8 := Lib.hid h8
  clear h8
  go_wp2_with fail
  refine (Td.count xt w8 (by omega)).mono ?_
  rintro e w9 ⟨rfl, rfl⟩
  clear c2
  go_wp2_with fail
  refine (Td.itoa _ (by omega) (by show ((lines (dl xt)).length : Int) ≤ _; omega) w9 (H8.out.tab HT.out hB)).mono ?_
  rintro e w10 ⟨rfl, b10⟩
  have H10 := Lib.hid (H8.out.on b10)
  clear b10
  go_wp2_with fail
  refine (H10.out.ws _ (by rw [show (lines xt.data.toList).length = (lines (dl xt)).length from rfl]; simp; omega)).mono ?_
  rintro e w11 ⟨⟨v11, rfl⟩, h11⟩
  rw [dl_str] at h11
  have H11 := Lib.hid h11
  clear h11
  go_wp2_with fail
  refine (H11.out.wb 10 (by rw [show (lines xt.data.toList).length = (lines (dl xt)).length from rfl]; simp; omega)).mono ?_
  rintro e w12 ⟨⟨v12, rfl⟩, h12⟩
  obtain ⟨P, hP⟩ : ∃ P : Bs, P = l ++ [64, 32] ++ Lib.itoa (xa + 1) ++ [32] ++ Lib.itoa (xb - xa) ++ [32] ++ Lib.itoa ((lines (dl xt)).length : Int) ++ [10] := ⟨_, rfl⟩
  have hPl : P.length ≤ 200000000000 := by rw [hP]; simp; omega
  replace h12 : Tl B b W1 P w12 := by rw [hP]; exact h12
  have HP := Lib.hid hP
  have c2 := HC2.out _ _ h12
  have H12 := Lib.hid h12
  clear h12 hP hi1 hi2 hi3 H2 H3 H4 H5 H6 H7 H8 H10 H11
  go_wp2_with fail
  refine (Ed.getLines xt w12 (by omega)).mono ?_
  rintro e w13 ⟨v, xs, rfl, hxs, hown, b13⟩
  obtain ⟨a0, cap, rfl⟩ := row_shape hown
  have hbw : b < w12.heap.size := H12.out.bw.lt
  have H13 := Lib.hid (H12.out.on b13)
  have HXS := Lib.hid hxs
  have HOWN := Lib.hid hown
  have hn : xs.length = (lines (dl xt)).length := by rw [← hxs]; simp
  have hfl : ∀ j, (((xs.map dl).take j).flatMap (fun l => (43 : UInt8) :: l)).length ≤ 2 * xt.size := fun j => by
    rw [flat43]
    have h1 : ((xs.map dl).take j).flatten.length ≤ xt.size := by
      have h1 : ((xs.map dl).take j).flatten.length ≤ (xs.map dl).flatten.length := flat_sub (List.take_sublist _ _)
      rw [hxs, lines_flat] at h1
      rw [size_dl, hxs]; exact h1
    have h2 : ((xs.map dl).take j).length ≤ xt.size := by
      have : ((xs.map dl).take j).length ≤ xs.length := by simp; omega
      exact Nat.le_trans this (by rw [hn]; exact hLL)
    have := Nat.add_le_add h2 h1
    exact Nat.le_trans this (by omega)
  have HFL := Lib.hid hfl
  clear hfl hxs hown b13 c2 H12
  go_wp2_with fail
  go_loopw [38] (fun s38 wq => ∃ j : Nat, j ≤ xs.length ∧ s38 = .int .i64 j ∧ Tl B b w13 (P ++ ((xs.map dl).take j).flatMap (fun l => (43 : UInt8) :: l)) wq) (fun s38 _ => xs.length - (intOf s38).toNat)
  case atStart => exact ⟨0, by omega, rfl, by simpa using H13.out.start⟩
  case round =>
    obtain ⟨j, hj, rfl, ht⟩ := hrel
    have HQ := Lib.hid ht
    have hown' := ownsRow_ok HOWN.out ht.ok (by decide) hbw
    obtain ⟨-, hcap, hrow, -⟩ := row_at_of_owns hown'
    have hflj := HFL.out j
    have hflj1 := HFL.out (j + 1)
    clear ht hown'
    by_cases hjl : j < xs.length
    · obtain ⟨gb, go, rfl, hgb, hgc⟩ := hrow.at (by intro e; simp [e] at hjl)
      have gc := strF_at (hgc j hjl)
      rw [Nat.mul_one] at gc
      have htk : (xs.map dl).take (j + 1) = (xs.map dl).take j ++ [dl xs[j]] := by
        rw [List.take_succ_eq_append_getElem (by simpa using hjl)]; simp
      rw [htk, List.flatMap_append, List.length_append] at hflj1
      have hxj : (dl xs[j]).length + 1 ≤ 2 * xt.size := by
        have : ([dl xs[j]].flatMap (fun l => (43 : UInt8) :: l)).length = (dl xs[j]).length + 1 := by simp
        omega
      rw [← size_dl] at hxj
      have HTK := Lib.hid htk
      clear hgc htk hrow hflj1
      generalize xs[j] = y at *
      go_wp2_with fail
      refine (HQ.out.wb 43 (by simp only [List.length_append]; omega)).mono ?_
      rintro e w14 ⟨⟨v14, rfl⟩, h14⟩
      have H14 := Lib.hid h14
      clear h14 gc
      go_wp2_with fail
      refine (H14.out.ws y (by simp only [List.length_append, List.length_cons, List.length_nil]; omega)).mono ?_
      rintro e w15 ⟨⟨v15, rfl⟩, h15⟩
      have H15 := Lib.hid h15
      clear h15
      go_wp2_with fail
      go_roundw
      case rel => exact ⟨j + 1, by omega, by go_num, by
        have := H15.out
        rw [HTK.out, List.flatMap_append, ← List.append_assoc]
        simpa using this⟩
      case measure => simp [intOf]; omega
    · obtain rfl : j = xs.length := by omega
      have htk : (xs.map dl).take xs.length = lines (dl xt) := by rw [List.take_of_length_le (by simp), HXS.out]
      rw [htk] at hflj
      have hc := H13.out.comp HQ.out
      rw [htk] at hc
      have c2 := HC2.out _ _ hc
      have HQ2 := Lib.hid hc
      clear hrow htk hc HQ hflj1
      obtain ⟨P2, hP2⟩ : ∃ P2, P2 = P ++ (lines (dl xt)).flatMap (fun l => (43 : UInt8) :: l) := ⟨_, rfl⟩
      have hP2l : P2.length ≤ 300000000000 := by rw [hP2, List.length_append]; omega
      rw [← hP2] at HQ2
      by_cases h0 : xt.size = 0
      · have hz : xt = ⟨#[]⟩ := size_zero h0
        have HZ := Lib.hid h0
        have HP2 := Lib.hid hP2
        clear hP2 h0
        subst hz
        go_wp2_with fail
        go_end0
        refine ⟨⟨_, rfl⟩, ?_⟩
        have : R = _ := HR.out.symm
        rw [if_neg (by simp [ByteArray.size])] at this
        have q := HQ2.out
        rw [HP2.out, HP.out] at q
        rw [this]
        exact ⟨by simpa using q.bw, HD.out.trans q.ok, HD2.out.trans q.be, q.le⟩
      · have hne := not_isEmpty_of h0
        have hsx := hasSuffix_nl (dl xt)
        have HSX := Lib.hid hsx
        have HP2 := Lib.hid hP2
        have H0 := Lib.hid h0
        clear hP2 h0 hsx
        cases he : ends (dl xt)
        · have HE := Lib.hid he
          clear he
          go_wp2_with fail
          refine (Tryd.strings_HasSuffix xt _ wr (by omega)).mono ?_
          rintro e w20 ⟨rfl, rfl⟩
          rw [show (⟨#[10]⟩ : ByteArray).data.toList = [10] from rfl, show xt.data.toList = dl xt from rfl, HSX.out, HE.out]
          go_wp2_with fail
          refine (HQ2.out.ws _ (by simp [ByteArray.size]; omega)).mono ?_
          rintro e w21 ⟨⟨v21, rfl⟩, h21⟩
          have H21 := Lib.hid h21
          clear h21 c2
          go_wp2_with fail
          go_end0
          refine ⟨⟨_, rfl⟩, ?_⟩
          have : R = _ := HR.out.symm
          rw [if_pos ⟨H0.out, HE.out⟩] at this
          have q := H21.out
          rw [HP2.out, HP.out] at q
          rw [this]
          exact ⟨by simpa [dl] using q.bw, HD.out.trans q.ok, HD2.out.trans q.be, q.le⟩
        · have HE := Lib.hid he
          clear he
          go_wp2_with fail
          refine (Tryd.strings_HasSuffix xt _ wr (by omega)).mono ?_
          rintro e w20 ⟨rfl, rfl⟩
          rw [show (⟨#[10]⟩ : ByteArray).data.toList = [10] from rfl, show xt.data.toList = dl xt from rfl, HSX.out, HE.out]
          go_wp2_with fail
          go_end0
          refine ⟨⟨_, rfl⟩, ?_⟩
          have : R = _ := HR.out.symm
          rw [if_neg (by simp [HE.out])] at this
          have q := HQ2.out
          rw [HP2.out, HP.out] at q
          rw [this]
          exact ⟨by simpa using q.bw, HD.out.trans q.ok, HD2.out.trans q.be, q.le⟩
end Go.Proofs.YtodjhgalbaelkaaDoor

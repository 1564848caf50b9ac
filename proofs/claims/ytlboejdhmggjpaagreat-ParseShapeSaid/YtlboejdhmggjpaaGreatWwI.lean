/- scan: after; the token at a place. -/
import Derived.Test.YtlboejdhmggjpaaGreatWwH
import Derived.Test.YtlboejdhmggjpaaGreatWwF
set_option linter.all false
namespace Go.Proofs.YtlboejdhmggjpaaGreat.Ww
set_option maxRecDepth 100000
set_option maxHeartbeats 16000000
open Go.Proofs.YtlboejdhmggjpaaGreat
open Go.RowKit Go.BigFrame

theorem Sc.afterF (st k : Nat) (x : ByteArray) (w : World) : Calls Tryz.prog 109 #[.int .i64 st, .int .i64 k, .string x] w fun e w' => e = .returned (.int .i64 (after st k (dl x))) ∧ w' = w := by
 go_enter Tryz.func109, Tryz.ntmps109
 go_wp2_with fail
 all_goals
  go_ret
  refine ⟨?_, rfl⟩
  simp only [toList_dl, beq_iff_eq, beq_eq_false_iff_ne, ne_eq] at *
  congr 2
  unfold after isHash incl
  repeat' split
  all_goals first | rfl | omega | (simp_all; done) | (simp_all; omega) | skip
theorem index_fEnd : ∀ t : Bs, Lib.index t [42, 47] = match fEnd t with | none => -1 | some n => (n : Int)
 | [] => rfl
 | [c] => by simp [Lib.index, fEnd]
 | c :: d :: r => by
  have h := index_fEnd (d :: r)
  rw [Lib.index, h, fEnd]
  by_cases hc : c = 42 ∧ d = 47
  ·rw [if_pos hc, if_pos (by obtain ⟨rfl, rfl⟩ := hc; simp)]
   rfl
  ·rw [if_neg hc, if_neg (by
    intro h
    apply hc
    simp at h
    exact ⟨h.1.symm, h.2.symm⟩)]
   cases fEnd (d :: r) with
   | none => rfl
   | some n => simp
theorem indexByte_toNl : ∀ t : Bs, Lib.indexByte t 10 = if toNl t < t.length then (toNl t : Int) else -1
 | [] => rfl
 | c :: r => by
  have h := indexByte_toNl r
  rw [Lib.indexByte, h, toNl]
  by_cases hc : c = 10
  ·subst hc; simp
  ·rw [if_neg (by simpa using hc), if_neg hc]
   by_cases hl : toNl r < r.length
   ·rw [if_pos hl, if_neg (by rw [beq_iff_eq]; omega), if_pos (by rw [List.length_cons]; omega)]; simp
   ·rw [if_neg hl, if_pos (by rfl), if_neg (by rw [List.length_cons]; omega)]
theorem fEnd_len {t : Bs} {n : Nat} (h : fEnd t = some n) : n + 2 ≤ t.length := fEnd_le t n h
theorem cLen_cases {s : ByteArray} {i : Nat} (hi : i < s.size) {b1 b2 : Bool} (h1 : Lib.hasPrefix (dl (s.extract i s.size)) [47, 42] = b1) (h2 : Lib.hasPrefix (dl (s.extract i s.size)) [47, 47] = b2) :
  (b1 = true ∧ i + 2 ≤ s.size ∧ cLen ((dl s).drop i) = match fEnd ((dl s).drop (i + 2)) with | none => (0, 20) | some n => (n + 4, 0)) ∨
  (b1 = false ∧ b2 = true ∧ i + 2 ≤ s.size ∧ cLen ((dl s).drop i) = (toNl ((dl s).drop (i + 2)) + 2, 0) ∧ toNl ((dl s).drop i) = toNl ((dl s).drop (i + 2)) + 2) ∨
  (b1 = false ∧ b2 = false ∧ cLen ((dl s).drop i) = (0, 0)) := by
 rw [dl_to, hasPrefix_take] at h1 h2
 simp only [List.length_cons, List.length_nil, Nat.reduceAdd] at h1 h2
 by_cases hk : i + 1 < s.size
 ·have ht : (dl s).drop i = s[i] :: s[i + 1] :: (dl s).drop (i + 2) := by rw [drop_at hi, drop_at hk]
  rw [ht] at h1 h2 ⊢
  simp only [List.take_succ_cons, List.take_zero, List.cons.injEq, and_true] at h1 h2
  cases b1
  ·have g1 := of_decide_eq_false h1
   cases b2
   ·have g2 := of_decide_eq_false h2
    exact .inr (.inr ⟨rfl, rfl, by rw [cLen]; simp only [if_neg g1, if_neg g2]⟩)
   ·have g2 := of_decide_eq_true h2
    refine .inr (.inl ⟨rfl, rfl, by omega, by rw [cLen]; simp only [if_neg g1, if_pos g2], ?_⟩)
    rw [g2.1, g2.2, toNl, toNl]
    simp
  ·have g1 := of_decide_eq_true h1
   exact .inl ⟨rfl, by omega, by rw [cLen]; simp only [if_pos g1]; rfl⟩
 ·have ht : (dl s).drop i = [s[i]] := by rw [drop_at hi, drop_end (by omega)]
  rw [ht] at h1 h2 ⊢
  have g1 : b1 = false := by rw [← h1]; simp
  have g2 : b2 = false := by rw [← h2]; simp
  exact .inr (.inr ⟨g1, g2, rfl⟩)
def Mx (w : World) : Prop := ∃ m, w.cell? ⟨0, 0, none⟩ = some (.int .i64 m)
theorem Mx.pos {w : World} (h : Mx w) : 0 < w.heap.size := by
 obtain ⟨m, hm⟩ := h
 simp only [World.cell?] at hm
 cases hh : w.heap[0]? with
 | none => rw [hh] at hm; cases hm
 | some o => exact (Array.getElem?_eq_some_iff.1 hh).1
theorem Mx.of {B : Nat} {w w' : World} (h : Mx w) (hb : Below B w w') (hB : 0 < B) : Mx w' := by
 obtain ⟨m, hm⟩ := h
 refine ⟨m, ?_⟩
 simp only [World.cell?] at hm ⊢
 rw [hb.block 0 hB]
 exact hm
theorem index_call (s p : ByteArray) (w : World) (n : Int) (hs : s.size < 4294967281) (hm : Mx w) (h : Lib.index (dl s) (dl p) = n) : Calls Tryz.prog 142 #[.string s, .string p] w fun e w' => e = .returned (.int .i64 n) ∧ w' = w := by
 obtain ⟨m, hm⟩ := hm
 exact h ▸ Tryz.strings_Index s p m w hs hm
theorem indexByte_call (s : ByteArray) (w : World) (n : Int) (h : Lib.indexByte (dl s) 10 = n) : Calls Tryz.prog 143 #[.string s, .int .u8 10] w fun e w' => e = .returned (.int .i64 n) ∧ w' = w := h ▸ Tryz.strings_IndexByte s 10 w
theorem header_call (s : ByteArray) (i : Nat) (w : World) (hi : i < s.size) (hs : s.size ≤ 1000000000) (n : Nat) (h : hLen ((dl s).drop i) = n) : Calls Tryz.prog 140 #[.string s, .int .i64 i] w fun e w' => e = .returned (.int .i64 (endAt i n)) ∧ w' = w := h ▸ Sc.headerEnd s i w hi hs
theorem longest_call (s : ByteArray) (i : Nat) (w : World) (hi : i < s.size) (hs : s.size ≤ 1000000000) (q : Nat × Nat) (h : longP ((dl s).drop i) = q) : Calls Tryz.prog 144 #[.string s, .int .i64 i] w fun e w' => e = .returned (.tuple (lgV i q)) ∧ Below w.heap.size w w' := h ▸ Sc.longest s i w hi hs
def itmV (i : Nat) (q : Nat × Nat × Nat) : Array Value := if q.2.2 ≠ 0 then #[itV 0 0 0, .int .i64 q.2.2] else #[itV q.1 i (i + q.2.1), .int .i64 0]
theorem Sc.itemAt (s : ByteArray) (i : Nat) (hdr : Bool) (w : World) (hi : i < s.size) (hs : s.size ≤ 1000000000) (hm : Mx w) : Calls Tryz.prog 108 #[.string s, .int .i64 i, .bool hdr] w fun e w' =>
  e = .returned (.tuple (itmV i (itm ((dl s).drop i) hdr))) ∧ Below w.heap.size w w' := by
 have hi' : (i : Int) < s.size := by omega
 obtain ⟨V, hV⟩ : ∃ V, itm ((dl s).drop i) hdr = V := ⟨_, rfl⟩
 rw [hV]
 obtain ⟨b1, hb1⟩ : ∃ b, Lib.hasPrefix (dl (s.extract i s.size)) [47, 42] = b := ⟨_, rfl⟩
 obtain ⟨b2, hb2⟩ : ∃ b, Lib.hasPrefix (dl (s.extract i s.size)) [47, 47] = b := ⟨_, rfl⟩
 obtain ⟨n, hn⟩ : ∃ n, hLen ((dl s).drop i) = n := ⟨_, rfl⟩
 have hc := cLen_cases hi hb1 hb2
 have HB1 := Lib.hid hb1
 have HB2 := Lib.hid hb2
 have HN := Lib.hid hn
 have HM := Lib.hid hm
 have hh : (hdr = true ∧ (0 : Int) < (endAt i n : Nat) ∧ V = (7, n, 0)) ∨ (((hdr = true ∧ ¬ (0 : Int) < (endAt i n : Nat)) ∨ hdr = false) ∧ V = if (cLen ((dl s).drop i)).2 ≠ 0 then (0, 0, (cLen ((dl s).drop i)).2)
   else if (cLen ((dl s).drop i)).1 ≠ 0 then (8, (cLen ((dl s).drop i)).1, 0) else if (longP ((dl s).drop i)).1 = 0 then (0, 0, 21) else ((longP ((dl s).drop i)).1, (longP ((dl s).drop i)).2, 0)) := by
  rw [itm, hn] at hV
  by_cases h : hdr = true ∧ 0 < n
  ·rw [if_pos h] at hV
   exact .inl ⟨h.1, by unfold endAt; rw [if_neg (by omega)]; omega, hV.symm⟩
  ·rw [if_neg h] at hV
   refine .inr ⟨?_, hV.symm⟩
   cases hdr
   ·exact .inr rfl
   ·refine .inl ⟨rfl, ?_⟩
    have : n = 0 := by
     rcases Nat.eq_zero_or_pos n with h0 | h0
     ·exact h0
     ·exact absurd ⟨rfl, h0⟩ h
    subst this
    unfold endAt; simp
 clear hV hb1 hb2 hn hm
 rcases hh with ⟨rfl, h0, rfl⟩ | ⟨h0, hv⟩
 ·clear hc
  have hnp : 0 < n := by
   rcases Nat.eq_zero_or_pos n with h | h
   ·subst h; unfold endAt at h0; simp at h0
   ·exact h
  have he : ((endAt i n : Nat) : Int) = (i : Int) + n := by unfold endAt; rw [if_neg (by omega)]; omega
  have HE := Lib.hid he
  clear he
  go_enter Tryz.func108, Tryz.ntmps108
  go_wp2_with (first | (go_at_call 140; refine (header_call s i _ hi hs n HN.out).mono ?_; rintro e w1 ⟨rfl, rfl⟩) | fail)
  refine bodyPost_ret (v := .tuple (itmV i (7, n, 0))) (by simp [results, Tryz.results108, go_sem, itmV, HE.out]) rfl ⟨rfl, ?_⟩
  exact below_alloc _ _
 ·rcases hc with ⟨rfl, h2, hcl⟩ | ⟨rfl, rfl, h2, hcl, htl⟩ | ⟨rfl, rfl, hcl⟩
  ·have h2' : (i : Int) + 2 ≤ s.size := by omega
   have hix := index_fEnd ((dl s).drop (i + 2))
   rw [← dl_to] at hix
   rw [show (dl s).drop (i + 2) = dl (s.extract (i + 2) s.size) from (dl_to _ _).symm] at hcl
   have HSZ : Hid ((s.extract (i + 2) s.size).size < 4294967281) := Lib.hid (by rw [size_dl, dl_to, drop_len]; omega)
   cases ho : fEnd (dl (s.extract (i + 2) s.size)) with
   | none =>
    rw [ho] at hix hcl
    rw [hcl] at hv
    have HIX : Hid (Lib.index (dl (s.extract (i + 2) s.size)) [42, 47] = -1) := Lib.hid hix
    have hv' : V = (0, 0, 20) := by rw [hv]; rfl
    clear hix hcl hv ho
    subst hv'
    rcases h0 with ⟨rfl, h0⟩ | rfl
    all_goals
     go_enter Tryz.func108, Tryz.ntmps108
     go_wp2_with (first | (go_at_call 140; refine (header_call s i _ hi hs n HN.out).mono ?_; rintro e w1 ⟨rfl, rfl⟩) | (go_at_call 141; refine (hasPrefix_call _ _ _ _ HB1.out).mono ?_; rintro e w1 ⟨rfl, rfl⟩) | (go_at_call 141; refine (hasPrefix_call _ _ _ _ HB2.out).mono ?_; rintro e w1 ⟨rfl, rfl⟩) | (go_at_call 142; refine (index_call _ _ _ _ HSZ.out (HM.out.of (below_alloc _ _) HM.out.pos) HIX.out).mono ?_; rintro e w1 ⟨rfl, rfl⟩) | (go_at_call 143; refine (indexByte_call _ _ _ HIB.out).mono ?_; rintro e w1 ⟨rfl, rfl⟩) | fail)
     refine bodyPost_ret (v := .tuple (itmV i (0, 0, 20))) (by simp [results, Tryz.results108, go_sem, itmV]) rfl ⟨rfl, ?_⟩
     exact below_alloc _ _
   | some k =>
    rw [ho] at hix hcl
    rw [hcl] at hv
    have hk : i + 2 + k + 2 ≤ s.size := by
     have := fEnd_len ho
     rw [dl_to, drop_len] at this
     omega
    have HIX : Hid (Lib.index (dl (s.extract (i + 2) s.size)) [42, 47] = k) := Lib.hid hix
    have hv' : V = (8, k + 4, 0) := by rw [hv]; simp
    have he : ((i + (k + 4) : Nat) : Int) = (i : Int) + 2 + k + 2 := by omega
    have HE := Lib.hid he
    have hk' : (i : Int) + 2 + k + 2 ≤ s.size := by omega
    have hk0 : ¬ ((k : Int) < 0) := by omega
    clear hix hcl hv ho he
    subst hv'
    rcases h0 with ⟨rfl, h0⟩ | rfl
    all_goals
     go_enter Tryz.func108, Tryz.ntmps108
     go_wp2_with (first | (go_at_call 140; refine (header_call s i _ hi hs n HN.out).mono ?_; rintro e w1 ⟨rfl, rfl⟩) | (go_at_call 141; refine (hasPrefix_call _ _ _ _ HB1.out).mono ?_; rintro e w1 ⟨rfl, rfl⟩) | (go_at_call 141; refine (hasPrefix_call _ _ _ _ HB2.out).mono ?_; rintro e w1 ⟨rfl, rfl⟩) | (go_at_call 142; refine (index_call _ _ _ _ HSZ.out (HM.out.of (below_alloc _ _) HM.out.pos) HIX.out).mono ?_; rintro e w1 ⟨rfl, rfl⟩) | (go_at_call 143; refine (indexByte_call _ _ _ HIB.out).mono ?_; rintro e w1 ⟨rfl, rfl⟩) | fail)
     refine bodyPost_ret (v := .tuple (itmV i (8, k + 4, 0))) (by simp only [itmV, itV, HE.out]; simp [results, Tryz.results108, go_sem]) rfl ⟨rfl, ?_⟩
     exact below_alloc _ _
  ·have hib := indexByte_toNl ((dl s).drop i)
   rw [hcl] at hv
   have hv' : V = (8, toNl ((dl s).drop i), 0) := by rw [hv, htl]; simp
   clear hcl hv htl
   have hle := toNl_le ((dl s).drop i)
   obtain ⟨k, hk⟩ : ∃ k, toNl ((dl s).drop i) = k := ⟨_, rfl⟩
   rw [hk] at hv' hib hle
   clear hk
   rw [drop_len] at hib hle
   rw [← dl_to] at hib
   subst hv'
   by_cases hkl : k < s.size - i
   ·rw [if_pos hkl] at hib
    have HIB := Lib.hid hib
    have hk0 : ¬ ((k : Int) < 0) := by omega
    have hks : (i : Int) + k ≤ s.size := by omega
    clear hib
    rcases h0 with ⟨rfl, h0⟩ | rfl
    all_goals
     go_enter Tryz.func108, Tryz.ntmps108
     go_wp2_with (first | (go_at_call 140; refine (header_call s i _ hi hs n HN.out).mono ?_; rintro e w1 ⟨rfl, rfl⟩) | (go_at_call 141; refine (hasPrefix_call _ _ _ _ HB1.out).mono ?_; rintro e w1 ⟨rfl, rfl⟩) | (go_at_call 141; refine (hasPrefix_call _ _ _ _ HB2.out).mono ?_; rintro e w1 ⟨rfl, rfl⟩) | (go_at_call 142; refine (index_call _ _ _ _ HSZ.out (HM.out.of (below_alloc _ _) HM.out.pos) HIX.out).mono ?_; rintro e w1 ⟨rfl, rfl⟩) | (go_at_call 143; refine (indexByte_call _ _ _ HIB.out).mono ?_; rintro e w1 ⟨rfl, rfl⟩) | fail)
     refine bodyPost_ret (v := .tuple (itmV i (8, k, 0))) (by simp [results, Tryz.results108, go_sem, itmV]) rfl ⟨rfl, ?_⟩
     exact below_alloc _ _
   ·rw [if_neg hkl] at hib
    have HIB := Lib.hid hib
    obtain rfl : k = s.size - i := by omega
    have he : ((i + (s.size - i) : Nat) : Int) = s.size := by omega
    have HE := Lib.hid he
    clear hib hkl hle he
    rcases h0 with ⟨rfl, h0⟩ | rfl
    all_goals
     go_enter Tryz.func108, Tryz.ntmps108
     go_wp2_with (first | (go_at_call 140; refine (header_call s i _ hi hs n HN.out).mono ?_; rintro e w1 ⟨rfl, rfl⟩) | (go_at_call 141; refine (hasPrefix_call _ _ _ _ HB1.out).mono ?_; rintro e w1 ⟨rfl, rfl⟩) | (go_at_call 141; refine (hasPrefix_call _ _ _ _ HB2.out).mono ?_; rintro e w1 ⟨rfl, rfl⟩) | (go_at_call 142; refine (index_call _ _ _ _ HSZ.out (HM.out.of (below_alloc _ _) HM.out.pos) HIX.out).mono ?_; rintro e w1 ⟨rfl, rfl⟩) | (go_at_call 143; refine (indexByte_call _ _ _ HIB.out).mono ?_; rintro e w1 ⟨rfl, rfl⟩) | fail)
     refine bodyPost_ret (v := .tuple (itmV i (8, s.size - i, 0))) (by simp only [itmV, itV, HE.out]; simp [results, Tryz.results108, go_sem]; try omega) rfl ⟨rfl, ?_⟩
     exact below_alloc _ _
  ·rw [hcl] at hv
   simp only [ne_eq, not_true, if_false] at hv
   obtain ⟨q, hq⟩ : ∃ q, longP ((dl s).drop i) = q := ⟨_, rfl⟩
   rw [hq] at hv
   have HQ := Lib.hid hq
   clear hcl hq
   have hlv : lgV i q = itmV i V := by
    rw [hv]
    unfold lgV itmV
    by_cases h : q.1 = 0
    ·rw [if_pos h, if_pos h]; rfl
    ·rw [if_neg h, if_neg h]; rfl
   obtain ⟨a, b, c, d, hab⟩ : ∃ a b c d : Nat, lgV i q = #[itV a b c, .int .i64 d] := by
    unfold lgV; split
    ·exact ⟨0, 0, 0, 21, rfl⟩
    ·exact ⟨_, _, _, 0, rfl⟩
   rw [← hlv, hab]
   have HAB := Lib.hid hab
   clear hv hlv hab
   rcases h0 with ⟨rfl, h0⟩ | rfl
   all_goals
    go_enter Tryz.func108, Tryz.ntmps108
    go_wp2_with (first | (go_at_call 140; refine (header_call s i _ hi hs n HN.out).mono ?_; rintro e w1 ⟨rfl, rfl⟩) | (go_at_call 141; refine (hasPrefix_call _ _ _ _ HB1.out).mono ?_; rintro e w1 ⟨rfl, rfl⟩) | (go_at_call 141; refine (hasPrefix_call _ _ _ _ HB2.out).mono ?_; rintro e w1 ⟨rfl, rfl⟩) | (go_at_call 142; refine (index_call _ _ _ _ HSZ.out (HM.out.of (below_alloc _ _) HM.out.pos) HIX.out).mono ?_; rintro e w1 ⟨rfl, rfl⟩) | (go_at_call 143; refine (indexByte_call _ _ _ HIB.out).mono ?_; rintro e w1 ⟨rfl, rfl⟩) | fail)
    refine (longest_call s i _ hi hs q HQ.out).mono ?_
    rintro e w2 ⟨rfl, b2⟩
    rw [HAB.out]
    have g0 : w2.heap[w.heap.size]? = some (.cells #[.int .i64 0, .int .i64 0, .int .i64 0] 143 (0, 0)) := by
     rw [b2.block _ (by simp)]
     exact heap_alloc_new _ _
    have hbel : Below w.heap.size w w2 := (below_alloc w _).trans (b2.mono (by simp))
    have d0 : w2.cell? ⟨w.heap.size, 0, none⟩ = some (.int .i64 0) := by simp [World.cell?, g0]
    have d1 : w2.cell? ⟨w.heap.size, 1, none⟩ = some (.int .i64 0) := by simp [World.cell?, g0]
    have d2 : w2.cell? ⟨w.heap.size, 2, none⟩ = some (.int .i64 0) := by simp [World.cell?, g0]
    have e0 : w2.frozen? ⟨w.heap.size, 0, none⟩ = false := Lib.frozen_of_heap g0 0
    have e1 : w2.frozen? ⟨w.heap.size, 1, none⟩ = false := Lib.frozen_of_heap g0 1
    have e2 : w2.frozen? ⟨w.heap.size, 2, none⟩ = false := Lib.frozen_of_heap g0 2
    have Q3 := Lib.hid (fun x y z => set3_cells (x := x) (y := y) (z := z) g0)
    have HBEL := Lib.hid hbel
    clear g0 hbel b2
    go_wp2_with fail
    obtain ⟨q0, q1, q2, qb⟩ := Q3.out (.int .i64 a) (.int .i64 b) (.int .i64 c)
    refine bodyPost_ret (v := .tuple #[itV a b c, .int .i64 d]) (by simp [results, Tryz.results108, go_sem, q0, q1, q2]) rfl ⟨rfl, HBEL.out.trans (qb.mono (by simp))⟩
end Go.Proofs.YtlboejdhmggjpaaGreat.Ww

/- scan: after; the token at a place. -/
import Derived.Test.YtlboejdhmggjpaaGreatWwH
import Derived.Test.YtlboejdhmggjpaaGreatWwF
import Derived.Test.YtlboejdhmggjpaaGreatRfa
import Derived.RangeFuncNested
import Derived.RangeFuncBound
import Derived.RangeFuncCalls
import Derived.RangeFuncLeaves
import Derived.RangeFuncBox
import Derived.Shelf.Abstract
import Derived.OwnWalkIn
import Derived.TacticsInMore
import Derived.LoopNIn
import Derived.LoopIn
import Derived.Test.YtlboejdhmggjpaaGreatTal
import Derived.BigQuiet
import Derived.Scope
set_option linter.all false
namespace Go.Proofs.YtlboejdhmggjpaaGreat.Ww
set_option maxRecDepth 100000
set_option maxHeartbeats 16000000
open Go.Proofs.YtlboejdhmggjpaaGreat
open Go.RowKit Go.BigFrame

theorem Sc.afterF (st k : Nat) (x : ByteArray) (w : World) : Calls Tryz.prog 109 #[.int .i64 st, .int .i64 k, .string x] w fun e w' => e = .returned (.int .i64 (after st k (dl x))) ∧ w' = w := by
 go_enter Tryz.func109, Tryz.ntmps109
 go_wp2_with fail
 all_goals
  go_ret
  refine ⟨?_, rfl⟩
  simp only [toList_dl, beq_iff_eq, beq_eq_false_iff_ne, ne_eq] at *
  congr 2
  unfold after isHash incl
  repeat' split
  all_goals first | rfl | omega | (simp_all; done) | (simp_all; omega) | skip
theorem index_fEnd : ∀ t : Bs, Lib.index t [42, 47] = match fEnd t with | none => -1 | some n => (n : Int)
 | [] => rfl
 | [c] => by simp [Lib.index, fEnd]
 | c :: d :: r => by
  have h := index_fEnd (d :: r)
  rw [Lib.index, h, fEnd]
  by_cases hc : c = 42 ∧ d = 47
  ·rw [if_pos hc, if_pos (by obtain ⟨rfl, rfl⟩ := hc; simp)]
   rfl
  ·rw [if_neg hc, if_neg (by
    intro h
    apply hc
    simp at h
    exact ⟨h.1.symm, h.2.symm⟩)]
   cases fEnd (d :: r) with
   | none => rfl
   | some n => simp
theorem indexByte_toNl : ∀ t : Bs, Lib.indexByte t 10 = if toNl t < t.length then (toNl t : Int) else -1
 | [] => rfl
 | c :: r => by
  have h := indexByte_toNl r
  rw [Lib.indexByte, h, toNl]
  by_cases hc : c = 10
  ·subst hc; simp
  ·rw [if_neg (by simpa using hc), if_neg hc]
   by_cases hl : toNl r < r.length
   ·rw [if_pos hl, if_neg (by rw [beq_iff_eq]; omega), if_pos (by rw [List.length_cons]; omega)]; simp
   ·rw [if_neg hl, if_pos (by rfl), if_neg (by rw [List.length_cons]; omega)]
theorem fEnd_len {t : Bs} {n : Nat} (h : fEnd t = some n) : n + 2 ≤ t.length := fEnd_le t n h
theorem cLen_cases {s : ByteArray} {i : Nat} (hi : i < s.size) {b1 b2 : Bool} (h1 : Lib.hasPrefix (dl (s.extract i s.size)) [47, 42] = b1) (h2 : Lib.hasPrefix (dl (s.extract i s.size)) [47, 47] = b2) :
  (b1 = true ∧ i + 2 ≤ s.size ∧ cLen ((dl s).drop i) = match fEnd ((dl s).drop (i + 2)) with | none => (0, 20) | some n => (n + 4, 0)) ∨
  (b1 = false ∧ b2 = true ∧ i + 2 ≤ s.size ∧ cLen ((dl s).drop i) = (toNl ((dl s).drop (i + 2)) + 2, 0) ∧ toNl ((dl s).drop i) = toNl ((dl s).drop (i + 2)) + 2) ∨
  (b1 = false ∧ b2 = false ∧ cLen ((dl s).drop i) = (0, 0)) := by
 rw [dl_to, hasPrefix_take] at h1 h2
 simp only [List.length_cons, List.length_nil, Nat.reduceAdd] at h1 h2
 by_cases hk : i + 1 < s.size
 ·have ht : (dl s).drop i = s[i] :: s[i + 1] :: (dl s).drop (i + 2) := by rw [drop_at hi, drop_at hk]
  rw [ht] at h1 h2 ⊢
  simp only [List.take_succ_cons, List.take_zero, List.cons.injEq, and_true] at h1 h2
  cases b1
  ·have g1 := of_decide_eq_false h1
   cases b2
   ·have g2 := of_decide_eq_false h2
    exact .inr (.inr ⟨rfl, rfl, by rw [cLen]; simp only [if_neg g1, if_neg g2]⟩)
   ·have g2 := of_decide_eq_true h2
    refine .inr (.inl ⟨rfl, rfl, by omega, by rw [cLen]; simp only [if_neg g1, if_pos g2], ?_⟩)
    rw [g2.1, g2.2, toNl, toNl]
    simp
  ·have g1 := of_decide_eq_true h1
   exact .inl ⟨rfl, by omega, by rw [cLen]; simp only [if_pos g1]; rfl⟩
 ·have ht : (dl s).drop i = [s[i]] := by rw [drop_at hi, drop_end (by omega)]
  rw [ht] at h1 h2 ⊢
  have g1 : b1 = false := by rw [← h1]; simp
  have g2 : b2 = false := by rw [← h2]; simp
  exact .inr (.inr ⟨g1, g2, rfl⟩)
def Mx (w : World) : Prop := ∃ m, w.cell? ⟨0, 0, none⟩ = some (.int .i64 m)
theorem Mx.pos {w : World} (h : Mx w) : 0 < w.heap.size := by
 obtain ⟨m, hm⟩ := h
 simp only [World.cell?] at hm
 cases hh : w.heap[0]? with
 | none => rw [hh] at hm; cases hm
 | some o => exact (Array.getElem?_eq_some_iff.1 hh).1
theorem Mx.of {B : Nat} {w w' : World} (h : Mx w) (hb : Below B w w') (hB : 0 < B) : Mx w' := by
 obtain ⟨m, hm⟩ := h
 refine ⟨m, ?_⟩
 simp only [World.cell?] at hm ⊢
 rw [hb.block 0 hB]
 exact hm
theorem index_call (s p : ByteArray) (w : World) (n : Int) (hs : s.size < 4294967281) (hm : Mx w) (h : Lib.index (dl s) (dl p) = n) : Calls Tryz.prog 142 #[.string s, .string p] w fun e w' => e = .returned (.int .i64 n) ∧ w' = w := by
 obtain ⟨m, hm⟩ := hm
 exact h ▸ Tryz.strings_Index s p m w hs hm
theorem indexByte_call (s : ByteArray) (w : World) (n : Int) (h : Lib.indexByte (dl s) 10 = n) : Calls Tryz.prog 143 #[.string s, .int .u8 10] w fun e w' => e = .returned (.int .i64 n) ∧ w' = w := h ▸ Tryz.strings_IndexByte s 10 w
theorem header_call (s : ByteArray) (i : Nat) (w : World) (hi : i < s.size) (hs : s.size ≤ 1000000000) (n : Nat) (h : hLen ((dl s).drop i) = n) : Calls Tryz.prog 140 #[.string s, .int .i64 i] w fun e w' => e = .returned (.int .i64 (endAt i n)) ∧ w' = w := h ▸ Sc.headerEnd s i w hi hs
theorem longest_call (s : ByteArray) (i : Nat) (w : World) (hi : i < s.size) (hs : s.size ≤ 1000000000) (q : Nat × Nat) (h : longP ((dl s).drop i) = q) : Calls Tryz.prog 144 #[.string s, .int .i64 i] w fun e w' => e = .returned (.tuple (lgV i q)) ∧ Below w.heap.size w w' := h ▸ Sc.longest s i w hi hs
def itmV (i : Nat) (q : Nat × Nat × Nat) : Array Value := if q.2.2 ≠ 0 then #[itV 0 0 0, .int .i64 q.2.2] else #[itV q.1 i (i + q.2.1), .int .i64 0]
theorem Sc.itemAt (s : ByteArray) (i : Nat) (hdr : Bool) (w : World) (hi : i < s.size) (hs : s.size ≤ 1000000000) (hm : Mx w) : Calls Tryz.prog 108 #[.string s, .int .i64 i, .bool hdr] w fun e w' =>
  e = .returned (.tuple (itmV i (itm ((dl s).drop i) hdr))) ∧ Below w.heap.size w w' := by
 have hi' : (i : Int) < s.size := by omega
 obtain ⟨V, hV⟩ : ∃ V, itm ((dl s).drop i) hdr = V := ⟨_, rfl⟩
 rw [hV]
 obtain ⟨b1, hb1⟩ : ∃ b, Lib.hasPrefix (dl (s.extract i s.size)) [47, 42] = b := ⟨_, rfl⟩
 obtain ⟨b2, hb2⟩ : ∃ b, Lib.hasPrefix (dl (s.extract i s.size)) [47, 47] = b := ⟨_, rfl⟩
 obtain ⟨n, hn⟩ : ∃ n, hLen ((dl s).drop i) = n := ⟨_, rfl⟩
 have hc := cLen_cases hi hb1 hb2
 have HB1 := Lib.hid hb1
 have HB2 := Lib.hid hb2
 have HN := Lib.hid hn
 have HM := Lib.hid hm
 have hh : (hdr = true ∧ (0 : Int) < (endAt i n : Nat) ∧ V = (7, n, 0)) ∨ (((hdr = true ∧ ¬ (0 : Int) < (endAt i n : Nat)) ∨ hdr = false) ∧ V = if (cLen ((dl s).drop i)).2 ≠ 0 then (0, 0, (cLen ((dl s).drop i)).2)
   else if (cLen ((dl s).drop i)).1 ≠ 0 then (8, (cLen ((dl s).drop i)).1, 0) else if (longP ((dl s).drop i)).1 = 0 then (0, 0, 21) else ((longP ((dl s).drop i)).1, (longP ((dl s).drop i)).2, 0)) := by
  rw [itm, hn] at hV
  by_cases h : hdr = true ∧ 0 < n
  ·rw [if_pos h] at hV
   exact .inl ⟨h.1, by unfold endAt; rw [if_neg (by omega)]; omega, hV.symm⟩
  ·rw [if_neg h] at hV
   refine .inr ⟨?_, hV.symm⟩
   cases hdr
   ·exact .inr rfl
   ·refine .inl ⟨rfl, ?_⟩
    have : n = 0 := by
     rcases Nat.eq_zero_or_pos n with h0 | h0
     ·exact h0
     ·exact absurd ⟨rfl, h0⟩ h
    subst this
    unfold endAt; simp
 clear hV hb1 hb2 hn hm
 rcases hh with ⟨rfl, h0, rfl⟩ | ⟨h0, hv⟩
 ·clear hc
  have hnp : 0 < n := by
   rcases Nat.eq_zero_or_pos n with h | h
   ·subst h; unfold endAt at h0; simp at h0
   ·exact h
  have he : ((endAt i n : Nat) : Int) = (i : Int) + n := by unfold endAt; rw [if_neg (by omega)]; omega
  have HE := Lib.hid he
  clear he
  go_enter Tryz.func108, Tryz.ntmps108
  go_wp2_with (first | (go_at_call 140; refine (header_call s i _ hi hs n HN.out).mono ?_; rintro e w1 ⟨rfl, rfl⟩) | fail)
  refine bodyPost_ret (v := .tuple (itmV i (7, n, 0))) (by simp [results, Tryz.results108, go_sem, itmV, HE.out]) rfl ⟨rfl, ?_⟩
  exact below_alloc _ _
 ·rcases hc with ⟨rfl, h2, hcl⟩ | ⟨rfl, rfl, h2, hcl, htl⟩ | ⟨rfl, rfl, hcl⟩
  ·have h2' : (i : Int) + 2 ≤ s.size := by omega
   have hix := index_fEnd ((dl s).drop (i + 2))
   rw [← dl_to] at hix
   rw [show (dl s).drop (i + 2) = dl (s.extract (i + 2) s.size) from (dl_to _ _).symm] at hcl
   have HSZ : Hid ((s.extract (i + 2) s.size).size < 4294967281) := Lib.hid (by rw [size_dl, dl_to, drop_len]; omega)
   cases ho : fEnd (dl (s.extract (i + 2) s.size)) with
   | none =>
    rw [ho] at hix hcl
    rw [hcl] at hv
    have HIX : Hid (Lib.index (dl (s.extract (i + 2) s.size)) [42, 47] = -1) := Lib.hid hix
    have hv' : V = (0, 0, 20) := by rw [hv]; rfl
    clear hix hcl hv ho
    subst hv'
    rcases h0 with ⟨rfl, h0⟩ | rfl
    all_goals
     go_enter Tryz.func108, Tryz.ntmps108
     go_wp2_with (first | (go_at_call 140; refine (header_call s i _ hi hs n HN.out).mono ?_; rintro e w1 ⟨rfl, rfl⟩) | (go_at_call 141; refine (hasPrefix_call _ _ _ _ HB1.out).mono ?_; rintro e w1 ⟨rfl, rfl⟩) | (go_at_call 141; refine (hasPrefix_call _ _ _ _ HB2.out).mono ?_; rintro e w1 ⟨rfl, rfl⟩) | (go_at_call 142; refine (index_call _ _ _ _ HSZ.out (HM.out.of (below_alloc _ _) HM.out.pos) HIX.out).mono ?_; rintro e w1 ⟨rfl, rfl⟩) | (go_at_call 143; refine (indexByte_call _ _ _ HIB.out).mono ?_; rintro e w1 ⟨rfl, rfl⟩) | fail)
     refine bodyPost_ret (v := .tuple (itmV i (0, 0, 20))) (by simp [results, Tryz.results108, go_sem, itmV]) rfl ⟨rfl, ?_⟩
     exact below_alloc _ _
   | some k =>
    rw [ho] at hix hcl
    rw [hcl] at hv
    have hk : i + 2 + k + 2 ≤ s.size := by
     have := fEnd_len ho
     rw [dl_to, drop_len] at this
     omega
    have HIX : Hid (Lib.index (dl (s.extract (i + 2) s.size)) [42, 47] = k) := Lib.hid hix
    have hv' : V = (8, k + 4, 0) := by rw [hv]; simp
    have he : ((i + (k + 4) : Nat) : Int) = (i : Int) + 2 + k + 2 := by omega
    have HE := Lib.hid he
    have hk' : (i : Int) + 2 + k + 2 ≤ s.size := by omega
    have hk0 : ¬ ((k : Int) < 0) := by omega
    clear hix hcl hv ho he
    subst hv'
    rcases h0 with ⟨rfl, h0⟩ | rfl
    all_goals
     go_enter Tryz.func108, Tryz.ntmps108
     go_wp2_with (first | (go_at_call 140; refine (header_call s i _ hi hs n HN.out).mono ?_; rintro e w1 ⟨rfl, rfl⟩) | (go_at_call 141; refine (hasPrefix_call _ _ _ _ HB1.out).mono ?_; rintro e w1 ⟨rfl, rfl⟩) | (go_at_call 141; refine (hasPrefix_call _ _ _ _ HB2.out).mono ?_; rintro e w1 ⟨rfl, rfl⟩) | (go_at_call 142; refine (index_call _ _ _ _ HSZ.out (HM.out.of (below_alloc _ _) HM.out.pos) HIX.out).mono ?_; rintro e w1 ⟨rfl, rfl⟩) | (go_at_call 143; refine (indexByte_call _ _ _ HIB.out).mono ?_; rintro e w1 ⟨rfl, rfl⟩) | fail)
     refine bodyPost_ret (v := .tuple (itmV i (8, k + 4, 0))) (by simp only [itmV, itV, HE.out]; simp [results, Tryz.results108, go_sem]) rfl ⟨rfl, ?_⟩
     exact below_alloc _ _
  ·have hib := indexByte_toNl ((dl s).drop i)
   rw [hcl] at hv
   have hv' : V = (8, toNl ((dl s).drop i), 0) := by rw [hv, htl]; simp
   clear hcl hv htl
   have hle := toNl_le ((dl s).drop i)
   obtain ⟨k, hk⟩ : ∃ k, toNl ((dl s).drop i) = k := ⟨_, rfl⟩
   rw [hk] at hv' hib hle
   clear hk
   rw [drop_len] at hib hle
   rw [← dl_to] at hib
   subst hv'
   by_cases hkl : k < s.size - i
   ·rw [if_pos hkl] at hib
    have HIB := Lib.hid hib
    have hk0 : ¬ ((k : Int) < 0) := by omega
    have hks : (i : Int) + k ≤ s.size := by omega
    clear hib
    rcases h0 with ⟨rfl, h0⟩ | rfl
    all_goals
     go_enter Tryz.func108, Tryz.ntmps108
     go_wp2_with (first | (go_at_call 140; refine (header_call s i _ hi hs n HN.out).mono ?_; rintro e w1 ⟨rfl, rfl⟩) | (go_at_call 141; refine (hasPrefix_call _ _ _ _ HB1.out).mono ?_; rintro e w1 ⟨rfl, rfl⟩) | (go_at_call 141; refine (hasPrefix_call _ _ _ _ HB2.out).mono ?_; rintro e w1 ⟨rfl, rfl⟩) | (go_at_call 142; refine (index_call _ _ _ _ HSZ.out (HM.out.of (below_alloc _ _) HM.out.pos) HIX.out).mono ?_; rintro e w1 ⟨rfl, rfl⟩) | (go_at_call 143; refine (indexByte_call _ _ _ HIB.out).mono ?_; rintro e w1 ⟨rfl, rfl⟩) | fail)
     refine bodyPost_ret (v := .tuple (itmV i (8, k, 0))) (by simp [results, Tryz.results108, go_sem, itmV]) rfl ⟨rfl, ?_⟩
     exact below_alloc _ _
   ·rw [if_neg hkl] at hib
    have HIB := Lib.hid hib
    obtain rfl : k = s.size - i := by omega
    have he : ((i + (s.size - i) : Nat) : Int) = s.size := by omega
    have HE := Lib.hid he
    clear hib hkl hle he
    rcases h0 with ⟨rfl, h0⟩ | rfl
    all_goals
     go_enter Tryz.func108, Tryz.ntmps108
     go_wp2_with (first | (go_at_call 140; refine (header_call s i _ hi hs n HN.out).mono ?_; rintro e w1 ⟨rfl, rfl⟩) | (go_at_call 141; refine (hasPrefix_call _ _ _ _ HB1.out).mono ?_; rintro e w1 ⟨rfl, rfl⟩) | (go_at_call 141; refine (hasPrefix_call _ _ _ _ HB2.out).mono ?_; rintro e w1 ⟨rfl, rfl⟩) | (go_at_call 142; refine (index_call _ _ _ _ HSZ.out (HM.out.of (below_alloc _ _) HM.out.pos) HIX.out).mono ?_; rintro e w1 ⟨rfl, rfl⟩) | (go_at_call 143; refine (indexByte_call _ _ _ HIB.out).mono ?_; rintro e w1 ⟨rfl, rfl⟩) | fail)
     refine bodyPost_ret (v := .tuple (itmV i (8, s.size - i, 0))) (by simp only [itmV, itV, HE.out]; simp [results, Tryz.results108, go_sem]; try omega) rfl ⟨rfl, ?_⟩
     exact below_alloc _ _
  ·rw [hcl] at hv
   simp only [ne_eq, not_true, if_false] at hv
   obtain ⟨q, hq⟩ : ∃ q, longP ((dl s).drop i) = q := ⟨_, rfl⟩
   rw [hq] at hv
   have HQ := Lib.hid hq
   clear hcl hq
   have hlv : lgV i q = itmV i V := by
    rw [hv]
    unfold lgV itmV
    by_cases h : q.1 = 0
    ·rw [if_pos h, if_pos h]; rfl
    ·rw [if_neg h, if_neg h]; rfl
   obtain ⟨a, b, c, d, hab⟩ : ∃ a b c d : Nat, lgV i q = #[itV a b c, .int .i64 d] := by
    unfold lgV; split
    ·exact ⟨0, 0, 0, 21, rfl⟩
    ·exact ⟨_, _, _, 0, rfl⟩
   rw [← hlv, hab]
   have HAB := Lib.hid hab
   clear hv hlv hab
   rcases h0 with ⟨rfl, h0⟩ | rfl
   all_goals
    go_enter Tryz.func108, Tryz.ntmps108
    go_wp2_with (first | (go_at_call 140; refine (header_call s i _ hi hs n HN.out).mono ?_; rintro e w1 ⟨rfl, rfl⟩) | (go_at_call 141; refine (hasPrefix_call _ _ _ _ HB1.out).mono ?_; rintro e w1 ⟨rfl, rfl⟩) | (go_at_call 141; refine (hasPrefix_call _ _ _ _ HB2.out).mono ?_; rintro e w1 ⟨rfl, rfl⟩) | (go_at_call 142; refine (index_call _ _ _ _ HSZ.out (HM.out.of (below_alloc _ _) HM.out.pos) HIX.out).mono ?_; rintro e w1 ⟨rfl, rfl⟩) | (go_at_call 143; refine (indexByte_call _ _ _ HIB.out).mono ?_; rintro e w1 ⟨rfl, rfl⟩) | fail)
    refine (longest_call s i _ hi hs q HQ.out).mono ?_
    rintro e w2 ⟨rfl, b2⟩
    rw [HAB.out]
    have g0 : w2.heap[w.heap.size]? = some (.cells #[.int .i64 0, .int .i64 0, .int .i64 0] 143 (0, 0)) := by
     rw [b2.block _ (by simp)]
     exact heap_alloc_new _ _
    have hbel : Below w.heap.size w w2 := (below_alloc w _).trans (b2.mono (by simp))
    have d0 : w2.cell? ⟨w.heap.size, 0, none⟩ = some (.int .i64 0) := by simp [World.cell?, g0]
    have d1 : w2.cell? ⟨w.heap.size, 1, none⟩ = some (.int .i64 0) := by simp [World.cell?, g0]
    have d2 : w2.cell? ⟨w.heap.size, 2, none⟩ = some (.int .i64 0) := by simp [World.cell?, g0]
    have e0 : w2.frozen? ⟨w.heap.size, 0, none⟩ = false := Lib.frozen_of_heap g0 0
    have e1 : w2.frozen? ⟨w.heap.size, 1, none⟩ = false := Lib.frozen_of_heap g0 1
    have e2 : w2.frozen? ⟨w.heap.size, 2, none⟩ = false := Lib.frozen_of_heap g0 2
    have Q3 := Lib.hid (fun x y z => set3_cells (x := x) (y := y) (z := z) g0)
    have HBEL := Lib.hid hbel
    clear g0 hbel b2
    go_wp2_with fail
    obtain ⟨q0, q1, q2, qb⟩ := Q3.out (.int .i64 a) (.int .i64 b) (.int .i64 c)
    refine bodyPost_ret (v := .tuple #[itV a b c, .int .i64 d]) (by simp [results, Tryz.results108, go_sem, q0, q1, q2]) rfl ⟨rfl, HBEL.out.trans (qb.mono (by simp))⟩
end Go.Proofs.YtlboejdhmggjpaaGreat.Ww

/- WwJ -/
namespace Go.Proofs.YtlboejdhmggjpaaGreat.Ww
set_option maxRecDepth 100000
set_option maxHeartbeats 16000000
open Go.Proofs.YtlboejdhmggjpaaGreat
open Go.RowKit Go.BigFrame Go.Shelf
attribute [local go_sem] Oper.semAt_some

def KT (T : TypeId → Bool) (w w' : World) : Prop := w.heap.size ≤ w'.heap.size ∧ ∀ (k : Nat) (cs : Array Value) (t : TypeId) (fz : Nat × Nat), T t = true → w.heap[k]? = some (.cells cs t fz) → w'.heap[k]? = some (.cells cs t fz)
theorem KT.refl (T : TypeId → Bool) (w : World) : KT T w w := ⟨Nat.le_refl _, fun _ _ _ _ _ h => h⟩
theorem KT.trans {T : TypeId → Bool} {a b c : World} (h : KT T a b) (k : KT T b c) : KT T a c := ⟨Nat.le_trans h.1 k.1, fun i cs t fz ht hi => k.2 i cs t fz ht (h.2 i cs t fz ht hi)⟩
theorem KT.of_below {T : TypeId → Bool} {w w' : World} (h : Below w.heap.size w w') : KT T w w' := ⟨h.size, fun k cs t fz _ hk => heap_below h hk (Array.getElem?_eq_some_iff.1 hk).1⟩
theorem KT.putObj {T : TypeId → Bool} {w : World} {l : Nat} {o o' : Obj} (ho : w.heap[l]? = some o) (hc : o.isCells = false) : KT T w (w.putObj l o') := ⟨by simp, fun k cs t fz _ hk => by
 rw [World.putObj_heap_other (fun e => by
  subst e
  rw [ho] at hk
  cases hk
  cases hc)]
 exact hk⟩
theorem KT.set {T : TypeId → Bool} {a w : World} {b t : Nat} {cs0 : Array Value} {fz : Nat × Nat} (h : KT T a w) (hb : w.heap[b]? = some (.cells cs0 t fz)) (ht : T t = false) (i : Nat) (v : Value) : KT T a (w.setCell ⟨b, i, none⟩ v) :=
 ⟨by simpa using h.1, fun k cs t' fz' ht' hk => by
  have h1 := h.2 k cs t' fz' ht' hk
  rw [Below.heap_setCell _ _ _ _ (fun e => by
   have e : k = b := e
   subst e
   rw [hb] at h1
   cases h1
   rw [ht] at ht'
   cases ht')]
  exact h1⟩
theorem KT.alloc {T : TypeId → Bool} {a w : World} (h : KT T a w) (o : Obj) : KT T a (w.alloc o) := h.trans (KT.of_below (below_alloc w o))

theorem Ph.parts (s : ByteArray) (w : World) : Calls Tryz.prog 105 #[.string s] w fun e w' => e = .returned (.func (.func 138) #[] #[.pointer (some ⟨w.heap.size, 0, none⟩)]) ∧ w' = w.alloc (.cells #[.string s] 9) := by
 go_enter Tryz.func105, Tryz.ntmps105
 go_wp2
 go_ret
 exact ⟨rfl, rfl⟩
def T9105 (t : TypeId) : Bool := t == 9 || t == 175
theorem Ph.seq (n B : Nat) (s : ByteArray) (w : World) (h0 : w.heap[B]? = some (.cells #[.string s] 9 (0, 0))) (hs : s.size ≤ 1000000000) :
  SeqG Fence.wide n Tryz.prog 138 #[.pointer (some ⟨B, 0, none⟩)] (fun p : Pt => #[ptV p]) (KT T9105) (fun pre x => ∃ r, prts (dl s) 0 = pre ++ x :: r) (fun _ => False)
   (fun zs => zs = prts (dl s) 0) (fun zs => ∃ r, prts (dl s) 0 = zs ++ r) w := fun l J Jx W hW hJ hJx hY hj0 => by
 have g0 := heap_below hW h0 (Array.getElem?_eq_some_iff.1 h0).1
 have HJ := Lib.hid hJ
 have HY := Lib.hid hY
 have HJ0 := Lib.hid hj0
 have G0 := Lib.hid g0
 clear h0 hJ hJx g0 hY hj0
 refine callsIn_of_wp Tryz.func138 rfl trivial ?_ rfl
 simp only [Tryz.ntmps138, List.size_toArray, List.length_cons, List.length_nil, Nat.reduceAdd, Nat.reduceSub, Array.replicate_succ, Array.replicate_zero, List.push_toArray, List.append_toArray, List.nil_append, List.cons_append]
 gi_wp2_with (fail)
 gi_loopw [3] (fun s3 wr => ∃ (pre : List Pt) (i : Nat), prts (dl s) 0 = pre ++ prts (dl s) i ∧ i ≤ s.size ∧ s3 = .int .i64 i ∧ wr.heap[B]? = some (.cells #[.string s] 9 (0, 0)) ∧ J pre wr) (fun s3 _ => s.size - (intOf s3).toNat)
 case atStart => exact ⟨[], 0, rfl, Nat.zero_le _, rfl, G0.out, HJ0.out⟩
 case round =>
  clear HJ0 G0
  obtain ⟨pre, i, hpre, hi, rfl, g0, hjp⟩ := hrel
  have c0 : wr.cell? ⟨B, 0, none⟩ = some (.string s) := by simp [World.cell?, g0]
  have G0 := Lib.hid g0
  have HJP := Lib.hid hjp
  clear g0 hjp
  by_cases hlt : i < s.size
  ·have hlt' : (i : Int) < s.size := by omega
   rw [prts_lt (i := i) (by rw [← size_dl]; exact hlt)] at hpre
   obtain ⟨p, hp⟩ : ∃ p, ptAt (dl s) i = p := ⟨_, rfl⟩
   have hpp := pt_pos (dl s) i
   have hpl := pt_le (s := dl s) (i := i) (by rw [← size_dl]; exact hlt)
   have hpa := pt_at (dl s) i
   have hc := Ph.partAtF s i wr hlt hs
   rw [hp] at hpre hpp hpl hpa hc
   rw [← size_dl] at hpl
   have HPRE := Lib.hid hpre
   have HC := Lib.hid hc
   clear hpre hc hp
   obtain ⟨pb, pp, pl, ps⟩ := p
   simp only at hpp hpl hpa
   subst hpa
   gi_wp2_with (fail)
   refine ⟨trivial, (fun hh => by cases hh), (callsIn_wide.2 HC.out).mono ?_⟩
   rintro e w2 ⟨rfl, b2⟩
   have hjw := HJ.out pre wr (w2.alloc (.cells #[.int .u8 pb.toNat, .int .i64 pp, .int .i64 pl, .bool ps] 175)) HJP.out (Mod.of_below (b2.trans ((below_alloc w2 _).mono b2.size)))
   obtain ⟨fn1, tm1, as1, bo1, hyy1, hR1⟩ := HY.out pre ⟨pb, pp, pl, ps⟩ _ hjw ⟨_, HPRE.out⟩
   have B2 := Lib.hid b2
   clear b2 hjw
   gi_wp2_with (fail)
   refine ⟨(fun hh => by cases hh), hR1.mono ?_⟩
   rintro e W1 (⟨rfl, hJ1, hk1⟩ | ⟨rfl, hx1⟩)
   ·have g4 := hk1.2 w2.heap.size _ 175 (0, 0) rfl (heap_alloc_new _ _)
    have g0 := hk1.2 B _ 9 (0, 0) rfl (Lib.alloc_old w2 _ _ (by have := B2.out.size; have := (Array.getElem?_eq_some_iff.1 G0.out).1; omega) |>.trans (heap_below B2.out G0.out (Array.getElem?_eq_some_iff.1 G0.out).1))
    have k0 : W1.cell? ⟨w2.heap.size, 0, none⟩ = some (.int .u8 pb.toNat) := by simp [World.cell?, g4]
    have k1 : W1.cell? ⟨w2.heap.size, 1, none⟩ = some (.int .i64 pp) := by simp [World.cell?, g4]
    have k2 : W1.cell? ⟨w2.heap.size, 2, none⟩ = some (.int .i64 pl) := by simp [World.cell?, g4]
    have k3 : W1.cell? ⟨w2.heap.size, 3, none⟩ = some (.bool ps) := by simp [World.cell?, g4]
    have hE := Ph.endF ⟨pb, pp, pl, ps⟩ W1 (by simp only; omega)
    have HE := Lib.hid hE
    have HJ1 := Lib.hid hJ1
    have GB := Lib.hid g0
    clear g4 g0 hk1 hJ1 hE hyy1 hR1
    gi_wp2_with (fail)
    refine ⟨trivial, (fun hh => by cases hh), (callsIn_wide.2 HE.out).mono ?_⟩
    rintro e w3 ⟨rfl, rfl⟩
    gi_wp2_with (fail)
    go_roundw
    case rel =>
     refine ⟨pre ++ [⟨pb, pp, pl, ps⟩], pp + pl, ?_, by omega, by go_num, ?_, HJ.out _ _ _ HJ1.out (Mod.of_below (below_alloc _ _))⟩
     ·rw [HPRE.out, List.append_assoc]; rfl
     ·exact (Lib.alloc_old _ _ _ (Array.getElem?_eq_some_iff.1 GB.out).1).trans GB.out
    case measure => simp [intOf]; omega
   ·have HX1 := Lib.hid hx1
    clear hx1 hyy1 hR1
    gi_wp2_with (fail)
    refine bodyPost_ret (results_none rfl _ _ _) rfl ?_
    exact ⟨⟨_, rfl⟩, .inr ⟨_, ⟨prts (dl s) (pp + pl), by rw [HPRE.out, List.append_assoc]; rfl⟩, HX1.out⟩⟩
  ·obtain rfl : i = s.size := by omega
   rw [prts_ge (i := s.size) (by rw [size_dl]; exact Nat.le_refl _), List.append_nil] at hpre
   have HP := Lib.hid hpre
   clear hpre
   gi_wp2_with (fail)
   go_end0
   exact ⟨⟨_, rfl⟩, .inl ⟨_, HP.out.symm, HJP.out⟩⟩
end Go.Proofs.YtlboejdhmggjpaaGreat.Ww

/- WwK -/
namespace Go.Proofs.YtlboejdhmggjpaaGreat.Ww
set_option maxRecDepth 100000
set_option maxHeartbeats 16000000
open Go.Proofs.YtlboejdhmggjpaaGreat
open Go.RowKit Go.BigFrame Go.Shelf
attribute [local go_sem] Oper.semAt_some

theorem prts_split {s : Bs} : ∀ (pre : List Pt) (i : Nat) (x : Pt) (r : List Pt), prts s i = pre ++ x :: r → ∃ k, x = ptAt s k ∧ k < s.length ∧ r = prts s (k + (ptAt s k).len)
 | [], i, x, r, h => by
  by_cases hi : i < s.length
  ·rw [prts_lt hi] at h
   injection h with h1 h2
   exact ⟨i, h1.symm, hi, h2.symm⟩
  ·rw [prts_ge (by omega)] at h; cases h
 | p :: pre, i, x, r, h => by
  by_cases hi : i < s.length
  ·rw [prts_lt hi] at h
   injection h with h1 h2
   exact prts_split pre _ x r h2
  ·rw [prts_ge (by omega)] at h; cases h
theorem prts_bound {s : Bs} {pre : List Pt} {x : Pt} {r : List Pt} (h : prts s 0 = pre ++ x :: r) : x.pos + x.len ≤ s.length ∧ (x.pos + x.len = s.length → r = []) ∧ 1 ≤ x.len := by
 obtain ⟨k, rfl, hk, rfl⟩ := prts_split pre 0 x r h
 have h1 := pt_le hk
 rw [pt_at]
 exact ⟨h1, fun he => prts_ge (by omega), pt_pos s k⟩
theorem badEnd_last {s : Bs} {pre : List Pt} {x : Pt} (h : prts s 0 = pre ++ [x]) : badEnd s = endBad x := by
 unfold badEnd; rw [h]; simp
theorem badEnd_none {s : Bs} (h : ∀ p ∈ prts s 0, p.pos + p.len ≠ s.length) : badEnd s = false := by
 unfold badEnd
 by_cases h0 : 0 < s.length
 ·obtain ⟨k, h1, h2, h3⟩ := prts_last (i := 0) h0
  have := h (ptAt s k) (List.mem_of_getLast? h1)
  rw [pt_at] at this
  exact absurd h3 this
 ·rw [prts_ge (by omega)]; rfl
theorem below_put {B l : Nat} {W : World} {o o' : Obj} (h : B ≤ l) (ho : W.heap[l]? = some o) : Below B W (W.putObj l o') :=
 ⟨rfl, rfl, rfl, by simp, fun k hk => World.putObj_heap_other (fun e => by omega)⟩
theorem KeepsFrom.of_cells {B b : Nat} {W : World} {cs : Array Value} {t : TypeId} {fz : Nat × Nat} (h : W.heap[b]? = some (.cells cs t fz)) {i : Nat} (v : Value) : KeepsFrom B W (W.setCell ⟨b, i, none⟩ v) :=
 ⟨by simp, fun k o hk ho hc => by
  rw [Below.heap_setCell _ _ _ _ (fun e => by
   have e : k = b := e
   subst e
   rw [h] at ho
   cases ho
   cases hc)]
  exact ho⟩
def CkI (s : ByteArray) (w : World) (pre : List Pt) (W : World) : Prop :=
 (∀ p ∈ pre, p.pos + p.len ≠ s.size) ∧ W.heap[w.heap.size]? = some (.cells #[.string s] 9 (0, 0)) ∧ W.heap[w.heap.size + 1]? = some (.cells #[.int .i64 0] 25 (0, 0)) ∧ Below w.heap.size w W ∧ w.heap.size + 3 ≤ W.heap.size
def CkX (s : ByteArray) (w : World) (c : Code) (pre : List Pt) (W : World) : Prop :=
 c = .exit 0 ∧ (∃ m x, pre = m ++ [x] ∧ prts (dl s) 0 = m ++ [x] ∧ W.heap[w.heap.size + 1]? = some (.cells #[.int .i64 (if endBad x then 10 else 0 : Nat)] 25 (0, 0))) ∧ Below w.heap.size w W ∧ w.heap.size + 3 ≤ W.heap.size
theorem Ph.check (s : ByteArray) (w : World) (hs : s.size ≤ 1000000000) : Calls Tryz.prog 104 #[.string s] w fun e w' => e = .returned (.int .i64 (chk (dl s))) ∧ Below w.heap.size w w' := by
 by_cases hbig : 65536 < s.size
 ·have hc : chk (dl s) = 3 := by unfold chk; rw [if_pos (by rw [← size_dl]; exact hbig)]
  rw [hc]
  have hb' : (65536 : Int) < s.size := by omega
  clear hc
  go_enter Tryz.func104, Tryz.ntmps104
  go_wp2
  go_step3
  go_wp2_with fail
  rw [Exit.noGoto_ret]
  go_ret
  exact ⟨rfl, below_alloc _ _⟩
 have hb' : ¬ (65536 : Int) < s.size := by omega
 have hchk : chk (dl s) = if badEnd (dl s) then 10 else 0 := by unfold chk; rw [if_neg (by rw [← size_dl]; exact hbig)]
 rw [hchk]
 obtain ⟨W0, hW0⟩ : ∃ W0, W0 = ((w.alloc (.cells #[.string s] 9)).alloc (.cells #[.int .i64 0] 25)).alloc (.cells #[.string s] 9) := ⟨_, rfl⟩
 have hs0 : W0.heap.size = w.heap.size + 3 := by rw [hW0]; simp
 have hb0 : Below w.heap.size w W0 := by rw [hW0]; exact (((Below.refl _ _).alloc (Nat.le_refl _) _).alloc (by simp) _).alloc (by simp; omega) _
 have e0 : W0.heap[w.heap.size]? = some (.cells #[.string s] 9 (0, 0)) := by
  rw [hW0, Lib.alloc_old _ _ _ (by simp; omega), Lib.alloc_old _ _ _ (by simp)]
  exact heap_alloc_new _ _
 have e1 : W0.heap[w.heap.size + 1]? = some (.cells #[.int .i64 0] 25 (0, 0)) := by
  rw [hW0, Lib.alloc_old _ _ _ (by simp)]
  have := heap_alloc_new (w.alloc (.cells #[.string s] 9)) (.cells #[.int .i64 0] 25)
  simpa using this
 have e2 : W0.heap[w.heap.size + 2]? = some (.cells #[.string s] 9 (0, 0)) := by
  rw [hW0]
  have := heap_alloc_new ((w.alloc (.cells #[.string s] 9)).alloc (.cells #[.int .i64 0] 25)) (.cells #[.string s] 9)
  simpa using this
 have hseq := Ph.seq 4 (w.heap.size + 2) s W0 e2 hs
 have hI0 : CkI s w [] W0 := ⟨by simp, e0, e1, hb0, by omega⟩
 have HSEQ := Lib.hid hseq
 have HS0 := Lib.hid hs0
 have HI0 := Lib.hid hI0
 have HW0 := Lib.hid hW0
 clear hW0 hs0 hb0 e0 e1 e2 hseq hI0 hchk hbig
 refine (callsIn_wide (n := 5)).1 ?_
 refine callsIn_of_wp_marks Tryz.func104 rfl trivial ?_ rfl
 simp only [Tryz.ntmps104, List.size_toArray, List.length_cons, List.length_nil, Nat.reduceAdd, Nat.reduceSub, Array.replicate_succ, Array.replicate_zero, List.push_toArray, List.append_toArray, List.nil_append, List.cons_append]
 gi_wp2_with (fail)
 refine wpIn_wide.2 (wp_scope_straight ((wpIn_wide (n := 5)).1 ?_))
 gi_wp2_with (fail)
 refine wpIn_label ?_
 gi_wp2_with (fail)
 refine ⟨trivial, ?_⟩
 refine (callsIn_wide.2 (Ph.parts s _)).mono ?_
 rintro e w2 ⟨rfl, rfl⟩
 rw [← HW0.out]
 gi_wp2_with (fail)
 refine wpIn_rangeFunc_asg rfl (by omega) (gf := 138) (lb := #[.pointer (some ⟨w.heap.size + 1 + 1, 0, none⟩)]) rfl trivial (enters_of Tryz.func138 (by kernel_rfl) rfl)
  HSEQ.out (fun k hk => hk.elim) (fun h k => h.trans k) (fun W l o o' hl hW ho _ => KT.putObj hW ho) (Below.refl _ _) (fun _ => rfl)
  (CkI s w) (CkX s w)
  (fun t A B h hm => by
   have hs0 := HS0.out
   obtain ⟨h1, h2, h3, h4, h5⟩ := h
   have hm' : Mod (fun k => W0.heap.size ≤ k ∧ nc A k) A B := hm.mono (fun k _ hk => hk.elim (fun h => h.elim) id)
   exact ⟨h1, hm'.keep h2 (fun hk => by have := hk.1; omega), hm'.keep h3 (fun hk => by have := hk.1; omega), h4.trans (hm'.below (by have := h4.size; omega) (fun k hk => by have := hk.1; omega)), Nat.le_trans h5 hm.size⟩)
  (fun c t A B h hm => by
   have hs0 := HS0.out
   obtain ⟨h1, ⟨m, x, h2, h3, h4⟩, h5, h6⟩ := h
   have hm' : Mod (fun k => W0.heap.size ≤ k ∧ nc A k) A B := hm.mono (fun k _ hk => hk.elim (fun h => h.elim) id)
   exact ⟨h1, ⟨m, x, h2, h3, hm'.keep h4 (fun hk => by have := hk.1; omega)⟩, h5.trans (hm'.below (by have := h5.size; omega) (fun k hk => by have := hk.1; omega)), Nat.le_trans h6 hm.size⟩)
  HI0.out
  (fun (p : Pt) a' W => ∃ b, W.heap[b]? = some (.cells #[.int .u8 p.b.toNat, .int .i64 p.pos, .int .i64 p.len, .bool p.spl] 175 (0, 0)) ∧
   a' = { tmps := #[.string s, .pointer (some ⟨w.heap.size, 0, none⟩), .int .i64 0, .pointer (some ⟨w.heap.size + 1, 0, none⟩), .pointer (some ⟨b, 0, none⟩), .string s, .int .i64 s.size, .bool (decide ((65536 : Int) < s.size)), .string s, .func (.func 138) #[] #[.pointer (some ⟨w.heap.size + 1 + 1, 0, none⟩)], ptV p, undef, undef, undef, undef, undef, undef, undef, undef, undef, undef, undef, undef, undef, undef], defers := [] })
  (fun h => KT.of_below h)
  (fun p a' W l o o' hl ho ⟨b, hb, ha⟩ => ⟨b, by
   rw [World.putObj_heap_other (fun e => by
    subst e
    rw [hl] at hb
    cases hb
    cases ho)]
   exact hb, ha⟩)
  ?assign ?body ?done ?stop
 case assign =>
  intro l z W K hK
  gi_wp2
  exact hK _ _ (below_alloc W _) ⟨W.heap.size, heap_alloc_new _ _, rfl⟩
 case body =>
  rintro l pre x a' W ⟨h1, h2, h3, h4, h5⟩ ⟨r, hr⟩ ⟨b, hb, rfl⟩
  obtain ⟨q1, q2, q3⟩ := prts_bound hr
  rw [← size_dl] at q1 q2
  obtain ⟨xb, xp, xl, xs⟩ := x
  simp only at q1 q2 q3 hb
  have u0 : ∀ u : Ext W, u.w.cell? ⟨b, 0, none⟩ = some (.int .u8 xb.toNat) := fun u => u.cell (by simp [World.cell?, hb])
  have u1 : ∀ u : Ext W, u.w.cell? ⟨b, 1, none⟩ = some (.int .i64 xp) := fun u => u.cell (by simp [World.cell?, hb])
  have u2 : ∀ u : Ext W, u.w.cell? ⟨b, 2, none⟩ = some (.int .i64 xl) := fun u => u.cell (by simp [World.cell?, hb])
  have u3 : ∀ u : Ext W, u.w.cell? ⟨b, 3, none⟩ = some (.bool xs) := fun u => u.cell (by simp [World.cell?, hb])
  have us : ∀ u : Ext W, u.w.cell? ⟨w.heap.size, 0, none⟩ = some (.string s) := fun u => u.cell (by simp [World.cell?, h2])
  have HE := Lib.hid (fun (u : World) => (Ph.endF ⟨xb, xp, xl, xs⟩ u (by simp only; omega)).mono (fun e w' ⟨he, hw⟩ => (⟨he, hw ▸ below_alloc u _⟩ : e = _ ∧ Below u.heap.size u w')))
  have H1 := Lib.hid h1
  have H2 := Lib.hid h2
  have H3 := Lib.hid h3
  have H4 := Lib.hid h4
  have H5 := Lib.hid h5
  have HR := Lib.hid hr
  clear h1 h2 h3 h4 h5 hr hb
  gi_wp2_with (fail)
  refine wpIn_region_quiet_round (C := fun w' => ∃ u : Ext W, w' = u.w) (by kernel_rfl) (by kernel_rfl) (Ext.drew W) ?_
  try dsimp only []
  repeat (go_big_quiet_step ((go_at_call 137; rename_i u; refine (HE.out u.w).mono ?_; rintro e w2 ⟨rfl, b2⟩; exact ⟨rfl, u.on b2⟩)))
  refine wpQuiet_nil ?_
  rintro w' ⟨v1, rfl⟩
  have hKF : KeepsFrom W0.heap.size W v1.w := ⟨v1.below.size, fun k o hk ho hc => heap_below v1.below ho (Array.getElem?_eq_some_iff.1 ho).1⟩
  have hb1 : Below w.heap.size w v1.w := H4.out.trans (v1.below.mono H4.out.size)
  have h5 : w.heap.size + 3 ≤ v1.w.heap.size := Nat.le_trans H5.out v1.below.size
  have h3 := heap_below v1.below H3.out (Array.getElem?_eq_some_iff.1 H3.out).1
  have c1 : v1.w.cell? ⟨w.heap.size + 1, 0, none⟩ = some (.int .i64 0) := by simp [World.cell?, h3]
  have f1 : v1.w.frozen? ⟨w.heap.size + 1, 0, none⟩ = false := Lib.frozen_of_heap h3 0
  have h2 := heap_below v1.below H2.out (Array.getElem?_eq_some_iff.1 H2.out).1
  have KF := Lib.hid hKF
  have B1 := Lib.hid hb1
  have H5' := Lib.hid h5
  have H3' := Lib.hid h3
  have H2' := Lib.hid h2
  clear hKF hb1 h5 h3 h2 us
  have u0 := u0 v1
  have u1 := u1 v1
  have u2 := u2 v1
  have u3 := u3 v1
  by_cases he : xp + xl = s.size
  ·have he' : ((xp : Int) + xl == s.size) = true := by rw [beq_iff_eq]; omega
   obtain rfl := q2 he
   clear q2 he
   have hbad : (xs = true ∧ endBad ⟨xb, xp, xl, xs⟩ = true) ∨ (xs = false ∧ ((xb.toNat : Int) != 10) = true ∧ endBad ⟨xb, xp, xl, xs⟩ = true) ∨ (xs = false ∧ ((xb.toNat : Int) != 10) = false ∧ endBad ⟨xb, xp, xl, xs⟩ = false) := by
    cases xs
    ·refine .inr ?_
     by_cases h : (xb.toNat : Int) = 10
     ·exact .inr ⟨rfl, by rw [h]; rfl, by rw [show xb = 10 from byte_eq (n := 10) h (by decide)]; rfl⟩
     ·refine .inl ⟨rfl, by simpa using h, ?_⟩
      have : xb ≠ 10 := byte_ne (n := 10) h (by decide)
      simp [endBad, this]
    ·exact .inl ⟨rfl, by simp [endBad]⟩
   have hst : ∀ v : Value, (v1.w.setCell ⟨w.heap.size + 1, 0, none⟩ v).heap[w.heap.size + 1]? = some (.cells #[v] 25 (0, 0)) := fun v => by
    have := heap_setCell_same v1.w (w.heap.size + 1) 0 _ _ v H3'.out
    simpa using this
   have HST := Lib.hid hst
   clear hst
   rcases hbad with ⟨rfl, hq⟩ | ⟨rfl, hq1, hq⟩ | ⟨rfl, hq1, hq⟩
   ·have HQ := Lib.hid hq
    clear hq
    gi_wp2_with (fail)
    refine ⟨KF.out.trans (KeepsFrom.of_cells H3'.out _), rfl, ⟨pre, _, rfl, HR.out, ?_⟩, B1.out.setCell (p := ⟨w.heap.size + 1, 0, none⟩) (by simp) _, by simpa using H5'.out⟩
    rw [HQ.out, HST.out]; rfl
   ·have HQ := Lib.hid hq
    clear hq
    gi_wp2_with (fail)
    refine ⟨KF.out.trans (KeepsFrom.of_cells H3'.out _), rfl, ⟨pre, _, rfl, HR.out, ?_⟩, B1.out.setCell (p := ⟨w.heap.size + 1, 0, none⟩) (by simp) _, by simpa using H5'.out⟩
    rw [HQ.out, HST.out]; rfl
   ·have HQ := Lib.hid hq
    clear hq
    gi_wp2_with (fail)
    refine ⟨KF.out, rfl, ⟨pre, _, rfl, HR.out, ?_⟩, B1.out, H5'.out⟩
    rw [HQ.out, H3'.out]; rfl
  ·have he' : ((xp : Int) + xl == s.size) = false := by rw [beq_eq_false_iff_ne]; omega
   clear q2
   have HE2 := Lib.hid he
   clear he
   gi_wp2_with (fail)
   refine ⟨KF.out, KT.of_below v1.below, ?_, H2'.out, H3'.out, B1.out, H5'.out⟩
   intro p hp
   rcases List.mem_append.1 hp with hp | hp
   ·exact H1.out p hp
   ·rw [List.mem_singleton] at hp; subst hp; exact HE2.out
 case done =>
  rintro Dd zs W hD rfl ⟨h1, h2, h3, h4, h5⟩ hK
  have hbe : badEnd (dl s) = false := badEnd_none (fun p hp => by rw [← size_dl]; exact h1 p hp)
  have c1 : W.cell? ⟨w.heap.size + 1, 0, none⟩ = some (.int .i64 0) := by simp [World.cell?, h3]
  have HBE := Lib.hid hbe
  have H4 := Lib.hid h4
  have HK := Lib.hid hK
  clear h1 h2 h3 h4 h5 hbe hK
  gi_wp2_with (fail)
  rw [Exit.noGoto_ret]
  refine ⟨by simp, .inl ⟨_, _, rfl, run_takeDeferred HK.out, ?_⟩⟩
  refine ⟨.int .i64 0, by simp [results, Tryz.results104, go_sem], by rw [HBE.out]; rfl, ?_⟩
  exact H4.out.trans (below_put (by have := HS0.out; omega) HK.out)
 case stop =>
  rintro Dd c pre W hD ⟨r, hr⟩ ⟨rfl, ⟨m, x, rfl, h3, h4⟩, h5, h6⟩ hK
  have hbe : badEnd (dl s) = endBad x := badEnd_last h3
  obtain ⟨E, hE⟩ : ∃ E : Nat, (if endBad x then 10 else 0) = E := ⟨_, rfl⟩
  rw [hE] at h4
  have c1 : W.cell? ⟨w.heap.size + 1, 0, none⟩ = some (.int .i64 E) := by simp [World.cell?, h4]
  rw [← hbe] at hE
  have HE := Lib.hid hE
  have H5 := Lib.hid h5
  have HK := Lib.hid hK
  clear h3 h4 h5 hbe hK hr hE
  gi_wp2_with (fail)
  rw [Exit.noGoto_ret]
  refine ⟨by simp, .inl ⟨_, _, rfl, run_takeDeferred HK.out, ?_⟩⟩
  refine ⟨.int .i64 E, by simp [results, Tryz.results104, go_sem], by rw [← HE.out], ?_⟩
  exact H5.out.trans (below_put (by have := HS0.out; omega) HK.out)
end Go.Proofs.YtlboejdhmggjpaaGreat.Ww

/- search: one round of Best. -/
import Derived.Test.YtblooekephkojaaLsL
namespace Go.Proofs.Ytblooekephkojaa
open Go.RowKit Go.BigFrame Go.Shelf
set_option linter.unusedVariables false

def BInv (w : World) (q : Ln) (l : List Gap) (s : Sty) (first : Int) (k m : Nat) (wr : World) : Prop :=
  ∃ en cost fv fb sv sb : List Int, LineAt wr q l s first (sums l) en cost (2 ^ k) fv fb sv sb ∧ BP s first l k m en cost fv fb sv sb ∧ TP s l k m (atI cost) fv fb sv sb ∧ Below w.heap.size w wr
def EInv (w : World) (q : Ln) (l : List Gap) (s : Sty) (first : Int) (k i : Nat) (wr : World) : Prop :=
  ∃ en cost fv fb sv sb : List Int, LineAt wr q l s first (sums l) en cost (2 ^ k) fv fb sv sb ∧ BP s first l k (i + 1) en cost fv fb sv sb ∧ TP s l k i (atI cost) fv fb sv sb ∧ Below w.heap.size w wr

section
variable {w : World} {q : Ln} {l : List Gap} {s : Sty} {first : Int} {k : Nat}

theorem Ls.endsB (C : LCtx w q l s first k) (i : Nat) (hi : i ≤ l.length) (wr : World) (h : BInv w q l s first k (i + 1) wr) :
    Calls Try.prog 55 #[.pointer (some ⟨q.L, 0, none⟩), .int .i64 i] wr fun e w' => e = .returned (.tuple #[]) ∧ EInv w q l s first k i w' := by
  obtain ⟨en, cost, fv, fb, sv, sb, hL, hP, hT, hB⟩ := h
  have hrow := C.row.below hB (Nat.le_refl _) hB.size
  have hz2 : 2 ^ k ≤ 200000 := by have := C.k2; have := C.len; omega
  have htr : ∀ b, q.trees b → w.heap.size ≤ b := fun b hb => by
    rcases hb with rfl | rfl | rfl | rfl <;> exact C.ge _ (by simp [Ln.blocks])
  have hps := psum_bd l C.val i hi
  have hep : 0 ≤ s.e * psum l i ∧ s.e * psum l i ≤ 8589934592000000 := by
    obtain ⟨s1, s2, s3, s4⟩ := C.sty
    have h1 : s.e * psum l i ≤ 1000000 * psum l i := Int.mul_le_mul_of_nonneg_right s4 hps.1
    have := C.len
    exact ⟨Int.mul_nonneg s3 hps.1, by omega⟩
  rcases Nat.lt_or_ge i l.length with hlt | hge
  · cases hm : l[i].may with
    | false =>
      refine (Ls.ends_no q l s first (sums l) en cost (2 ^ k) fv fb sv sb i wr hL hrow C.len hlt hm).mono ?_
      rintro e w' ⟨rfl, rfl⟩
      exact ⟨rfl, en, cost, fv, fb, sv, sb, hL, hP, hT.skip (by unfold endB; rw [List.getElem?_eq_getElem hlt]; exact hm), hB⟩
    | true =>
      have he : endB l i = true := by unfold endB; rw [List.getElem?_eq_getElem hlt]; exact hm
      have hec : l[i].cost + cost[i + 1]'(by rw [hP.cl]; omega) = endc l (atI cost) i := by
        unfold endc atI
        rw [List.getElem?_eq_getElem hlt, List.getD_eq_getElem?_getD, List.getElem?_eq_getElem (by rw [hP.cl]; omega)]
        rfl
      refine (Ls.ends_mid q l s first en cost (2 ^ k) fv fb sv sb i wr hL C.nd hrow C.len hlt hm C.val C.sty C.k1 hz2 hP.t1 hP.t2 hP.cl hP.cb).mono ?_
      rintro e w' ⟨rfl, hL', hM⟩
      rw [hec] at hL'
      have hcb := hP.cb _ (List.getElem_mem (show i + 1 < cost.length by rw [hP.cl]; omega))
      have hg := valid_bd (C.val _ (List.getElem_mem hlt))
      exact ⟨rfl, en, cost, _, _, _, _, hL', hP.put i hi _ _ (by omega) (by omega), hT.put hi C.k1 hP.t1 hP.t2 he, hB.trans (hM.below hB.size htr)⟩
  · have hil : i = l.length := by omega
    have he : endB l i = true := by unfold endB; rw [List.getElem?_eq_none hge]
    have hec : endc l (atI cost) i = 0 := by unfold endc; rw [List.getElem?_eq_none hge]
    refine (Ls.ends_last q l s first en cost (2 ^ k) fv fb sv sb i wr hL C.nd hrow C.len hil C.val C.sty C.k1 hz2 hP.t1 hP.t2 hP.cl hP.cb).mono ?_
    rintro e w' ⟨rfl, hL', hM⟩
    have h1 := hP.put i hi 0 (s.e * psum l i) (by omega) (by omega)
    have h2 := hT.put hi C.k1 hP.t1 hP.t2 he
    rw [hec, Int.zero_add] at h2
    exact ⟨rfl, en, cost, _, _, _, _, hL', h1, h2, hB.trans (hM.below hB.size htr)⟩

theorem Ls.beginsB (C : LCtx w q l s first k) (i mo : Nat) (hi : i ≤ l.length) (hmo : IsMost l i mo) (wr : World) (h : EInv w q l s first k i wr) :
    Calls Try.prog 56 #[.pointer (some ⟨q.L, 0, none⟩), .int .i64 i, .int .i64 mo] wr fun e w' => e = .returned (.tuple #[]) ∧ BInv w q l s first k i w' := by
  obtain ⟨en, cost, fv, fb, sv, sb, hL, hP, hT, hB⟩ := h
  have hrow := C.row.below hB (Nat.le_refl _) hB.size
  have hz2 : 2 ^ k ≤ 200000 := by have := C.k2; have := C.len; omega
  obtain ⟨wide, hw1, hw2, hw3⟩ := wide_at first l C.val s.c i mo hmo.le hmo.len
  obtain ⟨e0, he0, hpick⟩ := begR_pick s first l C.val k fv fb sv sb (atI cost) i mo wide hmo C.k1 (hasP l i) (fun p => Iff.rfl) hT.tr1 hT.tr2 hT.v1 hT.v2 hw1 hw2 hw3
  have hbb : ∀ b, (b = q.E ∨ b = q.C) → w.heap.size ≤ b := fun b hb => by
    rcases hb with rfl | rfl <;> exact C.ge _ (by simp [Ln.blocks])
  obtain ⟨hP', hT'⟩ := hP.beg hT hi C.val C.sty C.f0 C.f1 C.len e0 _ he0 hpick
  have hfin : ∀ e w', BegPost q l s first en cost (2 ^ k) fv fb sv sb i (begR (2 ^ k) fv fb sv sb s.e s.c (startOf first l i) (psum l i) i wide mo) wr e w' → e = .returned (.tuple #[]) ∧ BInv w q l s first k i w' := fun e w' hh =>
    ⟨hh.1, _, _, fv, fb, sv, sb, hh.2.1, hP', hT', hB.trans (hh.2.2.below hB.size hbb)⟩
  by_cases h0 : i = 0
  · refine (Ls.begins_zero q l s first en cost (2 ^ k) fv fb sv sb i mo wide (startOf first l i) wr hL C.nd hrow C.len h0 hmo.le hmo.len C.val C.sty C.f0 C.f1 C.k1 hz2 hP.t1 hP.t2 hP.el hP.cl hP.vb1 hP.vb2 (by unfold startOf; rw [if_pos h0]) hw1 hw2 hw3).mono hfin
  · refine (Ls.begins_pos q l s first en cost (2 ^ k) fv fb sv sb i mo wide (startOf first l i) wr hL C.nd hrow C.len (by omega) hmo.le hmo.len C.val C.sty C.f0 C.f1 C.k1 hz2 hP.t1 hP.t2 hP.el hP.cl hP.vb1 hP.vb2 (by unfold startOf; rw [if_neg h0]) hw1 hw2 hw3).mono hfin

theorem getD_rep {n i : Nat} {x : Int} (hi : i < n) : (List.replicate n x).getD i 0 = x := by
  rw [List.getD_eq_getElem?_getD, List.getElem?_replicate, if_pos hi]; rfl

/-- Before the first round. -/
theorem BInv.start (C : LCtx w q l s first k) (wr : World) (hL : LineAt wr q l s first (sums l) (List.replicate (l.length + 1) 0) (List.replicate (l.length + 1) 0) (2 ^ k) (List.replicate (l.length + 1) never) (List.replicate (2 * 2 ^ k) (-1)) (List.replicate (l.length + 1) never) (List.replicate (2 * 2 ^ k) (-1)))
    (hB : Below w.heap.size w wr) : BInv w q l s first k (l.length + 1) wr := by
  have ht : TreeOk (l.length + 1) (2 ^ k) (List.replicate (l.length + 1) never) (List.replicate (2 * 2 ^ k) (-1)) := ⟨by simp, by simp, fun y hy => by rw [List.eq_of_mem_replicate hy]; omega⟩
  have hno : ∀ p, ¬ hasP l (l.length + 1) p := fun p hp => by have := hp.1; have := hp.2.1; omega
  have htr : Tree k (List.replicate (l.length + 1) never) (List.replicate (2 * 2 ^ k) (-1)) (hasP l (l.length + 1)) := fun d hd t h1 h2 => by
    refine .inl ⟨?_, fun p _ => hno p⟩
    have := pow_le (show k - d + 1 ≤ k + 1 from by omega)
    rw [getD_rep (by rw [Nat.pow_succ] at this; omega)]
    decide
  have hv : ∀ a ∈ List.replicate (l.length + 1) never, 0 ≤ a ∧ a ≤ 2400000000000000000 := fun a ha => by rw [List.eq_of_mem_replicate ha]; unfold never; omega
  exact ⟨_, _, _, _, _, _, hL, ⟨by simp, by simp, ht, ht, fun i h1 h2 => by omega, fun x hx => by rw [List.eq_of_mem_replicate hx]; omega, fun i h1 h2 => by omega, hv, hv⟩,
    ⟨htr, htr, fun p hp => absurd hp (hno p), fun p hp => absurd hp (hno p)⟩, hB⟩
end
end Go.Proofs.Ytblooekephkojaa

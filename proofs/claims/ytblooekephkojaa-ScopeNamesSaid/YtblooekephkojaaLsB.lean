/- search.least: put. -/
import Derived.Test.YtblooekephkojaaLsA
namespace Go.Proofs.Ytblooekephkojaa
open Go.RowKit Go.BigFrame
set_option linter.unusedVariables false

/-- w' is w but for the blocks of S, and for new ones. -/
structure Mod (S : Nat → Prop) (w w' : World) : Prop where
  os : w'.os = w.os
  tape : w'.tape = w.tape
  output : w'.output = w.output
  size : w.heap.size ≤ w'.heap.size
  block : ∀ k, k < w.heap.size → ¬ S k → w'.heap[k]? = w.heap[k]?
theorem Mod.refl (S : Nat → Prop) (w : World) : Mod S w w := ⟨rfl, rfl, rfl, Nat.le_refl _, fun _ _ _ => rfl⟩
theorem Mod.trans {S : Nat → Prop} {a b c : World} (h : Mod S a b) (k : Mod S b c) : Mod S a c :=
  ⟨k.os.trans h.os, k.tape.trans h.tape, k.output.trans h.output, Nat.le_trans h.size k.size, fun i hi hs => (k.block i (Nat.lt_of_lt_of_le hi h.size) hs).trans (h.block i hi hs)⟩
theorem Mod.mono {S T : Nat → Prop} {a b : World} (h : Mod S a b) (hST : ∀ k, k < a.heap.size → S k → T k) : Mod T a b :=
  ⟨h.os, h.tape, h.output, h.size, fun i hi hs => h.block i hi (fun hh => hs (hST i hi hh))⟩
theorem Mod.drewN (S : Nat → Prop) (w : World) (n : Nat) : Mod S w (w.drewN n) := ⟨rfl, rfl, rfl, Nat.le_refl _, fun _ _ _ => rfl⟩
theorem Mod.setCell {S : Nat → Prop} {a w : World} (h : Mod S a w) (p : Addr) (hp : a.heap.size ≤ p.block ∨ S p.block) (u : Value) : Mod S a (w.setCell p u) :=
  ⟨h.os, h.tape, h.output, by simpa using h.size, fun k hk hs => by
    rw [Below.heap_setCell _ _ _ _ (fun e => by
      subst e
      rcases hp with hp | hp
      · omega
      · exact hs hp)]
    exact h.block k hk hs⟩
theorem Mod.of_below {w w' : World} {S : Nat → Prop} (h : Below w.heap.size w w') : Mod S w w' := ⟨h.os, h.tape, h.output, h.size, fun k hk _ => h.block k hk⟩
theorem Mod.below {w w' : World} {S : Nat → Prop} {B : Nat} (h : Mod S w w') (hB : B ≤ w.heap.size) (hS : ∀ k, S k → B ≤ k) : Below B w w' :=
  ⟨h.os, h.tape, h.output, h.size, fun k hk => h.block k (by omega) (fun hs => by have := hS k hs; omega)⟩
theorem Mod.alloc {S : Nat → Prop} {a w : World} (h : Mod S a w) (o : Obj) : Mod S a (w.alloc o) :=
  ⟨h.os, h.tape, h.output, by have := h.size; simp; omega, fun k hk hs => (Below.heap_alloc w o k (by have := h.size; omega)).trans (h.block k hk hs)⟩
theorem Mod.keep {S : Nat → Prop} {w w' : World} (h : Mod S w w') {k : Nat} {o : Obj} (hk : w.heap[k]? = some o) (hs : ¬ S k) : w'.heap[k]? = some o :=
  (h.block k (Array.getElem?_eq_some_iff.1 hk).1 hs).trans hk

theorem IntBlk.set {w : World} {b ty : Nat} {l : List Int} (h : IntBlk w b ty l) (i : Nat) (x : Int) (hi : i < l.length) : IntBlk (w.setCell ⟨b, i, none⟩ (.int .i64 x)) b ty (l.set i x) := by
  unfold IntBlk at *
  rw [heap_setCell_same w b i _ ty _ h]
  simp [List.map_set]

/-- What put does to the nodes above a node. -/
def up (v : List Int) : Nat → Nat → List Int → List Int
  | 0, _, best => best
  | f + 1, node, best => if 1 < node then up v f (node / 2) (best.set (node / 2) (better v (best.getD (2 * (node / 2)) 0) (best.getD (2 * (node / 2) + 1) 0))) else best

theorem up_len (v : List Int) : ∀ (f node : Nat) (best : List Int), (up v f node best).length = best.length
  | 0, _, _ => rfl
  | f + 1, node, best => by unfold up; split; · rw [up_len]; simp
                            · rfl
theorem getD_lt {l : List Int} {n i : Nat} (h : ∀ x ∈ l, x < (n : Int)) (h0 : 0 < n) : l.getD i 0 < (n : Int) := by
  by_cases hi : i < l.length
  · rw [List.getD_eq_getElem?_getD, List.getElem?_eq_getElem hi]; exact h _ (List.getElem_mem hi)
  · rw [List.getD_eq_getElem?_getD, List.getElem?_eq_none (by omega)]; simpa using h0
theorem better_lt {v : List Int} {a b : Int} {n : Int} (ha : a < n) (hb : b < n) : better v a b < n := by
  unfold better; repeat' split
  all_goals omega

/-- What is left by put. -/
def PutPost (F V T size : Nat) (v best : List Int) (w : World) (e : Ending) (w' : World) : Prop :=
  e = .returned (.tuple #[]) ∧ Least w' F V T size v best ∧ Mod (fun k => k = V ∨ k = T) w w'

set_option maxHeartbeats 4000000 in
set_option maxRecDepth 100000 in
theorem Ls.put (F V T size : Nat) (v best : List Int) (place : Nat) (x : Int) (w : World) (h : Least w F V T size v best) (hp : place < v.length) (hs : v.length ≤ size) (hs2 : size ≤ 200000) (hbl : best.length = 2 * size)
    (hb : ∀ y ∈ best, y < (v.length : Int)) (hF : F ≠ V) (hF2 : F ≠ T) (hVT : V ≠ T) :
    Calls Try.prog 62 #[.pointer (some ⟨F, 0, none⟩), .int .i64 place, .int .i64 x] w
      (PutPost F V T size (v.set place x) (up (v.set place x) (size + place) (size + place) (best.set (size + place) place)) w) := by
  have hf0 := h.f0
  have hf1 := h.f1
  have hf2 := h.f2
  have cv : w.cell? ⟨V, place, none⟩ = some (.int .i64 v[place]) := h.v.cell place hp
  have fv : w.frozen? ⟨V, place, none⟩ = false := Lib.frozen_of_heap h.v place
  have hp0 : (0 : Int) ≤ (place : Int) := by omega
  have hpv : (place : Int) < (v.length : Int) := by omega
  have hpb : (size : Int) + (place : Int) < (best.length : Int) := by omega
  have hsp : (size : Int) + (place : Int) ≤ 400000 := by omega
  have hm : size + place < best.length := by omega
  have ct : w.cell? ⟨T, size + place, none⟩ = some (.int .i64 best[size + place]) := h.t.cell (size + place) hm
  have ft : ∀ i, w.frozen? ⟨T, i, none⟩ = false := fun i => Lib.frozen_of_heap h.t i
  have hfr1 : w.frozen? ⟨F, 1, none⟩ = false := Lib.frozen_of_heap h.f 1
  obtain ⟨v', hv'⟩ : ∃ v', v' = v.set place x := ⟨_, rfl⟩
  obtain ⟨best1, hb1⟩ : ∃ b1, b1 = best.set (size + place) (place : Int) := ⟨_, rfl⟩
  obtain ⟨fin, hfin⟩ : ∃ fin, fin = up v' (size + place) (size + place) best1 := ⟨_, rfl⟩
  rw [← hv', ← hb1, ← hfin]
  have hl1 : best1.length = best.length := by rw [hb1]; simp
  have hlv : v'.length = v.length := by rw [hv']; simp
  have hbb : ∀ y ∈ best1, y < (v'.length : Int) := fun y hy => by
    rw [hb1] at hy; rw [hlv]
    rcases List.mem_or_eq_of_mem_set hy with hy | hy
    · exact hb y hy
    · omega
  obtain ⟨W1, hW1⟩ : ∃ W1, W1 = (w.setCell ⟨V, place, none⟩ (.int .i64 x)).setCell ⟨T, size + place, none⟩ (.int .i64 (place : Int)) := ⟨_, rfl⟩
  have hL1 : Least W1 F V T size v' best1 := by
    rw [hW1, hv', hb1]
    refine ⟨?_, ?_, ?_⟩
    · rw [heap_setCell_other _ _ _ _ hF2, heap_setCell_other _ _ _ _ hF, h.f]; simp
    · have := h.v.set place x hp
      unfold IntBlk at *
      rw [heap_setCell_other _ _ _ _ hVT]; exact this
    · refine IntBlk.set ?_ _ _ hm
      have := h.t
      unfold IntBlk at *
      rw [heap_setCell_other _ _ _ _ (Ne.symm hVT)]; exact this
  have hM1 : Mod (fun k => k = V ∨ k = T) w W1 := by
    rw [hW1]; exact ((Mod.refl _ w).setCell _ (.inr (.inl rfl)) _).setCell _ (.inr (.inr rfl)) _
  have HV := Lib.hid hv'
  have HB1 := Lib.hid hb1
  have HF := Lib.hid hfin
  have HW := Lib.hid hW1
  have HLL := Lib.hid hl1
  have HLV := Lib.hid hlv
  have HBL := Lib.hid hbl
  have hbl2 : best1.length ≤ 400000 := by omega
  have hvl2 : v'.length ≤ 200000 := by omega
  clear hv' hb1 hfin hW1 hl1 hlv hbl
  go_enter Try.func62, Try.ntmps62
  go_wp2
  rw [← HW.out]
  go_loopw [6] (fun nd wr => ∃ (node f : Nat) (bst : List Int), 1 ≤ node ∧ node < bst.length ∧ node ≤ f ∧ nd = .int .i64 node ∧ Least wr F V T size v' bst ∧ bst.length ≤ 400000 ∧ bst.length = 2 * size ∧ (∀ y ∈ bst, y < (v'.length : Int)) ∧ up v' f node bst = fin ∧ Mod (fun k => k = V ∨ k = T) w wr) (fun nd _ => (intOf nd).toNat)
  case atStart =>
    have hx : ((size : Int) + (place : Int)) = ((size + place : Nat) : Int) := by omega
    exact ⟨size + place, size + place, best1, by have := HLV.out; have := HBL.out; omega, by rw [HLL.out]; exact hm, Nat.le_refl _, by rw [hx], hL1, hbl2, by rw [HLL.out]; exact HBL.out, hbb, HF.out.symm, hM1⟩
  case round =>
    obtain ⟨node, f, bst, hn1, hnb, hnf, rfl, hL, hb4, hb2s, hby, hup, hM⟩ := hrel
    have HB2 := Lib.hid hb2s
    have HUP := Lib.hid hup
    have HBY := Lib.hid hby
    clear hb2s hup hby
    by_cases hlt : 1 < node
    · obtain ⟨m, hm2⟩ : ∃ m, m = node / 2 := ⟨_, rfl⟩
      have hdiv : (node : Int) / 2 = (m : Int) := by omega
      have hm1 : 1 ≤ m := by omega
      have hmn : 2 * m ≤ node := by omega
      have hm3 : m < node := by omega
      have hm4 : 2 * m + 1 < bst.length := by have := HB2.out; omega
      have hm5 : m < bst.length := by omega
      have hup2 : up v' f node bst = up v' (f - 1) m (bst.set m (Ytblooekephkojaa.better v' (bst.getD (2 * m) 0) (bst.getD (2 * m + 1) 0))) := by
        obtain ⟨f', rfl⟩ : ∃ f', f = f' + 1 := ⟨f - 1, by omega⟩
        conv => lhs; unfold up
        rw [if_pos hlt, ← hm2]; rfl
      rw [List.getD_eq_getElem?_getD, List.getD_eq_getElem?_getD, List.getElem?_eq_getElem hm4, List.getElem?_eq_getElem (by omega : 2 * m < bst.length)] at hup2
      simp only [Option.getD_some] at hup2
      have c1 := hL.t.cell (2 * m) (by omega)
      have c2 := hL.t.cell (2 * m + 1) hm4
      have c3 := hL.t.cell m hm5
      have f3 : wr.frozen? ⟨T, m, none⟩ = false := Lib.frozen_of_heap hL.t m
      have l1 : bst[2 * m] < (v'.length : Int) := HBY.out _ (List.getElem_mem _)
      have l2 : bst[2 * m + 1] < (v'.length : Int) := HBY.out _ (List.getElem_mem _)
      have g2 := hL.f2
      have i1 : (0 : Int) ≤ 2 * (m : Int) := by omega
      have i2 : 2 * (m : Int) + 1 < (bst.length : Int) := by omega
      have i3 : (2 * (m : Int)).toNat = 2 * m := by omega
      have i4 : (2 * (m : Int) + 1).toNat = 2 * m + 1 := by omega
      have i5 : (0 : Int) ≤ (m : Int) := by omega
      have i6 : (m : Int) < (bst.length : Int) := by omega
      have i7 : (0 : Int) ≤ 2 * (m : Int) + 1 := by omega
      have i8 : 2 * (m : Int) < (bst.length : Int) := by omega
      have hl3 : v'.length ≤ 100000 ∨ True := .inr trivial
      have HUP2 := Lib.hid hup2
      have HLr := Lib.hid hL
      clear hup2 hl3 hL
      generalize bst[2 * m] = p at *
      generalize bst[2 * m + 1] = q at *
      clear hm2
      go_wp2_with fail
      refine wp_region_tail (C := fun w' => ∃ n, w' = wr.drewN n) 25 (by kernel_rfl) (by kernel_rfl) ⟨1, rfl⟩ ?_
      simp only [List.take_succ_cons, List.take_zero, List.drop_succ_cons, List.drop_zero]
      repeat (go_big_quiet_step ((go_at_call 67; exact Calls.quiet_of (Ls.better F V T size v' bst p q _ (HLr.out.drewN _) l1 l2 (by omega)))))
      refine wpQuiet_nil ?_
      rintro w' ⟨nq, rfl⟩
      go_wp2
      go_roundw
      case rel =>
        refine ⟨m, f - 1, bst.set m (Ytblooekephkojaa.better v' p q), hm1, by simp; omega, by omega, rfl, ?_, by simp; omega, by simp [HB2.out], ?_, ?_, ?_⟩
        · have hd := HLr.out.drewN nq
          refine ⟨?_, ?_, ?_⟩
          · rw [heap_setCell_other _ _ _ _ hF2]; simpa using hd.f
          · have := hd.v
            unfold IntBlk at *
            rw [heap_setCell_other _ _ _ _ hVT]; exact this
          · exact IntBlk.set hd.t _ _ hm5
        · intro y hy
          rcases List.mem_or_eq_of_mem_set hy with hy | hy
          · exact HBY.out y hy
          · rw [hy]; exact better_lt l1 l2
        · rw [← HUP2.out]; exact HUP.out
        · exact (hM.trans (Mod.drewN _ _ nq)).setCell _ (.inr (.inr rfl)) _
      case measure => simp [intOf]; omega
    · have hdone : up v' f node bst = bst := by
        cases f with
        | zero => rfl
        | succ f => unfold up; rw [if_neg hlt]
      have hbf : bst = fin := by rw [← hdone]; exact HUP.out
      have HBF := Lib.hid hbf
      clear hbf hdone
      go_wp2
      go_end0
      exact ⟨rfl, by rw [← HBF.out]; exact hL, hM⟩
end Go.Proofs.Ytblooekephkojaa

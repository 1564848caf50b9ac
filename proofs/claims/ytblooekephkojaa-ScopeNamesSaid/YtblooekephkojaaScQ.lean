/- scope: inner, the iterator over the innermost block's names. -/
import Derived.Test.YtblooekephkojaaScP
import Derived.Test.YtblooekephkojaaRfn
import Derived.RangeFuncNested
import Derived.RangeFuncBound
import Derived.RangeFuncCalls
import Derived.RangeFuncLeaves
import Derived.RangeFuncBox
import Derived.Shelf.Abstract
import Derived.OwnWalkIn
import Derived.TacticsInMore
import Derived.LoopNIn
import Derived.LoopIn
namespace Go.Proofs.Ytblooekephkojaa
open Go.RowKit Go.BigFrame Go.Shelf Go.ChangeMaps Go.WideMaps
set_option linter.unusedVariables false
attribute [local go_sem] Oper.semAt_some

theorem Sc.inner (A : Nat) (w : World) : Calls Try.prog 53 #[.pointer (some ⟨A, 0, none⟩)] w fun e w' => e = .returned (.func (.func 60) #[] #[.pointer (some ⟨w.heap.size, 0, none⟩)]) ∧ w' = w.alloc (.cells #[.pointer (some ⟨A, 0, none⟩)] 42) := by
  go_enter Try.func53, Try.ntmps53
  go_wp2
  go_ret
  exact ⟨rfl, rfl⟩

/-- What the iterator's memory keeps: all but the map, and what is new. -/
abbrev KpM (M : Nat) (w : World) (W W' : World) : Prop := Mod (fun k => k = M ∨ w.heap.size ≤ k) W W'

set_option maxRecDepth 100000 in
set_option maxHeartbeats 4000000 in
theorem Sc.inner_next (n A M B gB capB N cv : Nat) (av : Option Addr) (f : Frm) (w : World) (hB : w.cell? ⟨B, 0, none⟩ = some (.pointer (some ⟨A, 0, none⟩))) (hA : w.cell? ⟨A, 2, none⟩ = some (.slice (some ⟨gB, 0, none⟩) N capB)) (hV : w.cell? ⟨gB, N - 1, none⟩ = some (.slice av f.length cv))
    (hR : w.ownsRow 0 9 1 (.slice av f.length cv) f.length (names f)) (hM : ∀ g, (Value.slice av f.length cv).ownBlock = some g → g ≠ M) (hN : 0 < N) (hN2 : N ≤ 65536) (hf : f.length ≤ 1000000) :
    SeqNext Fence.wide n Try.prog 60 #[.pointer (some ⟨B, 0, none⟩)] (fun x : ByteArray => #[.string x]) (KpM M w) (fun pre x => ∃ r, nms f = pre ++ x :: r) (fun zs => zs = nms f) w := fun l J W hW hJ hY h0 => by
  have hc0 := (hW.cell (World.block_lt_of_cell? w _ hB)).trans hB
  have hc1 := (hW.cell (World.block_lt_of_cell? w _ hA)).trans hA
  have hc2 := (hW.cell (World.block_lt_of_cell? w _ hV)).trans hV
  have hRW : W.ownsRow 0 9 1 (.slice av f.length cv) f.length (names f) := ownsRow_mod (S := fun _ => False) hR (Mod.of_below hW) (fun _ _ h => h)
  have hrow : f.length = 0 ∨ ∃ g, av = some ⟨g, 0, none⟩ ∧ g ≠ M ∧ g < w.heap.size := by
    rcases hR.2 with ⟨hv, hz⟩ | ⟨g, cap, cur, hv, _, hg, _⟩
    · exact .inl hz
    · simp only [Value.slice.injEq] at hv
      obtain ⟨rfl, _⟩ := hv
      exact .inr ⟨g, rfl, hM g rfl, (Array.getElem?_eq_some_iff.1 hg).1⟩
  have hdr : ∀ n, J [] (W.drewN n) := fun n => hJ [] W _ none h0 ⟨rfl, rfl, rfl, Nat.le_refl _, fun _ _ _ => rfl⟩ (fun r e => by cases e)
  have hmW : KpM M w W W := Mod.refl _ _
  have HMW : ∀ n, KpM M w W (W.drewN n) := fun n => Mod.drewN _ _ n
  have HRW := Lib.hid hRW
  have HROW := Lib.hid hrow
  have n1 : ((N : Int) - 1).toNat = N - 1 := by omega
  have n2 : (0 : Int) ≤ (N : Int) - 1 := by omega
  have n3 : ((N : Int) - 1) < (N : Int) := by omega
  have i3 : (N : Int) ≤ 65536 := by omega
  clear hB hA hV hR hM hRW hrow hmW
  refine callsIn_of_wp Try.func60 rfl trivial ?_ rfl
  simp only [Try.ntmps60, List.size_toArray, List.length_cons, List.length_nil, Nat.reduceAdd, Nat.reduceSub, Array.replicate_succ, Array.replicate_zero, List.push_toArray, List.append_toArray, List.nil_append, List.cons_append]
  gi_wp2
  refine wpIn_wide.2 ?_
  refine wp_region_quiet_lit (by kernel_rfl) (by kernel_rfl) ?_
  repeat (go_big_quiet_step (fail))
  refine wpQuiet_nil ?_
  rintro w' ⟨nq, rfl⟩
  have h0' := hdr nq
  have hmq := HMW nq
  have hsz : W.heap.size = (W.drewN nq).heap.size := rfl
  clear hdr h0 HMW hc0 hc1 hc2 n1 n2 n3
  gi_wp2
  gi_loopw [18] (fun a wr => ∃ i : Nat, i ≤ f.length ∧ a = .int .i64 i ∧ J ((nms f).take i) wr ∧ KpM M w W wr) (fun a _ => f.length - (intOf a).toNat)
  case atStart =>
    exact ⟨0, Nat.zero_le _, rfl, h0', hmq⟩
  case round =>
    obtain ⟨i, hi, rfl, hJs, hms⟩ := hrel
    by_cases hlt : i < f.length
    · obtain ⟨g, rfl, hgM, hgw⟩ : ∃ g, av = some ⟨g, 0, none⟩ ∧ g ≠ M ∧ g < w.heap.size := by
        rcases HROW.out with h | h
        · omega
        · exact h
      have hrr : wr.ownsRow 0 9 1 (.slice (some ⟨g, 0, none⟩) f.length cv) f.length (names f) := ownsRow_mod HRW.out hms (fun k hk => by
        simp only [Value.ownBlock, Option.some.injEq] at hk
        subst hk
        rintro (e | e)
        · exact hgM e
        · omega)
      have hcell : wr.cell? ⟨g, i, none⟩ = some (.string (nms f)[i]!) := by
        have hn : i < (nms f).length := by simpa [nms] using hlt
        rw [hrr.cellAt i (by omega), getElem!_pos (nms f) i hn]
        simp [names, nms, List.getElem?_eq_getElem hlt]
      have hn : i < (nms f).length := by simpa [nms] using hlt
      have hsplit : nms f = (nms f).take i ++ (nms f)[i]! :: (nms f).drop (i + 1) := by
        rw [getElem!_pos (nms f) i hn]
        exact (List.take_append_drop i (nms f)).symm.trans (by rw [List.drop_eq_getElem_cons hn])
      have hnext : (nms f).take (i + 1) = (nms f).take i ++ [(nms f)[i]!] := by
        rw [getElem!_pos (nms f) i hn, List.take_succ_eq_append_getElem hn]
      obtain ⟨fn1, tm1, as1, bo1, hyy1, hR1⟩ := hY ((nms f).take i) (nms f)[i]! wr hJs ⟨_, hsplit⟩
      rw [← hnext] at hR1
      have HMS := Lib.hid hms
      clear hrr hn hsplit hnext hms hJs
      generalize (nms f)[i]! = x at *
      gi_wp2
      refine ⟨(fun hh => by cases hh), hR1.mono ?_⟩
      rintro e W1 ⟨rfl, hJ1, hk1⟩
      have HJ1 := Lib.hid hJ1
      have HK1 := Lib.hid (HMS.out.trans hk1)
      clear hyy1 hR1 hJ1 hk1
      gi_wp2
      go_roundw
      case rel => exact ⟨i + 1, by omega, by go_num, HJ1.out, HK1.out⟩
      case measure => simp [intOf]; omega
    · obtain rfl : i = f.length := by omega
      rw [show (nms f).take f.length = nms f from List.take_of_length_le (by simp [nms])] at hJs
      have HJS := Lib.hid hJs
      clear hJs
      gi_wp2
      go_end0
      exact ⟨⟨_, rfl⟩, _, rfl, HJS.out⟩
end Go.Proofs.Ytblooekephkojaa

/- strings.SplitSeq at "/", as an iterator; tree.Path. -/
import Derived.Test.YtodjhgalbaelkaaDoorTwB
import Derived.Test.YtodjhgalbaelkaaDoorRfg
import Derived.RangeFuncNested
import Derived.RangeFuncBound
import Derived.RangeFuncCalls
import Derived.RangeFuncLeaves
import Derived.RangeFuncBox
import Derived.Shelf.Abstract
import Derived.OwnWalkIn
import Derived.TacticsInMore
import Derived.LoopNIn
import Derived.LoopIn
namespace Go.Proofs.YtodjhgalbaelkaaDoor
open Go.RowKit Go.BigFrame Go.Shelf
set_option linter.unusedVariables false
attribute [local go_sem] Oper.semAt_some

theorem Sp.split (s : ByteArray) (w : World) : Calls Tryd.prog 51 #[.string s, .string ⟨#[47]⟩] w fun e w' => e = .returned (.func (.func 72) #[] #[.pointer (some ⟨w.heap.size + 1, 0, none⟩), .pointer (some ⟨w.heap.size, 0, none⟩), .pointer (some ⟨w.heap.size + 2, 0, none⟩)]) ∧
    w' = ((w.alloc (.cells #[.string s] 9)).alloc (.cells #[.string ⟨#[47]⟩] 9)).alloc (.cells #[.int .i64 0] 3) := by
  go_enter Tryd.func51, Tryd.ntmps51
  go_wp2_with go_in
  go_ret
  exact ⟨rfl, rfl⟩

abbrev dl (x : ByteArray) : Bs := x.data.toList
theorem size_dl (s : ByteArray) : s.size = (dl s).length := size_len s
theorem parts_len : ∀ (l : Bs) (x : Bs), x ∈ parts l → x.length ≤ l.length
  | [], x, h => by simp [parts] at h; subst h; exact Nat.le_refl _
  | c :: l, x, h => by
    rw [parts_cons] at h
    split at h
    · rcases List.mem_cons.1 h with rfl | h
      · simp
      · have := parts_len l x h; simp; omega
    · cases hp : parts l with
      | nil => exact absurd hp (parts_ne l)
      | cons y r =>
        rw [hp] at h
        rcases List.mem_cons.1 h with rfl | h
        · have := parts_len l y (by rw [hp]; simp); simp; omega
        · have := parts_len l x (by rw [hp]; exact List.mem_cons_of_mem _ h); simp; omega
def strLen (b : Nat) (w : World) : Nat := match w.cell? ⟨b, 0, none⟩ with | some (.string s) => s.size | _ => 0

set_option maxRecDepth 100000 in
set_option maxHeartbeats 4000000 in
theorem Sp.seq (n B : Nat) (s : ByteArray) (w : World) (K : Nat → Prop) (h0 : w.heap[B]? = some (.cells #[.string s] 9 (0, 0))) (h1 : w.heap[B + 1]? = some (.cells #[.string ⟨#[47]⟩] 9 (0, 0))) (h2 : w.heap[B + 2]? = some (.cells #[.int .i64 0] 3 (0, 0))) (hK : ¬ K B ∧ ¬ K (B + 1) ∧ ¬ K (B + 2)) (hs : s.size ≤ 140737488355328) :
    SeqG Fence.wide n Tryd.prog 72 #[.pointer (some ⟨B + 1, 0, none⟩), .pointer (some ⟨B, 0, none⟩), .pointer (some ⟨B + 2, 0, none⟩)] (fun x : ByteArray => #[.string x]) (fun W W' => Mod K W W') (fun pre x => ∃ r, parts (dl s) = pre.map dl ++ dl x :: r) (fun k => k = B)
      (fun zs => zs.map dl = parts (dl s)) (fun zs => ∃ r, parts (dl s) = zs.map dl ++ r) w := fun l J Jx W hW hJ hJx hY hj0 => by
  have g0 := heap_below hW h0 (Array.getElem?_eq_some_iff.1 h0).1
  have g1 := heap_below hW h1 (Array.getElem?_eq_some_iff.1 h1).1
  have g2 := heap_below hW h2 (Array.getElem?_eq_some_iff.1 h2).1
  have HJ := Lib.hid hJ
  clear h0 h1 h2 hJ hJx
  refine callsIn_of_wp Tryd.func72 rfl trivial ?_ rfl
  simp only [Tryd.ntmps72, List.size_toArray, List.length_cons, List.length_nil, Nat.reduceAdd, Nat.reduceSub, Array.replicate_succ, Array.replicate_zero, List.push_toArray, List.append_toArray, List.nil_append, List.cons_append]
  have c1 : W.cell? ⟨B + 1, 0, none⟩ = some (.string ⟨#[47]⟩) := by simp [World.cell?, g1]
  have G0 := Lib.hid g0
  have G1 := Lib.hid g1
  have G2 := Lib.hid g2
  clear g0 g1 g2
  gi_wp2
  clear c1
  gi_loopw [7] (fun _ wr => ∃ (pre : List ByteArray) (y : ByteArray), parts (dl s) = pre.map dl ++ parts (dl y) ∧ y.size ≤ s.size ∧ wr.heap[B]? = some (.cells #[.string y] 9 (0, 0)) ∧ wr.heap[B + 1]? = some (.cells #[.string ⟨#[47]⟩] 9 (0, 0)) ∧ wr.heap[B + 2]? = some (.cells #[.int .i64 0] 3 (0, 0)) ∧ J pre wr) (fun _ wr => strLen B wr)
  case atStart => exact ⟨[], s, rfl, Nat.le_refl _, G0.out, G1.out, G2.out, hj0⟩
  case round =>
    clear hj0 G0 G1 G2
    obtain ⟨pre, y, hp, hy, g0, g1, g2, hjp⟩ := hrel
    have c0 : wr.cell? ⟨B, 0, none⟩ = some (.string y) := by simp [World.cell?, g0]
    have c1 : wr.cell? ⟨B + 1, 0, none⟩ = some (.string ⟨#[47]⟩) := by simp [World.cell?, g1]
    have c2 : wr.cell? ⟨B + 2, 0, none⟩ = some (.int .i64 0) := by simp [World.cell?, g2]
    have hsl : strLen B wr = y.size := by unfold strLen; rw [c0]
    have HSL := Lib.hid hsl
    have HP := Lib.hid hp
    rcases parts_index (dl y) with ⟨hi, hq⟩ | ⟨i, hi, hil, hq⟩
    · obtain ⟨fn1, tm1, as1, bo1, hyy1, hR1⟩ := hY pre y wr hjp ⟨[], by rw [hp, hq]⟩
      have HQ := Lib.hid hq
      have HI := Lib.hid hi
      clear hjp g0 g1 g2 hsl hp hq hi
      gi_wp2_with (fail)
      refine ⟨trivial, (fun hh => by cases hh), (callsIn_wide.2 (Tryd.strings_Index_one y 47 wr)).mono ?_⟩
      rintro e w1 ⟨rfl, rfl⟩
      rw [HI.out]
      gi_wp2_with (fail)
      refine ⟨(fun hh => by cases hh), hR1.mono ?_⟩
      have hall : (pre ++ [y]).map dl = parts (dl s) := by rw [HP.out, HQ.out]; simp
      rintro e W1 (⟨rfl, hJ1, -⟩ | ⟨rfl, hx1⟩)
      · have HJ1 := Lib.hid hJ1
        have HA := Lib.hid hall
        clear hJ1 hyy1 hR1 hall
        gi_wp2
        go_end0
        exact ⟨⟨_, rfl⟩, .inl ⟨_, HA.out, HJ1.out⟩⟩
      · have HX1 := Lib.hid hx1
        have HA := Lib.hid hall
        clear hx1 hyy1 hR1 hall
        gi_wp2
        go_end0
        exact ⟨⟨_, rfl⟩, .inr ⟨_, ⟨[], by rw [HA.out]; simp⟩, HX1.out⟩⟩
    · have hz : dl (y.extract 0 i) = (dl y).take i := by rw [ext_from]; simp [dl]
      have hz2 : dl (y.extract (i + 1) y.size) = (dl y).drop (i + 1) := by rw [ext_to]; simp [dl]
      obtain ⟨fn1, tm1, as1, bo1, hyy1, hR1⟩ := hY pre (y.extract 0 i) wr hjp ⟨parts ((dl y).drop (i + 1)), by rw [hp, hq, hz]⟩
      have hil2 : i < y.size := by rw [size_len]; exact hil
      have hfz : wr.frozen? ⟨B, 0, none⟩ = false := Lib.frozen_of_heap g0 0
      have HQ := Lib.hid hq
      have HI := Lib.hid hi
      have HZ := Lib.hid hz
      have HZ2 := Lib.hid hz2
      have G0 := Lib.hid g0
      have G1 := Lib.hid g1
      have G2 := Lib.hid g2
      clear hjp g0 g1 g2 hsl hp hq hi hz hz2
      have i1 : (0 : Int) ≤ (i : Int) := by omega
      have i2 : (i : Int) ≤ 140737488355328 := by omega
      have i3 : (i : Int) ≤ (y.size : Int) := by omega
      have i4 : (i : Int) + 1 ≤ (y.size : Int) := by omega
      gi_wp2_with (fail)
      refine ⟨trivial, (fun hh => by cases hh), (callsIn_wide.2 (Tryd.strings_Index_one y 47 wr)).mono ?_⟩
      rintro e w1 ⟨rfl, rfl⟩
      rw [HI.out]
      gi_wp2_with (fail)
      refine ⟨(fun hh => by cases hh), hR1.mono ?_⟩
      rintro e W1 (⟨rfl, hJ1, hk1⟩ | ⟨rfl, hx1⟩)
      · have e0 := hk1.keep G0.out hK.1
        have e1 := hk1.keep G1.out hK.2.1
        have e2 := hk1.keep G2.out hK.2.2
        have c0 : W1.cell? ⟨B, 0, none⟩ = some (.string y) := by simp [World.cell?, e0]
        have c1 : W1.cell? ⟨B + 1, 0, none⟩ = some (.string ⟨#[47]⟩) := by simp [World.cell?, e1]
        have f0 : W1.frozen? ⟨B, 0, none⟩ = false := Lib.frozen_of_heap e0 0
        have hBl := (Array.getElem?_eq_some_iff.1 e0).1
        have E0 := Lib.hid e0
        have E1 := Lib.hid e1
        have E2 := Lib.hid e2
        have HJ1 := Lib.hid hJ1
        clear hJ1 hk1 hyy1 hR1 e0 e1 e2
        gi_wp2
        go_roundw
        case rel =>
          have hm : Mod (fun k => k = B) W1 (W1.setCell ⟨B, 0, none⟩ (.string (y.extract (i + 1) y.size))) := Mod.setCell (Mod.refl (fun k => k = B) W1) _ (.inr rfl) _
          refine ⟨pre ++ [y.extract 0 i], y.extract (i + 1) y.size, ?_, ?_, ?_, hm.keep E1.out (by omega), hm.keep E2.out (by omega), HJ.out _ _ _ HJ1.out (hm.mono (fun k _ hk => .inl hk))⟩
          · rw [HP.out, HQ.out, HZ2.out, List.map_append, List.map_cons, List.map_nil, HZ.out, List.append_assoc]; rfl
          · rw [size_dl, HZ2.out, List.length_drop, ← size_dl]; omega
          · have := heap_setCell_same W1 B 0 _ _ (.string (y.extract (i + 1) y.size)) E0.out
            simpa using this
        case measure =>
          rw [HSL.out]
          unfold strLen
          rw [World.cell?_setCell_same' _ _ _ (by rw [c0]; rfl)]
          simp only
          rw [size_dl, HZ2.out, List.length_drop, ← size_dl]; omega
      · have HX1 := Lib.hid hx1
        have hpre : ∃ r, parts (dl s) = (pre ++ [y.extract 0 i]).map dl ++ r := ⟨parts ((dl y).drop (i + 1)), by rw [HP.out, HQ.out, List.map_append, List.map_cons, List.map_nil, HZ.out, List.append_assoc]; rfl⟩
        have HPRE := Lib.hid hpre
        clear hx1 hyy1 hR1 hpre
        gi_wp2
        refine bodyPost_ret (results_none rfl _ _ _) rfl ?_
        exact ⟨⟨_, rfl⟩, .inr ⟨_, HPRE.out, HX1.out⟩⟩
end Go.Proofs.YtodjhgalbaelkaaDoor

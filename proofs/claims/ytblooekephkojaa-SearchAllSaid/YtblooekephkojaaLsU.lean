/- The reference's Free and way. -/
import Derived.Test.YtblooekephkojaaLtG
import Derived.Test.YtblooekephkojaaLsN
namespace Go.Proofs.Ytblooekephkojaa
open Go.RowKit Go.BigFrame Go.Shelf
set_option linter.unusedVariables false

theorem fr_append : ∀ a b : List Gap, fr (a ++ b) = fr a + fr b
  | [], b => by simp [fr]
  | g :: a, b => by rw [List.cons_append, fr_cons, fr_cons, fr_append a b]; omega
theorem fr_le : ∀ a : List Gap, fr a ≤ a.length
  | [] => by simp [fr]
  | g :: a => by rw [fr_cons]; have := fr_le a; simp only [List.length_cons]; split <;> omega
theorem fr_step (l : List Gap) (i : Nat) (h : i < l.length) : fr (l.take (i + 1)) = fr (l.take i) + (if l[i].free = true then 1 else 0) := by
  rw [List.take_succ_eq_append_getElem h, fr_append, fr_cons]; simp [fr]

set_option maxRecDepth 100000 in
set_option maxHeartbeats 4000000 in
theorem Ls.free (ga : Option Addr) (l : List Gap) (gc : Nat) (w : World) (hl : l.length ≤ 9223372036854775807) (hr : RowAt 6 Gap.f w ga l) :
    Calls Try.prog 34 #[.slice ga l.length gc] w fun e w' => e = .returned (.int .i64 (fr l)) ∧ Below w.heap.size w w' := by
  go_enter Try.func34, Try.ntmps34
  go_wp2_with fail
  go_loopw [3, 4] (fun s3 s4 wr => ∃ i : Nat, i ≤ l.length ∧ s4 = .int .i64 i ∧ s3 = .int .i64 (fr (l.take i)) ∧ wr = w) (fun _ s4 _ => l.length - (intOf s4).toNat)
  case atStart => exact ⟨0, Nat.zero_le _, rfl, rfl, rfl⟩
  case round =>
    obtain ⟨i, hi, rfl, rfl, rfl⟩ := hrel
    have hfl : fr (l.take i) ≤ i := by have := fr_le (l.take i); simp only [List.length_take] at this; omega
    by_cases hlt : i < l.length
    · obtain ⟨b, off, rfl, hbw, hc⟩ := hr.at (by intro e; rw [e] at hlt; simp at hlt)
      obtain ⟨-, -, g2, g3, -, -⟩ := Gap.at (w := wr) (b := b) (o := off + i * 6) (g := l[i]) (hc i hlt)
      have hs := fr_step l i hlt
      have HR := Lib.hid hr
      unfold Gap.free at hs
      generalize l[i] = g at *
      obtain ⟨gw, gb, gm, gy, gco, gn⟩ := g
      dsimp only at g2 g3 hs
      have HS := Lib.hid hs
      have i0 : (0 : Int) ≤ (i : Int) := by omega
      have i1 : (i : Int) < (l.length : Int) := by omega
      generalize hf : fr (l.take i) = f at *
      have HF := Lib.hid hf
      clear hs hc hr hf
      cases gy with
      | false =>
        go_wp2_with fail
        go_roundw
        case rel => exact ⟨i + 1, by omega, by go_num, by rw [HS.out]; simp, by first | rfl | trivial⟩
        case measure => simp [intOf]; omega
      | true =>
        cases gm with
        | true =>
          go_wp2_with fail
          go_roundw
          case rel => exact ⟨i + 1, by omega, by go_num, by rw [HS.out]; simp, by first | rfl | trivial⟩
          case measure => simp [intOf]; omega
        | false =>
          go_wp2_with fail
          go_roundw
          case rel => exact ⟨i + 1, by omega, by go_num, by rw [HS.out]; simp, by first | rfl | trivial⟩
          case measure => simp [intOf]; omega
    · obtain rfl : i = l.length := by omega
      rw [List.take_length]
      go_wp2_with fail
      go_ret
      exact ⟨rfl, Below.refl _ _⟩

theorem digs_drop (l : List Gap) (n i : Nat) (h : i < l.length) : digs (l.drop i) n = if l[i].free = true then (decide ((digs (l.drop (i + 1)) n).2 % 2 = 1) :: (digs (l.drop (i + 1)) n).1, (digs (l.drop (i + 1)) n).2 / 2) else (l[i].must :: (digs (l.drop (i + 1)) n).1, (digs (l.drop (i + 1)) n).2) := by
  rw [List.drop_eq_getElem_cons h]; rfl
theorem way_set (i : Nat) (t : List Bool) (v : Bool) : (List.replicate (i + 1) false ++ t).set i v = List.replicate i false ++ v :: t := by
  rw [List.replicate_succ', List.append_assoc, List.set_append_right _ _ (by simp)]
  simp
theorem digs_two (l : List Gap) (n : Nat) : (digs l n).2 ≤ n := by
  induction l with
  | nil => exact Nat.le_refl _
  | cons g l ih =>
    unfold digs
    split
    · dsimp only; omega
    · exact ih

def WayOk (l : List Gap) (n : Nat) (w : World) (e : Ending) (w' : World) : Prop := ∃ b : Nat, e = .returned (.slice (some ⟨b, 0, none⟩) l.length l.length) ∧ BoolBlk w' b (digs l n).1 ∧ w.heap.size ≤ b ∧ Below w.heap.size w w'

set_option maxRecDepth 100000 in
set_option maxHeartbeats 4000000 in
theorem Ls.way (ga : Option Addr) (l : List Gap) (gc n : Nat) (w : World) (hl : l.length ≤ 65536) (hn : n ≤ 1000000000) (hr : RowAt 6 Gap.f w ga l) :
    Calls Try.prog 57 #[.slice ga l.length gc, .int .i64 n] w (WayOk l n w) := by
  have hmk := fun wx => make_bools l.length (by omega) wx
  have HRW := Lib.hid hr
  obtain ⟨B, hBw⟩ : ∃ B, B = w.heap.size := ⟨_, rfl⟩
  obtain ⟨W, hW⟩ : ∃ W, W = w.alloc (.cells (zb l.length) 4) := ⟨_, rfl⟩
  have hY : BoolBlk W B (List.replicate l.length false) := by rw [hW, hBw]; exact heap_alloc_new _ _
  have hB : Below w.heap.size w W := by rw [hW]; exact below_alloc _ _
  have HW := Lib.hid hW
  have HBw := Lib.hid hBw
  clear hW hBw hr
  go_enter Try.func57, Try.ntmps57
  go_wp2_with fail
  rw [← HW.out, ← HBw.out]
  clear hmk
  go_loopw [1, 6] (fun s1 s6 wr => ∃ m : Nat, m ≤ l.length ∧ s6 = .int .i64 ((m : Int) - 1) ∧ s1 = .int .i64 ((digs (l.drop m) n).2 : Nat) ∧ BoolBlk wr B (List.replicate m false ++ (digs (l.drop m) n).1) ∧ Below w.heap.size w wr) (fun _ s6 _ => (intOf s6 + 1).toNat)
  case atStart => exact ⟨l.length, Nat.le_refl _, rfl, by rw [List.drop_length]; rfl, by rw [List.drop_length]; simpa [digs] using hY, hB⟩
  case round =>
    clear hY hB
    obtain ⟨m, hm, rfl, rfl, hY, hB⟩ := hrel
    by_cases hm0 : m = 0
    · subst hm0
      rw [List.drop_zero] at hY
      have h00 : ¬ ((0 : Nat) : Int) - 1 ≥ 0 := by omega
      go_wp2_with fail
      go_ret
      exact ⟨B, rfl, by simpa using hY, by rw [HBw.out]; exact Nat.le_refl _, hB⟩
    · obtain ⟨i, rfl⟩ : ∃ i, m = i + 1 := ⟨m - 1, by omega⟩
      have hi : i < l.length := by omega
      have hi2 : (((i + 1 : Nat) : Int) - 1) = (i : Int) := by omega
      rw [hi2]
      obtain ⟨b, off, rfl, hbw, hc⟩ := HRW.out.at (by intro e; rw [e] at hi; simp at hi)
      obtain ⟨-, -, g2, g3, -, -⟩ := Gap.at (w := w) (b := b) (o := off + i * 6) (g := l[i]) (hc i hi)
      have k2 := (hB.cell (p := ⟨b, off + i * 6 + 2, none⟩) hbw).trans g2
      have k3 := (hB.cell (p := ⟨b, off + i * 6 + 3, none⟩) hbw).trans g3
      have hd := digs_drop l n i hi
      have hle := digs_two (l.drop (i + 1)) n
      have hyl : (List.replicate (i + 1) false ++ (digs (l.drop (i + 1)) n).1).length = l.length := by simp [digs_len]; omega
      unfold Gap.free at hd
      generalize l[i] = g at *
      obtain ⟨gw, gb, gm, gy, gco, gn⟩ := g
      dsimp only at k2 k3 hd
      generalize digs (l.drop (i + 1)) n = dd at *
      obtain ⟨t, f⟩ := dd
      dsimp only at hd hle hY hyl ⊢
      have hyi : ∃ old, wr.cell? ⟨B, i, none⟩ = some (.bool old) := ⟨_, hY.cell i (by rw [hyl]; exact hi)⟩
      obtain ⟨old, hyi⟩ := hyi
      have hfy : wr.frozen? ⟨B, i, none⟩ = false := Lib.frozen_of_heap hY i
      have hbr : b < wr.heap.size := by have := hB.size; omega
      have hBr := hY.lt
      have hbB : b ≠ B := by have := HBw.out; omega
      have HD := Lib.hid hd
      have HYY := Lib.hid hY
      have HBB := Lib.hid hB
      have HYL := Lib.hid hyl
      have i0 : (0 : Int) ≤ (i : Int) := by omega
      have i1 : (i : Int) < (l.length : Int) := by omega
      have f0 : (f : Int) ≤ 1000000000 := by omega
      have hwB : w.heap.size ≤ B := by rw [HBw.out]; exact Nat.le_refl _
      clear hd hY hB hyl hc g2 g3 hi2
      have hsemi : ∀ v : Bool, BoolBlk (wr.setCell ⟨B, i, none⟩ (.bool v)) B (List.replicate i false ++ v :: t) := fun v => by
        have := HYY.out.set i v (by rw [HYL.out]; exact hi)
        rwa [way_set] at this
      have HSE := Lib.hid hsemi
      clear hsemi
      cases gy with
      | false =>
        go_wp2_with fail
        go_roundw
        case rel =>
          have hd := HD.out
          simp only [Bool.false_and, Bool.false_eq_true, if_false] at hd
          exact ⟨i, by omega, rfl, by rw [hd], by rw [hd]; exact HSE.out _, HBB.out.setCell hwB _⟩
        case measure => simp [intOf]
      | true =>
        cases gm with
        | true =>
          go_wp2_with fail
          go_roundw
          case rel =>
            have hd := HD.out
            simp only [Bool.not_true, Bool.and_false, Bool.false_eq_true, if_false] at hd
            exact ⟨i, by omega, rfl, by rw [hd], by rw [hd]; exact HSE.out _, HBB.out.setCell hwB _⟩
          case measure => simp [intOf]
        | false =>
          have hsem2 : ∀ v u : Bool, BoolBlk ((wr.setCell ⟨B, i, none⟩ (.bool v)).setCell ⟨B, i, none⟩ (.bool u)) B (List.replicate i false ++ u :: t) := fun v u => by
            have := (HSE.out v).set i u (by simp)
            rwa [List.set_append_right _ _ (by simp), List.length_replicate, Nat.sub_self, List.set_cons_zero] at this
          have HSE2 := Lib.hid hsem2
          clear hsem2
          have hfd : (f : Int) / 2 = ((f / 2 : Nat) : Int) := by omega
          have HFD := Lib.hid hfd
          clear hfd
          by_cases hodd : f % 2 = 1
          · have e1 : (((f : Int) % 2) == 1) = true := by rw [beq_iff_eq]; omega
            have HOD := Lib.hid hodd
            clear hodd
            go_wp2_with fail
            go_roundw
            case rel =>
              have hd := HD.out
              simp only [Bool.not_false, Bool.and_true, if_true, decide_eq_true HOD.out] at hd
              exact ⟨i, by omega, rfl, by rw [hd]; exact congrArg _ HFD.out, by rw [hd]; exact HSE2.out _ _, (HBB.out.setCell hwB _).setCell hwB _⟩
            case measure => simp [intOf]
          · have e1 : (((f : Int) % 2) == 1) = false := by rw [beq_eq_false_iff_ne]; omega
            have HOD := Lib.hid hodd
            clear hodd
            go_wp2_with fail
            go_roundw
            case rel =>
              have hd := HD.out
              simp only [Bool.not_false, Bool.and_true, if_true, decide_eq_false HOD.out] at hd
              exact ⟨i, by omega, rfl, by rw [hd]; exact congrArg _ HFD.out, by rw [hd]; exact HSE2.out _ _, (HBB.out.setCell hwB _).setCell hwB _⟩
            case measure => simp [intOf]
end Go.Proofs.Ytblooekephkojaa

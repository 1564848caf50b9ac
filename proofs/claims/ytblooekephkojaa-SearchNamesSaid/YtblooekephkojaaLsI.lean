/- search: the closure tooWide, sort.Search over it. -/
import Derived.Test.YtblooekephkojaaLsH
namespace Go.Proofs.Ytblooekephkojaa
open Go.RowKit Go.BigFrame Go.Shelf
set_option linter.unusedVariables false

theorem psum_mono (l : List Gap) (hv : ∀ g ∈ l, g.valid = true) : ∀ a b, a ≤ b → b ≤ l.length → psum l a ≤ psum l b
  | a, 0, h, _ => by rw [show a = 0 from by omega]; exact Int.le_refl _
  | a, b + 1, h, hb => by
    rcases Nat.lt_or_ge a (b + 1) with h1 | h1
    · have := psum_mono l hv a b (by omega) (by omega)
      have hbd := valid_bd (hv _ (List.getElem_mem (show b < l.length from hb)))
      rw [psum_succ l b hb]; omega
    · rw [show a = b + 1 from by omega]; exact Int.le_refl _

set_option maxRecDepth 100000 in
set_option maxHeartbeats 4000000 in
theorem Ls.tooWide (q : Ln) (l : List Gap) (s : Sty) (first : Int) (en cost : List Int) (z : Nat) (fv fb sv sb : List Int) (i k : Nat) (start : Int) (bs bl bi : Nat) (w : World) (h : LineAt w q l s first (sums l) en cost z fv fb sv sb)
    (hl : l.length ≤ 65536) (hik : i + k ≤ l.length) (hv : ∀ g ∈ l, g.valid = true) (hst : 0 ≤ start) (hst2 : start ≤ 100000)
    (cs : w.cell? ⟨bs, 0, none⟩ = some (.int .i64 start)) (cl : w.cell? ⟨bl, 0, none⟩ = some (.pointer (some ⟨q.L, 0, none⟩))) (ci : w.cell? ⟨bi, 0, none⟩ = some (.int .i64 i)) :
    Calls Try.prog 63 #[.int .i64 k, .pointer (some ⟨bs, 0, none⟩), .pointer (some ⟨bl, 0, none⟩), .pointer (some ⟨bi, 0, none⟩)] w (Quiet w (.bool (decide (s.c < start + psum l (i + k) - psum l i)))) := by
  obtain ⟨-, c1, -, -, c20, -⟩ := h.cells
  have p1 := psum_bd l hv i (by omega)
  have p2 := psum_bd l hv (i + k) hik
  have a1 : w.cell? ⟨q.A, i, none⟩ = some (.int .i64 (psum l i)) := by
    have := h.sum.cell i (by simp [sums]; omega)
    simpa [sums] using this
  have a2 : w.cell? ⟨q.A, i + k, none⟩ = some (.int .i64 (psum l (i + k))) := by
    have := h.sum.cell (i + k) (by simp [sums]; omega)
    simpa [sums] using this
  obtain ⟨p1, p1'⟩ := p1
  obtain ⟨p2, p2'⟩ := p2
  have p3 : psum l i ≤ 131072 * 65536 := by omega
  have p4 : psum l (i + k) ≤ 131072 * 65536 := by omega
  have i0 : (0 : Int) ≤ (i : Int) := by omega
  have i1 : (i : Int) < (l.length : Int) + 1 := by omega
  have i2 : (0 : Int) ≤ (i : Int) + (k : Int) := by omega
  have i3 : (i : Int) + (k : Int) < (l.length : Int) + 1 := by omega
  have i4 : ((i : Int) + (k : Int)).toNat = i + k := by omega
  clear h hv p1' p2'
  generalize psum l i = x at *
  generalize psum l (i + k) = y at *
  go_enter Try.func63, Try.ntmps63
  go_wp2
  go_quiet (fail)
  go_wp2
  go_ret
  exact ⟨ret_bool (by rfl), _, rfl⟩

set_option maxRecDepth 100000 in
set_option maxHeartbeats 4000000 in
theorem Ls.search (cb : Array Value) (n cnt : Nat) (w : World) (hc : cnt ≤ n) (hn : n ≤ 200000)
    (hf : ∀ (u : World) (i : Nat), Below w.heap.size w u → i < n → Calls Try.prog 63 (#[.int .i64 i] ++ cb) u fun e w' => e = .returned (.bool (decide (cnt ≤ i))) ∧ Below u.heap.size u w') :
    Calls Try.prog 64 #[.int .i64 n, .func (.func 63) #[] cb] w fun e w' => e = .returned (.int .i64 cnt) ∧ Below w.heap.size w w' := by
  have HF := Lib.hid hf
  clear hf
  go_enter Try.func64, Try.ntmps64
  go_wp2
  go_loopw [5, 6] (fun s5 s6 wr => ∃ (lo hi : Nat), s5 = .int .i64 lo ∧ s6 = .int .i64 hi ∧ lo ≤ cnt ∧ cnt ≤ hi ∧ hi ≤ n ∧ Below w.heap.size w wr) (fun s5 s6 _ => (intOf s6).toNat - (intOf s5).toNat)
  case atStart => exact ⟨0, n, rfl, rfl, Nat.zero_le _, hc, Nat.le_refl _, Below.refl _ _⟩
  case round =>
    obtain ⟨lo, hi, rfl, rfl, h1, h2, h3, hb⟩ := hrel
    have hsz := hb.size
    by_cases hlt : lo < hi
    · have hcl := HF.out wr ((lo + hi) / 2) hb (by omega)
      rw [show (((lo + hi) / 2 : Nat) : Int) = ((lo : Int) + (hi : Int)) / 2 by omega] at hcl
      cases hp : decide (cnt ≤ (lo + hi) / 2) <;> rw [hp] at hcl
      · have HP := Lib.hid (of_decide_eq_false hp)
        clear hp
        go_wp2_with fail
        refine hcl.mono ?_
        rintro e w' ⟨rfl, hb2⟩
        go_wp2_with fail
        go_roundw
        case measure => simp [intOf]; omega
        case rel =>
          have := HP.out
          exact ⟨(lo + hi) / 2 + 1, hi, congrArg (Value.int .i64) (by omega), rfl, by omega, h2, h3, hb.trans (hb2.mono hsz)⟩
      · have HP := Lib.hid (of_decide_eq_true hp)
        clear hp
        go_wp2_with fail
        refine hcl.mono ?_
        rintro e w' ⟨rfl, hb2⟩
        go_wp2_with fail
        go_roundw
        case measure => simp [intOf]; omega
        case rel =>
          have := HP.out
          exact ⟨lo, (lo + hi) / 2, rfl, congrArg (Value.int .i64) (by omega), h1, by omega, by omega, hb.trans (hb2.mono hsz)⟩
    · obtain rfl : lo = cnt := by omega
      go_wp2
      go_ret
      exact ⟨rfl, hb⟩
end Go.Proofs.Ytblooekephkojaa

/- Search: gaps and styles as values; what valid, within, excess, row return. -/
import Derived.Test.YtblooekephkojaaBas
import Derived.Test.YtblooekephkojaaProg
namespace Go.Proofs.Ytblooekephkojaa
open Go.RowKit
set_option linter.unusedVariables false

/-- A gap. -/
structure Gap where
  w : Int
  b : Int
  must : Bool
  may : Bool
  cost : Int
  ind : Int

/-- A style. -/
structure Sty where
  c : Int
  i1 : Int
  i2 : Int
  i3 : Int
  b1 : Bool
  b2 : Bool
  b3 : Bool
  e : Int
  o1 : Int
  o2 : Int
  o3 : Int
  o4 : Int
  o5 : Int
  o6 : Int
  o7 : Int
  o8 : Int
  o9 : Int
  o10 : Int

abbrev Gap.cells (g : Gap) : Array Value := #[.int .i64 g.w, .int .i64 g.b, .bool g.must, .bool g.may, .int .i64 g.cost, .int .i64 g.ind]
abbrev Sty.cells (s : Sty) : Array Value := #[.int .i64 s.c, .int .i64 s.i1, .int .i64 s.i2, .int .i64 s.i3, .bool s.b1, .bool s.b2, .bool s.b3, .int .i64 s.e, .int .i64 s.o1, .int .i64 s.o2, .int .i64 s.o3, .int .i64 s.o4, .int .i64 s.o5, .int .i64 s.o6, .int .i64 s.o7, .int .i64 s.o8, .int .i64 s.o9, .int .i64 s.o10]

def Gap.valid (g : Gap) : Bool := decide (0 ≤ g.w ∧ g.w ≤ 65536 ∧ 0 ≤ g.b ∧ g.b ≤ 65536 ∧ 0 ≤ g.cost ∧ g.cost ≤ 1000000 ∧ 0 ≤ g.ind ∧ g.ind ≤ 256) && (g.may || !g.must)


set_option maxHeartbeats 1000000 in
theorem Sr.valid (g : Gap) (w : World) : Calls Try.prog 59 #[.agg g.cells] w fun e w' => e = .returned (.bool g.valid) ∧ Below w.heap.size w w' := by
  obtain ⟨gw, gb, gm, gy, gc, gi⟩ := g
  go_enter Try.func59, Try.ntmps59
  go_wp2
  all_goals (go_ret; exact ⟨ret_bool (by cases gm <;> cases gy <;> simp_all [Gap.valid] <;> omega), (Below.refl _ _).alloc (Nat.le_refl _) _⟩)

/-- Is a number from 0 to another one? -/
def inTo (n m : Int) : Bool := decide (0 ≤ n ∧ n ≤ m)
theorem Sr.within (n m : Int) (w : World) : Calls Try.prog 48 #[.int .i64 n, .int .i64 m] w fun e w' => e = .returned (.bool (inTo n m)) ∧ w = w' := by
  go_enter Try.func48, Try.ntmps48
  go_wp2
  all_goals (go_ret; exact ⟨ret_bool (by simp [inTo]; omega), rfl⟩)

/-- What a row of that width costs. -/
def exc (s : Sty) (x : Int) : Int := if x ≤ s.c then 0 else (x - s.c) * s.e

theorem exc_le (s : Sty) (x : Int) (h : 1 ≤ s.c) (h2 : 0 ≤ s.e) (h3 : s.e ≤ 1000000) (hx : 0 ≤ x) : 0 ≤ exc s x ∧ exc s x ≤ x * 1000000 := by
  unfold exc
  split
  · omega
  · constructor
    · exact Int.mul_nonneg (by omega) h2
    · calc (x - s.c) * s.e ≤ (x - s.c) * 1000000 := Int.mul_le_mul_of_nonneg_left h3 (by omega)
        _ ≤ x * 1000000 := by omega

set_option maxHeartbeats 1000000 in
theorem Sr.excess (s : Sty) (x : Int) (w : World) (hc : 1 ≤ s.c) (hc2 : s.c ≤ 4096) (he : 0 ≤ s.e) (he2 : s.e ≤ 1000000) (hx : 0 ≤ x) (hx2 : x ≤ 17179869184) :
    Calls Try.prog 47 #[.int .i64 x, .agg s.cells] w fun e w' => e = .returned (.int .i64 (exc s x)) ∧ Below w.heap.size w w' := by
  have hb := exc_le s x hc he he2 hx
  have hd : exc s x = if x ≤ s.c then 0 else (x - s.c) * s.e := rfl
  obtain ⟨c, i1, i2, i3, b1, b2, b3, ex, o1, o2, o3, o4, o5, o6, o7, o8, o9, o10⟩ := s
  simp only at hc hc2 he he2 hd
  by_cases h : x ≤ c
  · go_enter Try.func47, Try.ntmps47
    go_wp2
    go_ret
    exact ⟨ret_int (by simp only [exc]; first | rw [if_neg (by omega)] | rw [if_pos (by omega)]), (Below.refl _ _).alloc (Nat.le_refl _) _⟩
  · rw [hd, if_neg h] at hb
    have h1 : 0 ≤ (x - c) * ex := by omega
    have h2 : (x - c) * ex ≤ 17179869184000000 := by omega
    clear hb hd
    go_enter Try.func47, Try.ntmps47
    go_wp2
    go_ret
    exact ⟨ret_int (by simp only [exc]; first | rw [if_neg (by omega)] | rw [if_pos (by omega)]), (Below.refl _ _).alloc (Nat.le_refl _) _⟩

set_option maxHeartbeats 1000000 in
theorem Sr.row (s : Sty) (x : Int) (w : World) (hc : 1 ≤ s.c) (hc2 : s.c ≤ 4096) (he : 0 ≤ s.e) (he2 : s.e ≤ 1000000) (hx : 0 ≤ x) (hx2 : x ≤ 17179869184) :
    Calls Try.prog 49 #[.int .i64 x, .agg s.cells] w fun e w' => e = .returned (.int .i64 (exc s x)) ∧ Below w.heap.size w w' := by
  have hb := exc_le s x hc he he2 hx
  have hd : exc s x = if x ≤ s.c then 0 else (x - s.c) * s.e := rfl
  obtain ⟨c, i1, i2, i3, b1, b2, b3, ex, o1, o2, o3, o4, o5, o6, o7, o8, o9, o10⟩ := s
  simp only at hc hc2 he he2 hd
  by_cases h : x ≤ c
  · go_enter Try.func49, Try.ntmps49
    go_wp2
    go_ret
    exact ⟨ret_int (by simp only [exc]; first | rw [if_neg (by omega)] | rw [if_pos (by omega)]), (Below.refl _ _).alloc (Nat.le_refl _) _⟩
  · rw [hd, if_neg h] at hb
    have h1 : 0 ≤ (x - c) * ex := by omega
    have h2 : (x - c) * ex ≤ 17179869184000000 := by omega
    clear hb hd
    go_enter Try.func49, Try.ntmps49
    go_wp2
    go_ret
    exact ⟨ret_int (by simp only [exc]; first | rw [if_neg (by omega)] | rw [if_pos (by omega)]), (Below.refl _ _).alloc (Nat.le_refl _) _⟩
end Go.Proofs.Ytblooekephkojaa

/- search.least: a tree of places in memory; better. -/
import Derived.Test.YtblooekephkojaaTal
import Derived.Test.YtblooekephkojaaProg
import Derived.LaidEqlPtr
namespace Go.Proofs.Ytblooekephkojaa
open Go.RowKit Go.BigFrame
set_option linter.unusedVariables false

/-- A block that holds just these numbers. -/
def IntBlk (w : World) (b : Nat) (ty : TypeId) (l : List Int) : Prop := w.heap[b]? = some (.cells (l.map (Value.int .i64)).toArray ty (0, 0))

theorem IntBlk.cell {w : World} {b ty : Nat} {l : List Int} (h : IntBlk w b ty l) (i : Nat) (hi : i < l.length) : w.cell? ⟨b, i, none⟩ = some (.int .i64 l[i]) := by
  unfold IntBlk at h
  simp only [World.cell?, h]
  simp [hi]
theorem IntBlk.lt {w : World} {b ty : Nat} {l : List Int} (h : IntBlk w b ty l) : b < w.heap.size := (Array.getElem?_eq_some_iff.1 h).1

/-- The tree in memory: its block, the block of the numbers, the block of the nodes. -/
structure Least (w : World) (F V T : Nat) (size : Nat) (v best : List Int) : Prop where
  f : w.heap[F]? = some (.cells #[.int .i64 size, .slice (some ⟨V, 0, none⟩) v.length v.length, .slice (some ⟨T, 0, none⟩) best.length best.length] 121 (0, 0))
  v : IntBlk w V 2 v
  t : IntBlk w T 3 best

theorem Least.f0 {w : World} {F V T size : Nat} {v best : List Int} (h : Least w F V T size v best) : w.cell? ⟨F, 0, none⟩ = some (.int .i64 size) := by simp [World.cell?, h.f]
theorem Least.f1 {w : World} {F V T size : Nat} {v best : List Int} (h : Least w F V T size v best) : w.cell? ⟨F, 1, none⟩ = some (.slice (some ⟨V, 0, none⟩) v.length v.length) := by simp [World.cell?, h.f]
theorem Least.f2 {w : World} {F V T size : Nat} {v best : List Int} (h : Least w F V T size v best) : w.cell? ⟨F, 2, none⟩ = some (.slice (some ⟨T, 0, none⟩) best.length best.length) := by simp [World.cell?, h.f]

theorem Least.drewN {w : World} {F V T size : Nat} {v best : List Int} (h : Least w F V T size v best) (n : Nat) : Least (w.drewN n) F V T size v best := ⟨h.f, h.v, h.t⟩

/-- The place with the lesser number; of two with equal ones the later one. -/
def better (v : List Int) (a b : Int) : Int :=
  if a < 0 then b else if b < 0 then a else if v.getD a.toNat 0 < v.getD b.toNat 0 then a else if v.getD b.toNat 0 < v.getD a.toNat 0 then b else max a b

def Quiet (w : World) (v : Value) (e : Ending) (w' : World) : Prop := e = .returned v ∧ ∃ n, w' = w.drewN n

set_option maxHeartbeats 2000000 in
set_option maxRecDepth 100000 in
theorem Ls.better (F V T size : Nat) (v best : List Int) (a b : Int) (w : World) (h : Least w F V T size v best) (ha : a < v.length) (hb : b < v.length) (hlen : v.length ≤ 400000) :
    Calls Try.prog 67 #[.pointer (some ⟨F, 0, none⟩), .int .i64 a, .int .i64 b] w (Quiet w (.int .i64 (Ytblooekephkojaa.better v a b))) := by
  have hf1 := h.f1
  by_cases h1 : a < 0
  · go_enter Try.func67, Try.ntmps67
    go_wp2
    go_ret
    exact ⟨ret_int (by unfold Ytblooekephkojaa.better; rw [if_pos h1]), 0, rfl⟩
  by_cases h2 : b < 0
  · go_enter Try.func67, Try.ntmps67
    go_wp2
    go_ret
    exact ⟨ret_int (by unfold Ytblooekephkojaa.better; rw [if_neg (by omega), if_pos h2]), 0, rfl⟩
  obtain ⟨i, rfl⟩ := Int.eq_ofNat_of_zero_le (by omega : 0 ≤ a)
  obtain ⟨j, rfl⟩ := Int.eq_ofNat_of_zero_le (by omega : 0 ≤ b)
  have hi : i < v.length := by omega
  have hj : j < v.length := by omega
  have ci := h.v.cell i hi
  have cj := h.v.cell j hj
  have hi0 : (0 : Int) ≤ (i : Int) := by omega
  have hj0 : (0 : Int) ≤ (j : Int) := by omega
  have hbt : Ytblooekephkojaa.better v i j = if v[i] < v[j] then (i : Int) else if v[j] < v[i] then (j : Int) else max (i : Int) j := by
    unfold Ytblooekephkojaa.better; rw [if_neg h1, if_neg h2]; simp [hi, hj]
  rw [hbt]
  clear hbt h
  obtain ⟨x, hx⟩ : ∃ x, x = v[i] := ⟨_, rfl⟩
  obtain ⟨y, hy⟩ : ∃ y, y = v[j] := ⟨_, rfl⟩
  rw [← hx, ← hy]
  rw [← hx] at ci
  rw [← hy] at cj
  clear hx hy
  by_cases h3 : x < y
  · have hd : decide (x < y) = true := by simpa using h3
    rw [if_pos h3]
    go_enter Try.func67, Try.ntmps67
    go_wp2
    go_quiet (fail)
    go_wp2
    go_ret
    exact ⟨rfl, _, rfl⟩
  · have hd : decide (x < y) = false := by simpa using h3
    rw [if_neg h3]
    by_cases h4 : y < x
    · have hd2 : decide (y < x) = true := by simpa using h4
      rw [if_pos h4]
      go_enter Try.func67, Try.ntmps67
      go_wp2
      go_quiet (fail)
      go_wp2
      go_quiet (fail)
      go_wp2
      go_ret
      first | exact ⟨rfl, _, rfl⟩ | exact ⟨rfl, _, by rw [World.drewN_drewN]⟩
    · have hd2 : decide (y < x) = false := by simpa using h4
      rw [if_neg h4]
      by_cases hij : (i : Int) ≤ j
      · rw [show max (i : Int) j = j from by omega]
        go_enter Try.func67, Try.ntmps67
        go_wp2
        go_quiet (fail)
        go_wp2
        go_quiet (fail)
        go_wp2
        all_goals (go_ret; exact ⟨ret_int (by omega), _, rfl⟩)
      · rw [show max (i : Int) j = i from by omega]
        go_enter Try.func67, Try.ntmps67
        go_wp2
        go_quiet (fail)
        go_wp2
        go_quiet (fail)
        go_wp2
        all_goals (go_ret; exact ⟨ret_int (by omega), _, rfl⟩)
end Go.Proofs.Ytblooekephkojaa

/- scope: a scope in memory made since W (Own); alive. -/
import Derived.Test.YtblooekephkojaaScG
namespace Go.Proofs.Ytblooekephkojaa
open Go.RowKit Go.BigFrame Go.ChangeMaps Go.WideMaps
set_option linter.unusedVariables false

/-- A scope in memory that was made since W. -/
def Own (W : World) (A n : Nat) (F : List Frm) (w : World) : Prop := ∃ S, Sco w A n S F ∧ (∀ k, S k → W.heap.size ≤ k) ∧ Below W.heap.size W w
theorem Own.below {W w : World} {A n : Nat} {F : List Frm} (h : Own W A n F w) : Below W.heap.size W w := let ⟨_, _, _, h⟩ := h; h
theorem Own.leaves {W w w' : World} {A m : Nat} {S : Nat → Prop} {F : List Frm} (hl : Leaves A m S F w w') (hS : ∀ k, S k → W.heap.size ≤ k) (hb : Below W.heap.size W w) : Own W A m F w' := by
  obtain ⟨S', h1, h2, h3⟩ := hl
  refine ⟨S', h1, fun k hk => ?_, hb.trans (h3.below hb.size hS)⟩
  rcases h2 k hk with h | h
  · exact hS k h
  · exact Nat.le_trans hb.size h
theorem Ow.new (W w : World) (hb : Below W.heap.size W w) : Calls Try.prog 21 #[] w fun e w' => ∃ A, e = .returned (.pointer (some ⟨A, 0, none⟩)) ∧ Own W A 0 [[]] w' := by
  refine (Sc.new w).mono ?_
  rintro e w1 ⟨A, rfl, h1, h2⟩
  exact ⟨A, rfl, _, h1, fun k hk => Nat.le_trans hb.size hk.1, hb.trans (h2.mono hb.size)⟩
theorem Ow.opens (W : World) (A n : Nat) (F : List Frm) (w : World) (h : Own W A n F w) :
    Calls Try.prog 22 #[.pointer (some ⟨A, 0, none⟩)] w fun e w' => e = .returned (.int .i64 (if 65536 ≤ F.length then 4 else 0)) ∧ Own W A n (if 65536 ≤ F.length then F else F ++ [[]]) w' := by
  obtain ⟨S, h1, h2, h3⟩ := h
  exact (Sc.opens A n S F w h1).mono fun e w' ⟨he, hl⟩ => ⟨he, Own.leaves hl h2 h3⟩
theorem Ow.declare (W : World) (A n : Nat) (F : List Frm) (x : ByteArray) (t : Bool) (w : World) (h : Own W A n F w) (hx : x.size ≤ maxLen) (hF : F.length ≤ 65536) (hf : ∀ f ∈ F, f.length ≤ 1000000) (hn : n ≤ 1000000) :
    Calls Try.prog 23 #[.pointer (some ⟨A, 0, none⟩), .string x, .bool t] w fun e w' => e = .returned (.int .i64 (if x.size = 0 then 100 else 0)) ∧ Own W A (n + 1) (if x.size = 0 then F else Ytblooekephkojaa.declare F x t) w' := by
  obtain ⟨S, h1, h2, h3⟩ := h
  exact (Sc.declare A n S F x t w h1 hx hF hf hn).mono fun e w' ⟨he, hl⟩ => ⟨he, Own.leaves hl h2 h3⟩
theorem Ow.isType (W : World) (A n : Nat) (F : List Frm) (x : ByteArray) (w : World) (h : Own W A n F w) (hx : x.size ≤ maxLen) (hF : F.length ≤ 9223372036854775807) :
    Calls Try.prog 25 #[.pointer (some ⟨A, 0, none⟩), .string x] w fun e w' => e = .returned (.bool (isTy F x)) ∧ w' = w := by
  obtain ⟨S, h1, h2, h3⟩ := h
  exact Sc.isType A n S F x w h1 hx hF
theorem Ow.blocks (W : World) (A n : Nat) (F : List Frm) (w : World) (h : Own W A n F w) : Calls Try.prog 31 #[.pointer (some ⟨A, 0, none⟩)] w fun e w' => e = .returned (.int .i64 F.length) ∧ w' = w := by
  obtain ⟨S, h1, h2, h3⟩ := h
  exact Sc.blocks A n S F w h1

abbrev tName : ByteArray := ⟨#[84]⟩
theorem tIs1 : isTy [[(tName, true)]] tName = true := by decide
theorem tIs2 : isTy [[(tName, true)], []] tName = true := by decide
theorem tIs3 : isTy [[(tName, true)], [(tName, false)]] tName = false := by decide

set_option maxRecDepth 100000 in
set_option maxHeartbeats 4000000 in
theorem Sc.alive (w : World) : Calls Try.prog 20 #[] w fun e w' => e = .returned (.bool true) ∧ Below w.heap.size w w' := by
  go_enter Try.func20, Try.ntmps20
  go_wp2_with fail
  refine (Ow.new w w (Below.refl _ _)).mono ?_
  rintro e w1 ⟨A, rfl, o1⟩
  go_wp2_with fail
  refine (Ow.declare w A 0 [[]] tName true w1 o1 (by decide) (by decide) (by simp) (by decide)).mono ?_
  rintro e w2 ⟨rfl, o2⟩
  have h2 : Own w A (0 + 1) [[(tName, true)]] w2 := o2
  clear o1 o2
  go_wp2_with fail
  refine (Ow.isType w A _ _ tName w2 h2 (by decide) (by decide)).mono ?_
  rintro e w3 ⟨rfl, rfl⟩
  rw [tIs1]
  go_wp2_with fail
  refine (Ow.opens w A _ _ w3 h2).mono ?_
  rintro e w4 ⟨rfl, o4⟩
  have h4 : Own w A (0 + 1) [[(tName, true)], []] w4 := o4
  clear o4 h2
  go_wp2_with fail
  refine (Ow.isType w A _ _ tName w4 h4 (by decide) (by decide)).mono ?_
  rintro e w5 ⟨rfl, rfl⟩
  rw [tIs2]
  go_wp2_with fail
  refine (Ow.declare w A _ _ tName false w5 h4 (by decide) (by decide) (by decide) (by decide)).mono ?_
  rintro e w6 ⟨rfl, o6⟩
  have h6 : Own w A (0 + 1 + 1) [[(tName, true)], [(tName, false)]] w6 := o6
  clear o6 h4
  rw [if_neg (show ¬ tName.size = 0 from by decide)]
  go_wp2_with fail
  refine (Ow.isType w A _ _ tName w6 h6 (by decide) (by decide)).mono ?_
  rintro e w7 ⟨rfl, rfl⟩
  rw [tIs3]
  go_wp2_with fail
  refine (Ow.blocks w A _ _ w7 h6).mono ?_
  rintro e w8 ⟨rfl, rfl⟩
  go_wp2_with fail
  go_ret
  exact ⟨rfl, h6.below⟩
end Go.Proofs.Ytblooekephkojaa

/- scope: Declare, whole. -/
import Derived.Test.YtblooekephkojaaScF
namespace Go.Proofs.Ytblooekephkojaa
open Go.RowKit Go.BigFrame Go.ChangeMaps Go.WideMaps
set_option linter.unusedVariables false

theorem Sco.mono {w : World} {A n m : Nat} {S : Nat → Prop} {F : List Frm} (h : Sco w A n S F) (hn : n ≤ m) : Sco w A m S F := by
  obtain ⟨M, vB, vs, mv, D, h, h2, h3⟩ := h
  exact ⟨M, vB, vs, mv, D, ⟨h.hd, h.mp.mono hn, h.key, h.mrow, h.brow, h.vrow, h.dm, h.dv, h.pos⟩, h2, h3⟩
theorem Leaves.mono {A n m : Nat} {S : Nat → Prop} {F : List Frm} {w w' : World} (h : Leaves A n S F w w') (hn : n ≤ m) : Leaves A m S F w w' := by
  obtain ⟨S', h1, h2⟩ := h
  exact ⟨S', h1.mono hn, h2⟩

theorem Sc.declare (A n : Nat) (S : Nat → Prop) (F : List Frm) (x : ByteArray) (t : Bool) (w : World) (h : Sco w A n S F) (hx : x.size ≤ maxLen) (hF : F.length ≤ 65536) (hf : ∀ f ∈ F, f.length ≤ 1000000) (hn : n ≤ 1000000) :
    Calls Try.prog 23 #[.pointer (some ⟨A, 0, none⟩), .string x, .bool t] w fun e w' => e = .returned (.int .i64 (if x.size = 0 then 100 else 0)) ∧ Leaves A (n + 1) S (if x.size = 0 then F else Ytblooekephkojaa.declare F x t) w w' := by
  by_cases hx0 : x.size = 0
  · rw [if_pos hx0, if_pos hx0]
    obtain rfl := str_empty hx0
    refine (Sc.declare_empty A n S F t w h).mono ?_
    rintro e w' ⟨rfl, rfl⟩
    exact ⟨rfl, (Leaves.refl h).mono (by omega)⟩
  · rw [if_neg hx0, if_neg hx0]
    obtain ⟨G, f, rfl⟩ := snoc_of_pos F h.pos
    rw [declare_snoc]
    cases hl : look f x with
    | some t0 => exact Sc.declare_old A n S G f x t t0 w h hx0 hx hF hl
    | none => exact Sc.declare_new A n S G f x t w h hx0 hx hF (hf f (by simp)) hn hl
end Go.Proofs.Ytblooekephkojaa

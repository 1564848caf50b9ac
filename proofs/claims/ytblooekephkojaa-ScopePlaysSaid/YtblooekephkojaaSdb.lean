/- scope: steps as arguments, with their names' reach. -/
import Derived.Test.YtblooekephkojaaScO
namespace Go.Proofs.Ytblooekephkojaa
open Go.RowKit Go.ChangeShapes Go.WideShapes Go.Deep
set_option linter.unusedVariables false
section
variable {H : Type} {enc : TypeId × Value → H} {w : World} {base : Nat} {spare : Nat → Bool} {held : Bool}
set_option maxRecDepth 100000 in
theorem rd_stpR {fuel : Nat} {cs : List Value} {x : DataW H × List MemPlace} (h : DataW.trod enc Try.prog w base spare held fuel 40 cs = some x) (hw : Fits Try.prog 40 x.1) : ∃ s : Stp, cs = Stp.f s ∧ s.x.size ≤ reachBytes := by
  obtain ⟨hl, hf⟩ := rd_fields Try.underlying40 h hw
  rw [Cel.c40] at hl
  match cs, hl with
  | [v0, v1, v2], _ =>
    obtain ⟨n0, y0, f0, w0⟩ := hf 0 3 0 rfl
    obtain ⟨n1, y1, f1, w1⟩ := hf 1 9 1 rfl
    obtain ⟨n2, y2, f2, w2⟩ := hf 2 4 2 rfl
    simp only [Cel.c3, Cel.c4, Cel.c9] at f0 f1 f2
    obtain ⟨a0, e0⟩ := rd_int3 f0
    obtain ⟨a1, e1, hs⟩ := rd_string Try.underlying9 f1 w1
    obtain ⟨a2, e2⟩ := rd_bool4 f2
    simp at e0 e1 e2
    exact ⟨⟨a0, a1, a2⟩, by simp [Stp.f, e0, e1, e2], hs⟩
theorem rd_stpsR {fuel : Nat} {cs : List Value} {x : DataW H × List MemPlace} (h : DataW.trod enc Try.prog w base spare held fuel 38 cs = some x) (hw : Fits Try.prog 38 x.1) :
    ∃ a cap l, cs = [.slice a l.length cap] ∧ l.length ≤ cap ∧ cap ≤ maxLen ∧ l.length * Try.prog.bytesOf 40 ≤ reachBytes ∧ (a = none → l = [] ∧ cap = 0) ∧ RowAt 3 Stp.f w a l ∧ ∀ s ∈ l, s.x.size ≤ reachBytes :=
  rd_slice 3 Stp.f (fun s => s.x.size ≤ reachBytes) Try.underlying38 Cel.c40 (by omega) (fun _ _ _ h hw => rd_stpR h hw) h hw
end
end Go.Proofs.Ytblooekephkojaa

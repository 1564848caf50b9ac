/- Search: gaps, styles and ways as arguments. -/
import Derived.Test.YtblooekephkojaaOpn
import Derived.Test.YtblooekephkojaaSrL
namespace Go.Proofs.Ytblooekephkojaa
open Go.RowKit Go.ChangeShapes Go.WideShapes Go.Deep
set_option linter.unusedVariables false

section
variable {H : Type} {enc : TypeId × Value → H} {w : World} {base : Nat} {spare : Nat → Bool} {held : Bool}

theorem Cel.c3 : Try.prog.cellsOf 3 = 1 := by kernel_rfl
theorem Cel.c4 : Try.prog.cellsOf 4 = 1 := by kernel_rfl
theorem Cel.c25 : Try.prog.cellsOf 25 = 1 := by kernel_rfl
theorem Cel.c27 : Try.prog.cellsOf 27 = 18 := by kernel_rfl
theorem Cel.c29 : Try.prog.cellsOf 29 = 19 := by kernel_rfl
theorem Cel.c71 : Try.prog.cellsOf 71 = 6 := by kernel_rfl

theorem rd_int3 {fuel : Nat} {cs : List Value} {x : DataW H × List MemPlace} (h : DataW.trod enc Try.prog w base spare held fuel 3 cs = some x) : ∃ n : Int, cs = [.int .i64 n] :=
  let ⟨n, h, _, _⟩ := DataW.trod_int Try.underlying3 h
  ⟨n, h⟩
theorem rd_bool4 {fuel : Nat} {cs : List Value} {x : DataW H × List MemPlace} (h : DataW.trod enc Try.prog w base spare held fuel 4 cs = some x) : ∃ n : Bool, cs = [.bool n] :=
  let ⟨n, h, _⟩ := DataW.trod_bool Try.underlying4 h
  ⟨n, h⟩

set_option maxRecDepth 100000 in
theorem rd_gap {fuel : Nat} {cs : List Value} {x : DataW H × List MemPlace} (h : DataW.trod enc Try.prog w base spare held fuel 71 cs = some x) (hw : Fits Try.prog 71 x.1) : ∃ g : Gap, cs = Gap.f g := by
  obtain ⟨hl, hf⟩ := rd_fields Try.underlying71 h hw
  rw [Cel.c71] at hl
  match cs, hl with
  | [v0, v1, v2, v3, v4, v5], _ =>
    obtain ⟨n0, y0, f0, w0⟩ := hf 0 3 0 rfl
    obtain ⟨n1, y1, f1, w1⟩ := hf 1 3 1 rfl
    obtain ⟨n2, y2, f2, w2⟩ := hf 2 4 2 rfl
    obtain ⟨n3, y3, f3, w3⟩ := hf 3 4 3 rfl
    obtain ⟨n4, y4, f4, w4⟩ := hf 4 3 4 rfl
    obtain ⟨n5, y5, f5, w5⟩ := hf 5 3 5 rfl
    simp only [Cel.c3, Cel.c4] at f0 f1 f2 f3 f4 f5
    obtain ⟨a0, e0⟩ := rd_int3 f0
    obtain ⟨a1, e1⟩ := rd_int3 f1
    obtain ⟨a2, e2⟩ := rd_bool4 f2
    obtain ⟨a3, e3⟩ := rd_bool4 f3
    obtain ⟨a4, e4⟩ := rd_int3 f4
    obtain ⟨a5, e5⟩ := rd_int3 f5
    simp at e0 e1 e2 e3 e4 e5
    exact ⟨⟨a0, a1, a2, a3, a4, a5⟩, by simp [Gap.f, e0, e1, e2, e3, e4, e5]⟩

set_option maxRecDepth 100000 in
theorem rd_sty {fuel : Nat} {cs : List Value} {x : DataW H × List MemPlace} (h : DataW.trod enc Try.prog w base spare held fuel 27 cs = some x) (hw : Fits Try.prog 27 x.1) : ∃ s : Sty, cs = s.cells.toList := by
  obtain ⟨hl, hf⟩ := rd_fields Try.underlying27 h hw
  rw [Cel.c27] at hl
  match cs, hl with
  | [v0, v1, v2, v3, v4, v5, v6, v7, v8, v9, v10, v11, v12, v13, v14, v15, v16, v17], _ =>
    obtain ⟨n0, y0, f0, w0⟩ := hf 0 3 0 rfl
    obtain ⟨n1, y1, f1, w1⟩ := hf 1 3 1 rfl
    obtain ⟨n2, y2, f2, w2⟩ := hf 2 3 2 rfl
    obtain ⟨n3, y3, f3, w3⟩ := hf 3 3 3 rfl
    obtain ⟨n4, y4, f4, w4⟩ := hf 4 4 4 rfl
    obtain ⟨n5, y5, f5, w5⟩ := hf 5 4 5 rfl
    obtain ⟨n6, y6, f6, w6⟩ := hf 6 4 6 rfl
    obtain ⟨n7, y7, f7, w7⟩ := hf 7 3 7 rfl
    obtain ⟨n8, y8, f8, w8⟩ := hf 8 3 8 rfl
    obtain ⟨n9, y9, f9, w9⟩ := hf 9 3 9 rfl
    obtain ⟨n10, y10, f10, w10⟩ := hf 10 3 10 rfl
    obtain ⟨n11, y11, f11, w11⟩ := hf 11 3 11 rfl
    obtain ⟨n12, y12, f12, w12⟩ := hf 12 3 12 rfl
    obtain ⟨n13, y13, f13, w13⟩ := hf 13 3 13 rfl
    obtain ⟨n14, y14, f14, w14⟩ := hf 14 3 14 rfl
    obtain ⟨n15, y15, f15, w15⟩ := hf 15 3 15 rfl
    obtain ⟨n16, y16, f16, w16⟩ := hf 16 3 16 rfl
    obtain ⟨n17, y17, f17, w17⟩ := hf 17 3 17 rfl
    simp only [Cel.c3, Cel.c4] at f0 f1 f2 f3 f4 f5 f6 f7 f8 f9 f10 f11 f12 f13 f14 f15 f16 f17
    obtain ⟨a0, e0⟩ := rd_int3 f0
    obtain ⟨a1, e1⟩ := rd_int3 f1
    obtain ⟨a2, e2⟩ := rd_int3 f2
    obtain ⟨a3, e3⟩ := rd_int3 f3
    obtain ⟨a4, e4⟩ := rd_bool4 f4
    obtain ⟨a5, e5⟩ := rd_bool4 f5
    obtain ⟨a6, e6⟩ := rd_bool4 f6
    obtain ⟨a7, e7⟩ := rd_int3 f7
    obtain ⟨a8, e8⟩ := rd_int3 f8
    obtain ⟨a9, e9⟩ := rd_int3 f9
    obtain ⟨a10, e10⟩ := rd_int3 f10
    obtain ⟨a11, e11⟩ := rd_int3 f11
    obtain ⟨a12, e12⟩ := rd_int3 f12
    obtain ⟨a13, e13⟩ := rd_int3 f13
    obtain ⟨a14, e14⟩ := rd_int3 f14
    obtain ⟨a15, e15⟩ := rd_int3 f15
    obtain ⟨a16, e16⟩ := rd_int3 f16
    obtain ⟨a17, e17⟩ := rd_int3 f17
    simp at e0 e1 e2 e3 e4 e5 e6 e7 e8 e9 e10 e11 e12 e13 e14 e15 e16 e17
    exact ⟨⟨a0, a1, a2, a3, a4, a5, a6, a7, a8, a9, a10, a11, a12, a13, a14, a15, a16, a17⟩, by simp [e0, e1, e2, e3, e4, e5, e6, e7, e8, e9, e10, e11, e12, e13, e14, e15, e16, e17]⟩

theorem rd_gaps {fuel : Nat} {cs : List Value} {x : DataW H × List MemPlace} (h : DataW.trod enc Try.prog w base spare held fuel 24 cs = some x) (hw : Fits Try.prog 24 x.1) :
    ∃ a cap l, cs = [.slice a l.length cap] ∧ l.length ≤ cap ∧ cap ≤ maxLen ∧ l.length * Try.prog.bytesOf 71 ≤ reachBytes ∧ (a = none → l = [] ∧ cap = 0) ∧ RowAt 6 Gap.f w a l :=
  let ⟨a, cap, l, h1, h2, h3, h4, h5, h6, _⟩ := rd_slice 6 Gap.f (fun _ => True) Try.underlying24 Cel.c71 (by omega) (fun _ _ _ h hw => let ⟨g, hg⟩ := rd_gap h hw; ⟨g, hg, trivial⟩) h hw
  ⟨a, cap, l, h1, h2, h3, h4, h5, h6⟩
theorem rd_bools {fuel : Nat} {cs : List Value} {x : DataW H × List MemPlace} (h : DataW.trod enc Try.prog w base spare held fuel 25 cs = some x) (hw : Fits Try.prog 25 x.1) :
    ∃ a cap l, cs = [.slice a l.length cap] ∧ l.length ≤ cap ∧ cap ≤ maxLen ∧ l.length * Try.prog.bytesOf 4 ≤ reachBytes ∧ (a = none → l = [] ∧ cap = 0) ∧ RowAt 1 boolF w a l :=
  let ⟨a, cap, l, h1, h2, h3, h4, h5, h6, _⟩ := rd_slice 1 boolF (fun _ => True) Try.underlying25 Cel.c4 (by omega) (fun _ _ _ h _ => let ⟨g, hg⟩ := rd_bool4 h; ⟨g, hg, trivial⟩) h hw
  ⟨a, cap, l, h1, h2, h3, h4, h5, h6⟩

theorem rd_way {fuel : Nat} {cs : List Value} {x : DataW H × List MemPlace} (h : DataW.trod enc Try.prog w base spare held fuel 29 cs = some x) (hw : Fits Try.prog 29 x.1) :
    ∃ a cap l, ∃ s : Sty, cs = .slice a l.length cap :: s.cells.toList ∧ l.length ≤ cap ∧ cap ≤ maxLen ∧ l.length * Try.prog.bytesOf 4 ≤ reachBytes ∧ (a = none → l = [] ∧ cap = 0) ∧ RowAt 1 boolF w a l := by
  obtain ⟨hl, hf⟩ := rd_fields Try.underlying29 h hw
  rw [Cel.c29] at hl
  obtain ⟨n0, y0, f0, w0⟩ := hf 0 25 0 rfl
  obtain ⟨n1, y1, f1, w1⟩ := hf 1 27 1 rfl
  simp only [Cel.c25, Cel.c27] at f0 f1
  obtain ⟨a, cap, l, e, hrest⟩ := rd_bools f0 w0
  obtain ⟨s, e1⟩ := rd_sty f1 w1
  refine ⟨a, cap, l, s, ?_, hrest⟩
  cases cs with
  | nil => simp at hl
  | cons c cs =>
    simp at e
    simp only [List.drop_succ_cons, List.drop_zero] at e1
    rw [List.take_of_length_le (by simp at hl; omega)] at e1
    rw [e, e1]
theorem bytes4 : Try.prog.bytesOf 4 = 1 := by kernel_rfl
theorem bytes71 : Try.prog.bytesOf 71 = 40 := by kernel_rfl
end
end Go.Proofs.Ytblooekephkojaa

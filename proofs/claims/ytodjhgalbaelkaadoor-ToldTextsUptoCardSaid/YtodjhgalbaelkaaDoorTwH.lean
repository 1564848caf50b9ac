/- A builder's bytes; a part of a row. -/
import Derived.Test.YtodjhgalbaelkaaDoorTwG
import Derived.Test.YtodjhgalbaelkaaDoorBld
namespace Go.Proofs.YtodjhgalbaelkaaDoor
open Go.RowKit Go.BigFrame Go.Shelf
set_option linter.unusedVariables false

/-- A builder at block b, made since B, that holds l. -/
def Bw (B b : Nat) (l : Bs) (w : World) : Prop := Lib.IsBuilderF 60 5 B b (Lib.byteCells l) w
theorem ownsRowF_on {w w' : World} {B e size : Nat} {v : Value} {n : Nat} {xs : List Value} (h : w.ownsRowF B e size v n xs) (hb : Below w.heap.size w w') : w'.ownsRowF B e size v n xs := by
  refine ⟨h.1, ?_⟩
  rcases h.2 with hn | ⟨g, cap, cur, fz, h1, h2, h3, rest⟩
  · exact .inl hn
  · exact .inr ⟨g, cap, cur, fz, h1, h2, heap_below hb h3 (Array.getElem?_eq_some_iff.1 h3).1, rest⟩
theorem builderAt_on {B b : Nat} {p : Value} {bs : List Value} {w w' : World} (h : Lib.BuilderAtF 60 5 B b p bs w) (hb : Below w.heap.size w w') : Lib.BuilderAtF 60 5 B b p bs w' := by
  obtain ⟨h1, v, h2, h3, h4⟩ := h
  exact ⟨h1, v, heap_below hb h2 (Array.getElem?_eq_some_iff.1 h2).1, ownsRowF_on h3 hb, h4⟩
theorem Bw.on {B b : Nat} {l : Bs} {w w' : World} (h : Bw B b l w) (hb : Below w.heap.size w w') : Bw B b l w' := by
  rcases h with h | h
  · exact .inl (builderAt_on h hb)
  · exact .inr (builderAt_on h hb)
theorem Bw.lt {B b : Nat} {l : Bs} {w : World} (h : Bw B b l w) : b < w.heap.size := by
  rcases h with h | h
  · exact h.lt
  · exact h.lt
theorem Bw.new (w : World) : Bw w.heap.size w.heap.size [] (w.alloc (.cells #[.pointer none, .slice none 0 0] 60)) := Lib.IsBuilderF.of (Lib.fresh_isBuilder 60 5 w)
theorem cells_dl (s : ByteArray) : Lib.strCells s = Lib.byteCells (dl s) := by
  simp [Lib.strCells, Lib.byteCells, dl]
theorem Bw.writeString {B b : Nat} {l : Bs} {w : World} (s : ByteArray) (h : Bw B b l w) (hl : l.length + s.size ≤ 140737488355328) (hB : B ≤ w.heap.size) :
    Calls Tryd.prog 21 #[.pointer (some ⟨b, 0, none⟩), .string s] w fun e w' => e = .returned (.tuple #[.int .i64 s.size, .nilIface]) ∧ Bw B b (l ++ dl s) w' ∧ Below B w w' ∧ Lib.OthersKept 5 (some b) w w' := by
  refine (Bld.writeString B b _ s w h (by rw [Lib.byteCells_length]; exact hl) hB).mono fun e w' ⟨h1, h2, h3, h4⟩ => ⟨h1, ?_, h3, h4⟩
  unfold Bw
  rw [Lib.byteCells_append, ← cells_dl]
  exact .inr h2
theorem Bw.writeByte {B b : Nat} {l : Bs} {w : World} (c : UInt8) (h : Bw B b l w) (hl : l.length + 1 ≤ 140737488355328) (hB : B ≤ w.heap.size) :
    Calls Tryd.prog 22 #[.pointer (some ⟨b, 0, none⟩), .int .u8 c.toNat] w fun e w' => e = .returned .nilIface ∧ Bw B b (l ++ [c]) w' ∧ Below B w w' ∧ Lib.OthersKept 5 (some b) w w' := by
  refine (Bld.writeByte B b _ c.toNat w h (by rw [Lib.byteCells_length]; exact hl) hB).mono fun e w' ⟨h1, h2, h3, h4⟩ => ⟨h1, ?_, h3, h4⟩
  unfold Bw
  rw [Lib.byteCells_append]
  exact .inr h2
theorem Bw.string {B b : Nat} {l : Bs} {w : World} (h : Bw B b l w) (hB : B ≤ w.heap.size) :
    Calls Tryd.prog 24 #[.pointer (some ⟨b, 0, none⟩)] w fun e w' => e = .returned (.string (str l)) ∧ Below B w w' :=
  (Bld.string B b l w h hB).mono fun e w' ⟨h1, _, h3, _⟩ => ⟨h1, h3⟩

def strF (x : ByteArray) : List Value := [.string x]
theorem row_at_of_owns {w : World} {base n cap : Nat} {a : Option Addr} {xs : List ByteArray} (h : w.ownsRow base 9 1 (.slice a n cap) xs.length (xs.map Value.string)) : n = xs.length ∧ xs.length ≤ cap ∧ RowAt 1 strF w a xs ∧ ∀ b off, a = some ⟨b, off, none⟩ → base ≤ b := by
  rcases h.2 with ⟨hv, hz⟩ | ⟨g, cap', cur, hv, hb, hg, hc, _⟩
  · simp only [Value.slice.injEq] at hv
    obtain ⟨rfl, rfl, rfl⟩ := hv
    have : xs = [] := List.length_eq_zero_iff.1 hz
    subst this
    exact ⟨rfl, Nat.le_refl _, .inl rfl, fun b off e => by cases e⟩
  · simp only [Value.slice.injEq] at hv
    obtain ⟨rfl, rfl, rfl⟩ := hv
    refine ⟨rfl, hc, .inr ⟨g, 0, rfl, (Array.getElem?_eq_some_iff.1 hg).1, fun i hi j u hu => ?_⟩, fun b off e => by simp at e; omega⟩
    have hj : j = 0 := by
      rcases Nat.eq_zero_or_pos j with hj | hj
      · exact hj
      · rw [List.getElem?_eq_none (by simp [strF]; omega)] at hu; cases hu
    subst hj
    simp [strF] at hu
    subst hu
    have := h.cellAt i (by omega)
    rw [Nat.zero_add, Nat.mul_one, Nat.add_zero, this, List.getElem?_map, List.getElem?_eq_getElem hi]; rfl
/-- A part of a row of strings. -/
theorem seg_row {w : World} {a : Option Addr} {cap lo hi : Nat} {xs : List ByteArray} (h : RowAt 1 strF w a xs) (h1 : lo ≤ hi) (h2 : hi ≤ xs.length) (h3 : xs.length ≤ cap) :
    RowAt 1 strF w (if cap = lo then a else a.map (fun q => q.add lo)) ((xs.take hi).drop lo) := by
  by_cases hlh : lo = hi
  · left
    subst hlh
    rw [List.drop_eq_nil_iff]; simp; omega
  · right
    obtain ⟨b, off, rfl, hb, hc⟩ := h.at (by intro e; subst e; simp at h2; omega)
    rw [if_neg (by omega)]
    refine ⟨b, off + lo, by simp [Addr.add], hb, fun i hi' => ?_⟩
    have hl : ((xs.take hi).drop lo).length = hi - lo := by simp; omega
    have := hc (lo + i) (by omega)
    rw [show ((xs.take hi).drop lo)[i] = xs[lo + i] from by simp, show off + lo + i * 1 = off + (lo + i) * 1 from by omega]
    exact this
theorem strF_at {w : World} {b o : Nat} {x : ByteArray} (h : CellsAt w b o (strF x)) : w.cell? ⟨b, o, none⟩ = some (.string x) := h 0 _ rfl

/-- What Apply makes of lines. -/
def apL (p : List Bs) : Nat → List Edi → Bs
  | at', [] => (p.drop at').flatten
  | at', x :: r => ((p.take x.a.toNat).drop at').flatten ++ (dl x.t ++ apL p x.b.toNat r)
def applyE (s : Bs) (l : List Edi) : Option Bs := if fitB s (lines s).length (-1) l = true then some (apL (lines s) 0 l) else none
theorem flat_seg (p : List Bs) (lo hi j : Nat) (h : j < ((p.take hi).drop lo).length) : (((p.take hi).drop lo).take (j + 1)).flatten = (((p.take hi).drop lo).take j).flatten ++ ((p.take hi).drop lo)[j] := by
  rw [List.take_succ_eq_append_getElem h, List.flatten_append]; simp
theorem flat_sub {l m : List Bs} (h : l.Sublist m) : l.flatten.length ≤ m.flatten.length := by
  induction h with
  | slnil => exact Nat.le_refl _
  | cons a _ ih => simp only [List.flatten_cons, List.length_append]; omega
  | cons_cons a _ ih => simp only [List.flatten_cons, List.length_append]; omega
theorem flat_le (p : List Bs) (lo hi j : Nat) : (((p.take hi).drop lo).take j).flatten.length ≤ p.flatten.length := by
  have h1 : (((p.take hi).drop lo).take j).Sublist p := (List.take_sublist _ _).trans ((List.drop_sublist _ _).trans (List.take_sublist _ _))
  exact flat_sub h1
end Go.Proofs.YtodjhgalbaelkaaDoor

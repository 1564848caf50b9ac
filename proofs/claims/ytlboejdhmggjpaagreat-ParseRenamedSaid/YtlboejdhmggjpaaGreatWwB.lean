/- A list of tokens as an argument, opened. -/
import Derived.Test.YtlboejdhmggjpaaGreatTal
import Derived.Test.YtlboejdhmggjpaaGreatWkA
import Derived.Test.YtlboejdhmggjpaaGreatProg
set_option linter.all false
namespace Go.Proofs.YtlboejdhmggjpaaGreat.Pp
set_option maxRecDepth 100000
set_option maxHeartbeats 16000000
open Go.RowKit Go.ChangeShapes Go.WideShapes Go.Deep Go.Proofs.YtlboejdhmggjpaaGreat

theorem c3 : Tryz.prog.cellsOf 3 = 1 := by kernel_rfl
theorem c9 : Tryz.prog.cellsOf 9 = 1 := by kernel_rfl
theorem c54 : Tryz.prog.cellsOf 54 = 2 := by kernel_rfl
section
variable {H : Type} {enc : TypeId × Value → H} {w : World} {base : Nat} {spare : Nat → Bool} {held : Bool}
theorem rd_tok {fuel : Nat} {cs : List Value} {x : DataW H × List MemPlace} (h : DataW.trod enc Tryz.prog w base spare held fuel 54 cs = some x) (hw : Fits Tryz.prog 54 x.1) : ∃ t : Ct, cs = ctC t ∧ t.t.length ≤ reachBytes := by
 obtain ⟨hl, hf⟩ := rd_fields Tryz.underlying54 h hw
 rw [c54] at hl
 match cs, hl with
 | [v0, v1], _ =>
  obtain ⟨n0, y0, f0, w0⟩ := hf 0 3 0 rfl
  obtain ⟨n1, y1, f1, w1⟩ := hf 1 9 1 rfl
  simp only [c3, c9] at f0 f1
  obtain ⟨a0, e0, -, -⟩ := DataW.trod_int Tryz.underlying3 f0
  obtain ⟨a1, e1, hs⟩ := rd_string Tryz.underlying9 f1 w1
  simp at e0 e1
  exact ⟨⟨a0, dl a1⟩, by simp [ctC, e0, e1, str_of], by rw [← size_dl]; exact hs⟩
theorem rd_toks {fuel : Nat} {cs : List Value} {x : DataW H × List MemPlace} (h : DataW.trod enc Tryz.prog w base spare held fuel 22 cs = some x) (hw : Fits Tryz.prog 22 x.1) :
  ∃ a cap l, cs = [.slice a l.length cap] ∧ l.length ≤ cap ∧ cap ≤ maxLen ∧ l.length * Tryz.prog.bytesOf 54 ≤ reachBytes ∧ (a = none → l = [] ∧ cap = 0) ∧ RowAt 2 ctC w a l ∧ ∀ t ∈ l, t.t.length ≤ reachBytes :=
 rd_slice 2 ctC (fun t => t.t.length ≤ reachBytes) Tryz.underlying22 c54 (by omega) (fun _ _ _ h hw => rd_tok h hw) h hw
end
end Go.Proofs.YtlboejdhmggjpaaGreat.Pp

/- WwA -/
namespace Go.Proofs.YtlboejdhmggjpaaGreat.Ww
set_option maxRecDepth 100000
set_option maxHeartbeats 16000000
open Go.Proofs.YtlboejdhmggjpaaGreat
open Go.RowKit Go.BigFrame

theorem Sc.whiteF (c : UInt8) (w : World) : Calls Tryz.prog 107 #[.int .u8 c.toNat] w fun e w' => e = .returned (.bool (isWhite c)) ∧ w' = w := by
 have hb := c.toNat_lt
 go_enter Tryz.func107, Tryz.ntmps107
 go_wp2
 all_goals (go_ret; refine ⟨ret_bool ?_, rfl⟩; rw [Bool.eq_iff_iff]; simp [isWhite] <;> omega)
theorem Sc.letterF (c : UInt8) (w : World) : Calls Tryz.prog 188 #[.int .u8 c.toNat] w fun e w' => e = .returned (.bool (letter c)) ∧ w' = w := by
 have hb := c.toNat_lt
 go_enter Tryz.func188, Tryz.ntmps188
 go_wp2
 all_goals (go_ret; refine ⟨ret_bool ?_, rfl⟩; rw [Bool.eq_iff_iff]; simp [letter] <;> omega)
theorem Sc.digitF (c : UInt8) (w : World) : Calls Tryz.prog 189 #[.int .u8 c.toNat] w fun e w' => e = .returned (.bool (digit c)) ∧ w' = w := by
 have hb := c.toNat_lt
 go_enter Tryz.func189, Tryz.ntmps189
 go_wp2
 all_goals (go_ret; refine ⟨ret_bool ?_, rfl⟩; rw [Bool.eq_iff_iff]; simp [digit] <;> omega)
end Go.Proofs.YtlboejdhmggjpaaGreat.Ww

/- WwB -/
namespace Go.Proofs.YtlboejdhmggjpaaGreat.Ww
set_option maxRecDepth 100000
set_option maxHeartbeats 16000000
open Go.Proofs.YtlboejdhmggjpaaGreat
open Go.RowKit Go.BigFrame

abbrev thE (o : Option UInt8) : Ending := .returned (.tuple #[.int .u8 (o.getD 0).toNat, .bool o.isSome])
theorem third_int (c : UInt8) : third c = if (c.toNat : Int) = 61 then some 35 else if (c.toNat : Int) = 47 then some 92 else if (c.toNat : Int) = 39 then some 94 else if (c.toNat : Int) = 40 then some 91 else if (c.toNat : Int) = 41 then some 93 else if (c.toNat : Int) = 33 then some 124 else if (c.toNat : Int) = 60 then some 123 else if (c.toNat : Int) = 62 then some 125 else if (c.toNat : Int) = 45 then some 126 else none := by
 unfold third
 have h : ∀ n : Nat, n < 256 → (c = UInt8.ofNat n ↔ (c.toNat : Int) = n) := fun n hn => byte_int c n hn
 have h61 : c = 61 ↔ (c.toNat : Int) = 61 := h 61 (by decide)
 have h47 : c = 47 ↔ (c.toNat : Int) = 47 := h 47 (by decide)
 have h39 : c = 39 ↔ (c.toNat : Int) = 39 := h 39 (by decide)
 have h40 : c = 40 ↔ (c.toNat : Int) = 40 := h 40 (by decide)
 have h41 : c = 41 ↔ (c.toNat : Int) = 41 := h 41 (by decide)
 have h33 : c = 33 ↔ (c.toNat : Int) = 33 := h 33 (by decide)
 have h60 : c = 60 ↔ (c.toNat : Int) = 60 := h 60 (by decide)
 have h62 : c = 62 ↔ (c.toNat : Int) = 62 := h 62 (by decide)
 have h45 : c = 45 ↔ (c.toNat : Int) = 45 := h 45 (by decide)
 simp only [h61, h47, h39, h40, h41, h33, h60, h62, h45]
theorem Ph.thirdF (c : UInt8) (w : World) : Calls Tryz.prog 167 #[.int .u8 c.toNat] w fun e w' => e = thE (third c) ∧ w' = w := by
 go_enter Tryz.func167, Tryz.ntmps167
 go_wp2
 all_goals (go_ret2; refine ⟨?_, rfl⟩; rw [third_int]; simp_all [thE])
theorem tri_at {s : ByteArray} {i : Nat} (h : i + 3 ≤ s.size) (h0 : (s[i].toNat : Int) = 63) (h1 : (s[i + 1].toNat : Int) = 63) : tri (dl s) i = third s[i + 2] := by
 unfold tri
 rw [dl_get (by omega), dl_get (by omega), dl_get (by omega), if_pos ⟨by rw [byte_eq h0 (by decide)]; rfl, by rw [byte_eq h1 (by decide)]; rfl⟩]
 rfl
theorem tri_end {s : ByteArray} {i : Nat} (h : s.size < i + 3) : tri (dl s) i = none := by
 unfold tri
 rw [dl_none (i := i + 2) (by omega)]
 split <;> rfl
theorem tri_no0 {s : ByteArray} {i : Nat} (h : i < s.size) (h0 : ¬ (s[i].toNat : Int) = 63) : tri (dl s) i = none := by
 unfold tri
 rw [dl_get h, if_neg]
 rintro ⟨e, _⟩
 exact byte_ne h0 (by decide) (Option.some.inj e)
theorem tri_no1 {s : ByteArray} {i : Nat} (h : i + 1 < s.size) (h0 : ¬ (s[i + 1].toNat : Int) = 63) : tri (dl s) i = none := by
 unfold tri
 rw [dl_get (i := i + 1) h, if_neg]
 rintro ⟨_, e⟩
 exact byte_ne h0 (by decide) (Option.some.inj e)
theorem bas_none {s : ByteArray} {i : Nat} (hi : i < s.size) (ht : tri (dl s) i = none) : bas (dl s) i = (s[i], 1) := by
 unfold bas
 rw [ht]
 simp only [List.getD_eq_getElem?_getD, dl_get hi]
 rfl
theorem bas_some {s : Bs} {i : Nat} {c : UInt8} (ht : tri s i = some c) : bas s i = (c, 3) := by unfold bas; rw [ht]
theorem spl_iff {s : ByteArray} {i : Nat} {b : UInt8} {n : Nat} (hb : bas (dl s) i = (b, n)) : isSpl (dl s) i = true ↔ (b.toNat : Int) = 92 ∧ ∃ h : i + n < s.size, (s[i + n].toNat : Int) = 10 := by
 unfold isSpl
 rw [hb]
 simp only [Bool.and_eq_true, beq_iff_eq]
 constructor
 ·rintro ⟨h1, h2⟩
  refine ⟨(byte_int b 92 (by decide)).1 h1, ?_⟩
  have hl := (List.getElem?_eq_some_iff.1 h2).1
  rw [← size_dl] at hl
  rw [dl_get hl] at h2
  exact ⟨hl, (byte_int _ 10 (by decide)).1 (Option.some.inj h2)⟩
 ·rintro ⟨h1, hl, h2⟩
  exact ⟨byte_eq h1 (by decide), by rw [dl_get hl, byte_eq h2 (by decide)]; rfl⟩
abbrev ptV (p : Pt) : Value := .agg #[.int .u8 p.b.toNat, .int .i64 p.pos, .int .i64 p.len, .bool p.spl]
theorem Ph.endF (p : Pt) (w : World) (hp : p.pos + p.len ≤ 1000000000) : Calls Tryz.prog 137 #[ptV p] w fun e w' => e = .returned (.int .i64 ((p.pos + p.len : Nat) : Int)) ∧ w' = w.alloc (.cells #[.int .u8 p.b.toNat, .int .i64 p.pos, .int .i64 p.len, .bool p.spl] 175) := by
 obtain ⟨b, pos, len, spl⟩ := p
 simp only at hp ⊢
 go_enter Tryz.func137, Tryz.ntmps137
 go_wp2_with fail
 go_ret
 exact ⟨by simp, rfl⟩
end Go.Proofs.YtlboejdhmggjpaaGreat.Ww

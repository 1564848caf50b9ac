/- What shell.Escape and the reference's Escape return: the escaped text, for every text of at most 2,000 bytes. -/
import Derived.Test.YtblooekephkojaaBld
import Derived.WalkLawsBesides
import Derived.Lib.Hide
namespace Go.Proofs.Ytblooekephkojaa
open Go.RowKit

def Esc.one (c : UInt8) : List UInt8 := if c = 10 then [92, 110] else if c = 92 then [92, 92] else [c]
def Esc.esc (l : List UInt8) : List UInt8 := l.flatMap Esc.one
theorem Esc.one_len (c : UInt8) : (Esc.one c).length ≤ 2 := by unfold Esc.one; split <;> (try split) <;> simp
theorem Esc.esc_len (l : List UInt8) : (Esc.esc l).length ≤ 2 * l.length := by
  induction l with
  | nil => simp [Esc.esc]
  | cons a l ih => have := Esc.one_len a; simp [Esc.esc] at *; omega
theorem Esc.snoc (s : ByteArray) (k : Nat) (h : k < s.size) : Esc.esc (s.data.toList.take (k + 1)) = Esc.esc (s.data.toList.take k) ++ Esc.one s[k] := by
  rw [List.take_succ_eq_append_getElem (by simpa using h)]; simp [Esc.esc]; rfl

set_option maxHeartbeats 1000000 in
set_option maxRecDepth 100000 in
theorem Esc.prog (s : ByteArray) (w : World) (hs : s.size ≤ 2000) :
    Calls Try.prog 14 #[.string s] w fun e w' => e = .returned (.string ⟨(Esc.esc s.data.toList).toArray⟩) ∧ Below w.heap.size w w' := by
  go_enter Try.func14, Try.ntmps14
  go_wp2
  go_loopw [4, 7] (fun u i wr => ∃ k : Nat, k ≤ s.size ∧ i = .int .i64 k ∧ Lib.IsBuilderF 78 5 w.heap.size w.heap.size (Lib.byteCells (Esc.esc (s.data.toList.take k))) wr ∧ Below w.heap.size w wr) (fun _ i _ => s.size - (intOf i).toNat)
  case atStart => exact ⟨0, Nat.zero_le _, rfl, Lib.IsBuilderF.of (Lib.fresh_isBuilder 78 5 w), (Below.refl _ _).alloc (Nat.le_refl _) _⟩
  case round =>
    obtain ⟨k, hk, rfl, hI, hb⟩ := hrel
    have hl := Esc.esc_len (s.data.toList.take k)
    have hl2 : (s.data.toList.take k).length ≤ k := List.length_take_le _ _
    have hz := hb.size
    by_cases hlt : k < s.size
    · have hsn := Esc.snoc s k hlt
      have HS := Lib.hid hsn
      clear hsn
      by_cases h10 : s[k] = 10
      · have hc : ((s[k].toNat : Int) == 10) = true := by simp [h10]
        have hone : Lib.byteCells (Esc.one s[k]) = Lib.strCells ⟨#[92, 110]⟩ := by simp [Esc.one, h10, Lib.byteCells, Lib.strCells]
        have HO := Lib.hid hone
        clear hone
        go_wp2_with fail
        refine (Bld.writeString _ _ _ _ _ hI (by rw [Lib.byteCells_length]; show _ + 2 ≤ _; omega) (by omega)).mono ?_
        rintro e w1 ⟨rfl, h1, b1, -⟩
        go_wp2
        go_roundw
        case rel => exact ⟨k + 1, by omega, by go_num, by rw [HS.out, Lib.byteCells_append, HO.out]; exact .inr h1, hb.trans b1⟩
        case measure => simp [intOf]; omega
      · have hc : ((s[k].toNat : Int) == 10) = false := by
          rw [beq_eq_false_iff_ne]; intro e; exact h10 (UInt8.toNat_inj.1 (by simpa using Int.ofNat.inj e))
        by_cases h92 : s[k] = 92
        · have hc2 : ((s[k].toNat : Int) == 92) = true := by simp [h92]
          have hone : Lib.byteCells (Esc.one s[k]) = Lib.strCells ⟨#[92, 92]⟩ := by simp [Esc.one, h92, Lib.byteCells, Lib.strCells]
          have HO := Lib.hid hone
          clear hone
          go_wp2_with fail
          refine (Bld.writeString _ _ _ _ _ hI (by rw [Lib.byteCells_length]; show _ + 2 ≤ _; omega) (by omega)).mono ?_
          rintro e w1 ⟨rfl, h1, b1, -⟩
          go_wp2
          go_roundw
          case rel => exact ⟨k + 1, by omega, by go_num, by rw [HS.out, Lib.byteCells_append, HO.out]; exact .inr h1, hb.trans b1⟩
          case measure => simp [intOf]; omega
        · have hc2 : ((s[k].toNat : Int) == 92) = false := by
            rw [beq_eq_false_iff_ne]; intro e; exact h92 (UInt8.toNat_inj.1 (by simpa using Int.ofNat.inj e))
          have hone : Lib.byteCells (Esc.one s[k]) = [.int .u8 s[k].toNat] := by simp [Esc.one, h10, h92, Lib.byteCells]
          have HO := Lib.hid hone
          clear hone
          go_wp2_with fail
          refine (Bld.writeByte _ _ _ _ _ hI (by rw [Lib.byteCells_length]; omega) (by omega)).mono ?_
          rintro e w1 ⟨rfl, h1, b1, -⟩
          go_wp2
          go_roundw
          case rel => exact ⟨k + 1, by omega, by go_num, by rw [HS.out, Lib.byteCells_append, HO.out]; exact .inr h1, hb.trans b1⟩
          case measure => simp [intOf]; omega
    · go_wp2_with fail
      refine (Bld.string _ _ _ _ hI (by omega)).mono ?_
      rintro e w1 ⟨rfl, -, b1, -⟩
      go_wp2
      go_ret
      rw [List.take_of_length_le (by simp; omega)]
      exact ⟨rfl, hb.trans b1⟩

set_option maxHeartbeats 1000000 in
set_option maxRecDepth 100000 in
theorem Esc.ref (s : ByteArray) (w : World) (hs : s.size ≤ 2000) :
    Calls Try.prog 15 #[.string s] w fun e w' => e = .returned (.string ⟨(Esc.esc s.data.toList).toArray⟩) ∧ w' = w := by
  go_enter Try.func15, Try.ntmps15
  go_wp2
  go_loop [3, 4] (fun o i => ∃ k : Nat, k ≤ s.size ∧ i = .int .i64 k ∧ o = .string ⟨(Esc.esc (s.data.toList.take k)).toArray⟩) (fun _ i => s.size - (intOf i).toNat)
  case atStart => exact ⟨0, Nat.zero_le _, rfl, rfl⟩
  case round =>
    obtain ⟨k, hk, rfl, rfl⟩ := hrel
    have hl := Esc.esc_len (s.data.toList.take k)
    have hl2 : (s.data.toList.take k).length ≤ k := List.length_take_le _ _
    by_cases hlt : k < s.size
    · have hsn := Esc.snoc s k hlt
      have HS := Lib.hid hsn
      clear hsn
      generalize hx : Esc.esc (s.data.toList.take k) = x at *
      have HX := Lib.hid hx
      clear hx
      have hsl : ∀ w : World, (Instr.slice 9 (.string s) (some (.int .i64 k)) (some (.int .i64 (k + 1))) none).run Try.prog w = .ok (.string (s.extract k (k + 1))) w :=
        fun w => by have := run_slice_string (P := Try.prog) w 9 s .i64 .i64 k (k + 1) Try.underlying9 (by omega) (by omega) (by omega); simpa using this
      have hex : s.extract k (k + 1) = ⟨#[s[k]]⟩ := by
        apply ByteArray.ext; apply Array.ext'
        rw [Lib.extract_data, show k + 1 - k = 1 from by omega]
        rw [List.drop_eq_getElem_cons (by simpa using hlt)]; simp; rfl
      rw [hex] at hsl
      by_cases h10 : s[k] = 10
      · have hc : ((s[k].toNat : Int) == 10) = true := by simp [h10]
        have HO : Hid (Esc.one s[k] = [92, 110]) := Lib.hid (by simp [Esc.one, h10])
        go_wp2
        go_round
        case rel => exact ⟨k + 1, by omega, by go_num, by rw [HS.out, HO.out]; congr 1⟩
        case measure => simp [intOf]; omega
      · have hc : ((s[k].toNat : Int) == 10) = false := by
          rw [beq_eq_false_iff_ne]; intro e; exact h10 (UInt8.toNat_inj.1 (by simpa using Int.ofNat.inj e))
        by_cases h92 : s[k] = 92
        · have hc2 : ((s[k].toNat : Int) == 92) = true := by simp [h92]
          have HO : Hid (Esc.one s[k] = [92, 92]) := Lib.hid (by simp [Esc.one, h92])
          go_wp2
          go_round
          case rel => exact ⟨k + 1, by omega, by go_num, by rw [HS.out, HO.out]; congr 1⟩
          case measure => simp [intOf]; omega
        · have hc2 : ((s[k].toNat : Int) == 92) = false := by
            rw [beq_eq_false_iff_ne]; intro e; exact h92 (UInt8.toNat_inj.1 (by simpa using Int.ofNat.inj e))
          have HO : Hid (Esc.one s[k] = [s[k]]) := Lib.hid (by simp [Esc.one, h10, h92])
          go_wp2
          go_round
          case rel => exact ⟨k + 1, by omega, by go_num, by rw [HS.out, HO.out]; congr 1⟩
          case measure => simp [intOf]; omega
    · go_wp2
      go_ret
      rw [List.take_of_length_le (by simp; omega)]
      exact ⟨rfl, rfl⟩

set_option maxHeartbeats 1000000 in
set_option maxRecDepth 100000 in
/-- The law: true, and nothing that was there is written. -/
theorem Esc.law (s : ByteArray) (w : World) (hs : s.size ≤ maxLen) :
    Calls Try.prog 3 #[.string s] w fun e w' => e = .returned (.bool true) ∧ Below w.heap.size w w' := by
  unfold maxLen at hs
  by_cases h : 2000 < s.size
  · go_enter Try.func3, Try.ntmps3
    go_wp2
    go_ret
    exact ⟨rfl, Below.refl _ _⟩
  · have h' : ¬ (2000 : Int) < s.size := by omega
    go_enter Try.func3, Try.ntmps3
    go_wp2_with fail
    refine (Esc.prog s _ (by omega)).mono ?_
    rintro e w1 ⟨rfl, b1⟩
    go_wp2_with fail
    refine (Esc.ref s _ (by omega)).mono ?_
    rintro e w2 ⟨rfl, rfl⟩
    go_wp2
    go_ret
    exact ⟨by simp, b1⟩
end Go.Proofs.Ytblooekephkojaa

/- strings.Cut at a blank; told.number. -/
import Derived.Test.YtodjhgalbaelkaaDoorTwQ
namespace Go.Proofs.YtodjhgalbaelkaaDoor
open Go.RowKit Go.BigFrame Go.Shelf
set_option linter.unusedVariables false

def cutB : Bs → Bs × Option Bs
  | [] => ([], none)
  | c :: l => if c = 32 then ([], some l) else (c :: (cutB l).1, (cutB l).2)
theorem cutB_index : ∀ l : Bs, (Lib.indexByte l 32 = -1 ∧ cutB l = (l, none)) ∨ ∃ i : Nat, i < l.length ∧ Lib.indexByte l 32 = (i : Int) ∧ cutB l = (l.take i, some (l.drop (i + 1)))
  | [] => .inl ⟨rfl, rfl⟩
  | c :: l => by
    by_cases hc : c = 32
    · right; subst hc
      exact ⟨0, by simp, by simp [Lib.indexByte], by simp [cutB]⟩
    · rcases cutB_index l with ⟨h1, h2⟩ | ⟨i, hi, h1, h2⟩
      · left
        refine ⟨by rw [index_cons, h1]; simp [hc], by rw [cutB, if_neg hc, h2]⟩
      · right
        refine ⟨i + 1, by simp; omega, ?_, by rw [cutB, if_neg hc, h2]; rfl⟩
        rw [index_cons, h1]
        have : ((i : Int) == -1) = false := by rw [beq_eq_false_iff_ne]; omega
        simp [hc, this]
def cutV (l : Bs) : Value := .tuple #[.string (str (cutB l).1), .string (str ((cutB l).2.getD [])), .bool (cutB l).2.isSome]

set_option maxRecDepth 100000 in
theorem Td.cutLite (s : ByteArray) (w : World) (hs : s.size ≤ 140737488355328) : Calls Tryd.prog 70 #[.string s, .string ⟨#[32]⟩] w fun e w' => e = .returned (cutV (dl s)) ∧ Below w.heap.size w w' := by
  obtain ⟨V, hV⟩ : ∃ V, cutV (dl s) = V := ⟨_, rfl⟩
  rw [hV]
  unfold cutV at hV
  rcases cutB_index (dl s) with ⟨h1, h2⟩ | ⟨i, hi, h1, h2⟩
  · rw [h2] at hV
    have HV := Lib.hid hV
    have H1 := Lib.hid h1
    clear h1 h2 hV
    go_enter Tryd.func70, Tryd.ntmps70
    go_wp2_with fail
    refine (Tryd.stringslite_Index_one s 32 w).mono ?_
    rintro e w1 ⟨rfl, rfl⟩
    rw [show s.data.toList = dl s from rfl, H1.out]
    go_wp2_with fail
    go_ret3
    refine ⟨?_, Below.refl _ _⟩
    rw [← HV.out]
    simp [str, dl]
  · rw [← size_dl] at hi
    rw [h2] at hV
    have ha : (dl s).take i = (s.extract 0 i).data.toList := by rw [ext_from, str_data]
    have hb : (dl s).drop (i + 1) = (s.extract (i + 1) s.size).data.toList := by rw [ext_to, str_data]
    simp only [Option.getD_some, Option.isSome_some, ha, hb, str_of] at hV
    have HV := Lib.hid hV
    have H1 := Lib.hid h1
    clear h1 h2 hV ha hb
    go_enter Tryd.func70, Tryd.ntmps70
    go_wp2_with fail
    refine (Tryd.stringslite_Index_one s 32 w).mono ?_
    rintro e w1 ⟨rfl, rfl⟩
    rw [show s.data.toList = dl s from rfl, H1.out]
    go_wp2_with fail
    refine wp_region_quiet (C := fun w' => ∃ u : Ext w1, w' = u.w) (by kernel_rfl) (by kernel_rfl) (Ext.drew w1) ?_
    dsimp only []
    repeat (go_big_quiet_step (fail))
    refine wpQuiet_nil ?_
    rintro w' ⟨u, rfl⟩
    have HU := Lib.hid u.below
    generalize u.w = uw at *
    clear u
    go_wp2_with fail
    go_ret3
    refine ⟨?_, HU.out⟩
    rw [← HV.out]; rfl
theorem Td.cut (s : ByteArray) (w : World) (hs : s.size ≤ 140737488355328) : Calls Tryd.prog 61 #[.string s, .string ⟨#[32]⟩] w fun e w' => e = .returned (cutV (dl s)) ∧ Below w.heap.size w w' := by
  go_enter Tryd.func61, Tryd.ntmps61
  go_wp2_with fail
  refine (Td.cutLite s w hs).mono ?_
  rintro e w1 ⟨rfl, b1⟩
  unfold cutV
  go_wp2_with fail
  go_ret3
  exact ⟨rfl, b1⟩

def digs : Nat → Bs → Option Nat
  | n, [] => some n
  | n, c :: l => if c.toNat < 48 ∨ 57 < c.toNat then none else digs (10 * n + (c.toNat - 48)) l
def numB (l : Bs) : Option Nat := if l.length = 0 ∨ 5 < l.length ∨ (l.head? = some 48 ∧ 1 < l.length) then none else digs 0 l
def numV (l : Bs) : Value := .tuple #[.int .i64 ((numB l).getD 0 : Nat), .bool (numB l).isSome]
theorem digs_at (s : ByteArray) (n k : Nat) (h : k < s.size) : digs n ((dl s).drop k) = if s[k].toNat < 48 ∨ 57 < s[k].toNat then none else digs (10 * n + (s[k].toNat - 48)) ((dl s).drop (k + 1)) := by
  have h2 : k < (dl s).length := by rw [← size_dl]; exact h
  rw [List.drop_eq_getElem_cons h2]
  rfl

set_option maxRecDepth 100000 in
set_option maxHeartbeats 4000000 in
theorem Td.number (s : ByteArray) (w : World) (hs : s.size ≤ 140737488355328) : Calls Tryd.prog 62 #[.string s] w fun e w' => e = .returned (numV (dl s)) ∧ w' = w := by
  obtain ⟨V, hV⟩ : ∃ V, numV (dl s) = V := ⟨_, rfl⟩
  rw [hV]
  unfold numV at hV
  have HV := Lib.hid hV
  clear hV
  have hsz := size_dl s
  by_cases h0 : s.size = 0
  · obtain rfl := size_zero h0
    clear hsz hs h0
    go_enter Tryd.func62, Tryd.ntmps62
    go_wp2
    go_ret2
    refine ⟨?_, rfl⟩
    rw [← HV.out]; rfl
  have hne := not_isEmpty_of h0
  by_cases h5 : 5 < s.size
  · have h5' : (5 : Int) < (s.size : Int) := by omega
    have hno : numB (dl s) = none := by unfold numB; rw [if_pos (.inr (.inl (by omega)))]
    have HNO := Lib.hid hno
    clear hno hsz
    go_enter Tryd.func62, Tryd.ntmps62
    go_wp2
    go_ret2
    refine ⟨?_, rfl⟩
    rw [← HV.out, HNO.out]; rfl
  have h5' : ¬ (5 : Int) < (s.size : Int) := by omega
  have h00 : 0 < s.size := by omega
  have hhd : (dl s).head? = some s[0] := by
    have : (dl s)[0]? = some s[0] := by
      rw [List.getElem?_eq_getElem (by rw [← hsz]; exact h00)]; rfl
    rw [List.head?_eq_getElem?]; exact this
  by_cases hz : s[0].toNat = 48 ∧ 1 < s.size
  · obtain ⟨hz1, hz2⟩ := hz
    have hno : numB (dl s) = none := by
      unfold numB
      rw [if_pos (.inr (.inr ⟨by rw [hhd]; congr 1; exact UInt8.toNat_inj.1 hz1, by omega⟩))]
    have HNO := Lib.hid hno
    have hz1' : ((s[0].toNat : Int) == 48) = true := by rw [beq_iff_eq]; omega
    have hz2' : (1 : Int) < (s.size : Int) := by omega
    clear hno hsz hhd hz1
    go_enter Tryd.func62, Tryd.ntmps62
    go_wp2
    go_ret2
    refine ⟨?_, rfl⟩
    rw [← HV.out, HNO.out]; rfl
  have hyes : numB (dl s) = digs 0 (dl s) := by
    unfold numB
    rw [if_neg]
    rintro (h | h | ⟨h1, h2⟩)
    · omega
    · omega
    · rw [hhd] at h1
      exact hz ⟨by rw [Option.some.inj h1]; rfl, by omega⟩
  rw [hyes] at HV
  have HV2 := HV
  clear HV hyes hhd
  have hloop : ∀ (a : Act), True := fun _ => trivial
  clear hloop
  have hone : s[0].toNat = 48 → ¬ (1 : Int) < (s.size : Int) := fun h1 h2 => hz ⟨h1, by omega⟩
  have HSZ := Lib.hid hsz
  have HHH := Lib.hid hz
  clear hsz hz
  by_cases hz1 : s[0].toNat = 48
  · have hz1' : ((s[0].toNat : Int) == 48) = true := by rw [beq_iff_eq]; omega
    have hz2' := hone hz1
    have HZ := Lib.hid hz1
    clear hz1 hone
    go_enter Tryd.func62, Tryd.ntmps62
    go_wp2
    go_loop [4, 25] (fun s4 s25 => ∃ k n : Nat, k ≤ s.size ∧ s4 = .int .i64 n ∧ s25 = .int .i64 k ∧ digs 0 (dl s) = digs n ((dl s).drop k) ∧ n < 10 ^ k) (fun _ s25 => s.size - (intOf s25).toNat)
    case atStart => exact ⟨0, 0, by omega, rfl, rfl, rfl, by simp⟩
    case round =>
      obtain ⟨k, n, hk, rfl, rfl, hd, hn⟩ := hrel
      have HD := Lib.hid hd
      have HN := Lib.hid hn
      clear hd hn
      by_cases hlt : k < s.size
      · have hat := digs_at s n k hlt
        have hp : 10 ^ (k + 1) = 10 * 10 ^ k := by rw [Nat.pow_succ, Nat.mul_comm]
        have hn5 : n < 10000 := Nat.lt_of_lt_of_le HN.out (Nat.pow_le_pow_right (n := 10) (by omega) (show k ≤ 4 by omega))
        have HAT := Lib.hid hat
        have HP := Lib.hid hp
        clear hat hp
        by_cases c1 : s[k].toNat < 48
        · have c1' : (s[k].toNat : Int) < 48 := by omega
          have hno : digs 0 (dl s) = none := by rw [HD.out, HAT.out, if_pos (.inl c1)]
          have HNO := Lib.hid hno
          clear hno c1
          go_wp2
          go_ret2
          refine ⟨?_, rfl⟩
          rw [← HV2.out, HNO.out]; rfl
        · have c1' : ¬ (s[k].toNat : Int) < 48 := by omega
          by_cases c2 : 57 < s[k].toNat
          · have c2' : (57 : Int) < (s[k].toNat : Int) := by omega
            have hno : digs 0 (dl s) = none := by rw [HD.out, HAT.out, if_pos (.inr c2)]
            have HNO := Lib.hid hno
            clear hno c1 c2
            go_wp2
            go_ret2
            refine ⟨?_, rfl⟩
            rw [← HV2.out, HNO.out]; rfl
          · have c2' : ¬ (57 : Int) < (s[k].toNat : Int) := by omega
            have hnx : digs 0 (dl s) = digs (10 * n + (s[k].toNat - 48)) ((dl s).drop (k + 1)) := by rw [HD.out, HAT.out, if_neg (by omega)]
            have HNX := Lib.hid hnx
            have hb1 : 48 ≤ s[k].toNat := by omega
            have hb2 : s[k].toNat ≤ 57 := by omega
            clear hnx c1 c2
            go_wp2
            go_round
            case rel => exact ⟨k + 1, 10 * n + (s[k].toNat - 48), by omega, by go_num, by go_num, HNX.out, by rw [HP.out]; have := HN.out; omega⟩
            case measure => simp [intOf]; omega
      · obtain rfl : k = s.size := by omega
        have hfin : digs 0 (dl s) = some n := by rw [HD.out, List.drop_eq_nil_of_le (by rw [← HSZ.out]; exact Nat.le_refl _)]; rfl
        have HF := Lib.hid hfin
        clear hfin
        go_wp2
        go_ret2
        refine ⟨?_, rfl⟩
        rw [← HV2.out, HF.out]; rfl
  · have hz1' : ((s[0].toNat : Int) == 48) = false := by rw [beq_eq_false_iff_ne]; omega
    clear hz1 hone
    go_enter Tryd.func62, Tryd.ntmps62
    go_wp2
    go_loop [4, 25] (fun s4 s25 => ∃ k n : Nat, k ≤ s.size ∧ s4 = .int .i64 n ∧ s25 = .int .i64 k ∧ digs 0 (dl s) = digs n ((dl s).drop k) ∧ n < 10 ^ k) (fun _ s25 => s.size - (intOf s25).toNat)
    case atStart => exact ⟨0, 0, by omega, rfl, rfl, rfl, by simp⟩
    case round =>
      obtain ⟨k, n, hk, rfl, rfl, hd, hn⟩ := hrel
      have HD := Lib.hid hd
      have HN := Lib.hid hn
      clear hd hn
      by_cases hlt : k < s.size
      · have hat := digs_at s n k hlt
        have hp : 10 ^ (k + 1) = 10 * 10 ^ k := by rw [Nat.pow_succ, Nat.mul_comm]
        have hn5 : n < 10000 := Nat.lt_of_lt_of_le HN.out (Nat.pow_le_pow_right (n := 10) (by omega) (show k ≤ 4 by omega))
        have HAT := Lib.hid hat
        have HP := Lib.hid hp
        clear hat hp
        by_cases c1 : s[k].toNat < 48
        · have c1' : (s[k].toNat : Int) < 48 := by omega
          have hno : digs 0 (dl s) = none := by rw [HD.out, HAT.out, if_pos (.inl c1)]
          have HNO := Lib.hid hno
          clear hno c1
          go_wp2
          go_ret2
          refine ⟨?_, rfl⟩
          rw [← HV2.out, HNO.out]; rfl
        · have c1' : ¬ (s[k].toNat : Int) < 48 := by omega
          by_cases c2 : 57 < s[k].toNat
          · have c2' : (57 : Int) < (s[k].toNat : Int) := by omega
            have hno : digs 0 (dl s) = none := by rw [HD.out, HAT.out, if_pos (.inr c2)]
            have HNO := Lib.hid hno
            clear hno c1 c2
            go_wp2
            go_ret2
            refine ⟨?_, rfl⟩
            rw [← HV2.out, HNO.out]; rfl
          · have c2' : ¬ (57 : Int) < (s[k].toNat : Int) := by omega
            have hnx : digs 0 (dl s) = digs (10 * n + (s[k].toNat - 48)) ((dl s).drop (k + 1)) := by rw [HD.out, HAT.out, if_neg (by omega)]
            have HNX := Lib.hid hnx
            have hb1 : 48 ≤ s[k].toNat := by omega
            have hb2 : s[k].toNat ≤ 57 := by omega
            clear hnx c1 c2
            go_wp2
            go_round
            case rel => exact ⟨k + 1, 10 * n + (s[k].toNat - 48), by omega, by go_num, by go_num, HNX.out, by rw [HP.out]; have := HN.out; omega⟩
            case measure => simp [intOf]; omega
      · obtain rfl : k = s.size := by omega
        have hfin : digs 0 (dl s) = some n := by rw [HD.out, List.drop_eq_nil_of_le (by rw [← HSZ.out]; exact Nat.le_refl _)]; rfl
        have HF := Lib.hid hfin
        clear hfin
        go_wp2
        go_ret2
        refine ⟨?_, rfl⟩
        rw [← HV2.out, HF.out]; rfl
end Go.Proofs.YtodjhgalbaelkaaDoor

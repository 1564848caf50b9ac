/- phys: trigraphs, parts (the program's and the document's). -/
import Derived.Test.YtbnhefibpjldfaaGreatDoorPwA
namespace Go.Proofs.YtbnhefibpjldfaaGreatDoor
open Go.RowKit Go.BigFrame
set_option linter.unusedVariables false

abbrev thE (o : Option UInt8) : Ending := .returned (.tuple #[.int .u8 (o.getD 0).toNat, .bool o.isSome])
theorem third_int (c : UInt8) : third c = if (c.toNat : Int) = 61 then some 35 else if (c.toNat : Int) = 47 then some 92 else if (c.toNat : Int) = 39 then some 94 else if (c.toNat : Int) = 40 then some 91 else if (c.toNat : Int) = 41 then some 93 else if (c.toNat : Int) = 33 then some 124 else if (c.toNat : Int) = 60 then some 123 else if (c.toNat : Int) = 62 then some 125 else if (c.toNat : Int) = 45 then some 126 else none := by
  unfold third
  have h : ∀ n : Nat, n < 256 → (c = UInt8.ofNat n ↔ (c.toNat : Int) = n) := fun n hn => byte_int c n hn
  have h61 : c = 61 ↔ (c.toNat : Int) = 61 := h 61 (by decide)
  have h47 : c = 47 ↔ (c.toNat : Int) = 47 := h 47 (by decide)
  have h39 : c = 39 ↔ (c.toNat : Int) = 39 := h 39 (by decide)
  have h40 : c = 40 ↔ (c.toNat : Int) = 40 := h 40 (by decide)
  have h41 : c = 41 ↔ (c.toNat : Int) = 41 := h 41 (by decide)
  have h33 : c = 33 ↔ (c.toNat : Int) = 33 := h 33 (by decide)
  have h60 : c = 60 ↔ (c.toNat : Int) = 60 := h 60 (by decide)
  have h62 : c = 62 ↔ (c.toNat : Int) = 62 := h 62 (by decide)
  have h45 : c = 45 ↔ (c.toNat : Int) = 45 := h 45 (by decide)
  simp only [h61, h47, h39, h40, h41, h33, h60, h62, h45]
set_option maxRecDepth 100000 in
theorem Ph.thirdF (c : UInt8) (w : World) : Calls Tryz.prog 105 #[.int .u8 c.toNat] w fun e w' => e = thE (third c) ∧ w' = w := by
  go_enter Tryz.func105, Tryz.ntmps105
  go_wp2
  all_goals (go_ret2; refine ⟨?_, rfl⟩; rw [third_int]; simp_all [thE])
set_option maxRecDepth 100000 in
theorem Rf.thirdF (c : UInt8) (w : World) : Calls Tryz.prog 114 #[.int .u8 c.toNat] w fun e w' => e = thE (third c) ∧ w' = w := by
  go_enter Tryz.func114, Tryz.ntmps114
  go_wp2
  all_goals (go_ret2; refine ⟨?_, rfl⟩; rw [third_int]; simp_all [thE])

theorem tri_at {s : ByteArray} {i : Nat} (h : i + 3 ≤ s.size) (h0 : (s[i].toNat : Int) = 63) (h1 : (s[i + 1].toNat : Int) = 63) : tri (dl s) i = third s[i + 2] := by
  unfold tri
  rw [dl_get (by omega), dl_get (by omega), dl_get (by omega), if_pos ⟨by rw [byte_eq h0 (by decide)]; rfl, by rw [byte_eq h1 (by decide)]; rfl⟩]
  rfl
theorem tri_end {s : ByteArray} {i : Nat} (h : s.size < i + 3) : tri (dl s) i = none := by
  unfold tri
  rw [dl_none (i := i + 2) (by omega)]
  split <;> rfl
theorem tri_no0 {s : ByteArray} {i : Nat} (h : i < s.size) (h0 : ¬ (s[i].toNat : Int) = 63) : tri (dl s) i = none := by
  unfold tri
  rw [dl_get h, if_neg]
  rintro ⟨e, _⟩
  exact byte_ne h0 (by decide) (Option.some.inj e)
theorem tri_no1 {s : ByteArray} {i : Nat} (h : i + 1 < s.size) (h0 : ¬ (s[i + 1].toNat : Int) = 63) : tri (dl s) i = none := by
  unfold tri
  rw [dl_get (i := i + 1) h, if_neg]
  rintro ⟨_, e⟩
  exact byte_ne h0 (by decide) (Option.some.inj e)
/-- The call of Third. -/
theorem third_call (c : UInt8) (w : World) (o : Option UInt8) (h : third c = o) : Calls Tryz.prog 114 #[.int .u8 c.toNat] w fun e w' => e = thE o ∧ w' = w := h ▸ Rf.thirdF c w
theorem third_callP (c : UInt8) (w : World) (o : Option UInt8) (h : third c = o) : Calls Tryz.prog 105 #[.int .u8 c.toNat] w fun e w' => e = thE o ∧ w' = w := h ▸ Ph.thirdF c w
set_option maxRecDepth 100000 in
theorem Rf.triF (s : ByteArray) (i : Nat) (w : World) (hi : i < s.size) (hs : s.size ≤ 1000000000) : Calls Tryz.prog 97 #[.string s, .int .i64 i] w fun e w' => e = thE (tri (dl s) i) ∧ w' = w := by
  by_cases h3 : i + 3 ≤ s.size
  · have h3' : ¬ (s.size : Int) < (i : Int) + 3 := by omega
    by_cases h0 : (s[i].toNat : Int) = 63
    · by_cases h1 : (s[i + 1].toNat : Int) = 63
      · obtain ⟨o, ho⟩ : ∃ o, third s[i + 2] = o := ⟨_, rfl⟩
        have ht := (tri_at h3 h0 h1).trans ho
        rw [ht]
        have HO := Lib.hid ho
        clear ht ho
        go_enter Tryz.func97, Tryz.ntmps97
        go_wp2_with fail
        refine (third_call _ _ o HO.out).mono ?_
        rintro e w1 ⟨rfl, rfl⟩
        go_wp2_with fail
        go_ret2
        exact ⟨rfl, rfl⟩
      · rw [tri_no1 (by omega) h1]
        have h1' : ((s[i + 1].toNat : Int) == 63) = false := by rw [beq_eq_false_iff_ne]; exact h1
        clear h1
        go_enter Tryz.func97, Tryz.ntmps97
        go_wp2_with fail
        go_ret2
        exact ⟨rfl, rfl⟩
    · rw [tri_no0 (by omega) h0]
      have h0' : ((s[i].toNat : Int) == 63) = false := by rw [beq_eq_false_iff_ne]; exact h0
      clear h0
      go_enter Tryz.func97, Tryz.ntmps97
      go_wp2_with fail
      go_ret2
      exact ⟨rfl, rfl⟩
  · rw [tri_end (s := s) (i := i) (by omega)]
    have h3' : (s.size : Int) < (i : Int) + 3 := by omega
    go_enter Tryz.func97, Tryz.ntmps97
    go_wp2_with fail
    go_ret2
    exact ⟨rfl, rfl⟩
/-- How many bytes a splice has. -/
def splN (s : Bs) (i : Nat) : Nat := if isSpl s i then (bas s i).2 + 1 else 0
theorem tri_first {s : Bs} {i : Nat} {c : UInt8} (h : tri s i = some c) : s[i]? = some 63 ∧ i + 3 ≤ s.length := by
  unfold tri at h
  split at h
  · rename_i h1
    refine ⟨h1.1, ?_⟩
    cases h2 : s[i + 2]? with
    | none => rw [h2] at h; cases h
    | some x => have := (List.getElem?_eq_some_iff.1 h2).1; omega
  · cases h
theorem spl_plain {s : ByteArray} {i : Nat} (h : i + 1 < s.size) (h0 : (s[i].toNat : Int) = 92) (h1 : (s[i + 1].toNat : Int) = 10) : isSpl (dl s) i = true ∧ bas (dl s) i = (92, 1) := by
  have e0 := byte_eq (n := 92) h0 (by decide)
  have e1 := byte_eq (n := 10) h1 (by decide)
  have ht : tri (dl s) i = none := tri_no0 (by omega) (by omega)
  have hb : bas (dl s) i = (92, 1) := by
    unfold bas
    rw [ht]
    simp only [List.getD_eq_getElem?_getD, dl_get (show i < s.size by omega), e0]
    rfl
  refine ⟨?_, hb⟩
  unfold isSpl
  rw [hb]
  simp only [dl_get h, e1]
  rfl
theorem bas_none {s : ByteArray} {i : Nat} (hi : i < s.size) (ht : tri (dl s) i = none) : bas (dl s) i = (s[i], 1) := by
  unfold bas
  rw [ht]
  simp only [List.getD_eq_getElem?_getD, dl_get hi]
  rfl
theorem bas_some {s : Bs} {i : Nat} {c : UInt8} (ht : tri s i = some c) : bas s i = (c, 3) := by unfold bas; rw [ht]
theorem spl_iff {s : ByteArray} {i : Nat} {b : UInt8} {n : Nat} (hb : bas (dl s) i = (b, n)) : isSpl (dl s) i = true ↔ (b.toNat : Int) = 92 ∧ ∃ h : i + n < s.size, (s[i + n].toNat : Int) = 10 := by
  unfold isSpl
  rw [hb]
  simp only [Bool.and_eq_true, beq_iff_eq]
  constructor
  · rintro ⟨h1, h2⟩
    refine ⟨(byte_int b 92 (by decide)).1 h1, ?_⟩
    have hl := (List.getElem?_eq_some_iff.1 h2).1
    rw [← size_dl] at hl
    rw [dl_get hl] at h2
    exact ⟨hl, (byte_int _ 10 (by decide)).1 (Option.some.inj h2)⟩
  · rintro ⟨h1, hl, h2⟩
    exact ⟨byte_eq h1 (by decide), by rw [dl_get hl, byte_eq h2 (by decide)]; rfl⟩
theorem tri_call (s : ByteArray) (i : Nat) (w : World) (o : Option UInt8) (hi : i < s.size) (hs : s.size ≤ 1000000000) (h : tri (dl s) i = o) : Calls Tryz.prog 97 #[.string s, .int .i64 i] w fun e w' => e = thE o ∧ w' = w := h ▸ Rf.triF s i w hi hs
/-- What is asked of a place, and how many bytes a splice there has. -/
theorem splN_no {s : ByteArray} {i : Nat} (hi : i < s.size) (ht : tri (dl s) i = none) (h : ¬ ((s[i].toNat : Int) = 92 ∧ ∃ h : i + 1 < s.size, (s[i + 1].toNat : Int) = 10)) : splN (dl s) i = 0 := by
  unfold splN
  rw [if_neg]
  intro e
  exact h ((spl_iff (bas_none hi ht)).1 e)
theorem splN_yes {s : ByteArray} {i : Nat} {c : UInt8} (ht : tri (dl s) i = some c) : splN (dl s) i = if (c.toNat : Int) = 92 ∧ ∃ h : i + 3 < s.size, (s[i + 3].toNat : Int) = 10 then 4 else 0 := by
  unfold splN
  by_cases h : isSpl (dl s) i = true
  · rw [if_pos h, if_pos ((spl_iff (bas_some ht)).1 h), bas_some ht]
  · rw [if_neg h, if_neg (fun e => h ((spl_iff (bas_some ht)).2 e))]
set_option maxRecDepth 100000 in
theorem Rf.spliceF (s : ByteArray) (i : Nat) (w : World) (hi : i < s.size) (hs : s.size ≤ 1000000000) : Calls Tryz.prog 96 #[.string s, .int .i64 i] w fun e w' => e = .returned (.int .i64 (splN (dl s) i)) ∧ w' = w := by
  obtain ⟨V, hV⟩ : ∃ V, splN (dl s) i = V := ⟨_, rfl⟩
  rw [hV]
  have hA : ¬ (i : Int) + 2 ≤ s.size ∨ ((i : Int) + 2 ≤ s.size ∧ ((s[i].toNat : Int) == 92) = false) ∨ ∃ h : i + 1 < s.size, (i : Int) + 2 ≤ s.size ∧ (s[i].toNat : Int) = 92 ∧ (((s[i + 1].toNat : Int) == 10) = false ∨ (s[i + 1].toNat : Int) = 10) := by
    by_cases h1 : i + 1 < s.size
    · by_cases h2 : (s[i].toNat : Int) = 92
      · exact .inr (.inr ⟨h1, by omega, h2, by by_cases h3 : (s[i + 1].toNat : Int) = 10 <;> simp [h3]⟩)
      · exact .inr (.inl ⟨by omega, by simpa using h2⟩)
    · exact .inl (by omega)
  have hP : (∃ h : i + 1 < s.size, (i : Int) + 2 ≤ s.size ∧ (s[i].toNat : Int) = 92 ∧ (s[i + 1].toNat : Int) = 10) ∨ ¬ ((s[i].toNat : Int) = 92 ∧ ∃ h : i + 1 < s.size, (s[i + 1].toNat : Int) = 10) := by
    by_cases h : (s[i].toNat : Int) = 92 ∧ ∃ h : i + 1 < s.size, (s[i + 1].toNat : Int) = 10
    · obtain ⟨h1, h2, h3⟩ := h; exact .inl ⟨h2, by omega, h1, h3⟩
    · exact .inr h
  rcases hP with ⟨h1', h2', h0, h1⟩ | hno
  · obtain ⟨e1, e2⟩ := spl_plain h1' h0 h1
    have hv : V = 2 := by rw [← hV]; unfold splN; rw [e1, e2]; rfl
    subst hv
    clear hV e1 e2 hA
    go_enter Tryz.func96, Tryz.ntmps96
    go_wp2_with fail
    go_ret
    exact ⟨rfl, rfl⟩
  · obtain ⟨o, ho⟩ : ∃ o, tri (dl s) i = o := ⟨_, rfl⟩
    have HO := Lib.hid ho
    have hB : (o = none ∧ V = 0) ∨ ∃ c, o = some c ∧ ((((c.toNat : Int) == 92) = false ∧ V = 0) ∨ ((c.toNat : Int) = 92 ∧ ¬ (i : Int) + 4 ≤ s.size ∧ V = 0) ∨ (∃ h : i + 3 < s.size, (c.toNat : Int) = 92 ∧ (i : Int) + 4 ≤ s.size ∧ (((s[i + 3].toNat : Int) == 10) = false ∧ V = 0 ∨ (s[i + 3].toNat : Int) = 10 ∧ V = 4))) := by
      cases o with
      | none => exact .inl ⟨rfl, by rw [← hV, splN_no hi ho hno]⟩
      | some c =>
        refine .inr ⟨c, rfl, ?_⟩
        rw [splN_yes ho] at hV
        by_cases h9 : (c.toNat : Int) = 92
        · by_cases h3 : i + 3 < s.size
          · by_cases h4 : (s[i + 3].toNat : Int) = 10
            · rw [if_pos ⟨h9, h3, h4⟩] at hV
              exact .inr (.inr ⟨h3, h9, by omega, .inr ⟨h4, hV.symm⟩⟩)
            · rw [if_neg (fun e => h4 e.2.2)] at hV
              exact .inr (.inr ⟨h3, h9, by omega, .inl ⟨by simpa using h4, hV.symm⟩⟩)
          · rw [if_neg (fun e => h3 e.2.1)] at hV
            exact .inr (.inl ⟨h9, by omega, hV.symm⟩)
        · rw [if_neg (fun e => h9 e.1)] at hV
          exact .inl ⟨by simpa using h9, hV.symm⟩
    have HN := Lib.hid hno
    clear hV ho hno
    go_enter Tryz.func96, Tryz.ntmps96
    rcases hA with h | ⟨h, h2⟩ | ⟨h1, h2, h3, h4 | h4⟩
    case inr.inr.inr => exact absurd ⟨h3, h1, h4⟩ HN.out
    all_goals
      rcases hB with ⟨rfl, rfl⟩ | ⟨c, rfl, ⟨k1, rfl⟩ | ⟨k1, k2, rfl⟩ | ⟨k0, k1, k2, ⟨k3, rfl⟩ | ⟨k3, rfl⟩⟩⟩
      all_goals
        go_wp2_with (first | (go_at_call 97; refine (tri_call s i _ _ hi hs HO.out).mono ?_; rintro e w1 ⟨rfl, rfl⟩) | fail)
        all_goals (go_ret; exact ⟨rfl, rfl⟩)

/-- A part, as a value. -/
def ptL (p : Pt) : List Value := [.int .u8 p.b.toNat, .int .i64 p.pos, .int .i64 p.len, .bool p.spl]
abbrev ptV (p : Pt) : Value := .agg #[.int .u8 p.b.toNat, .int .i64 p.pos, .int .i64 p.len, .bool p.spl]
set_option maxRecDepth 100000 in
theorem Ph.endF (p : Pt) (w : World) (hp : p.pos + p.len ≤ 1000000000) : Calls Tryz.prog 87 #[ptV p] w fun e w' => e = .returned (.int .i64 ((p.pos + p.len : Nat) : Int)) ∧ w' = w.alloc (.cells #[.int .u8 p.b.toNat, .int .i64 p.pos, .int .i64 p.len, .bool p.spl] 105) := by
  obtain ⟨b, pos, len, spl⟩ := p
  simp only at hp ⊢
  go_enter Tryz.func87, Tryz.ntmps87
  go_wp2_with fail
  go_ret
  exact ⟨by simp, rfl⟩
end Go.Proofs.YtbnhefibpjldfaaGreatDoor

/- reflow: a line without the white space at its beginning. -/
import Derived.Test.YtbnhefibpjldfaaGreatDoorPzC
import Derived.Lib.SplitLaws
import Derived.Test.YtbnhefibpjldfaaGreatDoorPwA
namespace Go.Proofs.YtbnhefibpjldfaaGreatDoor
open Go.RowKit Go.BigFrame Go.Shelf
set_option linter.unusedVariables false

theorem trim_from {p : Nat → Bool} (H : ByB p white5) (s : ByteArray) : ∀ (f pos : Nat), s.size - pos ≤ f → trimW ((dl s).drop pos) = if Lib.idxFuncFrom p false s f pos = -1 then [] else (dl s).drop (Lib.idxFuncFrom p false s f pos).toNat
  | f, pos, hf => by
    have hl : (dl s).length = s.size := (size_dl s).symm
    by_cases hlt : pos < s.size
    · obtain ⟨f, rfl⟩ : ∃ g, f = g + 1 := ⟨f - 1, by omega⟩
      obtain ⟨r1, r2, r3, r4⟩ := rune_step H s pos hlt
      unfold Lib.idxFuncFrom
      rw [if_pos hlt]
      cases hw : p (Utf8.decode s pos).1
      · have hq := r4 hw pos hlt (Nat.le_refl _) (by omega)
        rw [if_pos rfl, if_neg (by omega), Int.toNat_natCast, List.drop_eq_getElem_cons (by rw [hl]; exact hlt), trimW, hq, if_neg (by decide)]
      · obtain ⟨e1, e2⟩ := r3 hw
        simp only [Bool.true_eq_false, if_false]
        rw [e1, List.drop_eq_getElem_cons (by rw [hl]; exact hlt), trimW, e2, if_pos rfl]
        exact trim_from H s f (pos + 1) (by omega)
    · rw [Lib.idxFuncFrom_end p false s f pos hlt, if_pos rfl, List.drop_of_length_le (by omega)]
      rfl
theorem trim_left {p : Nat → Bool} (H : ByB p white5) (s : ByteArray) : dl (Lib.trimLeftF p s) = trimW (dl s) := by
  have h := trim_from H s s.size 0 (by omega)
  rw [List.drop_zero] at h
  rw [h]
  unfold Lib.trimLeftF Lib.idxFunc
  split
  · rfl
  · exact dl_to _ _
theorem splF_at : ∀ (l cur : Bs), (Lib.indexByte l 10 = -1 → splF cur l = [cur ++ l]) ∧ ∀ i : Nat, Lib.indexByte l 10 = i → splF cur l = (cur ++ l.take i) :: splF [] (l.drop (i + 1))
  | [], cur => ⟨fun _ => by simp [splF], fun i h => by simp only [Lib.indexByte] at h; omega⟩
  | c :: r, cur => by
    obtain ⟨h1, h2⟩ := splF_at r (cur ++ [c])
    have hge := Lib.indexByte_ge r 10
    by_cases e : c = 10
    · subst e
      refine ⟨fun h => ?_, fun i h => ?_⟩
      · simp [Lib.indexByte] at h
      · have hi : i = 0 := by simp [Lib.indexByte] at h; omega
        subst hi
        simp [splF]
    · have e' : (c == 10) = false := by simpa using e
      refine ⟨fun h => ?_, fun i h => ?_⟩
      · have : Lib.indexByte r 10 = -1 := by
          simp only [Lib.indexByte, e', Bool.false_eq_true, if_false] at h
          split at h
          · rename_i q; simpa using q
          · omega
        rw [splF, if_neg e, h1 this, List.append_assoc]; rfl
      · simp only [Lib.indexByte, e', Bool.false_eq_true, if_false] at h
        split at h
        · omega
        · rename_i q
          have q' : Lib.indexByte r 10 ≠ -1 := by simpa using q
          obtain ⟨j, rfl⟩ : ∃ j, i = j + 1 := ⟨i - 1, by omega⟩
          rw [splF, if_neg e, h2 j (by omega), List.append_assoc]
          rfl
theorem count_at : ∀ (l : Bs) (i : Nat), Lib.indexByte l 10 = i → l.count 10 = (l.drop (i + 1)).count 10 + 1
  | [], i, h => by simp only [Lib.indexByte] at h; omega
  | c :: r, i, h => by
    have hge := Lib.indexByte_ge r 10
    by_cases e : c = 10
    · subst e
      have hi : i = 0 := by simp [Lib.indexByte] at h; omega
      subst hi
      simp
    · have e' : (c == 10) = false := by simpa using e
      simp only [Lib.indexByte, e', Bool.false_eq_true, if_false] at h
      split at h
      · omega
      · rename_i q
        have q' : Lib.indexByte r 10 ≠ -1 := by simpa using q
        obtain ⟨j, rfl⟩ : ∃ j, i = j + 1 := ⟨i - 1, by omega⟩
        rw [List.count_cons, e', List.drop_succ_cons, count_at r j (by omega)]
        simp
theorem spl_split : ∀ (k : Nat) (l : Bs), l.count 10 = k → Lib.splitK [10] 0 k l = splF [] l
  | 0, l, h => by
    have hi : Lib.indexByte l 10 = -1 := by
      have hnm : (10 : UInt8) ∉ l := List.count_eq_zero.1 h
      clear h
      induction l with
      | nil => rfl
      | cons a r ih =>
        have h1 : (a == 10) = false := by rw [beq_eq_false_iff_ne]; rintro rfl; exact hnm (by simp)
        simp only [Lib.indexByte, h1, Bool.false_eq_true, if_false]
        rw [ih (fun q => hnm (by simp [q]))]
        rfl
    rw [(splF_at l []).1 hi]; rfl
  | k + 1, l, h => by
    have hge := Lib.indexByte_ge l 10
    unfold Lib.splitK
    rw [Lib.index_one]
    by_cases hi : Lib.indexByte l 10 = -1
    · rw [hi, if_pos (by decide), (splF_at l []).1 hi]; rfl
    · obtain ⟨i, hi'⟩ : ∃ i : Nat, Lib.indexByte l 10 = i := ⟨(Lib.indexByte l 10).toNat, by omega⟩
      rw [(splF_at l []).2 i hi', if_neg (by simpa using hi), hi']
      simp only [Int.toNat_natCast, Nat.add_zero, List.nil_append, List.length_singleton]
      congr 1
      refine spl_split k _ ?_
      have := count_at l i hi'
      omega
end Go.Proofs.YtbnhefibpjldfaaGreatDoor

/- PzM -/
namespace Go.Proofs.YtbnhefibpjldfaaGreatDoor
open Go.RowKit Go.BigFrame Go.Shelf
set_option linter.unusedVariables false

theorem split_list (s : ByteArray) : (Lib.splitB ⟨#[10]⟩ 0 (Lib.countB s ⟨#[10]⟩) s) = (splF [] (dl s)).map str ∧ Lib.countB s ⟨#[10]⟩ + 1 = (splF [] (dl s)).length := by
  have h1 := Lib.splitB_data ⟨#[10]⟩ 0 (Lib.countB s ⟨#[10]⟩) s
  have h2 : Lib.countB s ⟨#[10]⟩ = (dl s).count 10 := by
    show Lib.count s.data.toList [10] = _
    rw [Lib.count_one]
  have h3 := spl_split ((dl s).count 10) (dl s) rfl
  rw [h2] at h1 ⊢
  have h4 : (Lib.splitB ⟨#[10]⟩ 0 ((dl s).count 10) s).map dl = splF [] (dl s) := by rw [← h3]; exact h1
  constructor
  · rw [← h4, List.map_map, show (str ∘ dl) = id from funext fun x => str_of x, List.map_id]
  · rw [← h4, List.length_map, Lib.splitB_all ⟨#[10]⟩ (by decide) 0 _ s h2]
theorem split_call (s : ByteArray) (w : World) (hs : s.size ≤ 1000000000) (hm : Mx w) : Calls Tryz.prog 120 #[.string s, .string ⟨#[10]⟩] w fun e w' => e = .returned (.slice (some ⟨w.heap.size, 0, none⟩) (splF [] (dl s)).length (splF [] (dl s)).length) ∧ w' = w.alloc (.cells ((splF [] (dl s)).map fun x => Value.string (str x)).toArray 9) := by
  obtain ⟨m, hm⟩ := hm
  obtain ⟨h1, h2⟩ := split_list s
  refine (Tryz.strings_Split s ⟨#[10]⟩ m w (by omega) hm (by decide)).mono ?_
  rintro e w' ⟨rfl, rfl⟩
  rw [h1, h2, List.map_map]
  exact ⟨rfl, rfl⟩
end Go.Proofs.YtbnhefibpjldfaaGreatDoor

/- PzN -/
namespace Go.Proofs.YtbnhefibpjldfaaGreatDoor
open Go.RowKit Go.BigFrame Go.Shelf
set_option linter.unusedVariables false

theorem byB5' : ByB (fun x => rune5 x) white5 where
  low := fun b h => by
    unfold rune5 white5
    rw [Bool.eq_iff_iff]
    simp only [Bool.or_eq_true, Bool.and_eq_true, decide_eq_true_eq]
    omega
  high := fun r h => by
    unfold rune5
    rw [Bool.eq_false_iff]
    simp only [ne_eq, Bool.or_eq_true, decide_eq_true_eq]
    omega
  hib := byB5.hib
theorem trimL_call (s : ByteArray) (w : World) : Calls Tryz.prog 121 #[.string s, .func (.func 122) #[] #[]] w fun e w' => e = .returned (.string (str (trimW (dl s)))) ∧ Below w.heap.size w w' := by
  rw [← trim_left byB5' s, str_of]
  exact Tryz.strings_TrimLeftFunc 122 #[] (enters_of Tryz.func122 (by kernel_rfl) rfl) (fun x => rune5 x) s w (fun W x _ => by
    refine (Re.whiteF x W).mono ?_
    rintro e w' ⟨rfl, rfl⟩
    exact ⟨rfl, 0, rfl⟩)
end Go.Proofs.YtbnhefibpjldfaaGreatDoor

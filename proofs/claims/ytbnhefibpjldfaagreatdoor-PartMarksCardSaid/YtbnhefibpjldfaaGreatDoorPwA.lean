/- Plain: where tokens stand in the text. -/
import Derived.Test.YtbnhefibpjldfaaGreatDoorPkF
import Derived.Test.YtbnhefibpjldfaaGreatDoorTal
import Derived.Lib.Bytealg
import Derived.Test.YtbnhefibpjldfaaGreatDoorProg
namespace Go.Proofs.YtbnhefibpjldfaaGreatDoor
set_option linter.unusedVariables false

def Ord (n : Nat) : Nat → List Tk → Prop
  | _, [] => True
  | b, x :: r => b ≤ x.lo ∧ x.lo < x.hi ∧ x.hi ≤ n ∧ Ord n x.hi r
theorem pt_at (s : Bs) (i : Nat) : (ptAt s i).pos = i := by unfold ptAt; split <;> rfl
theorem prts_ok (s : Bs) : ∀ (n i : Nat), s.length - i ≤ n → (prts s i).Pairwise (fun a b => a.pos + a.len ≤ b.pos) ∧ ∀ p ∈ prts s i, i ≤ p.pos ∧ 1 ≤ p.len ∧ p.pos + p.len ≤ s.length := by
  intro n
  induction n with
  | zero => intro i h; rw [prts_ge (by omega)]; exact ⟨.nil, by simp⟩
  | succ n ih =>
    intro i h
    by_cases hi : i < s.length
    · rw [prts_lt hi]
      have h1 := pt_pos s i
      have h2 := pt_le hi
      have h3 := pt_at s i
      obtain ⟨h4, h5⟩ := ih (i + (ptAt s i).len) (by omega)
      refine ⟨List.pairwise_cons.2 ⟨fun p hp => ?_, h4⟩, fun p hp => ?_⟩
      · rw [h3]; exact (h5 p hp).1
      · rcases List.mem_cons.1 hp with rfl | hp
        · omega
        · have := h5 p hp; omega
    · rw [prts_ge (by omega)]; exact ⟨.nil, by simp⟩
theorem chars_ok (s : Bs) : (chars s).Pairwise (fun a b => a.pos + a.len ≤ b.pos) ∧ ∀ p ∈ chars s, 1 ≤ p.len ∧ p.pos + p.len ≤ s.length := by
  obtain ⟨h1, h2⟩ := prts_ok s _ 0 (Nat.le_refl _)
  exact ⟨h1.filter _, fun p hp => (h2 p (List.mem_filter.1 hp).1).2⟩
theorem ord_place (s : Bs) : ∀ (l : List Tk) (b B : Nat), Lies (logic s) b l → (∀ j, b ≤ j → (h : j < (chars s).length) → B ≤ ((chars s)[j]).pos) → Ord s.length B (l.map (place (chars s)))
  | [], _, _, _, _ => trivial
  | x :: r, b, B, ⟨h1, h2, h3, _, h4⟩, hB => by
    obtain ⟨hp, ha⟩ := chars_ok s
    have hl : (logic s).length = (chars s).length := by simp [logic]
    rw [hl] at h3
    have hlo : x.lo < (chars s).length := by omega
    have hhi : x.hi - 1 < (chars s).length := by omega
    have e1 : (place (chars s) x).lo = ((chars s)[x.lo]).pos := by simp [place, List.getD, hlo]
    have e2 : (place (chars s) x).hi = ((chars s)[x.hi - 1]).pos + ((chars s)[x.hi - 1]).len := by simp [place, List.getD, hhi]
    have a1 := ha _ (List.getElem_mem hlo)
    have a2 := ha _ (List.getElem_mem hhi)
    have mono : ∀ i j (hi : i < (chars s).length) (hj : j < (chars s).length), i < j → ((chars s)[i]).pos + ((chars s)[i]).len ≤ ((chars s)[j]).pos := fun i j hi hj hij => List.pairwise_iff_getElem.1 hp i j hi hj hij
    refine ⟨by rw [e1]; exact hB _ h1 hlo, ?_, by rw [e2]; exact a2.2, ?_⟩
    · rw [e1, e2]
      by_cases e : x.lo = x.hi - 1
      · simp only [← e]; omega
      · have := mono x.lo (x.hi - 1) hlo hhi (by omega); omega
    · refine ord_place s r x.hi _ h4 fun j hj hj2 => ?_
      rw [e2]; exact mono _ _ hhi hj2 (by omega)
theorem scan_ord (s : Bs) : Ord s.length 0 (scanP s).2 := by
  unfold scanP
  split
  · trivial
  split
  · trivial
  · exact ord_place s _ 0 0 (toks_all _ (logic s) (logic s) 0 0 false 0 (Nat.le_refl _) rfl (Nat.zero_le _) (Nat.le_refl _) (by simp)).2.1 fun _ _ _ => Nat.zero_le _
theorem scan_com (s : Bs) : ∀ x ∈ (scanP s).2, (x.kind = 8 → isCom x.text) ∧ x.kind ≠ 0 ∧ x.kind ≤ 9 := by
  unfold scanP
  split
  · simp
  split
  · simp
  · intro x hx
    obtain ⟨y, hy, rfl⟩ := List.mem_map.1 hx
    exact (toks_all _ (logic s) (logic s) 0 0 false 0 (Nat.le_refl _) rfl (Nat.zero_le _) (Nat.le_refl _) (by simp)).2.2 y hy
theorem com_len {x : Bs} (h : isCom x) : 2 ≤ x.length ∧ (isBlock x = true → 4 ≤ x.length) ∧ (x[1]? = some 42 ↔ isBlock x = true) := by
  rcases h with ⟨y, rfl⟩ | ⟨y, n, rfl, hn, hl⟩
  · simp [isBlock]
  · simp [isBlock]; omega
theorem chars_len (s : Bs) : (chars s).length ≤ s.length := by
  have key : ∀ (n i : Nat), s.length - i ≤ n → (prts s i).length ≤ s.length - i := by
    intro n
    induction n with
    | zero => intro i h; rw [prts_ge (by omega)]; simp
    | succ n ih =>
      intro i h
      by_cases hi : i < s.length
      · rw [prts_lt hi]
        have h1 := pt_pos s i
        have h2 := pt_le hi
        have := ih (i + (ptAt s i).len) (by omega)
        simp; omega
      · rw [prts_ge (by omega)]; simp
  exact Nat.le_trans (List.length_filter_le _ _) (by simpa using key _ 0 (Nat.le_refl _))
end Go.Proofs.YtbnhefibpjldfaaGreatDoor

/- Pst -/
namespace Go.Proofs.YtbnhefibpjldfaaGreatDoor
set_option linter.unusedVariables false

abbrev dl (s : ByteArray) : Bs := s.data.toList
def str (l : Bs) : ByteArray := ⟨l.toArray⟩
@[simp] theorem str_data (l : Bs) : (str l).data.toList = l := by simp [str]
@[simp] theorem str_size (l : Bs) : (str l).size = l.length := by simp [str, ByteArray.size]
theorem str_of (s : ByteArray) : str s.data.toList = s := by simp [str]
theorem str_inj {a b : Bs} (h : str a = str b) : a = b := by have := congrArg (fun s => s.data.toList) h; simpa using this
theorem dl_str (l : Bs) : dl (str l) = l := by simp [dl]
theorem dl_inj {a b : ByteArray} (h : dl a = dl b) : a = b := by rw [← str_of a, ← str_of b]; exact congrArg str h
theorem ext_str (s : ByteArray) (a b : Nat) : s.extract a b = str ((s.data.toList.drop a).take (b - a)) := by
  rw [← Lib.extract_data, str_of]
theorem ext_to (s : ByteArray) (a : Nat) : s.extract a s.size = str (s.data.toList.drop a) := by
  rw [ext_str, List.take_of_length_le]
  rw [List.length_drop]; exact Nat.le_refl _
theorem ext_from (s : ByteArray) (b : Nat) : s.extract 0 b = str (s.data.toList.take b) := by
  rw [ext_str]; simp
theorem size_dl (s : ByteArray) : s.size = (dl s).length := (Array.length_toList (xs := s.data)).symm
theorem str_append (a b : Bs) : str a ++ str b = str (a ++ b) := by
  apply dl_inj
  simp [dl, str]
theorem dl_append (a b : ByteArray) : dl (a ++ b) = dl a ++ dl b := by simp [dl]
theorem size_zero {s : ByteArray} (h : s.size = 0) : s = ⟨#[]⟩ := by
  have h2 : s.data.toList = [] := List.length_eq_zero_iff.1 (by rw [← size_dl]; exact h)
  rw [← str_of s, h2]; rfl
theorem dl_at {s : ByteArray} {i : Nat} (h : i < s.size) : (dl s)[i]'(by rw [← size_dl]; exact h) = s[i] := rfl
theorem dl_get {s : ByteArray} {i : Nat} (h : i < s.size) : (dl s)[i]? = some s[i] := by
  rw [List.getElem?_eq_getElem (by rw [← size_dl]; exact h)]; rfl
theorem dl_none {s : ByteArray} {i : Nat} (h : s.size ≤ i) : (dl s)[i]? = none := List.getElem?_eq_none_iff.2 (by rw [← size_dl]; exact h)
theorem drop_at {s : ByteArray} {i : Nat} (h : i < s.size) : (dl s).drop i = s[i] :: (dl s).drop (i + 1) := by
  rw [List.drop_eq_getElem_cons (by rw [← size_dl]; exact h)]; rfl
theorem drop_end {s : ByteArray} {i : Nat} (h : s.size ≤ i) : (dl s).drop i = [] := List.drop_eq_nil_of_le (by rw [← size_dl]; exact h)
theorem drop_len (s : ByteArray) (i : Nat) : ((dl s).drop i).length = s.size - i := by rw [List.length_drop, ← size_dl]
/-- Between two places of a text. -/
def betw (l : Bs) (a b : Nat) : Bs := (l.drop a).take (b - a)
theorem betw_self (l : Bs) (a : Nat) : betw l a a = [] := by unfold betw; simp
theorem betw_succ {l : Bs} {a b : Nat} (hab : a ≤ b) (hb : b < l.length) : betw l a (b + 1) = betw l a b ++ [l[b]] := by
  unfold betw
  rw [show b + 1 - a = (b - a) + 1 by omega, List.take_succ_eq_append_getElem (by rw [List.length_drop]; omega)]
  congr 2
  rw [List.getElem_drop]
  simp only [show a + (b - a) = b by omega]
theorem betw_drop {l : Bs} {a b : Nat} (hab : a ≤ b) : l.drop a = betw l a b ++ l.drop b := by
  unfold betw
  conv => lhs; rw [← List.take_append_drop (b - a) (l.drop a)]
  rw [List.drop_drop, show a + (b - a) = b by omega]
theorem ext_betw (s : ByteArray) (a b : Nat) : s.extract a b = str (betw (dl s) a b) := ext_str s a b
theorem byte_int (c : UInt8) (n : Nat) (hn : n < 256) : c = UInt8.ofNat n ↔ (c.toNat : Int) = n := by
  constructor
  · intro h; rw [h]; simp; omega
  · intro h; apply UInt8.toNat_inj.1; simp; omega
/-- A byte of a text is n. -/
theorem byte_eq {c : UInt8} {n : Nat} (h : (c.toNat : Int) = n) (hn : n < 256) : c = UInt8.ofNat n := (byte_int c n hn).2 h
theorem byte_ne {c : UInt8} {n : Nat} (h : ¬ (c.toNat : Int) = n) (hn : n < 256) : c ≠ UInt8.ofNat n := fun e => h ((byte_int c n hn).1 e)
end Go.Proofs.YtbnhefibpjldfaaGreatDoor

/- PwA -/
namespace Go.Proofs.YtbnhefibpjldfaaGreatDoor
open Go.RowKit Go.BigFrame
set_option linter.unusedVariables false

def rune6 (r : Int) : Bool := decide (r = 32) || (decide (9 ≤ r) && decide (r ≤ 13))
def rune5 (r : Int) : Bool := decide (r = 32) || decide (r = 9) || decide (r = 11) || decide (r = 12) || decide (r = 13)
set_option maxRecDepth 100000 in
theorem Sc.whiteF (c : UInt8) (w : World) : Calls Tryz.prog 60 #[.int .u8 c.toNat] w fun e w' => e = .returned (.bool (isWhite c)) ∧ w' = w := by
  have hb := c.toNat_lt
  go_enter Tryz.func60, Tryz.ntmps60
  go_wp2
  all_goals (go_ret; refine ⟨ret_bool ?_, rfl⟩; rw [Bool.eq_iff_iff]; simp [isWhite] <;> omega)
set_option maxRecDepth 100000 in
theorem Rf.whiteF (c : UInt8) (w : World) : Calls Tryz.prog 73 #[.int .u8 c.toNat] w fun e w' => e = .returned (.bool (isWhite c)) ∧ w' = w := by
  have hb := c.toNat_lt
  go_enter Tryz.func73, Tryz.ntmps73
  go_wp2
  all_goals (go_ret; refine ⟨ret_bool ?_, rfl⟩; rw [Bool.eq_iff_iff]; simp [isWhite] <;> omega)
set_option maxRecDepth 100000 in
theorem Sc.letterF (c : UInt8) (w : World) : Calls Tryz.prog 126 #[.int .u8 c.toNat] w fun e w' => e = .returned (.bool (letter c)) ∧ w' = w := by
  have hb := c.toNat_lt
  go_enter Tryz.func126, Tryz.ntmps126
  go_wp2
  all_goals (go_ret; refine ⟨ret_bool ?_, rfl⟩; rw [Bool.eq_iff_iff]; simp [letter] <;> omega)
set_option maxRecDepth 100000 in
theorem Sc.digitF (c : UInt8) (w : World) : Calls Tryz.prog 127 #[.int .u8 c.toNat] w fun e w' => e = .returned (.bool (digit c)) ∧ w' = w := by
  have hb := c.toNat_lt
  go_enter Tryz.func127, Tryz.ntmps127
  go_wp2
  all_goals (go_ret; refine ⟨ret_bool ?_, rfl⟩; rw [Bool.eq_iff_iff]; simp [digit] <;> omega)
set_option maxRecDepth 100000 in
theorem Rf.letterF (c : UInt8) (w : World) : Calls Tryz.prog 130 #[.int .u8 c.toNat] w fun e w' => e = .returned (.bool (letter c)) ∧ w' = w := by
  have hb := c.toNat_lt
  go_enter Tryz.func130, Tryz.ntmps130
  go_wp2
  all_goals (go_ret; refine ⟨ret_bool ?_, rfl⟩; rw [Bool.eq_iff_iff]; simp [letter] <;> omega)
set_option maxRecDepth 100000 in
theorem Rf.digitF (c : UInt8) (w : World) : Calls Tryz.prog 131 #[.int .u8 c.toNat] w fun e w' => e = .returned (.bool (digit c)) ∧ w' = w := by
  have hb := c.toNat_lt
  go_enter Tryz.func131, Tryz.ntmps131
  go_wp2
  all_goals (go_ret; refine ⟨ret_bool ?_, rfl⟩; rw [Bool.eq_iff_iff]; simp [digit] <;> omega)
set_option maxRecDepth 100000 in
theorem Rf.signF (c : UInt8) (w : World) : Calls Tryz.prog 132 #[.int .u8 c.toNat] w fun e w' => e = .returned (.bool (sign c)) ∧ w' = w := by
  have hb := c.toNat_lt
  go_enter Tryz.func132, Tryz.ntmps132
  go_wp2
  all_goals (go_ret; refine ⟨ret_bool ?_, rfl⟩; rw [Bool.eq_iff_iff]; simp [sign] <;> omega)
set_option maxRecDepth 100000 in
theorem Rf.expoF (c : UInt8) (w : World) : Calls Tryz.prog 133 #[.int .u8 c.toNat] w fun e w' => e = .returned (.bool (expo c)) ∧ w' = w := by
  have hb := c.toNat_lt
  go_enter Tryz.func133, Tryz.ntmps133
  go_wp2
  all_goals (go_ret; refine ⟨ret_bool ?_, rfl⟩; rw [Bool.eq_iff_iff]; simp [expo] <;> omega)
set_option maxRecDepth 100000 in
theorem Rf.white5F (c : UInt8) (w : World) : Calls Tryz.prog 85 #[.int .u8 c.toNat] w fun e w' => e = .returned (.bool (white5 c)) ∧ w' = w := by
  have hb := c.toNat_lt
  go_enter Tryz.func85, Tryz.ntmps85
  go_wp2
  all_goals (go_ret; refine ⟨ret_bool ?_, rfl⟩; rw [Bool.eq_iff_iff]; simp [white5] <;> omega)
set_option maxRecDepth 100000 in
theorem Pa.mark1F (r : Int) (w : World) : Calls Tryz.prog 67 #[.int .i32 r] w fun e w' => e = .returned (.bool (rune6 r)) ∧ w' = w := by
  go_enter Tryz.func67, Tryz.ntmps67
  go_wp2
  all_goals (go_ret; refine ⟨ret_bool ?_, rfl⟩; rw [Bool.eq_iff_iff]; simp [rune6] <;> omega)
set_option maxRecDepth 100000 in
theorem Pa.words1F (r : Int) (w : World) : Calls Tryz.prog 80 #[.int .i32 r] w fun e w' => e = .returned (.bool (rune5 r)) ∧ w' = w := by
  go_enter Tryz.func80, Tryz.ntmps80
  go_wp2
  all_goals (go_ret; refine ⟨ret_bool ?_, rfl⟩; rw [Bool.eq_iff_iff]; simp [rune5] <;> omega)
set_option maxRecDepth 100000 in
theorem Re.whiteF (r : Int) (w : World) : Calls Tryz.prog 122 #[.int .i32 r] w fun e w' => e = .returned (.bool (rune5 r)) ∧ w' = w := by
  go_enter Tryz.func122, Tryz.ntmps122
  go_wp2
  all_goals (go_ret; refine ⟨ret_bool ?_, rfl⟩; rw [Bool.eq_iff_iff]; simp [rune5] <;> omega)
end Go.Proofs.YtbnhefibpjldfaaGreatDoor

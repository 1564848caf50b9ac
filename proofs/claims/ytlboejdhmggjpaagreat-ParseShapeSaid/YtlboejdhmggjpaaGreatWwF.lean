/- scan: headers, punctuators. -/
import Derived.Test.YtlboejdhmggjpaaGreatWwD
import Derived.Test.YtlboejdhmggjpaaGreatWsA
import Derived.Laws.DeepStrings4
set_option linter.all false
namespace Go.Proofs.YtlboejdhmggjpaaGreat.Ww
set_option maxRecDepth 100000
set_option maxHeartbeats 16000000
open Go.Proofs.YtlboejdhmggjpaaGreat
open Go.RowKit Go.BigFrame

theorem hRun_at {q : UInt8} {s : ByteArray} {j : Nat} (h : j < s.size) : hRun q ((dl s).drop j) = if s[j] = 10 then 0 else if s[j] = q then 1 else if hRun q ((dl s).drop (j + 1)) = 0 then 0 else hRun q ((dl s).drop (j + 1)) + 1 := by rw [drop_at h]; rfl
theorem hRun_end {q : UInt8} {s : ByteArray} {j : Nat} (h : s.size ≤ j) : hRun q ((dl s).drop j) = 0 := by rw [drop_end h]; rfl
theorem hLen_cases {s : ByteArray} {i : Nat} (hi : i < s.size) :
  ((s[i].toNat : Int) = 60 ∧ hLen ((dl s).drop i) = if hRun 62 ((dl s).drop (i + 1)) = 0 then 0 else hRun 62 ((dl s).drop (i + 1)) + 1) ∨
  (((s[i].toNat : Int) == 60) = false ∧ (s[i].toNat : Int) = 34 ∧ hLen ((dl s).drop i) = if hRun 34 ((dl s).drop (i + 1)) = 0 then 0 else hRun 34 ((dl s).drop (i + 1)) + 1) ∨
  (((s[i].toNat : Int) == 60) = false ∧ ((s[i].toNat : Int) == 34) = false ∧ hLen ((dl s).drop i) = 0) := by
 rw [drop_at hi]
 by_cases h1 : (s[i].toNat : Int) = 60
 ·refine .inl ⟨h1, ?_⟩
  have e := byte_eq (n := 60) h1 (by decide)
  rw [hLen, if_pos (by rw [e]; rfl)]
 ·have e := byte_ne (n := 60) h1 (by decide)
  by_cases h2 : (s[i].toNat : Int) = 34
  ·refine .inr (.inl ⟨by simpa using h1, h2, ?_⟩)
   have e2 := byte_eq (n := 34) h2 (by decide)
   rw [hLen, if_neg (by simpa using e), if_pos (by rw [e2]; rfl)]
  ·have e2 := byte_ne (n := 34) h2 (by decide)
   exact .inr (.inr ⟨by simpa using h1, by simpa using h2, by rw [hLen, if_neg (by simpa using e), if_neg (by simpa using e2)]⟩)
theorem Sc.headerEnd (s : ByteArray) (i : Nat) (w : World) (hi : i < s.size) (hs : s.size ≤ 1000000000) : Calls Tryz.prog 140 #[.string s, .int .i64 i] w fun e w' => e = .returned (.int .i64 (endAt i (hLen ((dl s).drop i)))) ∧ w' = w := by
 have hi' : (i : Int) < s.size := by omega
 obtain ⟨V, hV⟩ : ∃ V, hLen ((dl s).drop i) = V := ⟨_, rfl⟩
 have hc := hLen_cases hi
 rw [hV] at hc ⊢
 clear hV
 rcases hc with ⟨h1, hv⟩ | ⟨h1, h2, hv⟩ | ⟨h1, h2, rfl⟩
 ·have HV := Lib.hid hv
  clear hv
  go_enter Tryz.func140, Tryz.ntmps140
  go_wp2_with fail
  go_loopw [6] (fun s6 wr => ∃ j : Nat, i + 1 ≤ j ∧ j ≤ s.size ∧ s6 = .int .i64 j ∧ wr = w ∧ hRun 62 ((dl s).drop (i + 1)) = if hRun 62 ((dl s).drop j) = 0 then 0 else j - (i + 1) + hRun 62 ((dl s).drop j)) (fun s6 _ => s.size - (intOf s6).toNat)
  case atStart => exact ⟨i + 1, by omega, by omega, by go_num, by trivial, by split <;> omega⟩
  case round =>
   obtain ⟨j, g1, g2, rfl, rfl, g3⟩ := hrel
   by_cases hlt : j < s.size
   ·have hlt' : (j : Int) < s.size := by omega
    rw [hRun_at hlt] at g3
    have hc : ((s[j].toNat : Int) = 10 ∧ s[j] = 10) ∨ (((s[j].toNat : Int) == 10) = false ∧ (s[j].toNat : Int) = 62 ∧ s[j] ≠ 10 ∧ s[j] = 62) ∨ (((s[j].toNat : Int) == 10) = false ∧ ((s[j].toNat : Int) == 62) = false ∧ s[j] ≠ 10 ∧ s[j] ≠ 62) := by
     by_cases a : (s[j].toNat : Int) = 10
     ·exact .inl ⟨a, byte_eq (n := 10) a (by decide)⟩
     ·by_cases b : (s[j].toNat : Int) = 62
      ·exact .inr (.inl ⟨by simpa using a, b, byte_ne (n := 10) a (by decide), byte_eq (n := 62) b (by decide)⟩)
      ·exact .inr (.inr ⟨by simpa using a, by simpa using b, byte_ne (n := 10) a (by decide), byte_ne (n := 62) b (by decide)⟩)
    rcases hc with ⟨a, e⟩ | ⟨a, b, e, e2⟩ | ⟨a, b, e, e2⟩
    ·rw [if_pos e] at g3
     have G3 := Lib.hid g3
     clear g3 e
     go_wp2_with fail
     go_ret
     refine ⟨?_, rfl⟩
     have h3 := G3.out
     simp only [if_true] at h3
     rw [HV.out, h3]
     rfl
    ·rw [if_neg e, if_pos e2] at g3
     have G3 := Lib.hid g3
     clear g3 e e2
     go_wp2_with fail
     go_ret
     refine ⟨?_, rfl⟩
     have h3 := G3.out
     rw [if_neg (by omega)] at h3
     rw [HV.out, h3, if_neg (by omega)]
     unfold endAt
     rw [if_neg (by omega)]
     simp
     omega
    ·rw [if_neg e, if_neg e2] at g3
     have G3 := Lib.hid g3
     clear g3 e e2
     go_wp2_with fail
     go_roundw
     case rel =>
      refine ⟨j + 1, by omega, by omega, by go_num, by trivial, ?_⟩
      have h3 := G3.out
      rw [h3]
      by_cases hz : hRun 62 ((dl s).drop (j + 1)) = 0
      ·simp [hz]
      ·rw [if_neg hz, if_neg (by omega), if_neg hz]; omega
     case measure => simp [intOf]; omega
   ·obtain rfl : j = s.size := by omega
    rw [hRun_end (Nat.le_refl _)] at g3
    have G3 := Lib.hid g3
    clear g3
    have hlt' : ¬ ((s.size : Int) < s.size) := by omega
    go_wp2_with fail
    go_ret
    refine ⟨?_, rfl⟩
    have h3 := G3.out
    simp only [if_true] at h3
    rw [HV.out, h3]
    rfl
 ·have HV := Lib.hid hv
  clear hv
  go_enter Tryz.func140, Tryz.ntmps140
  go_wp2_with fail
  go_loopw [6] (fun s6 wr => ∃ j : Nat, i + 1 ≤ j ∧ j ≤ s.size ∧ s6 = .int .i64 j ∧ wr = w ∧ hRun 34 ((dl s).drop (i + 1)) = if hRun 34 ((dl s).drop j) = 0 then 0 else j - (i + 1) + hRun 34 ((dl s).drop j)) (fun s6 _ => s.size - (intOf s6).toNat)
  case atStart => exact ⟨i + 1, by omega, by omega, by go_num, by trivial, by split <;> omega⟩
  case round =>
   obtain ⟨j, g1, g2, rfl, rfl, g3⟩ := hrel
   by_cases hlt : j < s.size
   ·have hlt' : (j : Int) < s.size := by omega
    rw [hRun_at hlt] at g3
    have hc : ((s[j].toNat : Int) = 10 ∧ s[j] = 10) ∨ (((s[j].toNat : Int) == 10) = false ∧ (s[j].toNat : Int) = 34 ∧ s[j] ≠ 10 ∧ s[j] = 34) ∨ (((s[j].toNat : Int) == 10) = false ∧ ((s[j].toNat : Int) == 34) = false ∧ s[j] ≠ 10 ∧ s[j] ≠ 34) := by
     by_cases a : (s[j].toNat : Int) = 10
     ·exact .inl ⟨a, byte_eq (n := 10) a (by decide)⟩
     ·by_cases b : (s[j].toNat : Int) = 34
      ·exact .inr (.inl ⟨by simpa using a, b, byte_ne (n := 10) a (by decide), byte_eq (n := 34) b (by decide)⟩)
      ·exact .inr (.inr ⟨by simpa using a, by simpa using b, byte_ne (n := 10) a (by decide), byte_ne (n := 34) b (by decide)⟩)
    rcases hc with ⟨a, e⟩ | ⟨a, b, e, e2⟩ | ⟨a, b, e, e2⟩
    ·rw [if_pos e] at g3
     have G3 := Lib.hid g3
     clear g3 e
     go_wp2_with fail
     go_ret
     refine ⟨?_, rfl⟩
     have h3 := G3.out
     simp only [if_true] at h3
     rw [HV.out, h3]
     rfl
    ·rw [if_neg e, if_pos e2] at g3
     have G3 := Lib.hid g3
     clear g3 e e2
     go_wp2_with fail
     go_ret
     refine ⟨?_, rfl⟩
     have h3 := G3.out
     rw [if_neg (by omega)] at h3
     rw [HV.out, h3, if_neg (by omega)]
     unfold endAt
     rw [if_neg (by omega)]
     simp
     omega
    ·rw [if_neg e, if_neg e2] at g3
     have G3 := Lib.hid g3
     clear g3 e e2
     go_wp2_with fail
     go_roundw
     case rel =>
      refine ⟨j + 1, by omega, by omega, by go_num, by trivial, ?_⟩
      have h3 := G3.out
      rw [h3]
      by_cases hz : hRun 34 ((dl s).drop (j + 1)) = 0
      ·simp [hz]
      ·rw [if_neg hz, if_neg (by omega), if_neg hz]; omega
     case measure => simp [intOf]; omega
   ·obtain rfl : j = s.size := by omega
    rw [hRun_end (Nat.le_refl _)] at g3
    have G3 := Lib.hid g3
    clear g3
    have hlt' : ¬ ((s.size : Int) < s.size) := by omega
    go_wp2_with fail
    go_ret
    refine ⟨?_, rfl⟩
    have h3 := G3.out
    simp only [if_true] at h3
    rw [HV.out, h3]
    rfl
 ·go_enter Tryz.func140, Tryz.ntmps140
  go_wp2_with fail
  go_ret
  exact ⟨by rfl, rfl⟩
theorem toList_dl (s : ByteArray) : s.toList = dl s := ByteArray.toList_eq s
theorem contains_iff (t : Bs) : puncts.contains t = true ↔ t ∈ puncts := by simp
theorem punct_yes {s : ByteArray} {L : Bs} (h : (s.toList == L) = true) (hL : puncts.contains L = true) : true = puncts.contains (dl s) := by
 rw [toList_dl, beq_iff_eq] at h
 rw [h, hL]
theorem punct_no {s : ByteArray} (h : ∀ L ∈ puncts, (s.toList == L) = false) : false = puncts.contains (dl s) := by
 rw [eq_comm, Bool.eq_false_iff]
 intro hc
 have := h _ (contains_iff _ |>.1 hc)
 rw [toList_dl] at this
 simp at this
theorem Sc.punct (s : ByteArray) (w : World) : Calls Tryz.prog 190 #[.string s] w fun e w' => e = .returned (.bool (puncts.contains (dl s))) ∧ w' = w := by
 go_enter Tryz.func190, Tryz.ntmps190
 go_wp2_with fail
 all_goals (go_ret; refine ⟨ret_bool ?_, rfl⟩; first | (rename_i h; exact punct_yes h (by rfl)) | (rename_i h1 h2; rw [h1] at h2; cases h2; done) | skip)
 refine punct_no fun L hL => ?_
 simp only [puncts, List.mem_cons, List.mem_nil_iff, or_false] at hL
 repeat (rcases hL with rfl | hL; · assumption)
theorem punct_call (s : ByteArray) (w : World) (b : Bool) (h : puncts.contains (dl s) = b) : Calls Tryz.prog 190 #[.string s] w fun e w' => e = .returned (.bool b) ∧ w' = w := h ▸ Sc.punct s w
theorem ext_dl (s : ByteArray) (i n : Nat) : dl (s.extract i (i + n)) = ((dl s).drop i).take n := by
 rw [ext_str, dl_str, show i + n - i = n by omega]
theorem Sc.punctEnd (s : ByteArray) (i : Nat) (w : World) (hi : i < s.size) (hs : s.size ≤ 1000000000) : Calls Tryz.prog 174 #[.string s, .int .i64 i] w fun e w' => e = .returned (.int .i64 (endAt i (pLen ((dl s).drop i)))) ∧ w' = w := by
 obtain ⟨V, hV⟩ : ∃ V, pLen ((dl s).drop i) = V := ⟨_, rfl⟩
 rw [hV]
 have hm : pDown ((dl s).drop i) (min 4 (s.size - i)) = V := by rw [← hV, pLen, drop_len]
 obtain ⟨M, hM⟩ : ∃ M, min 4 (s.size - i) = M := ⟨_, rfl⟩
 rw [hM] at hm
 have hM1 : M ≤ 4 ∧ i + M ≤ s.size ∧ 0 < M := by omega
 have hmin : min (4 : Int) ((s.size : Int) - (i : Int)) = (M : Int) := by omega
 have HM := Lib.hid hm
 have h0 : 0 ≤ (s.size : Int) - (i : Int) := by omega
 clear hV hm hM
 go_enter Tryz.func174, Tryz.ntmps174
 go_wp2_with fail
 go_loopw [5] (fun s5 wr => ∃ n : Nat, n ≤ M ∧ s5 = .int .i64 n ∧ wr = w ∧ pDown ((dl s).drop i) n = V) (fun s5 _ => (intOf s5).toNat)
 case atStart => exact ⟨M, Nat.le_refl _, by congr 1, by trivial, HM.out⟩
 case round =>
  obtain ⟨n, g1, rfl, rfl, g3⟩ := hrel
  clear hmin HM
  cases n with
  | zero =>
   have G3 := Lib.hid g3
   clear g3
   go_wp2_with fail
   go_ret
   refine ⟨?_, rfl⟩
   rw [← G3.out]
   rfl
  | succ n =>
   have hex : dl (s.extract i (i + (n + 1))) = ((dl s).drop i).take (n + 1) := ext_dl s i (n + 1)
   have hn1 : (0 : Int) < ((n + 1 : Nat) : Int) := by omega
   have hn2 : (i : Int) + ((n + 1 : Nat) : Int) ≤ s.size := by omega
   rw [pDown] at g3
   rcases Bool.eq_false_or_eq_true (puncts.contains (((dl s).drop i).take (n + 1))) with hp | hp
   ·rw [if_pos hp] at g3
    rw [← hex] at hp
    have HP := Lib.hid hp
    have G3 := Lib.hid g3
    clear g3 hp hex
    go_wp2_with (first | (go_at_call 190; refine (punct_call _ _ true HP.out).mono ?_; rintro e w1 ⟨rfl, rfl⟩) | fail)
    go_ret
    refine ⟨?_, rfl⟩
    rw [← G3.out]
    unfold endAt
    rw [if_neg (by omega)]
    simp
   ·rw [if_neg (by rw [hp]; decide)] at g3
    rw [← hex] at hp
    have HP := Lib.hid hp
    have G3 := Lib.hid g3
    clear g3 hp hex
    go_wp2_with (first | (go_at_call 190; refine (punct_call _ _ false HP.out).mono ?_; rintro e w1 ⟨rfl, rfl⟩) | fail)
    go_roundw
    case rel => exact ⟨n, by omega, by go_num, by trivial, G3.out⟩
    case measure => simp [intOf]
end Go.Proofs.YtlboejdhmggjpaaGreat.Ww

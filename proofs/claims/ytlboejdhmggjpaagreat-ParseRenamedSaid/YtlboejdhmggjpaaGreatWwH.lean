/- scan: literals. -/
import Derived.Test.YtlboejdhmggjpaaGreatWwF
import Derived.Deep.DeepCutAuto
import Derived.Deep.CutBlock
import Derived.BigQuiet
set_option linter.all false
namespace Go.Proofs.YtlboejdhmggjpaaGreat.Ww
set_option maxRecDepth 100000
set_option maxHeartbeats 16000000
open Go.Proofs.YtlboejdhmggjpaaGreat
open Go.RowKit Go.BigFrame

theorem hasPrefix_call (s p : ByteArray) (w : World) (b : Bool) (h : Lib.hasPrefix (dl s) (dl p) = b) : Calls Tryz.prog 141 #[.string s, .string p] w fun e w' => e = .returned (.bool b) ∧ w' = w := h ▸ Tryz.strings_HasPrefix s p w
theorem dl_to (s : ByteArray) (i : Nat) : dl (s.extract i s.size) = (dl s).drop i := by rw [ext_to, dl_str]
theorem hasPrefix_take (t p : Bs) : Lib.hasPrefix t p = decide (t.take p.length = p) := by
 unfold Lib.hasPrefix
 rw [Bool.eq_iff_iff, List.isPrefixOf_iff_prefix, decide_eq_true_eq, List.prefix_iff_eq_take]
 exact ⟨fun h => h.symm, fun h => h.symm⟩
def qRes (q : UInt8) (p : Nat) (o : Option Nat) : Nat × Nat := match o with | none => (0, 0) | some m => if q = 34 then (4, p + 1 + m) else if 1 < m then (3, p + 1 + m) else (0, 0)
theorem qLen_of {t : Bs} {p : Nat} (h : qPre t = p) : qLen t = match t.drop p with | [] => (0, 0) | q :: r => if q = 39 ∨ q = 34 then qRes q p (qRun q r) else (0, 0) := by
 subst h
 rfl
theorem qRun_two {q : UInt8} {s : ByteArray} {j : Nat} (h : j + 1 < s.size) : qRun q ((dl s).drop j) = if s[j] = 10 then none else if s[j] = q then some 1 else if s[j] = 92 then (if s[j + 1] = 10 then none else (qRun q ((dl s).drop (j + 2))).map (· + 2)) else (qRun q ((dl s).drop (j + 1))).map (· + 1) := by
 rw [drop_at (show j < s.size by omega), drop_at h, qRun]
theorem qRun_one {q : UInt8} {s : ByteArray} {j : Nat} (h : j + 1 = s.size) : qRun q ((dl s).drop j) = if s[j] = 10 then none else if s[j] = q then some 1 else none := by
 rw [drop_at (show j < s.size by omega), drop_end (show s.size ≤ j + 1 by omega), qRun]
theorem qRun_end {q : UInt8} {s : ByteArray} {j : Nat} (h : s.size ≤ j) : qRun q ((dl s).drop j) = none := by rw [drop_end h]; rfl
inductive QAt (q : UInt8) (s : ByteArray) (j : Nat) (h : j < s.size) : Prop
 | nl (a : (s[j].toNat : Int) = 10) (e : qRun q ((dl s).drop j) = none)
 | quote (a1 : ((s[j].toNat : Int) == 10) = false) (a : (s[j].toNat : Int) = q.toNat) (e : qRun q ((dl s).drop j) = some 1)
 | esc (a : (s[j].toNat : Int) = 92) (k : j + 1 < s.size) (k1 : (j : Int) + 1 < s.size) (b : ((s[j + 1].toNat : Int) == 10) = false) (e : qRun q ((dl s).drop j) = (qRun q ((dl s).drop (j + 2))).map (· + 2))
 | bad (a : (s[j].toNat : Int) = 92) (b : ¬ (j : Int) + 1 < s.size ∨ ∃ k : j + 1 < s.size, (j : Int) + 1 < s.size ∧ (s[j + 1].toNat : Int) = 10) (e : qRun q ((dl s).drop j) = none)
 | other (a1 : ((s[j].toNat : Int) == 10) = false) (a2 : ((s[j].toNat : Int) == q.toNat) = false) (a3 : ((s[j].toNat : Int) == 92) = false) (e : qRun q ((dl s).drop j) = (qRun q ((dl s).drop (j + 1))).map (· + 1))
theorem qAt {q : UInt8} (hq : q = 39 ∨ q = 34) {s : ByteArray} {j : Nat} (h : j < s.size) : QAt q s j h := by
 by_cases a : (s[j].toNat : Int) = 10
 ·have e : s[j] = 10 := byte_eq (n := 10) a (by decide)
  refine .nl a ?_
  by_cases k : j + 1 < s.size
  ·rw [qRun_two k, if_pos e]
  ·rw [qRun_one (by omega), if_pos e]
 ·have e : ¬ s[j] = 10 := byte_ne (n := 10) a (by decide)
  have a' : ((s[j].toNat : Int) == 10) = false := by simpa using a
  by_cases b : s[j] = q
  ·refine .quote a' (by rw [b]) ?_
   by_cases k : j + 1 < s.size
   ·rw [qRun_two k, if_neg e, if_pos b]
   ·rw [qRun_one (by omega), if_neg e, if_pos b]
  ·have b' : ((s[j].toNat : Int) == q.toNat) = false := by
    rw [beq_eq_false_iff_ne]
    intro hh
    exact b (UInt8.toNat_inj.1 (by omega))
   by_cases c : (s[j].toNat : Int) = 92
   ·have ec : s[j] = 92 := byte_eq (n := 92) c (by decide)
    by_cases k : j + 1 < s.size
    ·by_cases d : (s[j + 1].toNat : Int) = 10
     ·have ed : s[j + 1] = 10 := byte_eq (n := 10) d (by decide)
      refine .bad c (.inr ⟨k, by omega, d⟩) ?_
      rw [qRun_two k, if_neg e, if_neg b, if_pos (show s[j] = 92 from ec), if_pos ed]
     ·have ed : ¬ s[j + 1] = 10 := byte_ne (n := 10) d (by decide)
      refine .esc c k (by omega) (by simpa using d) ?_
      rw [qRun_two k, if_neg e, if_neg b, if_pos (show s[j] = 92 from ec), if_neg ed]
    ·refine .bad c (.inl (by omega)) ?_
     rw [qRun_one (by omega), if_neg e, if_neg b]
   ·have ec : ¬ s[j] = 92 := byte_ne (n := 92) c (by decide)
    refine .other a' b' (by simpa using c) ?_
    by_cases k : j + 1 < s.size
    ·rw [qRun_two k, if_neg e, if_neg b, if_neg (show ¬ s[j] = 92 from ec)]
    ·rw [qRun_one (by omega), if_neg e, if_neg b, qRun_end (by omega)]
     rfl
theorem qPre_of {s : ByteArray} {i : Nat} (hi : i < s.size) {b : Bool} (hb : Lib.hasPrefix (dl (s.extract i s.size)) [117, 56, 34] = b) :
  (b = true ∧ qPre ((dl s).drop i) = 2 ∧ ∃ h : i + 2 < s.size, s[i + 2] = 34) ∨
  (b = false ∧ ((qPre ((dl s).drop i) = 1 ∧ ((s[i].toNat : Int) = 117 ∨ (s[i].toNat : Int) = 85 ∨ (s[i].toNat : Int) = 76)) ∨
   (qPre ((dl s).drop i) = 0 ∧ ((s[i].toNat : Int) == 117) = false ∧ ((s[i].toNat : Int) == 85) = false ∧ ((s[i].toNat : Int) == 76) = false))) := by
 rw [dl_to, hasPrefix_take] at hb
 simp only [List.length_cons, List.length_nil, Nat.reduceAdd] at hb
 cases b
 ·refine .inr ⟨rfl, ?_⟩
  have h3 := of_decide_eq_false hb
  unfold qPre
  rw [if_neg h3, drop_at hi]
  simp only [List.head?_cons, Option.some.injEq]
  by_cases a : (s[i].toNat : Int) = 117
  ·exact .inl ⟨if_pos (.inl (byte_eq (n := 117) a (by decide))), .inl a⟩
  by_cases b : (s[i].toNat : Int) = 85
  ·exact .inl ⟨if_pos (.inr (.inl (byte_eq (n := 85) b (by decide)))), .inr (.inl b)⟩
  by_cases c : (s[i].toNat : Int) = 76
  ·exact .inl ⟨if_pos (.inr (.inr (byte_eq (n := 76) c (by decide)))), .inr (.inr c)⟩
  refine .inr ⟨if_neg ?_, by simpa using a, by simpa using b, by simpa using c⟩
  rintro (h | h | h)
  ·exact byte_ne (n := 117) a (by decide) h
  ·exact byte_ne (n := 85) b (by decide) h
  ·exact byte_ne (n := 76) c (by decide) h
 ·have h3 := of_decide_eq_true hb
  refine .inl ⟨rfl, by unfold qPre; rw [if_pos h3], ?_⟩
  have hl : 3 ≤ ((dl s).drop i).length := by
   have := congrArg List.length h3
   rw [List.length_take] at this
   simp at this
   simp; omega
  rw [drop_len] at hl
  refine ⟨by omega, ?_⟩
  rw [drop_at (by omega), drop_at (show i + 1 < s.size by omega), drop_at (show i + 1 + 1 < s.size by omega)] at h3
  simp at h3
  exact h3.2.2
theorem Sc.quoted (s : ByteArray) (i : Nat) (w : World) (hi : i < s.size) (hs : s.size ≤ 1000000000) : Calls Tryz.prog 171 #[.string s, .int .i64 i] w fun e w' => e = .returned (.tuple #[.int .i64 (qLen ((dl s).drop i)).1, .int .i64 (endAt i (qLen ((dl s).drop i)).2)]) ∧ Below w.heap.size w w' := by
 have hi' : (i : Int) < s.size := by omega
 obtain ⟨b, hb⟩ : ∃ b, Lib.hasPrefix (dl (s.extract i s.size)) [117, 56, 34] = b := ⟨_, rfl⟩
 have hp := qPre_of hi hb
 obtain ⟨p, hP⟩ : ∃ p, qPre ((dl s).drop i) = p := ⟨_, rfl⟩
 have hq := qLen_of hP
 rw [hP] at hp
 have hpl : i + p ≤ s.size := by
  rcases hp with ⟨-, rfl, h, -⟩ | ⟨-, ⟨rfl, -⟩ | ⟨rfl, -⟩⟩ <;> omega
 obtain ⟨R, hR⟩ : ∃ R, qLen ((dl s).drop i) = R := ⟨_, rfl⟩
 rw [hR] at hq ⊢
 rw [List.drop_drop] at hq
 have HB := Lib.hid hb
 have HP := Lib.hid hp
 have HQ := Lib.hid hq
 clear hb hp hq hP hR
 go_enter Tryz.func171, Tryz.ntmps171
 go_upto_block 0 with fail
 go_cut [6] (fun s6 wx => s6 = .int .i64 ((i + p : Nat) : Int) ∧ wx = w)
 case first =>
  rcases HP.out with ⟨rfl, rfl, -⟩ | ⟨rfl, ⟨rfl, a | a | a⟩ | ⟨rfl, a1, a2, a3⟩⟩
  all_goals
   go_wp2_with (first | (go_at_call 141; refine (hasPrefix_call _ _ _ _ HB.out).mono ?_; rintro e w1 ⟨rfl, rfl⟩) | fail)
   go_meet
   exact ⟨by go_num, rfl⟩
 case rest =>
  obtain ⟨rfl, rfl⟩ := hcut
  obtain ⟨m, hm⟩ : ∃ m, i + p = m := ⟨_, rfl⟩
  have hq := HQ.out
  rw [hm] at hq hpl ⊢
  clear HB HP HQ
  by_cases hend : m = s.size
  ·rw [hend, drop_end (Nat.le_refl _)] at hq
   simp only at hq
   subst hend
   have HQ := Lib.hid hq
   clear hq
   go_wp2_with fail
   go_ret2
   refine ⟨?_, Below.refl _ _⟩
   rw [HQ.out]
   rfl
  have hml : m < s.size := by omega
  have hml' : (m : Int) < s.size := by omega
  have hne : ((m : Int) == s.size) = false := by rw [beq_eq_false_iff_ne]; omega
  rw [drop_at hml] at hq
  simp only at hq
  have hcl : ((s[m].toNat : Int) = 39 ∧ R = qRes 39 p (qRun 39 ((dl s).drop (m + 1)))) ∨ ((s[m].toNat : Int) = 34 ∧ R = qRes 34 p (qRun 34 ((dl s).drop (m + 1)))) ∨ (((s[m].toNat : Int) == 39) = false ∧ ((s[m].toNat : Int) == 34) = false ∧ R = (0, 0)) := by
   by_cases a : (s[m].toNat : Int) = 39
   ·have e : s[m] = 39 := byte_eq (n := 39) a (by decide)
    rw [if_pos (.inl e), e] at hq
    exact .inl ⟨a, hq⟩
   have e : ¬ s[m] = 39 := byte_ne (n := 39) a (by decide)
   by_cases b : (s[m].toNat : Int) = 34
   ·have e2 : s[m] = 34 := byte_eq (n := 34) b (by decide)
    rw [if_pos (.inr e2), e2] at hq
    exact .inr (.inl ⟨b, hq⟩)
   have e2 : ¬ s[m] = 34 := byte_ne (n := 34) b (by decide)
   rw [if_neg (fun h => h.elim e e2)] at hq
   exact .inr (.inr ⟨by simpa using a, by simpa using b, hq⟩)
  clear hq hend
  rcases hcl with ⟨a, hr⟩ | ⟨a, hr⟩ | ⟨a, b, rfl⟩
  ·have HR := Lib.hid hr
   clear hr
   go_wp2_with fail
   go_quiet (fail)
   go_wp2_with fail
   have hbel : Below wc.heap.size wc (wc.drewN nq) := ⟨rfl, rfl, rfl, Nat.le_refl _, fun _ _ => rfl⟩
   have HBEL := Lib.hid hbel
   clear hbel
   go_loopw [6] (fun s6 wr => ∃ j : Nat, m + 1 ≤ j ∧ j ≤ s.size ∧ s6 = .int .i64 j ∧ wr = wc.drewN nq ∧ qRun 39 ((dl s).drop (m + 1)) = (qRun 39 ((dl s).drop j)).map (· + (j - (m + 1)))) (fun s6 _ => s.size - (intOf s6).toNat)
   case atStart => exact ⟨m + 1, by omega, by omega, by go_num, by trivial, by simp⟩
   case round =>
    obtain ⟨j, g1, g2, rfl, rfl, g3⟩ := hrel
    by_cases hlt : j < s.size
    ·have hlt' : (j : Int) < s.size := by omega
     rcases qAt (q := 39) (by decide) hlt with ⟨a, e⟩ | ⟨a1, a, e⟩ | ⟨a, k, k1, b, e⟩ | ⟨a, b, e⟩ | ⟨a1, a2, a3, e⟩
     ·rw [e] at g3
      have G3 := Lib.hid g3
      clear g3 e
      go_wp2_with fail
      go_ret2
      refine ⟨?_, HBEL.out⟩
      rw [HR.out, G3.out]
      rfl
     ·rw [e] at g3
      have G3 := Lib.hid g3
      have a : (s[j].toNat : Int) = 39 := a
      clear g3 e
      by_cases hb : j = m + 1
      ·have hb' : ¬ ((m : Int) + 1 < j) := by omega
       have HB := Lib.hid hb
       clear hb
       go_wp2_with fail
       go_ret2
       refine ⟨?_, HBEL.out⟩
       rw [HR.out, G3.out, HB.out, Nat.sub_self]
       rfl
      ·have hb' : (m : Int) + 1 < j := by omega
       clear hb
       go_wp2_with fail
       go_ret2
       refine ⟨?_, HBEL.out⟩
       have hR : R = (3, p + 1 + (1 + (j - (m + 1)))) := by
        rw [HR.out, G3.out]
        simp only [qRes, Option.map_some]
        rw [if_neg (by decide), if_pos (by omega)]
       have hE : ((endAt i (p + 1 + (1 + (j - (m + 1)))) : Nat) : Int) = (j : Int) + 1 := by
        unfold endAt
        rw [if_neg (by omega)]
        omega
       rw [hR]
       simp only
       rw [hE]
       rfl
     ·rw [e] at g3
      have G3 := Lib.hid g3
      clear g3 e
      go_wp2_with fail
      go_roundw
      case rel => exact ⟨j + 2, by omega, by omega, by go_num, by trivial, by rw [G3.out, Option.map_map]; congr 1; funext x; simp; omega⟩
      case measure => simp [intOf]; omega
     ·rw [e] at g3
      have G3 := Lib.hid g3
      clear g3 e
      rcases b with b | ⟨k, k1, b⟩
      all_goals
       go_wp2_with fail
       go_ret2
       refine ⟨?_, HBEL.out⟩
       rw [HR.out, G3.out]
       rfl
     ·rw [e] at g3
      have G3 := Lib.hid g3
      have a2 : ((s[j].toNat : Int) == 39) = false := a2
      clear g3 e
      go_wp2_with fail
      go_roundw
      case rel => exact ⟨j + 1, by omega, by omega, by go_num, by trivial, by rw [G3.out, Option.map_map]; congr 1; funext x; simp; omega⟩
      case measure => simp [intOf]; omega
    ·obtain rfl : j = s.size := by omega
     rw [qRun_end (Nat.le_refl _)] at g3
     have G3 := Lib.hid g3
     clear g3
     have hlt' : ¬ ((s.size : Int) < s.size) := by omega
     go_wp2_with fail
     go_ret2
     refine ⟨?_, HBEL.out⟩
     rw [HR.out, G3.out]
     rfl
  ·have HR := Lib.hid hr
   clear hr
   go_wp2_with fail
   go_quiet (fail)
   go_wp2_with fail
   have hbel : Below wc.heap.size wc (wc.drewN nq) := ⟨rfl, rfl, rfl, Nat.le_refl _, fun _ _ => rfl⟩
   have HBEL := Lib.hid hbel
   clear hbel
   go_loopw [6] (fun s6 wr => ∃ j : Nat, m + 1 ≤ j ∧ j ≤ s.size ∧ s6 = .int .i64 j ∧ wr = wc.drewN nq ∧ qRun 34 ((dl s).drop (m + 1)) = (qRun 34 ((dl s).drop j)).map (· + (j - (m + 1)))) (fun s6 _ => s.size - (intOf s6).toNat)
   case atStart => exact ⟨m + 1, by omega, by omega, by go_num, by trivial, by simp⟩
   case round =>
    obtain ⟨j, g1, g2, rfl, rfl, g3⟩ := hrel
    by_cases hlt : j < s.size
    ·have hlt' : (j : Int) < s.size := by omega
     rcases qAt (q := 34) (by decide) hlt with ⟨a, e⟩ | ⟨a1, a, e⟩ | ⟨a, k, k1, b, e⟩ | ⟨a, b, e⟩ | ⟨a1, a2, a3, e⟩
     ·rw [e] at g3
      have G3 := Lib.hid g3
      clear g3 e
      go_wp2_with fail
      go_ret2
      refine ⟨?_, HBEL.out⟩
      rw [HR.out, G3.out]
      rfl
     ·rw [e] at g3
      have G3 := Lib.hid g3
      have a : (s[j].toNat : Int) = 34 := a
      clear g3 e
      go_wp2_with fail
      go_ret2
      refine ⟨?_, HBEL.out⟩
      have hR : R = (4, p + 1 + (1 + (j - (m + 1)))) := by
       rw [HR.out, G3.out]
       simp only [qRes, Option.map_some, if_true]
      have hE : ((endAt i (p + 1 + (1 + (j - (m + 1)))) : Nat) : Int) = (j : Int) + 1 := by
       unfold endAt
       rw [if_neg (by omega)]
       omega
      rw [hR]
      simp only
      rw [hE]
      rfl
     ·rw [e] at g3
      have G3 := Lib.hid g3
      clear g3 e
      go_wp2_with fail
      go_roundw
      case rel => exact ⟨j + 2, by omega, by omega, by go_num, by trivial, by rw [G3.out, Option.map_map]; congr 1; funext x; simp; omega⟩
      case measure => simp [intOf]; omega
     ·rw [e] at g3
      have G3 := Lib.hid g3
      clear g3 e
      rcases b with b | ⟨k, k1, b⟩
      all_goals
       go_wp2_with fail
       go_ret2
       refine ⟨?_, HBEL.out⟩
       rw [HR.out, G3.out]
       rfl
     ·rw [e] at g3
      have G3 := Lib.hid g3
      have a2 : ((s[j].toNat : Int) == 34) = false := a2
      clear g3 e
      go_wp2_with fail
      go_roundw
      case rel => exact ⟨j + 1, by omega, by omega, by go_num, by trivial, by rw [G3.out, Option.map_map]; congr 1; funext x; simp; omega⟩
      case measure => simp [intOf]; omega
    ·obtain rfl : j = s.size := by omega
     rw [qRun_end (Nat.le_refl _)] at g3
     have G3 := Lib.hid g3
     clear g3
     have hlt' : ¬ ((s.size : Int) < s.size) := by omega
     go_wp2_with fail
     go_ret2
     refine ⟨?_, HBEL.out⟩
     rw [HR.out, G3.out]
     rfl
  ·have a' : ((s[m].toNat : Int) != 39) = true := by simp only [bne, a, Bool.not_false]
   have b' : ((s[m].toNat : Int) != 34) = true := by simp only [bne, b, Bool.not_false]
   clear a b
   go_wp2_with fail
   go_ret2
   exact ⟨by rfl, Below.refl _ _⟩
end Go.Proofs.YtlboejdhmggjpaaGreat.Ww

/- WwH -/
namespace Go.Proofs.YtlboejdhmggjpaaGreat.Ww
set_option maxRecDepth 100000
set_option maxHeartbeats 16000000
open Go.Proofs.YtlboejdhmggjpaaGreat
open Go.RowKit Go.BigFrame

abbrev itV (k a b : Nat) : Value := .agg #[.int .i64 k, .int .i64 a, .int .i64 b]
theorem quoted_call (s : ByteArray) (i : Nat) (w : World) (hi : i < s.size) (hs : s.size ≤ 1000000000) (q : Nat × Nat) (h : qLen ((dl s).drop i) = q) : Calls Tryz.prog 171 #[.string s, .int .i64 i] w fun e w' => e = .returned (.tuple #[.int .i64 q.1, .int .i64 (endAt i q.2)]) ∧ Below w.heap.size w w' := h ▸ Sc.quoted s i w hi hs
theorem word_call (s : ByteArray) (i : Nat) (w : World) (hi : i < s.size) (hs : s.size ≤ 1000000000) (n : Nat) (h : wLen ((dl s).drop i) = n) : Calls Tryz.prog 172 #[.string s, .int .i64 i] w fun e w' => e = .returned (.int .i64 (endAt i n)) ∧ w' = w := h ▸ Sc.wordEnd s i w hi hs
theorem number_call (s : ByteArray) (i : Nat) (w : World) (hi : i < s.size) (hs : s.size ≤ 1000000000) (n : Nat) (h : nLen ((dl s).drop i) = n) : Calls Tryz.prog 173 #[.string s, .int .i64 i] w fun e w' => e = .returned (.int .i64 (endAt i n)) ∧ w' = w := h ▸ Sc.numberEnd s i w hi hs
theorem punctE_call (s : ByteArray) (i : Nat) (w : World) (hi : i < s.size) (hs : s.size ≤ 1000000000) (n : Nat) (h : pLen ((dl s).drop i) = n) : Calls Tryz.prog 174 #[.string s, .int .i64 i] w fun e w' => e = .returned (.int .i64 (endAt i n)) ∧ w' = w := h ▸ Sc.punctEnd s i w hi hs
def Lg (i : Nat) (b : Nat × Nat) (w wx : World) : Prop := wx.heap[w.heap.size]? = some (.cells #[.int .i64 0, .int .i64 0, .int .i64 0] 143 (0, 0)) ∧ wx.heap[w.heap.size + 1]? = some (.cells #[.int .i64 b.1, .int .i64 i, .int .i64 ((i : Int) + b.2)] 143 (0, 0)) ∧ Below w.heap.size w wx
theorem lg_start {i : Nat} {w w1 : World} (b1 : Below ((w.alloc (.cells #[.int .i64 0, .int .i64 0, .int .i64 0] 143)).alloc (.cells #[.int .i64 0, .int .i64 i, .int .i64 i] 143)).heap.size ((w.alloc (.cells #[.int .i64 0, .int .i64 0, .int .i64 0] 143)).alloc (.cells #[.int .i64 0, .int .i64 i, .int .i64 i] 143)) w1) : Lg i (0, 0) w w1 := by
 have hb : Below w.heap.size w ((w.alloc (.cells #[.int .i64 0, .int .i64 0, .int .i64 0] 143)).alloc (.cells #[.int .i64 0, .int .i64 i, .int .i64 i] 143)) := ((Below.refl _ _).alloc (Nat.le_refl _) _).alloc (by simp) _
 refine ⟨?_, ?_, hb.trans (b1.mono (by simp; omega))⟩
 ·rw [b1.block _ (by simp; omega), Below.heap_alloc _ _ _ (by simp)]
  exact heap_alloc_new _ _
 ·rw [b1.block _ (by simp)]
  have := heap_alloc_new (w.alloc (.cells #[.int .i64 0, .int .i64 0, .int .i64 0] 143)) (.cells #[.int .i64 0, .int .i64 i, .int .i64 i] 143)
  simpa using this
theorem Lg.cells {i : Nat} {b : Nat × Nat} {w wx : World} (h : Lg i b w wx) : wx.cell? ⟨w.heap.size + 1, 0, none⟩ = some (.int .i64 b.1) ∧ wx.cell? ⟨w.heap.size + 1, 1, none⟩ = some (.int .i64 i) ∧ wx.cell? ⟨w.heap.size + 1, 2, none⟩ = some (.int .i64 ((i : Int) + b.2)) :=
 ⟨by simp [World.cell?, h.2.1], by simp [World.cell?, h.2.1], by simp [World.cell?, h.2.1]⟩
theorem Lg.fr {i : Nat} {b : Nat × Nat} {w wx : World} (h : Lg i b w wx) : wx.frozen? ⟨w.heap.size + 1, 0, none⟩ = false ∧ wx.frozen? ⟨w.heap.size + 1, 1, none⟩ = false ∧ wx.frozen? ⟨w.heap.size + 1, 2, none⟩ = false :=
 ⟨Lib.frozen_of_heap h.2.1 0, Lib.frozen_of_heap h.2.1 1, Lib.frozen_of_heap h.2.1 2⟩
theorem Lg.set {i : Nat} {b q : Nat × Nat} {w wx : World} (h : Lg i b w wx) (hq : 0 < q.2) : Lg i q w (((wx.setCell ⟨w.heap.size + 1, 0, none⟩ (.int .i64 q.1)).setCell ⟨w.heap.size + 1, 1, none⟩ (.int .i64 i)).setCell ⟨w.heap.size + 1, 2, none⟩ (.int .i64 (endAt i q.2 : Nat))) := by
 have h1 := heap_setCell_same wx (w.heap.size + 1) 0 _ _ (.int .i64 q.1) h.2.1
 have h2 := heap_setCell_same _ (w.heap.size + 1) 1 _ _ (.int .i64 i) h1
 have h3 := heap_setCell_same _ (w.heap.size + 1) 2 _ _ (.int .i64 (endAt i q.2 : Nat)) h2
 refine ⟨?_, ?_, ((h.2.2.setCell (p := ⟨w.heap.size + 1, 0, none⟩) (by simp) _).setCell (p := ⟨w.heap.size + 1, 1, none⟩) (by simp) _).setCell (p := ⟨w.heap.size + 1, 2, none⟩) (by simp) _⟩
 ·rw [Below.heap_setCell _ _ _ _ (by simp), Below.heap_setCell _ _ _ _ (by simp), Below.heap_setCell _ _ _ _ (by simp)]
  exact h.1
 ·rw [h3]
  unfold endAt
  rw [if_neg (by omega)]
  simp
theorem lg_if {i : Nat} (b q : Nat × Nat) : (b.2 < q.2 → ((i : Int) + b.2) < (endAt i q.2 : Nat)) ∧ (¬ b.2 < q.2 → ¬ ((i : Int) + b.2) < (endAt i q.2 : Nat)) := by
 unfold endAt
 constructor
 ·intro h; rw [if_neg (by omega)]; omega
 ·intro h; split <;> omega
theorem set3_cells {W : World} {b : Nat} {a0 a1 a2 x y z : Value} {t : TypeId} (h : W.heap[b]? = some (.cells #[a0, a1, a2] t (0, 0))) :
  (((W.setCell ⟨b, 0, none⟩ x).setCell ⟨b, 1, none⟩ y).setCell ⟨b, 2, none⟩ z).cell? ⟨b, 0, none⟩ = some x ∧ (((W.setCell ⟨b, 0, none⟩ x).setCell ⟨b, 1, none⟩ y).setCell ⟨b, 2, none⟩ z).cell? ⟨b, 1, none⟩ = some y ∧
  (((W.setCell ⟨b, 0, none⟩ x).setCell ⟨b, 1, none⟩ y).setCell ⟨b, 2, none⟩ z).cell? ⟨b, 2, none⟩ = some z ∧ Below b W (((W.setCell ⟨b, 0, none⟩ x).setCell ⟨b, 1, none⟩ y).setCell ⟨b, 2, none⟩ z) := by
 have h1 := heap_setCell_same W b 0 _ _ x h
 have h2 := heap_setCell_same _ b 1 _ _ y h1
 have h3 := heap_setCell_same _ b 2 _ _ z h2
 exact ⟨by simp [World.cell?, h3], by simp [World.cell?, h3], by simp [World.cell?, h3], (((Below.refl _ _).setCell (p := ⟨b, 0, none⟩) (by simp) _).setCell (p := ⟨b, 1, none⟩) (by simp) _).setCell (p := ⟨b, 2, none⟩) (by simp) _⟩
def lgV (i : Nat) (b : Nat × Nat) : Array Value := if b.1 = 0 then #[itV 0 0 0, .int .i64 21] else #[itV b.1 i (i + b.2), .int .i64 0]
theorem Sc.longest (s : ByteArray) (i : Nat) (w : World) (hi : i < s.size) (hs : s.size ≤ 1000000000) : Calls Tryz.prog 144 #[.string s, .int .i64 i] w fun e w' =>
  e = .returned (.tuple (lgV i (longP ((dl s).drop i)))) ∧ Below w.heap.size w w' := by
 have hi' : (i : Int) < s.size := by omega
 by_cases h10 : (s[i].toNat : Int) = 10
 ·have e10 : s[i] = 10 := byte_eq (n := 10) h10 (by decide)
  have hl : longP ((dl s).drop i) = (9, 1) := by rw [drop_at hi, longP]; simp [e10]
  rw [hl]
  clear hl e10
  go_enter Tryz.func144, Tryz.ntmps144
  go_wp2_with fail
  refine bodyPost_ret (v := .tuple (lgV i (9, 1))) (by simp [results, Tryz.results144, go_sem, lgV]) rfl ⟨rfl, ?_⟩
  exact below_alloc _ _
 ·have e10 : ¬ s[i] = 10 := byte_ne (n := 10) h10 (by decide)
  have h10' : ((s[i].toNat : Int) == 10) = false := by simpa using h10
  obtain ⟨q, hq⟩ : ∃ q, qLen ((dl s).drop i) = q := ⟨_, rfl⟩
  obtain ⟨k1, n1⟩ := q
  obtain ⟨n2, h2⟩ : ∃ n, wLen ((dl s).drop i) = n := ⟨_, rfl⟩
  obtain ⟨n3, h3⟩ : ∃ n, nLen ((dl s).drop i) = n := ⟨_, rfl⟩
  obtain ⟨n4, h4⟩ : ∃ n, pLen ((dl s).drop i) = n := ⟨_, rfl⟩
  have hl : longP ((dl s).drop i) = (let b := best (best (best (best (0, 0) (k1, n1)) (1, n2)) (2, n3)) (5, n4); if b.1 ≠ 0 then b else if s[i] = 39 ∨ s[i] = 34 then (0, 0) else (6, 1)) := by
   rw [longP, hq, h2, h3, h4, drop_at hi]
   simp [e10]
  obtain ⟨V, hV⟩ : ∃ V, lgV i (longP ((dl s).drop i)) = V := ⟨_, rfl⟩
  rw [hV]
  rw [hl] at hV
  have HV := Lib.hid hV
  have HQ := Lib.hid hq
  have H2 := Lib.hid h2
  have H3 := Lib.hid h3
  have H4 := Lib.hid h4
  clear hq h2 h3 h4 h10 e10 hl hV
  go_enter Tryz.func144, Tryz.ntmps144
  go_wp2_with fail
  refine (quoted_call s i _ hi hs (k1, n1) HQ.out).mono ?_
  rintro e w1 ⟨rfl, b1⟩
  have hL := lg_start (i := i) b1
  clear b1
  obtain ⟨b0, hb⟩ : ∃ b : Nat × Nat, b = (0, 0) := ⟨_, rfl⟩
  rw [← hb] at hL
  have HB := Lib.hid hb
  clear hb
  obtain ⟨c0, c1, c2⟩ := hL.cells
  obtain ⟨f0, f1, f2⟩ := hL.fr
  have HL := Lib.hid hL
  clear hL
  go_upto_if 34 with fail
  go_cut [] (fun wx => Lg i (best b0 (k1, n1)) w wx)
  case first =>
   by_cases hq : b0.2 < n1
   ·have hi2 := (lg_if (i := i) b0 (k1, n1)).1 hq
    simp only at hi2
    have hbe : best b0 (k1, n1) = (k1, n1) := if_pos hq
    have HBE := Lib.hid hbe
    have HQQ := Lib.hid hq
    clear hq hbe
    go_wp2_with fail
    go_meet
    rw [HBE.out]
    exact HL.out.set (q := (k1, n1)) (by have := HQQ.out; simp only at this ⊢; omega)
   ·have hi2 := (lg_if (i := i) b0 (k1, n1)).2 hq
    simp only at hi2
    have hbe : best b0 (k1, n1) = b0 := if_neg hq
    have HBE := Lib.hid hbe
    clear hq hbe
    go_wp2_with fail
    go_meet
    rw [HBE.out]
    exact HL.out
  clear c0 c1 c2 f0 f1 f2 HL
  have hL := hcut
  clear hcut
  obtain ⟨b1, hb1⟩ : ∃ x : Nat × Nat, x = best b0 (k1, n1) := ⟨_, rfl⟩
  rw [← hb1] at hL
  have Hb1 := Lib.hid hb1
  clear hb1
  go_wp2_with fail
  refine (word_call s i _ hi hs n2 H2.out).mono ?_
  rintro e w1 ⟨rfl, rfl⟩
  obtain ⟨c0, c1, c2⟩ := hL.cells
  obtain ⟨f0, f1, f2⟩ := hL.fr
  have HL := Lib.hid hL
  clear hL
  go_upto_if 45 with fail
  go_cut [] (fun wx => Lg i (best b1 (1, n2)) w wx)
  case first =>
   by_cases hq : b1.2 < n2
   ·have hi2 := (lg_if (i := i) b1 (1, n2)).1 hq
    simp only at hi2
    have hbe : best b1 (1, n2) = (1, n2) := if_pos hq
    have HBE := Lib.hid hbe
    have HQQ := Lib.hid hq
    clear hq hbe
    go_wp2_with fail
    go_meet
    rw [HBE.out]
    exact HL.out.set (q := (1, n2)) (by have := HQQ.out; simp only at this ⊢; omega)
   ·have hi2 := (lg_if (i := i) b1 (1, n2)).2 hq
    simp only at hi2
    have hbe : best b1 (1, n2) = b1 := if_neg hq
    have HBE := Lib.hid hbe
    clear hq hbe
    go_wp2_with fail
    go_meet
    rw [HBE.out]
    exact HL.out
  clear c0 c1 c2 f0 f1 f2 HL
  have hL := hcut
  clear hcut
  obtain ⟨b2, hb2⟩ : ∃ x : Nat × Nat, x = best b1 (1, n2) := ⟨_, rfl⟩
  rw [← hb2] at hL
  have Hb2 := Lib.hid hb2
  clear hb2
  go_wp2_with fail
  refine (number_call s i _ hi hs n3 H3.out).mono ?_
  rintro e w1 ⟨rfl, rfl⟩
  obtain ⟨c0, c1, c2⟩ := hL.cells
  obtain ⟨f0, f1, f2⟩ := hL.fr
  have HL := Lib.hid hL
  clear hL
  go_upto_if 55 with fail
  go_cut [] (fun wx => Lg i (best b2 (2, n3)) w wx)
  case first =>
   by_cases hq : b2.2 < n3
   ·have hi2 := (lg_if (i := i) b2 (2, n3)).1 hq
    simp only at hi2
    have hbe : best b2 (2, n3) = (2, n3) := if_pos hq
    have HBE := Lib.hid hbe
    have HQQ := Lib.hid hq
    clear hq hbe
    go_wp2_with fail
    go_meet
    rw [HBE.out]
    exact HL.out.set (q := (2, n3)) (by have := HQQ.out; simp only at this ⊢; omega)
   ·have hi2 := (lg_if (i := i) b2 (2, n3)).2 hq
    simp only at hi2
    have hbe : best b2 (2, n3) = b2 := if_neg hq
    have HBE := Lib.hid hbe
    clear hq hbe
    go_wp2_with fail
    go_meet
    rw [HBE.out]
    exact HL.out
  clear c0 c1 c2 f0 f1 f2 HL
  have hL := hcut
  clear hcut
  obtain ⟨b3, hb3⟩ : ∃ x : Nat × Nat, x = best b2 (2, n3) := ⟨_, rfl⟩
  rw [← hb3] at hL
  have Hb3 := Lib.hid hb3
  clear hb3
  go_wp2_with fail
  refine (punctE_call s i _ hi hs n4 H4.out).mono ?_
  rintro e w1 ⟨rfl, rfl⟩
  obtain ⟨c0, c1, c2⟩ := hL.cells
  obtain ⟨f0, f1, f2⟩ := hL.fr
  have HL := Lib.hid hL
  clear hL
  go_upto_if 65 with fail
  go_cut [] (fun wx => Lg i (best b3 (5, n4)) w wx)
  case first =>
   by_cases hq : b3.2 < n4
   ·have hi2 := (lg_if (i := i) b3 (5, n4)).1 hq
    simp only at hi2
    have hbe : best b3 (5, n4) = (5, n4) := if_pos hq
    have HBE := Lib.hid hbe
    have HQQ := Lib.hid hq
    clear hq hbe
    go_wp2_with fail
    go_meet
    rw [HBE.out]
    exact HL.out.set (q := (5, n4)) (by have := HQQ.out; simp only at this ⊢; omega)
   ·have hi2 := (lg_if (i := i) b3 (5, n4)).2 hq
    simp only at hi2
    have hbe : best b3 (5, n4) = b3 := if_neg hq
    have HBE := Lib.hid hbe
    clear hq hbe
    go_wp2_with fail
    go_meet
    rw [HBE.out]
    exact HL.out
  clear c0 c1 c2 f0 f1 f2 HL
  have hL := hcut
  clear hcut
  obtain ⟨b4, hb4⟩ : ∃ x : Nat × Nat, x = best b3 (5, n4) := ⟨_, rfl⟩
  rw [← hb4] at hL
  have Hb4 := Lib.hid hb4
  clear hb4
  obtain ⟨c0, c1, c2⟩ := hL.cells
  obtain ⟨f0, f1, f2⟩ := hL.fr
  have g0 := hL.1
  have d0 : wc.cell? ⟨w.heap.size, 0, none⟩ = some (.int .i64 0) := by simp [World.cell?, g0]
  have d1 : wc.cell? ⟨w.heap.size, 1, none⟩ = some (.int .i64 0) := by simp [World.cell?, g0]
  have d2 : wc.cell? ⟨w.heap.size, 2, none⟩ = some (.int .i64 0) := by simp [World.cell?, g0]
  have e0 : wc.frozen? ⟨w.heap.size, 0, none⟩ = false := Lib.frozen_of_heap g0 0
  have e1 : wc.frozen? ⟨w.heap.size, 1, none⟩ = false := Lib.frozen_of_heap g0 1
  have e2 : wc.frozen? ⟨w.heap.size, 2, none⟩ = false := Lib.frozen_of_heap g0 2
  have hbel := hL.2.2
  have HBEL := Lib.hid hbel
  have hg0 := g0
  clear hL g0 hbel f0 f1 f2
  have hch : best (best (best (best (0, 0) (k1, n1)) (1, n2)) (2, n3)) (5, n4) = b4 := by rw [Hb4.out, Hb3.out, Hb2.out, Hb1.out, HB.out]
  have hV := HV.out
  rw [hch] at hV
  try simp only at hV
  clear HV hch
  have cl : (b4.1 ≠ 0 ∧ ((b4.1 : Int) == 0) = false ∧ V = #[itV b4.1 i (i + b4.2), .int .i64 0]) ∨ ((b4.1 : Int) = 0 ∧ ((s[i].toNat : Int) = 39 ∨ ((s[i].toNat : Int) == 39) = false ∧ (s[i].toNat : Int) = 34) ∧ V = #[itV 0 0 0, .int .i64 21]) ∨ ((b4.1 : Int) = 0 ∧ ((s[i].toNat : Int) == 39) = false ∧ ((s[i].toNat : Int) == 34) = false ∧ V = #[itV 6 i (i + 1), .int .i64 0]) := by
   by_cases hk : b4.1 = 0
   ·rw [if_neg (by simpa using hk)] at hV
    refine .inr ?_
    by_cases a : (s[i].toNat : Int) = 39
    ·rw [if_pos (.inl (byte_eq (n := 39) a (by decide)))] at hV
     exact .inl ⟨by omega, .inl a, by rw [← hV]; rfl⟩
    have a' : ¬ s[i] = 39 := byte_ne (n := 39) a (by decide)
    by_cases c : (s[i].toNat : Int) = 34
    ·rw [if_pos (.inr (byte_eq (n := 34) c (by decide)))] at hV
     exact .inl ⟨by omega, .inr ⟨by simpa using a, c⟩, by rw [← hV]; rfl⟩
    have c' : ¬ s[i] = 34 := byte_ne (n := 34) c (by decide)
    rw [if_neg (fun h => h.elim a' c')] at hV
    exact .inr ⟨by omega, by simpa using a, by simpa using c, by rw [← hV]; rfl⟩
   ·rw [if_pos hk] at hV
    refine .inl ⟨hk, by rw [beq_eq_false_iff_ne]; omega, ?_⟩
    rw [← hV, lgV, if_neg hk]
  clear hV Hb4 Hb3 Hb2 Hb1 HB
  have q3 := fun x y z => set3_cells (x := x) (y := y) (z := z) hg0
  have Q3 := Lib.hid q3
  clear q3 hg0
  rcases cl with ⟨-, hk, hv⟩ | ⟨hk, hq | ⟨hq, hq2⟩, hv⟩ | ⟨hk, hq, hq2, hv⟩
  all_goals
   have HV := Lib.hid hv
   clear hv
   go_wp2_with fail
   obtain ⟨q0, q1, q2, qb⟩ := Q3.out _ _ _
   refine bodyPost_ret (v := .tuple V) (by rw [HV.out]; simp [results, Tryz.results144, go_sem, q0, q1, q2]) rfl ⟨rfl, HBEL.out.trans (qb.mono (by simp))⟩
end Go.Proofs.YtlboejdhmggjpaaGreat.Ww

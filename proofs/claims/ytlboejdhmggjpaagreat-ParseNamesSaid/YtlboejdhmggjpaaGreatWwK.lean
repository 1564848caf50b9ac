/- scan: literals. -/
import Derived.Test.YtlboejdhmggjpaaGreatWwF
import Derived.Deep.DeepCutAuto
import Derived.Deep.CutBlock
import Derived.BigQuiet
import Derived.Test.YtlboejdhmggjpaaGreatRfa
import Derived.RangeFuncNested
import Derived.RangeFuncBound
import Derived.RangeFuncCalls
import Derived.RangeFuncLeaves
import Derived.RangeFuncBox
import Derived.Shelf.Abstract
import Derived.OwnWalkIn
import Derived.TacticsInMore
import Derived.LoopNIn
import Derived.LoopIn
import Derived.Test.YtlboejdhmggjpaaGreatTal
import Derived.Scope
set_option linter.all false
namespace Go.Proofs.YtlboejdhmggjpaaGreat.Ww
set_option maxRecDepth 100000
set_option maxHeartbeats 16000000
open Go.Proofs.YtlboejdhmggjpaaGreat
open Go.RowKit Go.BigFrame

theorem hasPrefix_call (s p : ByteArray) (w : World) (b : Bool) (h : Lib.hasPrefix (dl s) (dl p) = b) : Calls Tryz.prog 141 #[.string s, .string p] w fun e w' => e = .returned (.bool b) ∧ w' = w := h ▸ Tryz.strings_HasPrefix s p w
theorem dl_to (s : ByteArray) (i : Nat) : dl (s.extract i s.size) = (dl s).drop i := by rw [ext_to, dl_str]
theorem hasPrefix_take (t p : Bs) : Lib.hasPrefix t p = decide (t.take p.length = p) := by
 unfold Lib.hasPrefix
 rw [Bool.eq_iff_iff, List.isPrefixOf_iff_prefix, decide_eq_true_eq, List.prefix_iff_eq_take]
 exact ⟨fun h => h.symm, fun h => h.symm⟩
def qRes (q : UInt8) (p : Nat) (o : Option Nat) : Nat × Nat := match o with | none => (0, 0) | some m => if q = 34 then (4, p + 1 + m) else if 1 < m then (3, p + 1 + m) else (0, 0)
theorem qLen_of {t : Bs} {p : Nat} (h : qPre t = p) : qLen t = match t.drop p with | [] => (0, 0) | q :: r => if q = 39 ∨ q = 34 then qRes q p (qRun q r) else (0, 0) := by
 subst h
 rfl
theorem qRun_two {q : UInt8} {s : ByteArray} {j : Nat} (h : j + 1 < s.size) : qRun q ((dl s).drop j) = if s[j] = 10 then none else if s[j] = q then some 1 else if s[j] = 92 then (if s[j + 1] = 10 then none else (qRun q ((dl s).drop (j + 2))).map (· + 2)) else (qRun q ((dl s).drop (j + 1))).map (· + 1) := by
 rw [drop_at (show j < s.size by omega), drop_at h, qRun]
theorem qRun_one {q : UInt8} {s : ByteArray} {j : Nat} (h : j + 1 = s.size) : qRun q ((dl s).drop j) = if s[j] = 10 then none else if s[j] = q then some 1 else none := by
 rw [drop_at (show j < s.size by omega), drop_end (show s.size ≤ j + 1 by omega), qRun]
theorem qRun_end {q : UInt8} {s : ByteArray} {j : Nat} (h : s.size ≤ j) : qRun q ((dl s).drop j) = none := by rw [drop_end h]; rfl
inductive QAt (q : UInt8) (s : ByteArray) (j : Nat) (h : j < s.size) : Prop
 | nl (a : (s[j].toNat : Int) = 10) (e : qRun q ((dl s).drop j) = none)
 | quote (a1 : ((s[j].toNat : Int) == 10) = false) (a : (s[j].toNat : Int) = q.toNat) (e : qRun q ((dl s).drop j) = some 1)
 | esc (a : (s[j].toNat : Int) = 92) (k : j + 1 < s.size) (k1 : (j : Int) + 1 < s.size) (b : ((s[j + 1].toNat : Int) == 10) = false) (e : qRun q ((dl s).drop j) = (qRun q ((dl s).drop (j + 2))).map (· + 2))
 | bad (a : (s[j].toNat : Int) = 92) (b : ¬ (j : Int) + 1 < s.size ∨ ∃ k : j + 1 < s.size, (j : Int) + 1 < s.size ∧ (s[j + 1].toNat : Int) = 10) (e : qRun q ((dl s).drop j) = none)
 | other (a1 : ((s[j].toNat : Int) == 10) = false) (a2 : ((s[j].toNat : Int) == q.toNat) = false) (a3 : ((s[j].toNat : Int) == 92) = false) (e : qRun q ((dl s).drop j) = (qRun q ((dl s).drop (j + 1))).map (· + 1))
theorem qAt {q : UInt8} (hq : q = 39 ∨ q = 34) {s : ByteArray} {j : Nat} (h : j < s.size) : QAt q s j h := by
 by_cases a : (s[j].toNat : Int) = 10
 ·have e : s[j] = 10 := byte_eq (n := 10) a (by decide)
  refine .nl a ?_
  by_cases k : j + 1 < s.size
  ·rw [qRun_two k, if_pos e]
  ·rw [qRun_one (by omega), if_pos e]
 ·have e : ¬ s[j] = 10 := byte_ne (n := 10) a (by decide)
  have a' : ((s[j].toNat : Int) == 10) = false := by simpa using a
  by_cases b : s[j] = q
  ·refine .quote a' (by rw [b]) ?_
   by_cases k : j + 1 < s.size
   ·rw [qRun_two k, if_neg e, if_pos b]
   ·rw [qRun_one (by omega), if_neg e, if_pos b]
  ·have b' : ((s[j].toNat : Int) == q.toNat) = false := by
    rw [beq_eq_false_iff_ne]
    intro hh
    exact b (UInt8.toNat_inj.1 (by omega))
   by_cases c : (s[j].toNat : Int) = 92
   ·have ec : s[j] = 92 := byte_eq (n := 92) c (by decide)
    by_cases k : j + 1 < s.size
    ·by_cases d : (s[j + 1].toNat : Int) = 10
     ·have ed : s[j + 1] = 10 := byte_eq (n := 10) d (by decide)
      refine .bad c (.inr ⟨k, by omega, d⟩) ?_
      rw [qRun_two k, if_neg e, if_neg b, if_pos (show s[j] = 92 from ec), if_pos ed]
     ·have ed : ¬ s[j + 1] = 10 := byte_ne (n := 10) d (by decide)
      refine .esc c k (by omega) (by simpa using d) ?_
      rw [qRun_two k, if_neg e, if_neg b, if_pos (show s[j] = 92 from ec), if_neg ed]
    ·refine .bad c (.inl (by omega)) ?_
     rw [qRun_one (by omega), if_neg e, if_neg b]
   ·have ec : ¬ s[j] = 92 := byte_ne (n := 92) c (by decide)
    refine .other a' b' (by simpa using c) ?_
    by_cases k : j + 1 < s.size
    ·rw [qRun_two k, if_neg e, if_neg b, if_neg (show ¬ s[j] = 92 from ec)]
    ·rw [qRun_one (by omega), if_neg e, if_neg b, qRun_end (by omega)]
     rfl
theorem qPre_of {s : ByteArray} {i : Nat} (hi : i < s.size) {b : Bool} (hb : Lib.hasPrefix (dl (s.extract i s.size)) [117, 56, 34] = b) :
  (b = true ∧ qPre ((dl s).drop i) = 2 ∧ ∃ h : i + 2 < s.size, s[i + 2] = 34) ∨
  (b = false ∧ ((qPre ((dl s).drop i) = 1 ∧ ((s[i].toNat : Int) = 117 ∨ (s[i].toNat : Int) = 85 ∨ (s[i].toNat : Int) = 76)) ∨
   (qPre ((dl s).drop i) = 0 ∧ ((s[i].toNat : Int) == 117) = false ∧ ((s[i].toNat : Int) == 85) = false ∧ ((s[i].toNat : Int) == 76) = false))) := by
 rw [dl_to, hasPrefix_take] at hb
 simp only [List.length_cons, List.length_nil, Nat.reduceAdd] at hb
 cases b
 ·refine .inr ⟨rfl, ?_⟩
  have h3 := of_decide_eq_false hb
  unfold qPre
  rw [if_neg h3, drop_at hi]
  simp only [List.head?_cons, Option.some.injEq]
  by_cases a : (s[i].toNat : Int) = 117
  ·exact .inl ⟨if_pos (.inl (byte_eq (n := 117) a (by decide))), .inl a⟩
  by_cases b : (s[i].toNat : Int) = 85
  ·exact .inl ⟨if_pos (.inr (.inl (byte_eq (n := 85) b (by decide)))), .inr (.inl b)⟩
  by_cases c : (s[i].toNat : Int) = 76
  ·exact .inl ⟨if_pos (.inr (.inr (byte_eq (n := 76) c (by decide)))), .inr (.inr c)⟩
  refine .inr ⟨if_neg ?_, by simpa using a, by simpa using b, by simpa using c⟩
  rintro (h | h | h)
  ·exact byte_ne (n := 117) a (by decide) h
  ·exact byte_ne (n := 85) b (by decide) h
  ·exact byte_ne (n := 76) c (by decide) h
 ·have h3 := of_decide_eq_true hb
  refine .inl ⟨rfl, by unfold qPre; rw [if_pos h3], ?_⟩
  have hl : 3 ≤ ((dl s).drop i).length := by
   have := congrArg List.length h3
   rw [List.length_take] at this
   simp at this
   simp; omega
  rw [drop_len] at hl
  refine ⟨by omega, ?_⟩
  rw [drop_at (by omega), drop_at (show i + 1 < s.size by omega), drop_at (show i + 1 + 1 < s.size by omega)] at h3
  simp at h3
  exact h3.2.2
theorem Sc.quoted (s : ByteArray) (i : Nat) (w : World) (hi : i < s.size) (hs : s.size ≤ 1000000000) : Calls Tryz.prog 171 #[.string s, .int .i64 i] w fun e w' => e = .returned (.tuple #[.int .i64 (qLen ((dl s).drop i)).1, .int .i64 (endAt i (qLen ((dl s).drop i)).2)]) ∧ Below w.heap.size w w' := by
 have hi' : (i : Int) < s.size := by omega
 obtain ⟨b, hb⟩ : ∃ b, Lib.hasPrefix (dl (s.extract i s.size)) [117, 56, 34] = b := ⟨_, rfl⟩
 have hp := qPre_of hi hb
 obtain ⟨p, hP⟩ : ∃ p, qPre ((dl s).drop i) = p := ⟨_, rfl⟩
 have hq := qLen_of hP
 rw [hP] at hp
 have hpl : i + p ≤ s.size := by
  rcases hp with ⟨-, rfl, h, -⟩ | ⟨-, ⟨rfl, -⟩ | ⟨rfl, -⟩⟩ <;> omega
 obtain ⟨R, hR⟩ : ∃ R, qLen ((dl s).drop i) = R := ⟨_, rfl⟩
 rw [hR] at hq ⊢
 rw [List.drop_drop] at hq
 have HB := Lib.hid hb
 have HP := Lib.hid hp
 have HQ := Lib.hid hq
 clear hb hp hq hP hR
 go_enter Tryz.func171, Tryz.ntmps171
 go_upto_block 0 with fail
 go_cut [6] (fun s6 wx => s6 = .int .i64 ((i + p : Nat) : Int) ∧ wx = w)
 case first =>
  rcases HP.out with ⟨rfl, rfl, -⟩ | ⟨rfl, ⟨rfl, a | a | a⟩ | ⟨rfl, a1, a2, a3⟩⟩
  all_goals
   go_wp2_with (first | (go_at_call 141; refine (hasPrefix_call _ _ _ _ HB.out).mono ?_; rintro e w1 ⟨rfl, rfl⟩) | fail)
   go_meet
   exact ⟨by go_num, rfl⟩
 case rest =>
  obtain ⟨rfl, rfl⟩ := hcut
  obtain ⟨m, hm⟩ : ∃ m, i + p = m := ⟨_, rfl⟩
  have hq := HQ.out
  rw [hm] at hq hpl ⊢
  clear HB HP HQ
  by_cases hend : m = s.size
  ·rw [hend, drop_end (Nat.le_refl _)] at hq
   simp only at hq
   subst hend
   have HQ := Lib.hid hq
   clear hq
   go_wp2_with fail
   go_ret2
   refine ⟨?_, Below.refl _ _⟩
   rw [HQ.out]
   rfl
  have hml : m < s.size := by omega
  have hml' : (m : Int) < s.size := by omega
  have hne : ((m : Int) == s.size) = false := by rw [beq_eq_false_iff_ne]; omega
  rw [drop_at hml] at hq
  simp only at hq
  have hcl : ((s[m].toNat : Int) = 39 ∧ R = qRes 39 p (qRun 39 ((dl s).drop (m + 1)))) ∨ ((s[m].toNat : Int) = 34 ∧ R = qRes 34 p (qRun 34 ((dl s).drop (m + 1)))) ∨ (((s[m].toNat : Int) == 39) = false ∧ ((s[m].toNat : Int) == 34) = false ∧ R = (0, 0)) := by
   by_cases a : (s[m].toNat : Int) = 39
   ·have e : s[m] = 39 := byte_eq (n := 39) a (by decide)
    rw [if_pos (.inl e), e] at hq
    exact .inl ⟨a, hq⟩
   have e : ¬ s[m] = 39 := byte_ne (n := 39) a (by decide)
   by_cases b : (s[m].toNat : Int) = 34
   ·have e2 : s[m] = 34 := byte_eq (n := 34) b (by decide)
    rw [if_pos (.inr e2), e2] at hq
    exact .inr (.inl ⟨b, hq⟩)
   have e2 : ¬ s[m] = 34 := byte_ne (n := 34) b (by decide)
   rw [if_neg (fun h => h.elim e e2)] at hq
   exact .inr (.inr ⟨by simpa using a, by simpa using b, hq⟩)
  clear hq hend
  rcases hcl with ⟨a, hr⟩ | ⟨a, hr⟩ | ⟨a, b, rfl⟩
  ·have HR := Lib.hid hr
   clear hr
   go_wp2_with fail
   go_quiet (fail)
   go_wp2_with fail
   have hbel : Below wc.heap.size wc (wc.drewN nq) := ⟨rfl, rfl, rfl, Nat.le_refl _, fun _ _ => rfl⟩
   have HBEL := Lib.hid hbel
   clear hbel
   go_loopw [6] (fun s6 wr => ∃ j : Nat, m + 1 ≤ j ∧ j ≤ s.size ∧ s6 = .int .i64 j ∧ wr = wc.drewN nq ∧ qRun 39 ((dl s).drop (m + 1)) = (qRun 39 ((dl s).drop j)).map (· + (j - (m + 1)))) (fun s6 _ => s.size - (intOf s6).toNat)
   case atStart => exact ⟨m + 1, by omega, by omega, by go_num, by trivial, by simp⟩
   case round =>
    obtain ⟨j, g1, g2, rfl, rfl, g3⟩ := hrel
    by_cases hlt : j < s.size
    ·have hlt' : (j : Int) < s.size := by omega
     rcases qAt (q := 39) (by decide) hlt with ⟨a, e⟩ | ⟨a1, a, e⟩ | ⟨a, k, k1, b, e⟩ | ⟨a, b, e⟩ | ⟨a1, a2, a3, e⟩
     ·rw [e] at g3
      have G3 := Lib.hid g3
      clear g3 e
      go_wp2_with fail
      go_ret2
      refine ⟨?_, HBEL.out⟩
      rw [HR.out, G3.out]
      rfl
     ·rw [e] at g3
      have G3 := Lib.hid g3
      have a : (s[j].toNat : Int) = 39 := a
      clear g3 e
      by_cases hb : j = m + 1
      ·have hb' : ¬ ((m : Int) + 1 < j) := by omega
       have HB := Lib.hid hb
       clear hb
       go_wp2_with fail
       go_ret2
       refine ⟨?_, HBEL.out⟩
       rw [HR.out, G3.out, HB.out, Nat.sub_self]
       rfl
      ·have hb' : (m : Int) + 1 < j := by omega
       clear hb
       go_wp2_with fail
       go_ret2
       refine ⟨?_, HBEL.out⟩
       have hR : R = (3, p + 1 + (1 + (j - (m + 1)))) := by
        rw [HR.out, G3.out]
        simp only [qRes, Option.map_some]
        rw [if_neg (by decide), if_pos (by omega)]
       have hE : ((endAt i (p + 1 + (1 + (j - (m + 1)))) : Nat) : Int) = (j : Int) + 1 := by
        unfold endAt
        rw [if_neg (by omega)]
        omega
       rw [hR]
       simp only
       rw [hE]
       rfl
     ·rw [e] at g3
      have G3 := Lib.hid g3
      clear g3 e
      go_wp2_with fail
      go_roundw
      case rel => exact ⟨j + 2, by omega, by omega, by go_num, by trivial, by rw [G3.out, Option.map_map]; congr 1; funext x; simp; omega⟩
      case measure => simp [intOf]; omega
     ·rw [e] at g3
      have G3 := Lib.hid g3
      clear g3 e
      rcases b with b | ⟨k, k1, b⟩
      all_goals
       go_wp2_with fail
       go_ret2
       refine ⟨?_, HBEL.out⟩
       rw [HR.out, G3.out]
       rfl
     ·rw [e] at g3
      have G3 := Lib.hid g3
      have a2 : ((s[j].toNat : Int) == 39) = false := a2
      clear g3 e
      go_wp2_with fail
      go_roundw
      case rel => exact ⟨j + 1, by omega, by omega, by go_num, by trivial, by rw [G3.out, Option.map_map]; congr 1; funext x; simp; omega⟩
      case measure => simp [intOf]; omega
    ·obtain rfl : j = s.size := by omega
     rw [qRun_end (Nat.le_refl _)] at g3
     have G3 := Lib.hid g3
     clear g3
     have hlt' : ¬ ((s.size : Int) < s.size) := by omega
     go_wp2_with fail
     go_ret2
     refine ⟨?_, HBEL.out⟩
     rw [HR.out, G3.out]
     rfl
  ·have HR := Lib.hid hr
   clear hr
   go_wp2_with fail
   go_quiet (fail)
   go_wp2_with fail
   have hbel : Below wc.heap.size wc (wc.drewN nq) := ⟨rfl, rfl, rfl, Nat.le_refl _, fun _ _ => rfl⟩
   have HBEL := Lib.hid hbel
   clear hbel
   go_loopw [6] (fun s6 wr => ∃ j : Nat, m + 1 ≤ j ∧ j ≤ s.size ∧ s6 = .int .i64 j ∧ wr = wc.drewN nq ∧ qRun 34 ((dl s).drop (m + 1)) = (qRun 34 ((dl s).drop j)).map (· + (j - (m + 1)))) (fun s6 _ => s.size - (intOf s6).toNat)
   case atStart => exact ⟨m + 1, by omega, by omega, by go_num, by trivial, by simp⟩
   case round =>
    obtain ⟨j, g1, g2, rfl, rfl, g3⟩ := hrel
    by_cases hlt : j < s.size
    ·have hlt' : (j : Int) < s.size := by omega
     rcases qAt (q := 34) (by decide) hlt with ⟨a, e⟩ | ⟨a1, a, e⟩ | ⟨a, k, k1, b, e⟩ | ⟨a, b, e⟩ | ⟨a1, a2, a3, e⟩
     ·rw [e] at g3
      have G3 := Lib.hid g3
      clear g3 e
      go_wp2_with fail
      go_ret2
      refine ⟨?_, HBEL.out⟩
      rw [HR.out, G3.out]
      rfl
     ·rw [e] at g3
      have G3 := Lib.hid g3
      have a : (s[j].toNat : Int) = 34 := a
      clear g3 e
      go_wp2_with fail
      go_ret2
      refine ⟨?_, HBEL.out⟩
      have hR : R = (4, p + 1 + (1 + (j - (m + 1)))) := by
       rw [HR.out, G3.out]
       simp only [qRes, Option.map_some, if_true]
      have hE : ((endAt i (p + 1 + (1 + (j - (m + 1)))) : Nat) : Int) = (j : Int) + 1 := by
       unfold endAt
       rw [if_neg (by omega)]
       omega
      rw [hR]
      simp only
      rw [hE]
      rfl
     ·rw [e] at g3
      have G3 := Lib.hid g3
      clear g3 e
      go_wp2_with fail
      go_roundw
      case rel => exact ⟨j + 2, by omega, by omega, by go_num, by trivial, by rw [G3.out, Option.map_map]; congr 1; funext x; simp; omega⟩
      case measure => simp [intOf]; omega
     ·rw [e] at g3
      have G3 := Lib.hid g3
      clear g3 e
      rcases b with b | ⟨k, k1, b⟩
      all_goals
       go_wp2_with fail
       go_ret2
       refine ⟨?_, HBEL.out⟩
       rw [HR.out, G3.out]
       rfl
     ·rw [e] at g3
      have G3 := Lib.hid g3
      have a2 : ((s[j].toNat : Int) == 34) = false := a2
      clear g3 e
      go_wp2_with fail
      go_roundw
      case rel => exact ⟨j + 1, by omega, by omega, by go_num, by trivial, by rw [G3.out, Option.map_map]; congr 1; funext x; simp; omega⟩
      case measure => simp [intOf]; omega
    ·obtain rfl : j = s.size := by omega
     rw [qRun_end (Nat.le_refl _)] at g3
     have G3 := Lib.hid g3
     clear g3
     have hlt' : ¬ ((s.size : Int) < s.size) := by omega
     go_wp2_with fail
     go_ret2
     refine ⟨?_, HBEL.out⟩
     rw [HR.out, G3.out]
     rfl
  ·have a' : ((s[m].toNat : Int) != 39) = true := by simp only [bne, a, Bool.not_false]
   have b' : ((s[m].toNat : Int) != 34) = true := by simp only [bne, b, Bool.not_false]
   clear a b
   go_wp2_with fail
   go_ret2
   exact ⟨by rfl, Below.refl _ _⟩
end Go.Proofs.YtlboejdhmggjpaaGreat.Ww

/- WwH -/
namespace Go.Proofs.YtlboejdhmggjpaaGreat.Ww
set_option maxRecDepth 100000
set_option maxHeartbeats 16000000
open Go.Proofs.YtlboejdhmggjpaaGreat
open Go.RowKit Go.BigFrame

abbrev itV (k a b : Nat) : Value := .agg #[.int .i64 k, .int .i64 a, .int .i64 b]
theorem quoted_call (s : ByteArray) (i : Nat) (w : World) (hi : i < s.size) (hs : s.size ≤ 1000000000) (q : Nat × Nat) (h : qLen ((dl s).drop i) = q) : Calls Tryz.prog 171 #[.string s, .int .i64 i] w fun e w' => e = .returned (.tuple #[.int .i64 q.1, .int .i64 (endAt i q.2)]) ∧ Below w.heap.size w w' := h ▸ Sc.quoted s i w hi hs
theorem word_call (s : ByteArray) (i : Nat) (w : World) (hi : i < s.size) (hs : s.size ≤ 1000000000) (n : Nat) (h : wLen ((dl s).drop i) = n) : Calls Tryz.prog 172 #[.string s, .int .i64 i] w fun e w' => e = .returned (.int .i64 (endAt i n)) ∧ w' = w := h ▸ Sc.wordEnd s i w hi hs
theorem number_call (s : ByteArray) (i : Nat) (w : World) (hi : i < s.size) (hs : s.size ≤ 1000000000) (n : Nat) (h : nLen ((dl s).drop i) = n) : Calls Tryz.prog 173 #[.string s, .int .i64 i] w fun e w' => e = .returned (.int .i64 (endAt i n)) ∧ w' = w := h ▸ Sc.numberEnd s i w hi hs
theorem punctE_call (s : ByteArray) (i : Nat) (w : World) (hi : i < s.size) (hs : s.size ≤ 1000000000) (n : Nat) (h : pLen ((dl s).drop i) = n) : Calls Tryz.prog 174 #[.string s, .int .i64 i] w fun e w' => e = .returned (.int .i64 (endAt i n)) ∧ w' = w := h ▸ Sc.punctEnd s i w hi hs
def Lg (i : Nat) (b : Nat × Nat) (w wx : World) : Prop := wx.heap[w.heap.size]? = some (.cells #[.int .i64 0, .int .i64 0, .int .i64 0] 143 (0, 0)) ∧ wx.heap[w.heap.size + 1]? = some (.cells #[.int .i64 b.1, .int .i64 i, .int .i64 ((i : Int) + b.2)] 143 (0, 0)) ∧ Below w.heap.size w wx
theorem lg_start {i : Nat} {w w1 : World} (b1 : Below ((w.alloc (.cells #[.int .i64 0, .int .i64 0, .int .i64 0] 143)).alloc (.cells #[.int .i64 0, .int .i64 i, .int .i64 i] 143)).heap.size ((w.alloc (.cells #[.int .i64 0, .int .i64 0, .int .i64 0] 143)).alloc (.cells #[.int .i64 0, .int .i64 i, .int .i64 i] 143)) w1) : Lg i (0, 0) w w1 := by
 have hb : Below w.heap.size w ((w.alloc (.cells #[.int .i64 0, .int .i64 0, .int .i64 0] 143)).alloc (.cells #[.int .i64 0, .int .i64 i, .int .i64 i] 143)) := ((Below.refl _ _).alloc (Nat.le_refl _) _).alloc (by simp) _
 refine ⟨?_, ?_, hb.trans (b1.mono (by simp; omega))⟩
 ·rw [b1.block _ (by simp; omega), Below.heap_alloc _ _ _ (by simp)]
  exact heap_alloc_new _ _
 ·rw [b1.block _ (by simp)]
  have := heap_alloc_new (w.alloc (.cells #[.int .i64 0, .int .i64 0, .int .i64 0] 143)) (.cells #[.int .i64 0, .int .i64 i, .int .i64 i] 143)
  simpa using this
theorem Lg.cells {i : Nat} {b : Nat × Nat} {w wx : World} (h : Lg i b w wx) : wx.cell? ⟨w.heap.size + 1, 0, none⟩ = some (.int .i64 b.1) ∧ wx.cell? ⟨w.heap.size + 1, 1, none⟩ = some (.int .i64 i) ∧ wx.cell? ⟨w.heap.size + 1, 2, none⟩ = some (.int .i64 ((i : Int) + b.2)) :=
 ⟨by simp [World.cell?, h.2.1], by simp [World.cell?, h.2.1], by simp [World.cell?, h.2.1]⟩
theorem Lg.fr {i : Nat} {b : Nat × Nat} {w wx : World} (h : Lg i b w wx) : wx.frozen? ⟨w.heap.size + 1, 0, none⟩ = false ∧ wx.frozen? ⟨w.heap.size + 1, 1, none⟩ = false ∧ wx.frozen? ⟨w.heap.size + 1, 2, none⟩ = false :=
 ⟨Lib.frozen_of_heap h.2.1 0, Lib.frozen_of_heap h.2.1 1, Lib.frozen_of_heap h.2.1 2⟩
theorem Lg.set {i : Nat} {b q : Nat × Nat} {w wx : World} (h : Lg i b w wx) (hq : 0 < q.2) : Lg i q w (((wx.setCell ⟨w.heap.size + 1, 0, none⟩ (.int .i64 q.1)).setCell ⟨w.heap.size + 1, 1, none⟩ (.int .i64 i)).setCell ⟨w.heap.size + 1, 2, none⟩ (.int .i64 (endAt i q.2 : Nat))) := by
 have h1 := heap_setCell_same wx (w.heap.size + 1) 0 _ _ (.int .i64 q.1) h.2.1
 have h2 := heap_setCell_same _ (w.heap.size + 1) 1 _ _ (.int .i64 i) h1
 have h3 := heap_setCell_same _ (w.heap.size + 1) 2 _ _ (.int .i64 (endAt i q.2 : Nat)) h2
 refine ⟨?_, ?_, ((h.2.2.setCell (p := ⟨w.heap.size + 1, 0, none⟩) (by simp) _).setCell (p := ⟨w.heap.size + 1, 1, none⟩) (by simp) _).setCell (p := ⟨w.heap.size + 1, 2, none⟩) (by simp) _⟩
 ·rw [Below.heap_setCell _ _ _ _ (by simp), Below.heap_setCell _ _ _ _ (by simp), Below.heap_setCell _ _ _ _ (by simp)]
  exact h.1
 ·rw [h3]
  unfold endAt
  rw [if_neg (by omega)]
  simp
theorem lg_if {i : Nat} (b q : Nat × Nat) : (b.2 < q.2 → ((i : Int) + b.2) < (endAt i q.2 : Nat)) ∧ (¬ b.2 < q.2 → ¬ ((i : Int) + b.2) < (endAt i q.2 : Nat)) := by
 unfold endAt
 constructor
 ·intro h; rw [if_neg (by omega)]; omega
 ·intro h; split <;> omega
theorem set3_cells {W : World} {b : Nat} {a0 a1 a2 x y z : Value} {t : TypeId} (h : W.heap[b]? = some (.cells #[a0, a1, a2] t (0, 0))) :
  (((W.setCell ⟨b, 0, none⟩ x).setCell ⟨b, 1, none⟩ y).setCell ⟨b, 2, none⟩ z).cell? ⟨b, 0, none⟩ = some x ∧ (((W.setCell ⟨b, 0, none⟩ x).setCell ⟨b, 1, none⟩ y).setCell ⟨b, 2, none⟩ z).cell? ⟨b, 1, none⟩ = some y ∧
  (((W.setCell ⟨b, 0, none⟩ x).setCell ⟨b, 1, none⟩ y).setCell ⟨b, 2, none⟩ z).cell? ⟨b, 2, none⟩ = some z ∧ Below b W (((W.setCell ⟨b, 0, none⟩ x).setCell ⟨b, 1, none⟩ y).setCell ⟨b, 2, none⟩ z) := by
 have h1 := heap_setCell_same W b 0 _ _ x h
 have h2 := heap_setCell_same _ b 1 _ _ y h1
 have h3 := heap_setCell_same _ b 2 _ _ z h2
 exact ⟨by simp [World.cell?, h3], by simp [World.cell?, h3], by simp [World.cell?, h3], (((Below.refl _ _).setCell (p := ⟨b, 0, none⟩) (by simp) _).setCell (p := ⟨b, 1, none⟩) (by simp) _).setCell (p := ⟨b, 2, none⟩) (by simp) _⟩
def lgV (i : Nat) (b : Nat × Nat) : Array Value := if b.1 = 0 then #[itV 0 0 0, .int .i64 21] else #[itV b.1 i (i + b.2), .int .i64 0]
theorem Sc.longest (s : ByteArray) (i : Nat) (w : World) (hi : i < s.size) (hs : s.size ≤ 1000000000) : Calls Tryz.prog 144 #[.string s, .int .i64 i] w fun e w' =>
  e = .returned (.tuple (lgV i (longP ((dl s).drop i)))) ∧ Below w.heap.size w w' := by
 have hi' : (i : Int) < s.size := by omega
 by_cases h10 : (s[i].toNat : Int) = 10
 ·have e10 : s[i] = 10 := byte_eq (n := 10) h10 (by decide)
  have hl : longP ((dl s).drop i) = (9, 1) := by rw [drop_at hi, longP]; simp [e10]
  rw [hl]
  clear hl e10
  go_enter Tryz.func144, Tryz.ntmps144
  go_wp2_with fail
  refine bodyPost_ret (v := .tuple (lgV i (9, 1))) (by simp [results, Tryz.results144, go_sem, lgV]) rfl ⟨rfl, ?_⟩
  exact below_alloc _ _
 ·have e10 : ¬ s[i] = 10 := byte_ne (n := 10) h10 (by decide)
  have h10' : ((s[i].toNat : Int) == 10) = false := by simpa using h10
  obtain ⟨q, hq⟩ : ∃ q, qLen ((dl s).drop i) = q := ⟨_, rfl⟩
  obtain ⟨k1, n1⟩ := q
  obtain ⟨n2, h2⟩ : ∃ n, wLen ((dl s).drop i) = n := ⟨_, rfl⟩
  obtain ⟨n3, h3⟩ : ∃ n, nLen ((dl s).drop i) = n := ⟨_, rfl⟩
  obtain ⟨n4, h4⟩ : ∃ n, pLen ((dl s).drop i) = n := ⟨_, rfl⟩
  have hl : longP ((dl s).drop i) = (let b := best (best (best (best (0, 0) (k1, n1)) (1, n2)) (2, n3)) (5, n4); if b.1 ≠ 0 then b else if s[i] = 39 ∨ s[i] = 34 then (0, 0) else (6, 1)) := by
   rw [longP, hq, h2, h3, h4, drop_at hi]
   simp [e10]
  obtain ⟨V, hV⟩ : ∃ V, lgV i (longP ((dl s).drop i)) = V := ⟨_, rfl⟩
  rw [hV]
  rw [hl] at hV
  have HV := Lib.hid hV
  have HQ := Lib.hid hq
  have H2 := Lib.hid h2
  have H3 := Lib.hid h3
  have H4 := Lib.hid h4
  clear hq h2 h3 h4 h10 e10 hl hV
  go_enter Tryz.func144, Tryz.ntmps144
  go_wp2_with fail
  refine (quoted_call s i _ hi hs (k1, n1) HQ.out).mono ?_
  rintro e w1 ⟨rfl, b1⟩
  have hL := lg_start (i := i) b1
  clear b1
  obtain ⟨b0, hb⟩ : ∃ b : Nat × Nat, b = (0, 0) := ⟨_, rfl⟩
  rw [← hb] at hL
  have HB := Lib.hid hb
  clear hb
  obtain ⟨c0, c1, c2⟩ := hL.cells
  obtain ⟨f0, f1, f2⟩ := hL.fr
  have HL := Lib.hid hL
  clear hL
  go_upto_if 34 with fail
  go_cut [] (fun wx => Lg i (best b0 (k1, n1)) w wx)
  case first =>
   by_cases hq : b0.2 < n1
   ·have hi2 := (lg_if (i := i) b0 (k1, n1)).1 hq
    simp only at hi2
    have hbe : best b0 (k1, n1) = (k1, n1) := if_pos hq
    have HBE := Lib.hid hbe
    have HQQ := Lib.hid hq
    clear hq hbe
    go_wp2_with fail
    go_meet
    rw [HBE.out]
    exact HL.out.set (q := (k1, n1)) (by have := HQQ.out; simp only at this ⊢; omega)
   ·have hi2 := (lg_if (i := i) b0 (k1, n1)).2 hq
    simp only at hi2
    have hbe : best b0 (k1, n1) = b0 := if_neg hq
    have HBE := Lib.hid hbe
    clear hq hbe
    go_wp2_with fail
    go_meet
    rw [HBE.out]
    exact HL.out
  clear c0 c1 c2 f0 f1 f2 HL
  have hL := hcut
  clear hcut
  obtain ⟨b1, hb1⟩ : ∃ x : Nat × Nat, x = best b0 (k1, n1) := ⟨_, rfl⟩
  rw [← hb1] at hL
  have Hb1 := Lib.hid hb1
  clear hb1
  go_wp2_with fail
  refine (word_call s i _ hi hs n2 H2.out).mono ?_
  rintro e w1 ⟨rfl, rfl⟩
  obtain ⟨c0, c1, c2⟩ := hL.cells
  obtain ⟨f0, f1, f2⟩ := hL.fr
  have HL := Lib.hid hL
  clear hL
  go_upto_if 45 with fail
  go_cut [] (fun wx => Lg i (best b1 (1, n2)) w wx)
  case first =>
   by_cases hq : b1.2 < n2
   ·have hi2 := (lg_if (i := i) b1 (1, n2)).1 hq
    simp only at hi2
    have hbe : best b1 (1, n2) = (1, n2) := if_pos hq
    have HBE := Lib.hid hbe
    have HQQ := Lib.hid hq
    clear hq hbe
    go_wp2_with fail
    go_meet
    rw [HBE.out]
    exact HL.out.set (q := (1, n2)) (by have := HQQ.out; simp only at this ⊢; omega)
   ·have hi2 := (lg_if (i := i) b1 (1, n2)).2 hq
    simp only at hi2
    have hbe : best b1 (1, n2) = b1 := if_neg hq
    have HBE := Lib.hid hbe
    clear hq hbe
    go_wp2_with fail
    go_meet
    rw [HBE.out]
    exact HL.out
  clear c0 c1 c2 f0 f1 f2 HL
  have hL := hcut
  clear hcut
  obtain ⟨b2, hb2⟩ : ∃ x : Nat × Nat, x = best b1 (1, n2) := ⟨_, rfl⟩
  rw [← hb2] at hL
  have Hb2 := Lib.hid hb2
  clear hb2
  go_wp2_with fail
  refine (number_call s i _ hi hs n3 H3.out).mono ?_
  rintro e w1 ⟨rfl, rfl⟩
  obtain ⟨c0, c1, c2⟩ := hL.cells
  obtain ⟨f0, f1, f2⟩ := hL.fr
  have HL := Lib.hid hL
  clear hL
  go_upto_if 55 with fail
  go_cut [] (fun wx => Lg i (best b2 (2, n3)) w wx)
  case first =>
   by_cases hq : b2.2 < n3
   ·have hi2 := (lg_if (i := i) b2 (2, n3)).1 hq
    simp only at hi2
    have hbe : best b2 (2, n3) = (2, n3) := if_pos hq
    have HBE := Lib.hid hbe
    have HQQ := Lib.hid hq
    clear hq hbe
    go_wp2_with fail
    go_meet
    rw [HBE.out]
    exact HL.out.set (q := (2, n3)) (by have := HQQ.out; simp only at this ⊢; omega)
   ·have hi2 := (lg_if (i := i) b2 (2, n3)).2 hq
    simp only at hi2
    have hbe : best b2 (2, n3) = b2 := if_neg hq
    have HBE := Lib.hid hbe
    clear hq hbe
    go_wp2_with fail
    go_meet
    rw [HBE.out]
    exact HL.out
  clear c0 c1 c2 f0 f1 f2 HL
  have hL := hcut
  clear hcut
  obtain ⟨b3, hb3⟩ : ∃ x : Nat × Nat, x = best b2 (2, n3) := ⟨_, rfl⟩
  rw [← hb3] at hL
  have Hb3 := Lib.hid hb3
  clear hb3
  go_wp2_with fail
  refine (punctE_call s i _ hi hs n4 H4.out).mono ?_
  rintro e w1 ⟨rfl, rfl⟩
  obtain ⟨c0, c1, c2⟩ := hL.cells
  obtain ⟨f0, f1, f2⟩ := hL.fr
  have HL := Lib.hid hL
  clear hL
  go_upto_if 65 with fail
  go_cut [] (fun wx => Lg i (best b3 (5, n4)) w wx)
  case first =>
   by_cases hq : b3.2 < n4
   ·have hi2 := (lg_if (i := i) b3 (5, n4)).1 hq
    simp only at hi2
    have hbe : best b3 (5, n4) = (5, n4) := if_pos hq
    have HBE := Lib.hid hbe
    have HQQ := Lib.hid hq
    clear hq hbe
    go_wp2_with fail
    go_meet
    rw [HBE.out]
    exact HL.out.set (q := (5, n4)) (by have := HQQ.out; simp only at this ⊢; omega)
   ·have hi2 := (lg_if (i := i) b3 (5, n4)).2 hq
    simp only at hi2
    have hbe : best b3 (5, n4) = b3 := if_neg hq
    have HBE := Lib.hid hbe
    clear hq hbe
    go_wp2_with fail
    go_meet
    rw [HBE.out]
    exact HL.out
  clear c0 c1 c2 f0 f1 f2 HL
  have hL := hcut
  clear hcut
  obtain ⟨b4, hb4⟩ : ∃ x : Nat × Nat, x = best b3 (5, n4) := ⟨_, rfl⟩
  rw [← hb4] at hL
  have Hb4 := Lib.hid hb4
  clear hb4
  obtain ⟨c0, c1, c2⟩ := hL.cells
  obtain ⟨f0, f1, f2⟩ := hL.fr
  have g0 := hL.1
  have d0 : wc.cell? ⟨w.heap.size, 0, none⟩ = some (.int .i64 0) := by simp [World.cell?, g0]
  have d1 : wc.cell? ⟨w.heap.size, 1, none⟩ = some (.int .i64 0) := by simp [World.cell?, g0]
  have d2 : wc.cell? ⟨w.heap.size, 2, none⟩ = some (.int .i64 0) := by simp [World.cell?, g0]
  have e0 : wc.frozen? ⟨w.heap.size, 0, none⟩ = false := Lib.frozen_of_heap g0 0
  have e1 : wc.frozen? ⟨w.heap.size, 1, none⟩ = false := Lib.frozen_of_heap g0 1
  have e2 : wc.frozen? ⟨w.heap.size, 2, none⟩ = false := Lib.frozen_of_heap g0 2
  have hbel := hL.2.2
  have HBEL := Lib.hid hbel
  have hg0 := g0
  clear hL g0 hbel f0 f1 f2
  have hch : best (best (best (best (0, 0) (k1, n1)) (1, n2)) (2, n3)) (5, n4) = b4 := by rw [Hb4.out, Hb3.out, Hb2.out, Hb1.out, HB.out]
  have hV := HV.out
  rw [hch] at hV
  try simp only at hV
  clear HV hch
  have cl : (b4.1 ≠ 0 ∧ ((b4.1 : Int) == 0) = false ∧ V = #[itV b4.1 i (i + b4.2), .int .i64 0]) ∨ ((b4.1 : Int) = 0 ∧ ((s[i].toNat : Int) = 39 ∨ ((s[i].toNat : Int) == 39) = false ∧ (s[i].toNat : Int) = 34) ∧ V = #[itV 0 0 0, .int .i64 21]) ∨ ((b4.1 : Int) = 0 ∧ ((s[i].toNat : Int) == 39) = false ∧ ((s[i].toNat : Int) == 34) = false ∧ V = #[itV 6 i (i + 1), .int .i64 0]) := by
   by_cases hk : b4.1 = 0
   ·rw [if_neg (by simpa using hk)] at hV
    refine .inr ?_
    by_cases a : (s[i].toNat : Int) = 39
    ·rw [if_pos (.inl (byte_eq (n := 39) a (by decide)))] at hV
     exact .inl ⟨by omega, .inl a, by rw [← hV]; rfl⟩
    have a' : ¬ s[i] = 39 := byte_ne (n := 39) a (by decide)
    by_cases c : (s[i].toNat : Int) = 34
    ·rw [if_pos (.inr (byte_eq (n := 34) c (by decide)))] at hV
     exact .inl ⟨by omega, .inr ⟨by simpa using a, c⟩, by rw [← hV]; rfl⟩
    have c' : ¬ s[i] = 34 := byte_ne (n := 34) c (by decide)
    rw [if_neg (fun h => h.elim a' c')] at hV
    exact .inr ⟨by omega, by simpa using a, by simpa using c, by rw [← hV]; rfl⟩
   ·rw [if_pos hk] at hV
    refine .inl ⟨hk, by rw [beq_eq_false_iff_ne]; omega, ?_⟩
    rw [← hV, lgV, if_neg hk]
  clear hV Hb4 Hb3 Hb2 Hb1 HB
  have q3 := fun x y z => set3_cells (x := x) (y := y) (z := z) hg0
  have Q3 := Lib.hid q3
  clear q3 hg0
  rcases cl with ⟨-, hk, hv⟩ | ⟨hk, hq | ⟨hq, hq2⟩, hv⟩ | ⟨hk, hq, hq2, hv⟩
  all_goals
   have HV := Lib.hid hv
   clear hv
   go_wp2_with fail
   obtain ⟨q0, q1, q2, qb⟩ := Q3.out _ _ _
   refine bodyPost_ret (v := .tuple V) (by rw [HV.out]; simp [results, Tryz.results144, go_sem, q0, q1, q2]) rfl ⟨rfl, HBEL.out.trans (qb.mono (by simp))⟩
end Go.Proofs.YtlboejdhmggjpaaGreat.Ww

/- WwI -/
namespace Go.Proofs.YtlboejdhmggjpaaGreat.Ww
set_option maxRecDepth 100000
set_option maxHeartbeats 16000000
open Go.Proofs.YtlboejdhmggjpaaGreat
open Go.RowKit Go.BigFrame

theorem Sc.afterF (st k : Nat) (x : ByteArray) (w : World) : Calls Tryz.prog 109 #[.int .i64 st, .int .i64 k, .string x] w fun e w' => e = .returned (.int .i64 (after st k (dl x))) ∧ w' = w := by
 go_enter Tryz.func109, Tryz.ntmps109
 go_wp2_with fail
 all_goals
  go_ret
  refine ⟨?_, rfl⟩
  simp only [toList_dl, beq_iff_eq, beq_eq_false_iff_ne, ne_eq] at *
  congr 2
  unfold after isHash incl
  repeat' split
  all_goals first | rfl | omega | (simp_all; done) | (simp_all; omega) | skip
theorem index_fEnd : ∀ t : Bs, Lib.index t [42, 47] = match fEnd t with | none => -1 | some n => (n : Int)
 | [] => rfl
 | [c] => by simp [Lib.index, fEnd]
 | c :: d :: r => by
  have h := index_fEnd (d :: r)
  rw [Lib.index, h, fEnd]
  by_cases hc : c = 42 ∧ d = 47
  ·rw [if_pos hc, if_pos (by obtain ⟨rfl, rfl⟩ := hc; simp)]
   rfl
  ·rw [if_neg hc, if_neg (by
    intro h
    apply hc
    simp at h
    exact ⟨h.1.symm, h.2.symm⟩)]
   cases fEnd (d :: r) with
   | none => rfl
   | some n => simp
theorem indexByte_toNl : ∀ t : Bs, Lib.indexByte t 10 = if toNl t < t.length then (toNl t : Int) else -1
 | [] => rfl
 | c :: r => by
  have h := indexByte_toNl r
  rw [Lib.indexByte, h, toNl]
  by_cases hc : c = 10
  ·subst hc; simp
  ·rw [if_neg (by simpa using hc), if_neg hc]
   by_cases hl : toNl r < r.length
   ·rw [if_pos hl, if_neg (by rw [beq_iff_eq]; omega), if_pos (by rw [List.length_cons]; omega)]; simp
   ·rw [if_neg hl, if_pos (by rfl), if_neg (by rw [List.length_cons]; omega)]
theorem fEnd_len {t : Bs} {n : Nat} (h : fEnd t = some n) : n + 2 ≤ t.length := fEnd_le t n h
theorem cLen_cases {s : ByteArray} {i : Nat} (hi : i < s.size) {b1 b2 : Bool} (h1 : Lib.hasPrefix (dl (s.extract i s.size)) [47, 42] = b1) (h2 : Lib.hasPrefix (dl (s.extract i s.size)) [47, 47] = b2) :
  (b1 = true ∧ i + 2 ≤ s.size ∧ cLen ((dl s).drop i) = match fEnd ((dl s).drop (i + 2)) with | none => (0, 20) | some n => (n + 4, 0)) ∨
  (b1 = false ∧ b2 = true ∧ i + 2 ≤ s.size ∧ cLen ((dl s).drop i) = (toNl ((dl s).drop (i + 2)) + 2, 0) ∧ toNl ((dl s).drop i) = toNl ((dl s).drop (i + 2)) + 2) ∨
  (b1 = false ∧ b2 = false ∧ cLen ((dl s).drop i) = (0, 0)) := by
 rw [dl_to, hasPrefix_take] at h1 h2
 simp only [List.length_cons, List.length_nil, Nat.reduceAdd] at h1 h2
 by_cases hk : i + 1 < s.size
 ·have ht : (dl s).drop i = s[i] :: s[i + 1] :: (dl s).drop (i + 2) := by rw [drop_at hi, drop_at hk]
  rw [ht] at h1 h2 ⊢
  simp only [List.take_succ_cons, List.take_zero, List.cons.injEq, and_true] at h1 h2
  cases b1
  ·have g1 := of_decide_eq_false h1
   cases b2
   ·have g2 := of_decide_eq_false h2
    exact .inr (.inr ⟨rfl, rfl, by rw [cLen]; simp only [if_neg g1, if_neg g2]⟩)
   ·have g2 := of_decide_eq_true h2
    refine .inr (.inl ⟨rfl, rfl, by omega, by rw [cLen]; simp only [if_neg g1, if_pos g2], ?_⟩)
    rw [g2.1, g2.2, toNl, toNl]
    simp
  ·have g1 := of_decide_eq_true h1
   exact .inl ⟨rfl, by omega, by rw [cLen]; simp only [if_pos g1]; rfl⟩
 ·have ht : (dl s).drop i = [s[i]] := by rw [drop_at hi, drop_end (by omega)]
  rw [ht] at h1 h2 ⊢
  have g1 : b1 = false := by rw [← h1]; simp
  have g2 : b2 = false := by rw [← h2]; simp
  exact .inr (.inr ⟨g1, g2, rfl⟩)
def Mx (w : World) : Prop := ∃ m, w.cell? ⟨0, 0, none⟩ = some (.int .i64 m)
theorem Mx.pos {w : World} (h : Mx w) : 0 < w.heap.size := by
 obtain ⟨m, hm⟩ := h
 simp only [World.cell?] at hm
 cases hh : w.heap[0]? with
 | none => rw [hh] at hm; cases hm
 | some o => exact (Array.getElem?_eq_some_iff.1 hh).1
theorem Mx.of {B : Nat} {w w' : World} (h : Mx w) (hb : Below B w w') (hB : 0 < B) : Mx w' := by
 obtain ⟨m, hm⟩ := h
 refine ⟨m, ?_⟩
 simp only [World.cell?] at hm ⊢
 rw [hb.block 0 hB]
 exact hm
theorem index_call (s p : ByteArray) (w : World) (n : Int) (hs : s.size < 4294967281) (hm : Mx w) (h : Lib.index (dl s) (dl p) = n) : Calls Tryz.prog 142 #[.string s, .string p] w fun e w' => e = .returned (.int .i64 n) ∧ w' = w := by
 obtain ⟨m, hm⟩ := hm
 exact h ▸ Tryz.strings_Index s p m w hs hm
theorem indexByte_call (s : ByteArray) (w : World) (n : Int) (h : Lib.indexByte (dl s) 10 = n) : Calls Tryz.prog 143 #[.string s, .int .u8 10] w fun e w' => e = .returned (.int .i64 n) ∧ w' = w := h ▸ Tryz.strings_IndexByte s 10 w
theorem header_call (s : ByteArray) (i : Nat) (w : World) (hi : i < s.size) (hs : s.size ≤ 1000000000) (n : Nat) (h : hLen ((dl s).drop i) = n) : Calls Tryz.prog 140 #[.string s, .int .i64 i] w fun e w' => e = .returned (.int .i64 (endAt i n)) ∧ w' = w := h ▸ Sc.headerEnd s i w hi hs
theorem longest_call (s : ByteArray) (i : Nat) (w : World) (hi : i < s.size) (hs : s.size ≤ 1000000000) (q : Nat × Nat) (h : longP ((dl s).drop i) = q) : Calls Tryz.prog 144 #[.string s, .int .i64 i] w fun e w' => e = .returned (.tuple (lgV i q)) ∧ Below w.heap.size w w' := h ▸ Sc.longest s i w hi hs
def itmV (i : Nat) (q : Nat × Nat × Nat) : Array Value := if q.2.2 ≠ 0 then #[itV 0 0 0, .int .i64 q.2.2] else #[itV q.1 i (i + q.2.1), .int .i64 0]
theorem Sc.itemAt (s : ByteArray) (i : Nat) (hdr : Bool) (w : World) (hi : i < s.size) (hs : s.size ≤ 1000000000) (hm : Mx w) : Calls Tryz.prog 108 #[.string s, .int .i64 i, .bool hdr] w fun e w' =>
  e = .returned (.tuple (itmV i (itm ((dl s).drop i) hdr))) ∧ Below w.heap.size w w' := by
 have hi' : (i : Int) < s.size := by omega
 obtain ⟨V, hV⟩ : ∃ V, itm ((dl s).drop i) hdr = V := ⟨_, rfl⟩
 rw [hV]
 obtain ⟨b1, hb1⟩ : ∃ b, Lib.hasPrefix (dl (s.extract i s.size)) [47, 42] = b := ⟨_, rfl⟩
 obtain ⟨b2, hb2⟩ : ∃ b, Lib.hasPrefix (dl (s.extract i s.size)) [47, 47] = b := ⟨_, rfl⟩
 obtain ⟨n, hn⟩ : ∃ n, hLen ((dl s).drop i) = n := ⟨_, rfl⟩
 have hc := cLen_cases hi hb1 hb2
 have HB1 := Lib.hid hb1
 have HB2 := Lib.hid hb2
 have HN := Lib.hid hn
 have HM := Lib.hid hm
 have hh : (hdr = true ∧ (0 : Int) < (endAt i n : Nat) ∧ V = (7, n, 0)) ∨ (((hdr = true ∧ ¬ (0 : Int) < (endAt i n : Nat)) ∨ hdr = false) ∧ V = if (cLen ((dl s).drop i)).2 ≠ 0 then (0, 0, (cLen ((dl s).drop i)).2)
   else if (cLen ((dl s).drop i)).1 ≠ 0 then (8, (cLen ((dl s).drop i)).1, 0) else if (longP ((dl s).drop i)).1 = 0 then (0, 0, 21) else ((longP ((dl s).drop i)).1, (longP ((dl s).drop i)).2, 0)) := by
  rw [itm, hn] at hV
  by_cases h : hdr = true ∧ 0 < n
  ·rw [if_pos h] at hV
   exact .inl ⟨h.1, by unfold endAt; rw [if_neg (by omega)]; omega, hV.symm⟩
  ·rw [if_neg h] at hV
   refine .inr ⟨?_, hV.symm⟩
   cases hdr
   ·exact .inr rfl
   ·refine .inl ⟨rfl, ?_⟩
    have : n = 0 := by
     rcases Nat.eq_zero_or_pos n with h0 | h0
     ·exact h0
     ·exact absurd ⟨rfl, h0⟩ h
    subst this
    unfold endAt; simp
 clear hV hb1 hb2 hn hm
 rcases hh with ⟨rfl, h0, rfl⟩ | ⟨h0, hv⟩
 ·clear hc
  have hnp : 0 < n := by
   rcases Nat.eq_zero_or_pos n with h | h
   ·subst h; unfold endAt at h0; simp at h0
   ·exact h
  have he : ((endAt i n : Nat) : Int) = (i : Int) + n := by unfold endAt; rw [if_neg (by omega)]; omega
  have HE := Lib.hid he
  clear he
  go_enter Tryz.func108, Tryz.ntmps108
  go_wp2_with (first | (go_at_call 140; refine (header_call s i _ hi hs n HN.out).mono ?_; rintro e w1 ⟨rfl, rfl⟩) | fail)
  refine bodyPost_ret (v := .tuple (itmV i (7, n, 0))) (by simp [results, Tryz.results108, go_sem, itmV, HE.out]) rfl ⟨rfl, ?_⟩
  exact below_alloc _ _
 ·rcases hc with ⟨rfl, h2, hcl⟩ | ⟨rfl, rfl, h2, hcl, htl⟩ | ⟨rfl, rfl, hcl⟩
  ·have h2' : (i : Int) + 2 ≤ s.size := by omega
   have hix := index_fEnd ((dl s).drop (i + 2))
   rw [← dl_to] at hix
   rw [show (dl s).drop (i + 2) = dl (s.extract (i + 2) s.size) from (dl_to _ _).symm] at hcl
   have HSZ : Hid ((s.extract (i + 2) s.size).size < 4294967281) := Lib.hid (by rw [size_dl, dl_to, drop_len]; omega)
   cases ho : fEnd (dl (s.extract (i + 2) s.size)) with
   | none =>
    rw [ho] at hix hcl
    rw [hcl] at hv
    have HIX : Hid (Lib.index (dl (s.extract (i + 2) s.size)) [42, 47] = -1) := Lib.hid hix
    have hv' : V = (0, 0, 20) := by rw [hv]; rfl
    clear hix hcl hv ho
    subst hv'
    rcases h0 with ⟨rfl, h0⟩ | rfl
    all_goals
     go_enter Tryz.func108, Tryz.ntmps108
     go_wp2_with (first | (go_at_call 140; refine (header_call s i _ hi hs n HN.out).mono ?_; rintro e w1 ⟨rfl, rfl⟩) | (go_at_call 141; refine (hasPrefix_call _ _ _ _ HB1.out).mono ?_; rintro e w1 ⟨rfl, rfl⟩) | (go_at_call 141; refine (hasPrefix_call _ _ _ _ HB2.out).mono ?_; rintro e w1 ⟨rfl, rfl⟩) | (go_at_call 142; refine (index_call _ _ _ _ HSZ.out (HM.out.of (below_alloc _ _) HM.out.pos) HIX.out).mono ?_; rintro e w1 ⟨rfl, rfl⟩) | (go_at_call 143; refine (indexByte_call _ _ _ HIB.out).mono ?_; rintro e w1 ⟨rfl, rfl⟩) | fail)
     refine bodyPost_ret (v := .tuple (itmV i (0, 0, 20))) (by simp [results, Tryz.results108, go_sem, itmV]) rfl ⟨rfl, ?_⟩
     exact below_alloc _ _
   | some k =>
    rw [ho] at hix hcl
    rw [hcl] at hv
    have hk : i + 2 + k + 2 ≤ s.size := by
     have := fEnd_len ho
     rw [dl_to, drop_len] at this
     omega
    have HIX : Hid (Lib.index (dl (s.extract (i + 2) s.size)) [42, 47] = k) := Lib.hid hix
    have hv' : V = (8, k + 4, 0) := by rw [hv]; simp
    have he : ((i + (k + 4) : Nat) : Int) = (i : Int) + 2 + k + 2 := by omega
    have HE := Lib.hid he
    have hk' : (i : Int) + 2 + k + 2 ≤ s.size := by omega
    have hk0 : ¬ ((k : Int) < 0) := by omega
    clear hix hcl hv ho he
    subst hv'
    rcases h0 with ⟨rfl, h0⟩ | rfl
    all_goals
     go_enter Tryz.func108, Tryz.ntmps108
     go_wp2_with (first | (go_at_call 140; refine (header_call s i _ hi hs n HN.out).mono ?_; rintro e w1 ⟨rfl, rfl⟩) | (go_at_call 141; refine (hasPrefix_call _ _ _ _ HB1.out).mono ?_; rintro e w1 ⟨rfl, rfl⟩) | (go_at_call 141; refine (hasPrefix_call _ _ _ _ HB2.out).mono ?_; rintro e w1 ⟨rfl, rfl⟩) | (go_at_call 142; refine (index_call _ _ _ _ HSZ.out (HM.out.of (below_alloc _ _) HM.out.pos) HIX.out).mono ?_; rintro e w1 ⟨rfl, rfl⟩) | (go_at_call 143; refine (indexByte_call _ _ _ HIB.out).mono ?_; rintro e w1 ⟨rfl, rfl⟩) | fail)
     refine bodyPost_ret (v := .tuple (itmV i (8, k + 4, 0))) (by simp only [itmV, itV, HE.out]; simp [results, Tryz.results108, go_sem]) rfl ⟨rfl, ?_⟩
     exact below_alloc _ _
  ·have hib := indexByte_toNl ((dl s).drop i)
   rw [hcl] at hv
   have hv' : V = (8, toNl ((dl s).drop i), 0) := by rw [hv, htl]; simp
   clear hcl hv htl
   have hle := toNl_le ((dl s).drop i)
   obtain ⟨k, hk⟩ : ∃ k, toNl ((dl s).drop i) = k := ⟨_, rfl⟩
   rw [hk] at hv' hib hle
   clear hk
   rw [drop_len] at hib hle
   rw [← dl_to] at hib
   subst hv'
   by_cases hkl : k < s.size - i
   ·rw [if_pos hkl] at hib
    have HIB := Lib.hid hib
    have hk0 : ¬ ((k : Int) < 0) := by omega
    have hks : (i : Int) + k ≤ s.size := by omega
    clear hib
    rcases h0 with ⟨rfl, h0⟩ | rfl
    all_goals
     go_enter Tryz.func108, Tryz.ntmps108
     go_wp2_with (first | (go_at_call 140; refine (header_call s i _ hi hs n HN.out).mono ?_; rintro e w1 ⟨rfl, rfl⟩) | (go_at_call 141; refine (hasPrefix_call _ _ _ _ HB1.out).mono ?_; rintro e w1 ⟨rfl, rfl⟩) | (go_at_call 141; refine (hasPrefix_call _ _ _ _ HB2.out).mono ?_; rintro e w1 ⟨rfl, rfl⟩) | (go_at_call 142; refine (index_call _ _ _ _ HSZ.out (HM.out.of (below_alloc _ _) HM.out.pos) HIX.out).mono ?_; rintro e w1 ⟨rfl, rfl⟩) | (go_at_call 143; refine (indexByte_call _ _ _ HIB.out).mono ?_; rintro e w1 ⟨rfl, rfl⟩) | fail)
     refine bodyPost_ret (v := .tuple (itmV i (8, k, 0))) (by simp [results, Tryz.results108, go_sem, itmV]) rfl ⟨rfl, ?_⟩
     exact below_alloc _ _
   ·rw [if_neg hkl] at hib
    have HIB := Lib.hid hib
    obtain rfl : k = s.size - i := by omega
    have he : ((i + (s.size - i) : Nat) : Int) = s.size := by omega
    have HE := Lib.hid he
    clear hib hkl hle he
    rcases h0 with ⟨rfl, h0⟩ | rfl
    all_goals
     go_enter Tryz.func108, Tryz.ntmps108
     go_wp2_with (first | (go_at_call 140; refine (header_call s i _ hi hs n HN.out).mono ?_; rintro e w1 ⟨rfl, rfl⟩) | (go_at_call 141; refine (hasPrefix_call _ _ _ _ HB1.out).mono ?_; rintro e w1 ⟨rfl, rfl⟩) | (go_at_call 141; refine (hasPrefix_call _ _ _ _ HB2.out).mono ?_; rintro e w1 ⟨rfl, rfl⟩) | (go_at_call 142; refine (index_call _ _ _ _ HSZ.out (HM.out.of (below_alloc _ _) HM.out.pos) HIX.out).mono ?_; rintro e w1 ⟨rfl, rfl⟩) | (go_at_call 143; refine (indexByte_call _ _ _ HIB.out).mono ?_; rintro e w1 ⟨rfl, rfl⟩) | fail)
     refine bodyPost_ret (v := .tuple (itmV i (8, s.size - i, 0))) (by simp only [itmV, itV, HE.out]; simp [results, Tryz.results108, go_sem]; try omega) rfl ⟨rfl, ?_⟩
     exact below_alloc _ _
  ·rw [hcl] at hv
   simp only [ne_eq, not_true, if_false] at hv
   obtain ⟨q, hq⟩ : ∃ q, longP ((dl s).drop i) = q := ⟨_, rfl⟩
   rw [hq] at hv
   have HQ := Lib.hid hq
   clear hcl hq
   have hlv : lgV i q = itmV i V := by
    rw [hv]
    unfold lgV itmV
    by_cases h : q.1 = 0
    ·rw [if_pos h, if_pos h]; rfl
    ·rw [if_neg h, if_neg h]; rfl
   obtain ⟨a, b, c, d, hab⟩ : ∃ a b c d : Nat, lgV i q = #[itV a b c, .int .i64 d] := by
    unfold lgV; split
    ·exact ⟨0, 0, 0, 21, rfl⟩
    ·exact ⟨_, _, _, 0, rfl⟩
   rw [← hlv, hab]
   have HAB := Lib.hid hab
   clear hv hlv hab
   rcases h0 with ⟨rfl, h0⟩ | rfl
   all_goals
    go_enter Tryz.func108, Tryz.ntmps108
    go_wp2_with (first | (go_at_call 140; refine (header_call s i _ hi hs n HN.out).mono ?_; rintro e w1 ⟨rfl, rfl⟩) | (go_at_call 141; refine (hasPrefix_call _ _ _ _ HB1.out).mono ?_; rintro e w1 ⟨rfl, rfl⟩) | (go_at_call 141; refine (hasPrefix_call _ _ _ _ HB2.out).mono ?_; rintro e w1 ⟨rfl, rfl⟩) | (go_at_call 142; refine (index_call _ _ _ _ HSZ.out (HM.out.of (below_alloc _ _) HM.out.pos) HIX.out).mono ?_; rintro e w1 ⟨rfl, rfl⟩) | (go_at_call 143; refine (indexByte_call _ _ _ HIB.out).mono ?_; rintro e w1 ⟨rfl, rfl⟩) | fail)
    refine (longest_call s i _ hi hs q HQ.out).mono ?_
    rintro e w2 ⟨rfl, b2⟩
    rw [HAB.out]
    have g0 : w2.heap[w.heap.size]? = some (.cells #[.int .i64 0, .int .i64 0, .int .i64 0] 143 (0, 0)) := by
     rw [b2.block _ (by simp)]
     exact heap_alloc_new _ _
    have hbel : Below w.heap.size w w2 := (below_alloc w _).trans (b2.mono (by simp))
    have d0 : w2.cell? ⟨w.heap.size, 0, none⟩ = some (.int .i64 0) := by simp [World.cell?, g0]
    have d1 : w2.cell? ⟨w.heap.size, 1, none⟩ = some (.int .i64 0) := by simp [World.cell?, g0]
    have d2 : w2.cell? ⟨w.heap.size, 2, none⟩ = some (.int .i64 0) := by simp [World.cell?, g0]
    have e0 : w2.frozen? ⟨w.heap.size, 0, none⟩ = false := Lib.frozen_of_heap g0 0
    have e1 : w2.frozen? ⟨w.heap.size, 1, none⟩ = false := Lib.frozen_of_heap g0 1
    have e2 : w2.frozen? ⟨w.heap.size, 2, none⟩ = false := Lib.frozen_of_heap g0 2
    have Q3 := Lib.hid (fun x y z => set3_cells (x := x) (y := y) (z := z) g0)
    have HBEL := Lib.hid hbel
    clear g0 hbel b2
    go_wp2_with fail
    obtain ⟨q0, q1, q2, qb⟩ := Q3.out (.int .i64 a) (.int .i64 b) (.int .i64 c)
    refine bodyPost_ret (v := .tuple #[itV a b c, .int .i64 d]) (by simp [results, Tryz.results108, go_sem, q0, q1, q2]) rfl ⟨rfl, HBEL.out.trans (qb.mono (by simp))⟩
end Go.Proofs.YtlboejdhmggjpaaGreat.Ww

/- WwJ -/
namespace Go.Proofs.YtlboejdhmggjpaaGreat.Ww
set_option maxRecDepth 100000
set_option maxHeartbeats 16000000
open Go.Proofs.YtlboejdhmggjpaaGreat
open Go.RowKit Go.BigFrame Go.Shelf
attribute [local go_sem] Oper.semAt_some

def KT (T : TypeId → Bool) (w w' : World) : Prop := w.heap.size ≤ w'.heap.size ∧ ∀ (k : Nat) (cs : Array Value) (t : TypeId) (fz : Nat × Nat), T t = true → w.heap[k]? = some (.cells cs t fz) → w'.heap[k]? = some (.cells cs t fz)
theorem KT.refl (T : TypeId → Bool) (w : World) : KT T w w := ⟨Nat.le_refl _, fun _ _ _ _ _ h => h⟩
theorem KT.trans {T : TypeId → Bool} {a b c : World} (h : KT T a b) (k : KT T b c) : KT T a c := ⟨Nat.le_trans h.1 k.1, fun i cs t fz ht hi => k.2 i cs t fz ht (h.2 i cs t fz ht hi)⟩
theorem KT.of_below {T : TypeId → Bool} {w w' : World} (h : Below w.heap.size w w') : KT T w w' := ⟨h.size, fun k cs t fz _ hk => heap_below h hk (Array.getElem?_eq_some_iff.1 hk).1⟩
theorem KT.putObj {T : TypeId → Bool} {w : World} {l : Nat} {o o' : Obj} (ho : w.heap[l]? = some o) (hc : o.isCells = false) : KT T w (w.putObj l o') := ⟨by simp, fun k cs t fz _ hk => by
 rw [World.putObj_heap_other (fun e => by
  subst e
  rw [ho] at hk
  cases hk
  cases hc)]
 exact hk⟩
theorem KT.set {T : TypeId → Bool} {a w : World} {b t : Nat} {cs0 : Array Value} {fz : Nat × Nat} (h : KT T a w) (hb : w.heap[b]? = some (.cells cs0 t fz)) (ht : T t = false) (i : Nat) (v : Value) : KT T a (w.setCell ⟨b, i, none⟩ v) :=
 ⟨by simpa using h.1, fun k cs t' fz' ht' hk => by
  have h1 := h.2 k cs t' fz' ht' hk
  rw [Below.heap_setCell _ _ _ _ (fun e => by
   have e : k = b := e
   subst e
   rw [hb] at h1
   cases h1
   rw [ht] at ht'
   cases ht')]
  exact h1⟩
theorem KT.alloc {T : TypeId → Bool} {a w : World} (h : KT T a w) (o : Obj) : KT T a (w.alloc o) := h.trans (KT.of_below (below_alloc w o))

theorem Ph.parts (s : ByteArray) (w : World) : Calls Tryz.prog 105 #[.string s] w fun e w' => e = .returned (.func (.func 138) #[] #[.pointer (some ⟨w.heap.size, 0, none⟩)]) ∧ w' = w.alloc (.cells #[.string s] 9) := by
 go_enter Tryz.func105, Tryz.ntmps105
 go_wp2
 go_ret
 exact ⟨rfl, rfl⟩
def T9105 (t : TypeId) : Bool := t == 9 || t == 175
theorem Ph.seq (n B : Nat) (s : ByteArray) (w : World) (h0 : w.heap[B]? = some (.cells #[.string s] 9 (0, 0))) (hs : s.size ≤ 1000000000) :
  SeqG Fence.wide n Tryz.prog 138 #[.pointer (some ⟨B, 0, none⟩)] (fun p : Pt => #[ptV p]) (KT T9105) (fun pre x => ∃ r, prts (dl s) 0 = pre ++ x :: r) (fun _ => False)
   (fun zs => zs = prts (dl s) 0) (fun zs => ∃ r, prts (dl s) 0 = zs ++ r) w := fun l J Jx W hW hJ hJx hY hj0 => by
 have g0 := heap_below hW h0 (Array.getElem?_eq_some_iff.1 h0).1
 have HJ := Lib.hid hJ
 have HY := Lib.hid hY
 have HJ0 := Lib.hid hj0
 have G0 := Lib.hid g0
 clear h0 hJ hJx g0 hY hj0
 refine callsIn_of_wp Tryz.func138 rfl trivial ?_ rfl
 simp only [Tryz.ntmps138, List.size_toArray, List.length_cons, List.length_nil, Nat.reduceAdd, Nat.reduceSub, Array.replicate_succ, Array.replicate_zero, List.push_toArray, List.append_toArray, List.nil_append, List.cons_append]
 gi_wp2_with (fail)
 gi_loopw [3] (fun s3 wr => ∃ (pre : List Pt) (i : Nat), prts (dl s) 0 = pre ++ prts (dl s) i ∧ i ≤ s.size ∧ s3 = .int .i64 i ∧ wr.heap[B]? = some (.cells #[.string s] 9 (0, 0)) ∧ J pre wr) (fun s3 _ => s.size - (intOf s3).toNat)
 case atStart => exact ⟨[], 0, rfl, Nat.zero_le _, rfl, G0.out, HJ0.out⟩
 case round =>
  clear HJ0 G0
  obtain ⟨pre, i, hpre, hi, rfl, g0, hjp⟩ := hrel
  have c0 : wr.cell? ⟨B, 0, none⟩ = some (.string s) := by simp [World.cell?, g0]
  have G0 := Lib.hid g0
  have HJP := Lib.hid hjp
  clear g0 hjp
  by_cases hlt : i < s.size
  ·have hlt' : (i : Int) < s.size := by omega
   rw [prts_lt (i := i) (by rw [← size_dl]; exact hlt)] at hpre
   obtain ⟨p, hp⟩ : ∃ p, ptAt (dl s) i = p := ⟨_, rfl⟩
   have hpp := pt_pos (dl s) i
   have hpl := pt_le (s := dl s) (i := i) (by rw [← size_dl]; exact hlt)
   have hpa := pt_at (dl s) i
   have hc := Ph.partAtF s i wr hlt hs
   rw [hp] at hpre hpp hpl hpa hc
   rw [← size_dl] at hpl
   have HPRE := Lib.hid hpre
   have HC := Lib.hid hc
   clear hpre hc hp
   obtain ⟨pb, pp, pl, ps⟩ := p
   simp only at hpp hpl hpa
   subst hpa
   gi_wp2_with (fail)
   refine ⟨trivial, (fun hh => by cases hh), (callsIn_wide.2 HC.out).mono ?_⟩
   rintro e w2 ⟨rfl, b2⟩
   have hjw := HJ.out pre wr (w2.alloc (.cells #[.int .u8 pb.toNat, .int .i64 pp, .int .i64 pl, .bool ps] 175)) HJP.out (Mod.of_below (b2.trans ((below_alloc w2 _).mono b2.size)))
   obtain ⟨fn1, tm1, as1, bo1, hyy1, hR1⟩ := HY.out pre ⟨pb, pp, pl, ps⟩ _ hjw ⟨_, HPRE.out⟩
   have B2 := Lib.hid b2
   clear b2 hjw
   gi_wp2_with (fail)
   refine ⟨(fun hh => by cases hh), hR1.mono ?_⟩
   rintro e W1 (⟨rfl, hJ1, hk1⟩ | ⟨rfl, hx1⟩)
   ·have g4 := hk1.2 w2.heap.size _ 175 (0, 0) rfl (heap_alloc_new _ _)
    have g0 := hk1.2 B _ 9 (0, 0) rfl (Lib.alloc_old w2 _ _ (by have := B2.out.size; have := (Array.getElem?_eq_some_iff.1 G0.out).1; omega) |>.trans (heap_below B2.out G0.out (Array.getElem?_eq_some_iff.1 G0.out).1))
    have k0 : W1.cell? ⟨w2.heap.size, 0, none⟩ = some (.int .u8 pb.toNat) := by simp [World.cell?, g4]
    have k1 : W1.cell? ⟨w2.heap.size, 1, none⟩ = some (.int .i64 pp) := by simp [World.cell?, g4]
    have k2 : W1.cell? ⟨w2.heap.size, 2, none⟩ = some (.int .i64 pl) := by simp [World.cell?, g4]
    have k3 : W1.cell? ⟨w2.heap.size, 3, none⟩ = some (.bool ps) := by simp [World.cell?, g4]
    have hE := Ph.endF ⟨pb, pp, pl, ps⟩ W1 (by simp only; omega)
    have HE := Lib.hid hE
    have HJ1 := Lib.hid hJ1
    have GB := Lib.hid g0
    clear g4 g0 hk1 hJ1 hE hyy1 hR1
    gi_wp2_with (fail)
    refine ⟨trivial, (fun hh => by cases hh), (callsIn_wide.2 HE.out).mono ?_⟩
    rintro e w3 ⟨rfl, rfl⟩
    gi_wp2_with (fail)
    go_roundw
    case rel =>
     refine ⟨pre ++ [⟨pb, pp, pl, ps⟩], pp + pl, ?_, by omega, by go_num, ?_, HJ.out _ _ _ HJ1.out (Mod.of_below (below_alloc _ _))⟩
     ·rw [HPRE.out, List.append_assoc]; rfl
     ·exact (Lib.alloc_old _ _ _ (Array.getElem?_eq_some_iff.1 GB.out).1).trans GB.out
    case measure => simp [intOf]; omega
   ·have HX1 := Lib.hid hx1
    clear hx1 hyy1 hR1
    gi_wp2_with (fail)
    refine bodyPost_ret (results_none rfl _ _ _) rfl ?_
    exact ⟨⟨_, rfl⟩, .inr ⟨_, ⟨prts (dl s) (pp + pl), by rw [HPRE.out, List.append_assoc]; rfl⟩, HX1.out⟩⟩
  ·obtain rfl : i = s.size := by omega
   rw [prts_ge (i := s.size) (by rw [size_dl]; exact Nat.le_refl _), List.append_nil] at hpre
   have HP := Lib.hid hpre
   clear hpre
   gi_wp2_with (fail)
   go_end0
   exact ⟨⟨_, rfl⟩, .inl ⟨_, HP.out.symm, HJP.out⟩⟩
end Go.Proofs.YtlboejdhmggjpaaGreat.Ww

/- WwK -/
namespace Go.Proofs.YtlboejdhmggjpaaGreat.Ww
set_option maxRecDepth 100000
set_option maxHeartbeats 16000000
open Go.Proofs.YtlboejdhmggjpaaGreat
open Go.RowKit Go.BigFrame Go.Shelf
attribute [local go_sem] Oper.semAt_some

theorem prts_split {s : Bs} : ∀ (pre : List Pt) (i : Nat) (x : Pt) (r : List Pt), prts s i = pre ++ x :: r → ∃ k, x = ptAt s k ∧ k < s.length ∧ r = prts s (k + (ptAt s k).len)
 | [], i, x, r, h => by
  by_cases hi : i < s.length
  ·rw [prts_lt hi] at h
   injection h with h1 h2
   exact ⟨i, h1.symm, hi, h2.symm⟩
  ·rw [prts_ge (by omega)] at h; cases h
 | p :: pre, i, x, r, h => by
  by_cases hi : i < s.length
  ·rw [prts_lt hi] at h
   injection h with h1 h2
   exact prts_split pre _ x r h2
  ·rw [prts_ge (by omega)] at h; cases h
theorem prts_bound {s : Bs} {pre : List Pt} {x : Pt} {r : List Pt} (h : prts s 0 = pre ++ x :: r) : x.pos + x.len ≤ s.length ∧ (x.pos + x.len = s.length → r = []) ∧ 1 ≤ x.len := by
 obtain ⟨k, rfl, hk, rfl⟩ := prts_split pre 0 x r h
 have h1 := pt_le hk
 rw [pt_at]
 exact ⟨h1, fun he => prts_ge (by omega), pt_pos s k⟩
theorem badEnd_last {s : Bs} {pre : List Pt} {x : Pt} (h : prts s 0 = pre ++ [x]) : badEnd s = endBad x := by
 unfold badEnd; rw [h]; simp
theorem badEnd_none {s : Bs} (h : ∀ p ∈ prts s 0, p.pos + p.len ≠ s.length) : badEnd s = false := by
 unfold badEnd
 by_cases h0 : 0 < s.length
 ·obtain ⟨k, h1, h2, h3⟩ := prts_last (i := 0) h0
  have := h (ptAt s k) (List.mem_of_getLast? h1)
  rw [pt_at] at this
  exact absurd h3 this
 ·rw [prts_ge (by omega)]; rfl
theorem below_put {B l : Nat} {W : World} {o o' : Obj} (h : B ≤ l) (ho : W.heap[l]? = some o) : Below B W (W.putObj l o') :=
 ⟨rfl, rfl, rfl, by simp, fun k hk => World.putObj_heap_other (fun e => by omega)⟩
theorem KeepsFrom.of_cells {B b : Nat} {W : World} {cs : Array Value} {t : TypeId} {fz : Nat × Nat} (h : W.heap[b]? = some (.cells cs t fz)) {i : Nat} (v : Value) : KeepsFrom B W (W.setCell ⟨b, i, none⟩ v) :=
 ⟨by simp, fun k o hk ho hc => by
  rw [Below.heap_setCell _ _ _ _ (fun e => by
   have e : k = b := e
   subst e
   rw [h] at ho
   cases ho
   cases hc)]
  exact ho⟩
def CkI (s : ByteArray) (w : World) (pre : List Pt) (W : World) : Prop :=
 (∀ p ∈ pre, p.pos + p.len ≠ s.size) ∧ W.heap[w.heap.size]? = some (.cells #[.string s] 9 (0, 0)) ∧ W.heap[w.heap.size + 1]? = some (.cells #[.int .i64 0] 25 (0, 0)) ∧ Below w.heap.size w W ∧ w.heap.size + 3 ≤ W.heap.size
def CkX (s : ByteArray) (w : World) (c : Code) (pre : List Pt) (W : World) : Prop :=
 c = .exit 0 ∧ (∃ m x, pre = m ++ [x] ∧ prts (dl s) 0 = m ++ [x] ∧ W.heap[w.heap.size + 1]? = some (.cells #[.int .i64 (if endBad x then 10 else 0 : Nat)] 25 (0, 0))) ∧ Below w.heap.size w W ∧ w.heap.size + 3 ≤ W.heap.size
theorem Ph.check (s : ByteArray) (w : World) (hs : s.size ≤ 1000000000) : Calls Tryz.prog 104 #[.string s] w fun e w' => e = .returned (.int .i64 (chk (dl s))) ∧ Below w.heap.size w w' := by
 by_cases hbig : 65536 < s.size
 ·have hc : chk (dl s) = 3 := by unfold chk; rw [if_pos (by rw [← size_dl]; exact hbig)]
  rw [hc]
  have hb' : (65536 : Int) < s.size := by omega
  clear hc
  go_enter Tryz.func104, Tryz.ntmps104
  go_wp2
  go_step3
  go_wp2_with fail
  rw [Exit.noGoto_ret]
  go_ret
  exact ⟨rfl, below_alloc _ _⟩
 have hb' : ¬ (65536 : Int) < s.size := by omega
 have hchk : chk (dl s) = if badEnd (dl s) then 10 else 0 := by unfold chk; rw [if_neg (by rw [← size_dl]; exact hbig)]
 rw [hchk]
 obtain ⟨W0, hW0⟩ : ∃ W0, W0 = ((w.alloc (.cells #[.string s] 9)).alloc (.cells #[.int .i64 0] 25)).alloc (.cells #[.string s] 9) := ⟨_, rfl⟩
 have hs0 : W0.heap.size = w.heap.size + 3 := by rw [hW0]; simp
 have hb0 : Below w.heap.size w W0 := by rw [hW0]; exact (((Below.refl _ _).alloc (Nat.le_refl _) _).alloc (by simp) _).alloc (by simp; omega) _
 have e0 : W0.heap[w.heap.size]? = some (.cells #[.string s] 9 (0, 0)) := by
  rw [hW0, Lib.alloc_old _ _ _ (by simp; omega), Lib.alloc_old _ _ _ (by simp)]
  exact heap_alloc_new _ _
 have e1 : W0.heap[w.heap.size + 1]? = some (.cells #[.int .i64 0] 25 (0, 0)) := by
  rw [hW0, Lib.alloc_old _ _ _ (by simp)]
  have := heap_alloc_new (w.alloc (.cells #[.string s] 9)) (.cells #[.int .i64 0] 25)
  simpa using this
 have e2 : W0.heap[w.heap.size + 2]? = some (.cells #[.string s] 9 (0, 0)) := by
  rw [hW0]
  have := heap_alloc_new ((w.alloc (.cells #[.string s] 9)).alloc (.cells #[.int .i64 0] 25)) (.cells #[.string s] 9)
  simpa using this
 have hseq := Ph.seq 4 (w.heap.size + 2) s W0 e2 hs
 have hI0 : CkI s w [] W0 := ⟨by simp, e0, e1, hb0, by omega⟩
 have HSEQ := Lib.hid hseq
 have HS0 := Lib.hid hs0
 have HI0 := Lib.hid hI0
 have HW0 := Lib.hid hW0
 clear hW0 hs0 hb0 e0 e1 e2 hseq hI0 hchk hbig
 refine (callsIn_wide (n := 5)).1 ?_
 refine callsIn_of_wp_marks Tryz.func104 rfl trivial ?_ rfl
 simp only [Tryz.ntmps104, List.size_toArray, List.length_cons, List.length_nil, Nat.reduceAdd, Nat.reduceSub, Array.replicate_succ, Array.replicate_zero, List.push_toArray, List.append_toArray, List.nil_append, List.cons_append]
 gi_wp2_with (fail)
 refine wpIn_wide.2 (wp_scope_straight ((wpIn_wide (n := 5)).1 ?_))
 gi_wp2_with (fail)
 refine wpIn_label ?_
 gi_wp2_with (fail)
 refine ⟨trivial, ?_⟩
 refine (callsIn_wide.2 (Ph.parts s _)).mono ?_
 rintro e w2 ⟨rfl, rfl⟩
 rw [← HW0.out]
 gi_wp2_with (fail)
 refine wpIn_rangeFunc_asg rfl (by omega) (gf := 138) (lb := #[.pointer (some ⟨w.heap.size + 1 + 1, 0, none⟩)]) rfl trivial (enters_of Tryz.func138 (by kernel_rfl) rfl)
  HSEQ.out (fun k hk => hk.elim) (fun h k => h.trans k) (fun W l o o' hl hW ho _ => KT.putObj hW ho) (Below.refl _ _) (fun _ => rfl)
  (CkI s w) (CkX s w)
  (fun t A B h hm => by
   have hs0 := HS0.out
   obtain ⟨h1, h2, h3, h4, h5⟩ := h
   have hm' : Mod (fun k => W0.heap.size ≤ k ∧ nc A k) A B := hm.mono (fun k _ hk => hk.elim (fun h => h.elim) id)
   exact ⟨h1, hm'.keep h2 (fun hk => by have := hk.1; omega), hm'.keep h3 (fun hk => by have := hk.1; omega), h4.trans (hm'.below (by have := h4.size; omega) (fun k hk => by have := hk.1; omega)), Nat.le_trans h5 hm.size⟩)
  (fun c t A B h hm => by
   have hs0 := HS0.out
   obtain ⟨h1, ⟨m, x, h2, h3, h4⟩, h5, h6⟩ := h
   have hm' : Mod (fun k => W0.heap.size ≤ k ∧ nc A k) A B := hm.mono (fun k _ hk => hk.elim (fun h => h.elim) id)
   exact ⟨h1, ⟨m, x, h2, h3, hm'.keep h4 (fun hk => by have := hk.1; omega)⟩, h5.trans (hm'.below (by have := h5.size; omega) (fun k hk => by have := hk.1; omega)), Nat.le_trans h6 hm.size⟩)
  HI0.out
  (fun (p : Pt) a' W => ∃ b, W.heap[b]? = some (.cells #[.int .u8 p.b.toNat, .int .i64 p.pos, .int .i64 p.len, .bool p.spl] 175 (0, 0)) ∧
   a' = { tmps := #[.string s, .pointer (some ⟨w.heap.size, 0, none⟩), .int .i64 0, .pointer (some ⟨w.heap.size + 1, 0, none⟩), .pointer (some ⟨b, 0, none⟩), .string s, .int .i64 s.size, .bool (decide ((65536 : Int) < s.size)), .string s, .func (.func 138) #[] #[.pointer (some ⟨w.heap.size + 1 + 1, 0, none⟩)], ptV p, undef, undef, undef, undef, undef, undef, undef, undef, undef, undef, undef, undef, undef, undef], defers := [] })
  (fun h => KT.of_below h)
  (fun p a' W l o o' hl ho ⟨b, hb, ha⟩ => ⟨b, by
   rw [World.putObj_heap_other (fun e => by
    subst e
    rw [hl] at hb
    cases hb
    cases ho)]
   exact hb, ha⟩)
  ?assign ?body ?done ?stop
 case assign =>
  intro l z W K hK
  gi_wp2
  exact hK _ _ (below_alloc W _) ⟨W.heap.size, heap_alloc_new _ _, rfl⟩
 case body =>
  rintro l pre x a' W ⟨h1, h2, h3, h4, h5⟩ ⟨r, hr⟩ ⟨b, hb, rfl⟩
  obtain ⟨q1, q2, q3⟩ := prts_bound hr
  rw [← size_dl] at q1 q2
  obtain ⟨xb, xp, xl, xs⟩ := x
  simp only at q1 q2 q3 hb
  have u0 : ∀ u : Ext W, u.w.cell? ⟨b, 0, none⟩ = some (.int .u8 xb.toNat) := fun u => u.cell (by simp [World.cell?, hb])
  have u1 : ∀ u : Ext W, u.w.cell? ⟨b, 1, none⟩ = some (.int .i64 xp) := fun u => u.cell (by simp [World.cell?, hb])
  have u2 : ∀ u : Ext W, u.w.cell? ⟨b, 2, none⟩ = some (.int .i64 xl) := fun u => u.cell (by simp [World.cell?, hb])
  have u3 : ∀ u : Ext W, u.w.cell? ⟨b, 3, none⟩ = some (.bool xs) := fun u => u.cell (by simp [World.cell?, hb])
  have us : ∀ u : Ext W, u.w.cell? ⟨w.heap.size, 0, none⟩ = some (.string s) := fun u => u.cell (by simp [World.cell?, h2])
  have HE := Lib.hid (fun (u : World) => (Ph.endF ⟨xb, xp, xl, xs⟩ u (by simp only; omega)).mono (fun e w' ⟨he, hw⟩ => (⟨he, hw ▸ below_alloc u _⟩ : e = _ ∧ Below u.heap.size u w')))
  have H1 := Lib.hid h1
  have H2 := Lib.hid h2
  have H3 := Lib.hid h3
  have H4 := Lib.hid h4
  have H5 := Lib.hid h5
  have HR := Lib.hid hr
  clear h1 h2 h3 h4 h5 hr hb
  gi_wp2_with (fail)
  refine wpIn_region_quiet_round (C := fun w' => ∃ u : Ext W, w' = u.w) (by kernel_rfl) (by kernel_rfl) (Ext.drew W) ?_
  try dsimp only []
  repeat (go_big_quiet_step ((go_at_call 137; rename_i u; refine (HE.out u.w).mono ?_; rintro e w2 ⟨rfl, b2⟩; exact ⟨rfl, u.on b2⟩)))
  refine wpQuiet_nil ?_
  rintro w' ⟨v1, rfl⟩
  have hKF : KeepsFrom W0.heap.size W v1.w := ⟨v1.below.size, fun k o hk ho hc => heap_below v1.below ho (Array.getElem?_eq_some_iff.1 ho).1⟩
  have hb1 : Below w.heap.size w v1.w := H4.out.trans (v1.below.mono H4.out.size)
  have h5 : w.heap.size + 3 ≤ v1.w.heap.size := Nat.le_trans H5.out v1.below.size
  have h3 := heap_below v1.below H3.out (Array.getElem?_eq_some_iff.1 H3.out).1
  have c1 : v1.w.cell? ⟨w.heap.size + 1, 0, none⟩ = some (.int .i64 0) := by simp [World.cell?, h3]
  have f1 : v1.w.frozen? ⟨w.heap.size + 1, 0, none⟩ = false := Lib.frozen_of_heap h3 0
  have h2 := heap_below v1.below H2.out (Array.getElem?_eq_some_iff.1 H2.out).1
  have KF := Lib.hid hKF
  have B1 := Lib.hid hb1
  have H5' := Lib.hid h5
  have H3' := Lib.hid h3
  have H2' := Lib.hid h2
  clear hKF hb1 h5 h3 h2 us
  have u0 := u0 v1
  have u1 := u1 v1
  have u2 := u2 v1
  have u3 := u3 v1
  by_cases he : xp + xl = s.size
  ·have he' : ((xp : Int) + xl == s.size) = true := by rw [beq_iff_eq]; omega
   obtain rfl := q2 he
   clear q2 he
   have hbad : (xs = true ∧ endBad ⟨xb, xp, xl, xs⟩ = true) ∨ (xs = false ∧ ((xb.toNat : Int) != 10) = true ∧ endBad ⟨xb, xp, xl, xs⟩ = true) ∨ (xs = false ∧ ((xb.toNat : Int) != 10) = false ∧ endBad ⟨xb, xp, xl, xs⟩ = false) := by
    cases xs
    ·refine .inr ?_
     by_cases h : (xb.toNat : Int) = 10
     ·exact .inr ⟨rfl, by rw [h]; rfl, by rw [show xb = 10 from byte_eq (n := 10) h (by decide)]; rfl⟩
     ·refine .inl ⟨rfl, by simpa using h, ?_⟩
      have : xb ≠ 10 := byte_ne (n := 10) h (by decide)
      simp [endBad, this]
    ·exact .inl ⟨rfl, by simp [endBad]⟩
   have hst : ∀ v : Value, (v1.w.setCell ⟨w.heap.size + 1, 0, none⟩ v).heap[w.heap.size + 1]? = some (.cells #[v] 25 (0, 0)) := fun v => by
    have := heap_setCell_same v1.w (w.heap.size + 1) 0 _ _ v H3'.out
    simpa using this
   have HST := Lib.hid hst
   clear hst
   rcases hbad with ⟨rfl, hq⟩ | ⟨rfl, hq1, hq⟩ | ⟨rfl, hq1, hq⟩
   ·have HQ := Lib.hid hq
    clear hq
    gi_wp2_with (fail)
    refine ⟨KF.out.trans (KeepsFrom.of_cells H3'.out _), rfl, ⟨pre, _, rfl, HR.out, ?_⟩, B1.out.setCell (p := ⟨w.heap.size + 1, 0, none⟩) (by simp) _, by simpa using H5'.out⟩
    rw [HQ.out, HST.out]; rfl
   ·have HQ := Lib.hid hq
    clear hq
    gi_wp2_with (fail)
    refine ⟨KF.out.trans (KeepsFrom.of_cells H3'.out _), rfl, ⟨pre, _, rfl, HR.out, ?_⟩, B1.out.setCell (p := ⟨w.heap.size + 1, 0, none⟩) (by simp) _, by simpa using H5'.out⟩
    rw [HQ.out, HST.out]; rfl
   ·have HQ := Lib.hid hq
    clear hq
    gi_wp2_with (fail)
    refine ⟨KF.out, rfl, ⟨pre, _, rfl, HR.out, ?_⟩, B1.out, H5'.out⟩
    rw [HQ.out, H3'.out]; rfl
  ·have he' : ((xp : Int) + xl == s.size) = false := by rw [beq_eq_false_iff_ne]; omega
   clear q2
   have HE2 := Lib.hid he
   clear he
   gi_wp2_with (fail)
   refine ⟨KF.out, KT.of_below v1.below, ?_, H2'.out, H3'.out, B1.out, H5'.out⟩
   intro p hp
   rcases List.mem_append.1 hp with hp | hp
   ·exact H1.out p hp
   ·rw [List.mem_singleton] at hp; subst hp; exact HE2.out
 case done =>
  rintro Dd zs W hD rfl ⟨h1, h2, h3, h4, h5⟩ hK
  have hbe : badEnd (dl s) = false := badEnd_none (fun p hp => by rw [← size_dl]; exact h1 p hp)
  have c1 : W.cell? ⟨w.heap.size + 1, 0, none⟩ = some (.int .i64 0) := by simp [World.cell?, h3]
  have HBE := Lib.hid hbe
  have H4 := Lib.hid h4
  have HK := Lib.hid hK
  clear h1 h2 h3 h4 h5 hbe hK
  gi_wp2_with (fail)
  rw [Exit.noGoto_ret]
  refine ⟨by simp, .inl ⟨_, _, rfl, run_takeDeferred HK.out, ?_⟩⟩
  refine ⟨.int .i64 0, by simp [results, Tryz.results104, go_sem], by rw [HBE.out]; rfl, ?_⟩
  exact H4.out.trans (below_put (by have := HS0.out; omega) HK.out)
 case stop =>
  rintro Dd c pre W hD ⟨r, hr⟩ ⟨rfl, ⟨m, x, rfl, h3, h4⟩, h5, h6⟩ hK
  have hbe : badEnd (dl s) = endBad x := badEnd_last h3
  obtain ⟨E, hE⟩ : ∃ E : Nat, (if endBad x then 10 else 0) = E := ⟨_, rfl⟩
  rw [hE] at h4
  have c1 : W.cell? ⟨w.heap.size + 1, 0, none⟩ = some (.int .i64 E) := by simp [World.cell?, h4]
  rw [← hbe] at hE
  have HE := Lib.hid hE
  have H5 := Lib.hid h5
  have HK := Lib.hid hK
  clear h3 h4 h5 hbe hK hr hE
  gi_wp2_with (fail)
  rw [Exit.noGoto_ret]
  refine ⟨by simp, .inl ⟨_, _, rfl, run_takeDeferred HK.out, ?_⟩⟩
  refine ⟨.int .i64 E, by simp [results, Tryz.results104, go_sem], by rw [← HE.out], ?_⟩
  exact H5.out.trans (below_put (by have := HS0.out; omega) HK.out)
end Go.Proofs.YtlboejdhmggjpaaGreat.Ww

/- scan: literals. -/
import Derived.Test.YtlboejdhmggjpaaGreatWwF
import Derived.Deep.DeepCutAuto
import Derived.Deep.CutBlock
import Derived.BigQuiet
set_option linter.all false
namespace Go.Proofs.YtlboejdhmggjpaaGreat.Ww
set_option maxRecDepth 100000
set_option maxHeartbeats 16000000
open Go.Proofs.YtlboejdhmggjpaaGreat
open Go.RowKit Go.BigFrame

theorem hasPrefix_call (s p : ByteArray) (w : World) (b : Bool) (h : Lib.hasPrefix (dl s) (dl p) = b) : Calls Tryz.prog 141 #[.string s, .string p] w fun e w' => e = .returned (.bool b) ∧ w' = w := h ▸ Tryz.strings_HasPrefix s p w
theorem dl_to (s : ByteArray) (i : Nat) : dl (s.extract i s.size) = (dl s).drop i := by rw [ext_to, dl_str]
theorem hasPrefix_take (t p : Bs) : Lib.hasPrefix t p = decide (t.take p.length = p) := by
 unfold Lib.hasPrefix
 rw [Bool.eq_iff_iff, List.isPrefixOf_iff_prefix, decide_eq_true_eq, List.prefix_iff_eq_take]
 exact ⟨fun h => h.symm, fun h => h.symm⟩
def qRes (q : UInt8) (p : Nat) (o : Option Nat) : Nat × Nat := match o with | none => (0, 0) | some m => if q = 34 then (4, p + 1 + m) else if 1 < m then (3, p + 1 + m) else (0, 0)
theorem qLen_of {t : Bs} {p : Nat} (h : qPre t = p) : qLen t = match t.drop p with | [] => (0, 0) | q :: r => if q = 39 ∨ q = 34 then qRes q p (qRun q r) else (0, 0) := by
 subst h
 rfl
theorem qRun_two {q : UInt8} {s : ByteArray} {j : Nat} (h : j + 1 < s.size) : qRun q ((dl s).drop j) = if s[j] = 10 then none else if s[j] = q then some 1 else if s[j] = 92 then (if s[j + 1] = 10 then none else (qRun q ((dl s).drop (j + 2))).map (· + 2)) else (qRun q ((dl s).drop (j + 1))).map (· + 1) := by
 rw [drop_at (show j < s.size by omega), drop_at h, qRun]
theorem qRun_one {q : UInt8} {s : ByteArray} {j : Nat} (h : j + 1 = s.size) : qRun q ((dl s).drop j) = if s[j] = 10 then none else if s[j] = q then some 1 else none := by
 rw [drop_at (show j < s.size by omega), drop_end (show s.size ≤ j + 1 by omega), qRun]
theorem qRun_end {q : UInt8} {s : ByteArray} {j : Nat} (h : s.size ≤ j) : qRun q ((dl s).drop j) = none := by rw [drop_end h]; rfl
inductive QAt (q : UInt8) (s : ByteArray) (j : Nat) (h : j < s.size) : Prop
 | nl (a : (s[j].toNat : Int) = 10) (e : qRun q ((dl s).drop j) = none)
 | quote (a1 : ((s[j].toNat : Int) == 10) = false) (a : (s[j].toNat : Int) = q.toNat) (e : qRun q ((dl s).drop j) = some 1)
 | esc (a : (s[j].toNat : Int) = 92) (k : j + 1 < s.size) (k1 : (j : Int) + 1 < s.size) (b : ((s[j + 1].toNat : Int) == 10) = false) (e : qRun q ((dl s).drop j) = (qRun q ((dl s).drop (j + 2))).map (· + 2))
 | bad (a : (s[j].toNat : Int) = 92) (b : ¬ (j : Int) + 1 < s.size ∨ ∃ k : j + 1 < s.size, (j : Int) + 1 < s.size ∧ (s[j + 1].toNat : Int) = 10) (e : qRun q ((dl s).drop j) = none)
 | other (a1 : ((s[j].toNat : Int) == 10) = false) (a2 : ((s[j].toNat : Int) == q.toNat) = false) (a3 : ((s[j].toNat : Int) == 92) = false) (e : qRun q ((dl s).drop j) = (qRun q ((dl s).drop (j + 1))).map (· + 1))
theorem qAt {q : UInt8} (hq : q = 39 ∨ q = 34) {s : ByteArray} {j : Nat} (h : j < s.size) : QAt q s j h := by
 by_cases a : (s[j].toNat : Int) = 10
 ·have e : s[j] = 10 := byte_eq (n := 10) a (by decide)
  refine .nl a ?_
  by_cases k : j + 1 < s.size
  ·rw [qRun_two k, if_pos e]
  ·rw [qRun_one (by omega), if_pos e]
 ·have e : ¬ s[j] = 10 := byte_ne (n := 10) a (by decide)
  have a' : ((s[j].toNat : Int) == 10) = false := by simpa using a
  by_cases b : s[j] = q
  ·refine .quote a' (by rw [b]) ?_
   by_cases k : j + 1 < s.size
   ·rw [qRun_two k, if_neg e, if_pos b]
   ·rw [qRun_one (by omega), if_neg e, if_pos b]
  ·have b' : ((s[j].toNat : Int) == q.toNat) = false := by
    rw [beq_eq_false_iff_ne]
    intro hh
    exact b (UInt8.toNat_inj.1 (by omega))
   by_cases c : (s[j].toNat : Int) = 92
   ·have ec : s[j] = 92 := byte_eq (n := 92) c (by decide)
    by_cases k : j + 1 < s.size
    ·by_cases d : (s[j + 1].toNat : Int) = 10
     ·have ed : s[j + 1] = 10 := byte_eq (n := 10) d (by decide)
      refine .bad c (.inr ⟨k, by omega, d⟩) ?_
      rw [qRun_two k, if_neg e, if_neg b, if_pos (show s[j] = 92 from ec), if_pos ed]
     ·have ed : ¬ s[j + 1] = 10 := byte_ne (n := 10) d (by decide)
      refine .esc c k (by omega) (by simpa using d) ?_
      rw [qRun_two k, if_neg e, if_neg b, if_pos (show s[j] = 92 from ec), if_neg ed]
    ·refine .bad c (.inl (by omega)) ?_
     rw [qRun_one (by omega), if_neg e, if_neg b]
   ·have ec : ¬ s[j] = 92 := byte_ne (n := 92) c (by decide)
    refine .other a' b' (by simpa using c) ?_
    by_cases k : j + 1 < s.size
    ·rw [qRun_two k, if_neg e, if_neg b, if_neg (show ¬ s[j] = 92 from ec)]
    ·rw [qRun_one (by omega), if_neg e, if_neg b, qRun_end (by omega)]
     rfl
theorem qPre_of {s : ByteArray} {i : Nat} (hi : i < s.size) {b : Bool} (hb : Lib.hasPrefix (dl (s.extract i s.size)) [117, 56, 34] = b) :
  (b = true ∧ qPre ((dl s).drop i) = 2 ∧ ∃ h : i + 2 < s.size, s[i + 2] = 34) ∨
  (b = false ∧ ((qPre ((dl s).drop i) = 1 ∧ ((s[i].toNat : Int) = 117 ∨ (s[i].toNat : Int) = 85 ∨ (s[i].toNat : Int) = 76)) ∨
   (qPre ((dl s).drop i) = 0 ∧ ((s[i].toNat : Int) == 117) = false ∧ ((s[i].toNat : Int) == 85) = false ∧ ((s[i].toNat : Int) == 76) = false))) := by
 rw [dl_to, hasPrefix_take] at hb
 simp only [List.length_cons, List.length_nil, Nat.reduceAdd] at hb
 cases b
 ·refine .inr ⟨rfl, ?_⟩
  have h3 := of_decide_eq_false hb
  unfold qPre
  rw [if_neg h3, drop_at hi]
  simp only [List.head?_cons, Option.some.injEq]
  by_cases a : (s[i].toNat : Int) = 117
  ·exact .inl ⟨if_pos (.inl (byte_eq (n := 117) a (by decide))), .inl a⟩
  by_cases b : (s[i].toNat : Int) = 85
  ·exact .inl ⟨if_pos (.inr (.inl (byte_eq (n := 85) b (by decide)))), .inr (.inl b)⟩
  by_cases c : (s[i].toNat : Int) = 76
  ·exact .inl ⟨if_pos (.inr (.inr (byte_eq (n := 76) c (by decide)))), .inr (.inr c)⟩
  refine .inr ⟨if_neg ?_, by simpa using a, by simpa using b, by simpa using c⟩
  rintro (h | h | h)
  ·exact byte_ne (n := 117) a (by decide) h
  ·exact byte_ne (n := 85) b (by decide) h
  ·exact byte_ne (n := 76) c (by decide) h
 ·have h3 := of_decide_eq_true hb
  refine .inl ⟨rfl, by unfold qPre; rw [if_pos h3], ?_⟩
  have hl : 3 ≤ ((dl s).drop i).length := by
   have := congrArg List.length h3
   rw [List.length_take] at this
   simp at this
   simp; omega
  rw [drop_len] at hl
  refine ⟨by omega, ?_⟩
  rw [drop_at (by omega), drop_at (show i + 1 < s.size by omega), drop_at (show i + 1 + 1 < s.size by omega)] at h3
  simp at h3
  exact h3.2.2
theorem Sc.quoted (s : ByteArray) (i : Nat) (w : World) (hi : i < s.size) (hs : s.size ≤ 1000000000) : Calls Tryz.prog 171 #[.string s, .int .i64 i] w fun e w' => e = .returned (.tuple #[.int .i64 (qLen ((dl s).drop i)).1, .int .i64 (endAt i (qLen ((dl s).drop i)).2)]) ∧ Below w.heap.size w w' := by
 have hi' : (i : Int) < s.size := by omega
 obtain ⟨b, hb⟩ : ∃ b, Lib.hasPrefix (dl (s.extract i s.size)) [117, 56, 34] = b := ⟨_, rfl⟩
 have hp := qPre_of hi hb
 obtain ⟨p, hP⟩ : ∃ p, qPre ((dl s).drop i) = p := ⟨_, rfl⟩
 have hq := qLen_of hP
 rw [hP] at hp
 have hpl : i + p ≤ s.size := by
  rcases hp with ⟨-, rfl, h, -⟩ | ⟨-, ⟨rfl, -⟩ | ⟨rfl, -⟩⟩ <;> omega
 obtain ⟨R, hR⟩ : ∃ R, qLen ((dl s).drop i) = R := ⟨_, rfl⟩
 rw [hR] at hq ⊢
 rw [List.drop_drop] at hq
 have HB := Lib.hid hb
 have HP := Lib.hid hp
 have HQ := Lib.hid hq
 clear hb hp hq hP hR
 go_enter Tryz.func171, Tryz.ntmps171
 go_upto_block 0 with fail
 go_cut [6] (fun s6 wx => s6 = .int .i64 ((i + p : Nat) : Int) ∧ wx = w)
 case first =>
  rcases HP.out with ⟨rfl, rfl, -⟩ | ⟨rfl, ⟨rfl, a | a | a⟩ | ⟨rfl, a1, a2, a3⟩⟩
  all_goals
   go_wp2_with (first | (go_at_call 141; refine (hasPrefix_call _ _ _ _ HB.out).mono ?_; rintro e w1 ⟨rfl, rfl⟩) | fail)
   go_meet
   exact ⟨by go_num, rfl⟩
 case rest =>
  obtain ⟨rfl, rfl⟩ := hcut
  obtain ⟨m, hm⟩ : ∃ m, i + p = m := ⟨_, rfl⟩
  have hq := HQ.out
  rw [hm] at hq hpl ⊢
  clear HB HP HQ
  by_cases hend : m = s.size
  ·rw [hend, drop_end (Nat.le_refl _)] at hq
   simp only at hq
   subst hend
   have HQ := Lib.hid hq
   clear hq
   go_wp2_with fail
   go_ret2
   refine ⟨?_, Below.refl _ _⟩
   rw [HQ.out]
   rfl
  have hml : m < s.size := by omega
  have hml' : (m : Int) < s.size := by omega
  have hne : ((m : Int) == s.size) = false := by rw [beq_eq_false_iff_ne]; omega
  rw [drop_at hml] at hq
  simp only at hq
  have hcl : ((s[m].toNat : Int) = 39 ∧ R = qRes 39 p (qRun 39 ((dl s).drop (m + 1)))) ∨ ((s[m].toNat : Int) = 34 ∧ R = qRes 34 p (qRun 34 ((dl s).drop (m + 1)))) ∨ (((s[m].toNat : Int) == 39) = false ∧ ((s[m].toNat : Int) == 34) = false ∧ R = (0, 0)) := by
   by_cases a : (s[m].toNat : Int) = 39
   ·have e : s[m] = 39 := byte_eq (n := 39) a (by decide)
    rw [if_pos (.inl e), e] at hq
    exact .inl ⟨a, hq⟩
   have e : ¬ s[m] = 39 := byte_ne (n := 39) a (by decide)
   by_cases b : (s[m].toNat : Int) = 34
   ·have e2 : s[m] = 34 := byte_eq (n := 34) b (by decide)
    rw [if_pos (.inr e2), e2] at hq
    exact .inr (.inl ⟨b, hq⟩)
   have e2 : ¬ s[m] = 34 := byte_ne (n := 34) b (by decide)
   rw [if_neg (fun h => h.elim e e2)] at hq
   exact .inr (.inr ⟨by simpa using a, by simpa using b, hq⟩)
  clear hq hend
  rcases hcl with ⟨a, hr⟩ | ⟨a, hr⟩ | ⟨a, b, rfl⟩
  ·have HR := Lib.hid hr
   clear hr
   go_wp2_with fail
   go_quiet (fail)
   go_wp2_with fail
   have hbel : Below wc.heap.size wc (wc.drewN nq) := ⟨rfl, rfl, rfl, Nat.le_refl _, fun _ _ => rfl⟩
   have HBEL := Lib.hid hbel
   clear hbel
   go_loopw [6] (fun s6 wr => ∃ j : Nat, m + 1 ≤ j ∧ j ≤ s.size ∧ s6 = .int .i64 j ∧ wr = wc.drewN nq ∧ qRun 39 ((dl s).drop (m + 1)) = (qRun 39 ((dl s).drop j)).map (· + (j - (m + 1)))) (fun s6 _ => s.size - (intOf s6).toNat)
   case atStart => exact ⟨m + 1, by omega, by omega, by go_num, by trivial, by simp⟩
   case round =>
    obtain ⟨j, g1, g2, rfl, rfl, g3⟩ := hrel
    by_cases hlt : j < s.size
    ·have hlt' : (j : Int) < s.size := by omega
     rcases qAt (q := 39) (by decide) hlt with ⟨a, e⟩ | ⟨a1, a, e⟩ | ⟨a, k, k1, b, e⟩ | ⟨a, b, e⟩ | ⟨a1, a2, a3, e⟩
     ·rw [e] at g3
      have G3 := Lib.hid g3
      clear g3 e
      go_wp2_with fail
      go_ret2
      refine ⟨?_, HBEL.out⟩
      rw [HR.out, G3.out]
      rfl
     ·rw [e] at g3
      have G3 := Lib.hid g3
      have a : (s[j].toNat : Int) = 39 := a
      clear g3 e
      by_cases hb : j = m + 1
      ·have hb' : ¬ ((m : Int) + 1 < j) := by omega
       have HB := Lib.hid hb
       clear hb
       go_wp2_with fail
       go_ret2
       refine ⟨?_, HBEL.out⟩
       rw [HR.out, G3.out, HB.out, Nat.sub_self]
       rfl
      ·have hb' : (m : Int) + 1 < j := by omega
       clear hb
       go_wp2_with fail
       go_ret2
       refine ⟨?_, HBEL.out⟩
       have hR : R = (3, p + 1 + (1 + (j - (m + 1)))) := by
        rw [HR.out, G3.out]
        simp only [qRes, Option.map_some]
        rw [if_neg (by decide), if_pos (by omega)]
       have hE : ((endAt i (p + 1 + (1 + (j - (m + 1)))) : Nat) : Int) = (j : Int) + 1 := by
        unfold endAt
        rw [if_neg (by omega)]
        omega
       rw [hR]
       simp only
       rw [hE]
       rfl
     ·rw [e] at g3
      have G3 := Lib.hid g3
      clear g3 e
      go_wp2_with fail
      go_roundw
      case rel => exact ⟨j + 2, by omega, by omega, by go_num, by trivial, by rw [G3.out, Option.map_map]; congr 1; funext x; simp; omega⟩
      case measure => simp [intOf]; omega
     ·rw [e] at g3
      have G3 := Lib.hid g3
      clear g3 e
      rcases b with b | ⟨k, k1, b⟩
      all_goals
       go_wp2_with fail
       go_ret2
       refine ⟨?_, HBEL.out⟩
       rw [HR.out, G3.out]
       rfl
     ·rw [e] at g3
      have G3 := Lib.hid g3
      have a2 : ((s[j].toNat : Int) == 39) = false := a2
      clear g3 e
      go_wp2_with fail
      go_roundw
      case rel => exact ⟨j + 1, by omega, by omega, by go_num, by trivial, by rw [G3.out, Option.map_map]; congr 1; funext x; simp; omega⟩
      case measure => simp [intOf]; omega
    ·obtain rfl : j = s.size := by omega
     rw [qRun_end (Nat.le_refl _)] at g3
     have G3 := Lib.hid g3
     clear g3
     have hlt' : ¬ ((s.size : Int) < s.size) := by omega
     go_wp2_with fail
     go_ret2
     refine ⟨?_, HBEL.out⟩
     rw [HR.out, G3.out]
     rfl
  ·have HR := Lib.hid hr
   clear hr
   go_wp2_with fail
   go_quiet (fail)
   go_wp2_with fail
   have hbel : Below wc.heap.size wc (wc.drewN nq) := ⟨rfl, rfl, rfl, Nat.le_refl _, fun _ _ => rfl⟩
   have HBEL := Lib.hid hbel
   clear hbel
   go_loopw [6] (fun s6 wr => ∃ j : Nat, m + 1 ≤ j ∧ j ≤ s.size ∧ s6 = .int .i64 j ∧ wr = wc.drewN nq ∧ qRun 34 ((dl s).drop (m + 1)) = (qRun 34 ((dl s).drop j)).map (· + (j - (m + 1)))) (fun s6 _ => s.size - (intOf s6).toNat)
   case atStart => exact ⟨m + 1, by omega, by omega, by go_num, by trivial, by simp⟩
   case round =>
    obtain ⟨j, g1, g2, rfl, rfl, g3⟩ := hrel
    by_cases hlt : j < s.size
    ·have hlt' : (j : Int) < s.size := by omega
     rcases qAt (q := 34) (by decide) hlt with ⟨a, e⟩ | ⟨a1, a, e⟩ | ⟨a, k, k1, b, e⟩ | ⟨a, b, e⟩ | ⟨a1, a2, a3, e⟩
     ·rw [e] at g3
      have G3 := Lib.hid g3
      clear g3 e
      go_wp2_with fail
      go_ret2
      refine ⟨?_, HBEL.out⟩
      rw [HR.out, G3.out]
      rfl
     ·rw [e] at g3
      have G3 := Lib.hid g3
      have a : (s[j].toNat : Int) = 34 := a
      clear g3 e
      go_wp2_with fail
      go_ret2
      refine ⟨?_, HBEL.out⟩
      have hR : R = (4, p + 1 + (1 + (j - (m + 1)))) := by
       rw [HR.out, G3.out]
       simp only [qRes, Option.map_some, if_true]
      have hE : ((endAt i (p + 1 + (1 + (j - (m + 1)))) : Nat) : Int) = (j : Int) + 1 := by
       unfold endAt
       rw [if_neg (by omega)]
       omega
      rw [hR]
      simp only
      rw [hE]
      rfl
     ·rw [e] at g3
      have G3 := Lib.hid g3
      clear g3 e
      go_wp2_with fail
      go_roundw
      case rel => exact ⟨j + 2, by omega, by omega, by go_num, by trivial, by rw [G3.out, Option.map_map]; congr 1; funext x; simp; omega⟩
      case measure => simp [intOf]; omega
     ·rw [e] at g3
      have G3 := Lib.hid g3
      clear g3 e
      rcases b with b | ⟨k, k1, b⟩
      all_goals
       go_wp2_with fail
       go_ret2
       refine ⟨?_, HBEL.out⟩
       rw [HR.out, G3.out]
       rfl
     ·rw [e] at g3
      have G3 := Lib.hid g3
      have a2 : ((s[j].toNat : Int) == 34) = false := a2
      clear g3 e
      go_wp2_with fail
      go_roundw
      case rel => exact ⟨j + 1, by omega, by omega, by go_num, by trivial, by rw [G3.out, Option.map_map]; congr 1; funext x; simp; omega⟩
      case measure => simp [intOf]; omega
    ·obtain rfl : j = s.size := by omega
     rw [qRun_end (Nat.le_refl _)] at g3
     have G3 := Lib.hid g3
     clear g3
     have hlt' : ¬ ((s.size : Int) < s.size) := by omega
     go_wp2_with fail
     go_ret2
     refine ⟨?_, HBEL.out⟩
     rw [HR.out, G3.out]
     rfl
  ·have a' : ((s[m].toNat : Int) != 39) = true := by simp only [bne, a, Bool.not_false]
   have b' : ((s[m].toNat : Int) != 34) = true := by simp only [bne, b, Bool.not_false]
   clear a b
   go_wp2_with fail
   go_ret2
   exact ⟨by rfl, Below.refl _ _⟩
end Go.Proofs.YtlboejdhmggjpaaGreat.Ww

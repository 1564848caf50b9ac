/- parse: tooDeep. -/
import Derived.Test.YtlboejdhmggjpaaGreatWkG
set_option linter.all false
namespace Go.Proofs.YtlboejdhmggjpaaGreat.Pp
set_option maxRecDepth 100000
set_option maxHeartbeats 16000000
open Go.RowKit Go.BigFrame Go.Proofs.YtlboejdhmggjpaaGreat

def deepL : List Ct → Nat → Bool
 | [], _ => false
 | t :: r, o =>
  if t.c ≠ 7 then deepL r o
  else if t.t = [40] ∨ t.t = [91] ∨ t.t = [123] then (if 256 < o + 1 then true else deepL r (o + 1))
  else if t.t = [41] ∨ t.t = [93] ∨ t.t = [125] then deepL r (o - 1)
  else deepL r o
theorem wk_tooDeep (L : List Ct) (la : Option Addr) (lc : Nat) (w : World) (hrow : RowAt 2 ctC w la L) (hl : L.length ≤ 100000) : Calls Tryz.prog 29 #[.slice la L.length lc] w fun e w' => e = .returned (.bool (deepL L 0)) ∧ Below w.heap.size w w' := by
 obtain ⟨D, hD⟩ : ∃ D, deepL L 0 = D := ⟨_, rfl⟩
 obtain ⟨m, hm⟩ : ∃ m, L.length = m := ⟨_, rfl⟩
 rw [hD, hm]
 rw [hm] at hl
 have HD := Hh hD
 have HM := Hh hm
 have HROW := Hh hrow
 clear hD hm hrow
 go_enter Tryz.func29, Tryz.ntmps29
 go_wp2_with fail
 go_loopg [3, 5, 8] m (fun gf q3 q5 q8 wr => ∃ i o : Nat, q8 = .int .i64 i ∧ q3 = .int .i64 o ∧ i + gf = m ∧ o ≤ i ∧ deepL (L.drop i) o = D ∧ Below w.heap.size w wr)
 case atStart => exact ⟨0, 0, rfl, rfl, by omega, Nat.le_refl _, HD.out, Below.refl _ _⟩
 case round =>
  obtain ⟨i, o, rfl, rfl, hig, hoi, hdp, hb⟩ := hrel
  have HB := Hh hb
  cases gk with
  | zero =>
   have hi : decide (i < m) = false := decide_eq_false (by omega)
   have hd : false = D := by rw [← hdp, List.drop_of_length_le (by rw [HM.out]; omega)]; rfl
   have HDD := Hh hd
   clear hdp hb hd
   go_wp2_with fail
   refine bodyPost_ret (v := .bool false) (by simp [results, Tryz.results29, go_sem]) rfl ⟨by rw [HDD.out], HB.out⟩
  | succ g =>
   have hi0 : i < L.length := by rw [HM.out]; omega
   have hi : i < m := by omega
   obtain ⟨b, off, hla, h2, h3⟩ := HROW.out.at (by rintro e; rw [e] at hi0; simp at hi0)
   have hc := (h3 i hi0).below hb h2
   rw [List.drop_eq_getElem_cons hi0] at hdp
   obtain ⟨T, hT⟩ : ∃ T, L[i] = T := ⟨_, rfl⟩
   rw [hT] at hc hdp
   obtain ⟨c, t⟩ := T
   have d0 : wr.cell? ⟨b, off + i * 2, none⟩ = some (.int .i64 c) := hc 0 _ rfl
   have d1 : wr.cell? ⟨b, off + i * 2 + 1, none⟩ = some (.string (str t)) := hc 1 _ rfl
   obtain ⟨x, hx⟩ : ∃ x : ByteArray, str t = x := ⟨_, rfl⟩
   obtain ⟨z, hz⟩ : ∃ z : Int, (c : Int) = z := ⟨_, rfl⟩
   rw [hx] at d1
   rw [hz] at d0
   have hb4 : Below w.heap.size w (wr.alloc (.cells #[.int .i64 z, .string x] 54)) := hb.trans ((below_alloc _ _).mono hb.size)
   have HB4 := Hh hb4
   have HX := Hh hx
   have HZ := Hh hz
   have hun : deepL (⟨c, t⟩ :: L.drop (i + 1)) o = if c ≠ 7 then deepL (L.drop (i + 1)) o else if t = [40] ∨ t = [91] ∨ t = [123] then (if 256 < o + 1 then true else deepL (L.drop (i + 1)) (o + 1)) else if t = [41] ∨ t = [93] ∨ t = [125] then deepL (L.drop (i + 1)) (o - 1) else deepL (L.drop (i + 1)) o := rfl
   rw [hun] at hdp
   subst hla
   have HDP := Hh hdp
   clear hdp hb hc h2 h3 hT hx hz hun hb4 hi0
   by_cases hc7 : c = 7
   ·have f7 : (z != 7) = false := by rw [← HZ.out, hc7]; rfl
    by_cases t0 : t = [40]
    ·have x0 : (x.toList == [40]) = true := HX.out ▸ str_is t0
     by_cases h256 : 256 < o + 1
     ·have h256i : decide ((256 : Int) < (o : Int) + 1) = true := decide_eq_true (by omega)
      have hd : true = D := by have q := HDP.out; simp [hc7, t0, h256] at q; exact q.symm
      have HDD := Hh hd
      clear hd
      go_wp2_with fail
      refine bodyPost_ret (v := .bool true) (by simp [results, Tryz.results29, go_sem]) rfl ⟨by rw [← HDD.out], HB4.out⟩
     ·have h256i : decide ((256 : Int) < (o : Int) + 1) = false := decide_eq_false (by omega)
      go_wp2_with fail
      go_roundg g
      case measure => omega
      case rel => exact ⟨i + 1, o + 1, by go_num, by go_num, by omega, by omega, by have q := HDP.out; simp [hc7, t0, h256] at q; exact q, HB4.out⟩
    ·have x0 : (x.toList == [40]) = false := HX.out ▸ str_no t0
     by_cases t1 : t = [91]
     ·have x1 : (x.toList == [91]) = true := HX.out ▸ str_is t1
      by_cases h256 : 256 < o + 1
      ·have h256i : decide ((256 : Int) < (o : Int) + 1) = true := decide_eq_true (by omega)
       have hd : true = D := by have q := HDP.out; simp [hc7, t0, t1, h256] at q; exact q.symm
       have HDD := Hh hd
       clear hd
       go_wp2_with fail
       refine bodyPost_ret (v := .bool true) (by simp [results, Tryz.results29, go_sem]) rfl ⟨by rw [← HDD.out], HB4.out⟩
      ·have h256i : decide ((256 : Int) < (o : Int) + 1) = false := decide_eq_false (by omega)
       go_wp2_with fail
       go_roundg g
       case measure => omega
       case rel => exact ⟨i + 1, o + 1, by go_num, by go_num, by omega, by omega, by have q := HDP.out; simp [hc7, t0, t1, h256] at q; exact q, HB4.out⟩
     ·have x1 : (x.toList == [91]) = false := HX.out ▸ str_no t1
      by_cases t2 : t = [123]
      ·have x2 : (x.toList == [123]) = true := HX.out ▸ str_is t2
       by_cases h256 : 256 < o + 1
       ·have h256i : decide ((256 : Int) < (o : Int) + 1) = true := decide_eq_true (by omega)
        have hd : true = D := by have q := HDP.out; simp [hc7, t0, t1, t2, h256] at q; exact q.symm
        have HDD := Hh hd
        clear hd
        go_wp2_with fail
        refine bodyPost_ret (v := .bool true) (by simp [results, Tryz.results29, go_sem]) rfl ⟨by rw [← HDD.out], HB4.out⟩
       ·have h256i : decide ((256 : Int) < (o : Int) + 1) = false := decide_eq_false (by omega)
        go_wp2_with fail
        go_roundg g
        case measure => omega
        case rel => exact ⟨i + 1, o + 1, by go_num, by go_num, by omega, by omega, by have q := HDP.out; simp [hc7, t0, t1, t2, h256] at q; exact q, HB4.out⟩
      ·have x2 : (x.toList == [123]) = false := HX.out ▸ str_no t2
       by_cases t3 : t = [41]
       ·have x3 : (x.toList == [41]) = true := HX.out ▸ str_is t3
        rcases Nat.eq_zero_or_pos o with ho | ho
        ·subst ho
         go_wp2_with fail
         go_roundg g
         case measure => omega
         case rel => exact ⟨i + 1, 0, by go_num, by go_num, by omega, by omega, by have q := HDP.out; simp [hc7, t0, t1, t2, t3] at q; exact q, HB4.out⟩
        ·obtain ⟨p, rfl⟩ : ∃ p, o = p + 1 := ⟨o - 1, by omega⟩
         go_wp2_with fail
         go_roundg g
         case measure => omega
         case rel => exact ⟨i + 1, p, by go_num, by go_num, by omega, by omega, by have q := HDP.out; simp [hc7, t0, t1, t2, t3] at q; exact q, HB4.out⟩
       ·have x3 : (x.toList == [41]) = false := HX.out ▸ str_no t3
        by_cases t4 : t = [93]
        ·have x4 : (x.toList == [93]) = true := HX.out ▸ str_is t4
         rcases Nat.eq_zero_or_pos o with ho | ho
         ·subst ho
          go_wp2_with fail
          go_roundg g
          case measure => omega
          case rel => exact ⟨i + 1, 0, by go_num, by go_num, by omega, by omega, by have q := HDP.out; simp [hc7, t0, t1, t2, t3, t4] at q; exact q, HB4.out⟩
         ·obtain ⟨p, rfl⟩ : ∃ p, o = p + 1 := ⟨o - 1, by omega⟩
          go_wp2_with fail
          go_roundg g
          case measure => omega
          case rel => exact ⟨i + 1, p, by go_num, by go_num, by omega, by omega, by have q := HDP.out; simp [hc7, t0, t1, t2, t3, t4] at q; exact q, HB4.out⟩
        ·have x4 : (x.toList == [93]) = false := HX.out ▸ str_no t4
         by_cases t5 : t = [125]
         ·have x5 : (x.toList == [125]) = true := HX.out ▸ str_is t5
          rcases Nat.eq_zero_or_pos o with ho | ho
          ·subst ho
           go_wp2_with fail
           go_roundg g
           case measure => omega
           case rel => exact ⟨i + 1, 0, by go_num, by go_num, by omega, by omega, by have q := HDP.out; simp [hc7, t0, t1, t2, t3, t4, t5] at q; exact q, HB4.out⟩
          ·obtain ⟨p, rfl⟩ : ∃ p, o = p + 1 := ⟨o - 1, by omega⟩
           go_wp2_with fail
           go_roundg g
           case measure => omega
           case rel => exact ⟨i + 1, p, by go_num, by go_num, by omega, by omega, by have q := HDP.out; simp [hc7, t0, t1, t2, t3, t4, t5] at q; exact q, HB4.out⟩
         ·have x5 : (x.toList == [125]) = false := HX.out ▸ str_no t5
          go_wp2_with fail
          go_roundg g
          case measure => omega
          case rel => exact ⟨i + 1, o, by go_num, by go_num, by omega, by omega, by have q := HDP.out; simp [hc7, t0, t1, t2, t3, t4, t5] at q; exact q, HB4.out⟩
   ·have f7 : (z != 7) = true := by rw [← HZ.out, bne_iff_ne]; omega
    go_wp2_with fail
    go_roundg g
    case measure => omega
    case rel => exact ⟨i + 1, o, by go_num, by go_num, by omega, by omega, by have q := HDP.out; simp [hc7] at q; exact q, HB4.out⟩
end Go.Proofs.YtlboejdhmggjpaaGreat.Pp

/- scan: Bare. -/
import Derived.Test.YtlboejdhmggjpaaGreatWwP
import Derived.Test.YtlboejdhmggjpaaGreatWwO
import Derived.Test.YtlboejdhmggjpaaGreatWtA
set_option linter.all false
namespace Go.Proofs.YtlboejdhmggjpaaGreat.Ww
set_option maxRecDepth 100000
set_option maxHeartbeats 16000000
open Go.Proofs.YtlboejdhmggjpaaGreat
open Go.RowKit Go.BigFrame Go.Shelf

theorem CellsAt.get5 {w : World} {b o : Nat} {x y z u v : Value} (h : CellsAt w b o [x, y, z, u, v]) : w.cell? ⟨b, o, none⟩ = some x ∧ w.cell? ⟨b, o + 1, none⟩ = some y ∧ w.cell? ⟨b, o + 2, none⟩ = some z ∧ w.cell? ⟨b, o + 3, none⟩ = some u ∧ w.cell? ⟨b, o + 4, none⟩ = some v :=
 ⟨h 0 x rfl, h 1 y rfl, h 2 z rfl, h 3 u rfl, h 4 v rfl⟩
theorem five_cells (w : World) (p q r s t : Value) (ty : TypeId) : ∀ j u, [p, q, r, s, t][j]? = some u → (w.alloc (.cells #[p, q, r, s, t] ty)).cell? ((⟨w.heap.size, 0, none⟩ : Addr).add j) = some u := by
 intro j u hj
 match j, hj with
 | 0, hj => simp at hj; subst hj; simp [Addr.add]
 | 1, hj => simp at hj; subst hj; simp [Addr.add]
 | 2, hj => simp at hj; subst hj; simp [Addr.add]
 | 3, hj => simp at hj; subst hj; simp [Addr.add]
 | 4, hj => simp at hj; subst hj; simp [Addr.add]
theorem bareD_at {l : List Tk} {i : Nat} (h : i < l.length) (d : Bool) : bareD d (l.drop i) = if l[i].kind = 8 ∨ l[i].kind = 9 then bareD true (l.drop (i + 1)) else { l[i] with space := l[i].space || d } :: bareD false (l.drop (i + 1)) := by
 rw [List.drop_eq_getElem_cons h, bareD]
def BarePost (l : List Tk) (w : World) (e : Ending) (w' : World) : Prop := ∃ v, e = .returned v ∧ w'.ownsRow w.heap.size 145 5 v (bare l).length ((bare l).flatMap tkC) ∧ Below w.heap.size w w'
theorem Sc.bare (a : Option Addr) (c : Nat) (l : List Tk) (w : World) (hr : RowAt 5 tkC w a l) (hl : l.length ≤ 1000000000) : Calls Tryz.prog 69 #[.slice a l.length c] w (BarePost l w) := by
 have HROW := Lib.hid hr
 obtain ⟨i0, hi, hz0, hz1, hz2⟩ := info_parts info145
 have HI := Lib.hid hi
 have HZ0 := Lib.hid hz0
 have HZ1 := Lib.hid hz1
 have HZ2 := Lib.hid hz2
 clear hi hz0 hz1 hz2 hr
 go_enter Tryz.func69, Tryz.ntmps69
 go_wp2_with fail
 go_step3
 go_wp2_with fail
 go_step3
 go_wp2_with fail
 go_loopw [3, 4, 9] (fun s3 s4 s9 wr => ∃ (i : Nat) (d : Bool) (acc : List Tk), i ≤ l.length ∧ s9 = .int .i64 i ∧ s4 = .bool d ∧ YtlboejdhmggjpaaGreat.bare l = acc ++ bareD d (l.drop i) ∧ Below w.heap.size w wr ∧ wr.ownsRow w.heap.size 145 5 s3 acc.length (acc.flatMap tkC) ∧ acc.length ≤ i) (fun _ _ s9 _ => l.length - (intOf s9).toNat)
 case atStart => exact ⟨0, false, [], Nat.zero_le _, rfl, rfl, rfl, Below.refl _ _, World.ownsRow_nil _ _ _ _, Nat.le_refl _⟩
 case round =>
  obtain ⟨i, d, acc, hi, rfl, rfl, hb, hbel, hown, hal⟩ := hrel
  obtain ⟨oa, oc, rfl⟩ := row_shape hown
  by_cases hlt : i < l.length
  ·obtain ⟨gb, go, rfl, hgb, hgc⟩ := HROW.out.at (by intro e; simp [e] at hlt)
   obtain ⟨k0, k1, k2, k3, k4⟩ := CellsAt.get5 ((hgc i hlt).below hbel hgb)
   rw [bareD_at hlt] at hb
   have hlt' : (i : Int) < l.length := by omega
   generalize l[i] = t at *
   obtain ⟨kd, tx, lo, hi', sp⟩ := t
   simp only at k0 k1 k2 k3 k4 hb
   have HBEL := Lib.hid hbel
   have HOWN := Lib.hid hown
   have hws := hbel.size
   by_cases h8 : kd = 8
   ·subst h8
    rw [if_pos (.inl rfl)] at hb
    have HB := Lib.hid hb
    clear hb hbel hown hgc
    go_wp2_with fail
    go_roundw
    case rel => exact ⟨i + 1, true, acc, by omega, by go_num, rfl, HB.out, HBEL.out.trans ((below_alloc _ _).mono hws), HOWN.out.alloc _, by omega⟩
    case measure => simp [intOf]; omega
   by_cases h9 : kd = 9
   ·subst h9
    rw [if_pos (.inr rfl)] at hb
    have HB := Lib.hid hb
    clear hb hbel hown hgc
    go_wp2_with fail
    go_roundw
    case rel => exact ⟨i + 1, true, acc, by omega, by go_num, rfl, HB.out, HBEL.out.trans ((below_alloc _ _).mono hws), HOWN.out.alloc _, by omega⟩
    case measure => simp [intOf]; omega
   ·rw [if_neg (by omega)] at hb
    have h8' : ((kd : Int) == 8) = false := by rw [beq_eq_false_iff_ne]; omega
    have h9' : ((kd : Int) == 9) = false := by rw [beq_eq_false_iff_ne]; omega
    obtain ⟨sq, hsq⟩ : ∃ sq, (sp || d) = sq := ⟨_, rfl⟩
    rw [hsq] at hb
    have HB := Lib.hid hb
    have HSQ := Lib.hid hsq
    clear hb hbel hown hgc h8 h9 hsq
    cases sp
    ·have e := HSQ.out
     simp only [Bool.false_or] at e
     subst e
     go_wp2_with (at_builtin; refine wpList_append_own _ rfl _ _ 97 rfl w.heap.size 145 i0 (.agg #[.int .i64 0, .string ⟨#[]⟩, .int .i64 0, .int .i64 0, .bool false]) 5 48 Tryz.underlying97 HI.out HZ0.out HZ1.out HZ2.out rfl (by decide) _ acc.length _ rfl ((HOWN.out.alloc _).alloc _) ⟨wr.heap.size + 1, 0, none⟩ 1 1 [.int .i64 kd, .string (str tx), .int .i64 lo, .int .i64 hi', .bool d] rfl rfl (by simpa using five_cells (wr.alloc (.cells #[.int .i64 kd, .string (str tx), .int .i64 lo, .int .i64 hi', .bool d] 145)) (.int .i64 kd) (.string (str tx)) (.int .i64 lo) (.int .i64 hi') (.bool d) 145) (fun u hu => by simp at hu; rcases hu with rfl | rfl | rfl | rfl | rfl <;> rfl) (by unfold maxLen; omega) (by omega) (by simp; omega) ?_; intro v' w1 hown' hgrow _)
     have HOWN' := Lib.hid hown'
     have HBE' := Lib.hid (((HBEL.out.alloc hws (.cells #[.int .i64 kd, .string (str tx), .int .i64 lo, .int .i64 hi', .bool d] 145)).alloc (by simp; omega) (.cells #[.int .i64 kd, .string (str tx), .int .i64 lo, .int .i64 hi', .bool d] 145)).grown hgrow (by simp; omega) (fun k hk => (row_cells HOWN.out hk).1))
     clear hown' hgrow
     go_wp2_with fail
     go_roundw
     case rel =>
      refine ⟨i + 1, false, acc ++ [⟨kd, tx, lo, hi', d⟩], by omega, by go_num, rfl, by rw [HB.out, List.append_assoc]; rfl, HBE'.out, ?_, by simp; omega⟩
      have h := HOWN'.out
      rw [List.flatMap_append, List.length_append]
      simpa [tkC] using h
     case measure => simp [intOf]; omega
    ·have e := HSQ.out
     simp only [Bool.true_or] at e
     subst e
     go_wp2_with (at_builtin; refine wpList_append_own _ rfl _ _ 97 rfl w.heap.size 145 i0 (.agg #[.int .i64 0, .string ⟨#[]⟩, .int .i64 0, .int .i64 0, .bool false]) 5 48 Tryz.underlying97 HI.out HZ0.out HZ1.out HZ2.out rfl (by decide) _ acc.length _ rfl ((HOWN.out.alloc _).alloc _) ⟨wr.heap.size + 1, 0, none⟩ 1 1 [.int .i64 kd, .string (str tx), .int .i64 lo, .int .i64 hi', .bool true] rfl rfl (by simpa using five_cells (wr.alloc (.cells #[.int .i64 kd, .string (str tx), .int .i64 lo, .int .i64 hi', .bool true] 145)) (.int .i64 kd) (.string (str tx)) (.int .i64 lo) (.int .i64 hi') (.bool true) 145) (fun u hu => by simp at hu; rcases hu with rfl | rfl | rfl | rfl | rfl <;> rfl) (by unfold maxLen; omega) (by omega) (by simp; omega) ?_; intro v' w1 hown' hgrow _)
     have HOWN' := Lib.hid hown'
     have HBE' := Lib.hid (((HBEL.out.alloc hws (.cells #[.int .i64 kd, .string (str tx), .int .i64 lo, .int .i64 hi', .bool true] 145)).alloc (by simp; omega) (.cells #[.int .i64 kd, .string (str tx), .int .i64 lo, .int .i64 hi', .bool true] 145)).grown hgrow (by simp; omega) (fun k hk => (row_cells HOWN.out hk).1))
     clear hown' hgrow
     go_wp2_with fail
     go_roundw
     case rel =>
      refine ⟨i + 1, false, acc ++ [⟨kd, tx, lo, hi', true⟩], by omega, by go_num, rfl, by rw [HB.out, List.append_assoc]; rfl, HBE'.out, ?_, by simp; omega⟩
      have h := HOWN'.out
      rw [List.flatMap_append, List.length_append]
      simpa [tkC] using h
     case measure => simp [intOf]; omega
  ·obtain rfl : i = l.length := by omega
   rw [List.drop_length] at hb
   have HB := Lib.hid hb
   have HBEL := Lib.hid hbel
   have HOWN := Lib.hid hown
   clear hb hbel hown
   go_wp2_with fail
   rw [Exit.noGoto_ret]
   go_ret
   refine ⟨_, rfl, ?_, HBEL.out⟩
   have h := HB.out
   simp only [bareD, List.append_nil] at h
   rw [h]
   exact HOWN.out
end Go.Proofs.YtlboejdhmggjpaaGreat.Ww

/- WtB -/
namespace Go.Proofs.YtlboejdhmggjpaaGreat.Ct
set_option maxRecDepth 100000
set_option maxHeartbeats 16000000
open Go.RowKit Go.BigFrame Go.Proofs.YtlboejdhmggjpaaGreat Go.Proofs.YtlboejdhmggjpaaGreat.Pp Go.Proofs.YtlboejdhmggjpaaGreat.Ww

def ClsPost (o : Option Ct) (w : World) (e : Ending) (w' : World) : Prop := e = .returned (.tuple #[ctV (o.getD ⟨0, []⟩), .int .i64 (if o.isSome then 0 else 40)]) ∧ Below w.heap.size w w'
def ClsOk (k : Nat) (t : Bs) (o : Option Ct) : Prop := ∀ w : World, Mx w → Calls Tryz.prog 70 #[.int .i64 k, .string (str t)] w (ClsPost o w)
theorem class_end {c : Int} {st : ByteArray} {W : World} {b : Nat} (h : W.heap[b]? = some (.cells #[.int .i64 c, .string st] 54 (0, 0))) : (loadVar 54 ⟨b, 0, none⟩).run Tryz.prog W = .ok (.agg #[.int .i64 c, .string st]) W :=
 run_loadVar_at W b 0 54 [.int .i64 c, .string st] _ (fun j v hv => by
  match j, hv with
  | 0, hv => cases hv; simp [World.cell?, h]
  | 1, hv => cases hv; simp [World.cell?, h]
  | j + 2, hv => simp at hv) Tryz.underlying54 rfl (by kernel_rfl)
theorem class_word (t : Bs) : ClsOk 1 t (some ⟨if isKw t then 1 else 2, t⟩) := fun w hm => by
 have hk := keywordF t
 obtain ⟨K, hK⟩ : ∃ K, isKw t = K := ⟨_, rfl⟩
 rw [hK] at hk ⊢
 obtain ⟨st, hst⟩ : ∃ st : ByteArray, str t = st := ⟨_, rfl⟩
 rw [hst] at hk ⊢
 obtain ⟨R, hR⟩ : ∃ R, R = ClsPost (some ⟨if K = true then 1 else 2, t⟩) w := ⟨_, rfl⟩
 rw [← hR]
 have HK := Lib.hid hk
 have HR := Lib.hid hR
 have HST := Lib.hid hst
 clear hK hm hk hst hR
 have hB : Below w.heap.size w ((w.alloc (.cells #[.int .i64 0, .string ⟨#[]⟩] 54))) := below_alloc _ _
 have HB := Lib.hid hB
 clear hB
 cases K
 ·go_enter Tryz.func70, Tryz.ntmps70
  go_wp2_with fail
  refine (HK.out _).mono ?_
  rintro e w1 ⟨rfl, rfl⟩
  go_wp2_with fail
  have hl := class_end (c := 2) (st := st) (new_cells w #[.int .i64 2, .string st] 54)
  refine bodyPost_ret (v := .tuple #[.agg #[.int .i64 2, .string st], .int .i64 0]) (by simp [results, Tryz.results70, go_sem, hl]) rfl ?_
  rw [HR.out]
  exact ⟨by rw [← HST.out]; rfl, below_alloc _ _⟩
 ·go_enter Tryz.func70, Tryz.ntmps70
  go_wp2_with fail
  refine (HK.out _).mono ?_
  rintro e w1 ⟨rfl, rfl⟩
  go_wp2_with fail
  have hl := class_end (c := 1) (st := st) (new_cells w #[.int .i64 1, .string st] 54)
  refine bodyPost_ret (v := .tuple #[.agg #[.int .i64 1, .string st], .int .i64 0]) (by simp [results, Tryz.results70, go_sem, hl]) rfl ?_
  rw [HR.out]
  exact ⟨by rw [← HST.out]; rfl, below_alloc _ _⟩
theorem class_punct (t : Bs) : ClsOk 5 t (some ⟨7, canon t⟩) := fun w hm => by
 have hk := canonF t
 obtain ⟨st, hst⟩ : ∃ st : ByteArray, str (canon t) = st := ⟨_, rfl⟩
 obtain ⟨s0, hs0⟩ : ∃ st : ByteArray, str t = st := ⟨_, rfl⟩
 rw [hst, hs0] at hk
 rw [hs0]
 obtain ⟨R, hR⟩ : ∃ R, R = ClsPost (some ⟨7, canon t⟩) w := ⟨_, rfl⟩
 rw [← hR]
 have HK := Lib.hid hk
 have HR := Lib.hid hR
 have HST := Lib.hid hst
 clear hm hk hst hR hs0
 ·go_enter Tryz.func70, Tryz.ntmps70
  go_wp2_with fail
  refine (HK.out _).mono ?_
  rintro e w1 ⟨rfl, rfl⟩
  go_wp2_with fail
  have hl := class_end (c := 7) (st := st) (new_cells w #[.int .i64 7, .string st] 54)
  refine bodyPost_ret (v := .tuple #[.agg #[.int .i64 7, .string st], .int .i64 0]) (by simp [results, Tryz.results70, go_sem, hl]) rfl ?_
  rw [HR.out]
  exact ⟨by rw [← HST.out]; rfl, below_alloc _ _⟩
end Go.Proofs.YtlboejdhmggjpaaGreat.Ct

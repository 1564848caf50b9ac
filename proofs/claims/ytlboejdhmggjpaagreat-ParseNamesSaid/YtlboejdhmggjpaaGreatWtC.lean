/- scan: Bare. -/
import Derived.Test.YtlboejdhmggjpaaGreatWwP
import Derived.Test.YtlboejdhmggjpaaGreatWwO
import Derived.Test.YtlboejdhmggjpaaGreatWwB
import Derived.Test.YtlboejdhmggjpaaGreatWkY
import Derived.OwnWalk
set_option linter.all false
namespace Go.Proofs.YtlboejdhmggjpaaGreat.Ww
set_option maxRecDepth 100000
set_option maxHeartbeats 16000000
open Go.Proofs.YtlboejdhmggjpaaGreat
open Go.RowKit Go.BigFrame Go.Shelf

theorem CellsAt.get5 {w : World} {b o : Nat} {x y z u v : Value} (h : CellsAt w b o [x, y, z, u, v]) : w.cell? ⟨b, o, none⟩ = some x ∧ w.cell? ⟨b, o + 1, none⟩ = some y ∧ w.cell? ⟨b, o + 2, none⟩ = some z ∧ w.cell? ⟨b, o + 3, none⟩ = some u ∧ w.cell? ⟨b, o + 4, none⟩ = some v :=
 ⟨h 0 x rfl, h 1 y rfl, h 2 z rfl, h 3 u rfl, h 4 v rfl⟩
theorem five_cells (w : World) (p q r s t : Value) (ty : TypeId) : ∀ j u, [p, q, r, s, t][j]? = some u → (w.alloc (.cells #[p, q, r, s, t] ty)).cell? ((⟨w.heap.size, 0, none⟩ : Addr).add j) = some u := by
 intro j u hj
 match j, hj with
 | 0, hj => simp at hj; subst hj; simp [Addr.add]
 | 1, hj => simp at hj; subst hj; simp [Addr.add]
 | 2, hj => simp at hj; subst hj; simp [Addr.add]
 | 3, hj => simp at hj; subst hj; simp [Addr.add]
 | 4, hj => simp at hj; subst hj; simp [Addr.add]
theorem bareD_at {l : List Tk} {i : Nat} (h : i < l.length) (d : Bool) : bareD d (l.drop i) = if l[i].kind = 8 ∨ l[i].kind = 9 then bareD true (l.drop (i + 1)) else { l[i] with space := l[i].space || d } :: bareD false (l.drop (i + 1)) := by
 rw [List.drop_eq_getElem_cons h, bareD]
def BarePost (l : List Tk) (w : World) (e : Ending) (w' : World) : Prop := ∃ v, e = .returned v ∧ w'.ownsRow w.heap.size 145 5 v (bare l).length ((bare l).flatMap tkC) ∧ Below w.heap.size w w'
theorem Sc.bare (a : Option Addr) (c : Nat) (l : List Tk) (w : World) (hr : RowAt 5 tkC w a l) (hl : l.length ≤ 1000000000) : Calls Tryz.prog 69 #[.slice a l.length c] w (BarePost l w) := by
 have HROW := Lib.hid hr
 obtain ⟨i0, hi, hz0, hz1, hz2⟩ := info_parts info145
 have HI := Lib.hid hi
 have HZ0 := Lib.hid hz0
 have HZ1 := Lib.hid hz1
 have HZ2 := Lib.hid hz2
 clear hi hz0 hz1 hz2 hr
 go_enter Tryz.func69, Tryz.ntmps69
 go_wp2_with fail
 go_step3
 go_wp2_with fail
 go_step3
 go_wp2_with fail
 go_loopw [3, 4, 9] (fun s3 s4 s9 wr => ∃ (i : Nat) (d : Bool) (acc : List Tk), i ≤ l.length ∧ s9 = .int .i64 i ∧ s4 = .bool d ∧ YtlboejdhmggjpaaGreat.bare l = acc ++ bareD d (l.drop i) ∧ Below w.heap.size w wr ∧ wr.ownsRow w.heap.size 145 5 s3 acc.length (acc.flatMap tkC) ∧ acc.length ≤ i) (fun _ _ s9 _ => l.length - (intOf s9).toNat)
 case atStart => exact ⟨0, false, [], Nat.zero_le _, rfl, rfl, rfl, Below.refl _ _, World.ownsRow_nil _ _ _ _, Nat.le_refl _⟩
 case round =>
  obtain ⟨i, d, acc, hi, rfl, rfl, hb, hbel, hown, hal⟩ := hrel
  obtain ⟨oa, oc, rfl⟩ := row_shape hown
  by_cases hlt : i < l.length
  ·obtain ⟨gb, go, rfl, hgb, hgc⟩ := HROW.out.at (by intro e; simp [e] at hlt)
   obtain ⟨k0, k1, k2, k3, k4⟩ := CellsAt.get5 ((hgc i hlt).below hbel hgb)
   rw [bareD_at hlt] at hb
   have hlt' : (i : Int) < l.length := by omega
   generalize l[i] = t at *
   obtain ⟨kd, tx, lo, hi', sp⟩ := t
   simp only at k0 k1 k2 k3 k4 hb
   have HBEL := Lib.hid hbel
   have HOWN := Lib.hid hown
   have hws := hbel.size
   by_cases h8 : kd = 8
   ·subst h8
    rw [if_pos (.inl rfl)] at hb
    have HB := Lib.hid hb
    clear hb hbel hown hgc
    go_wp2_with fail
    go_roundw
    case rel => exact ⟨i + 1, true, acc, by omega, by go_num, rfl, HB.out, HBEL.out.trans ((below_alloc _ _).mono hws), HOWN.out.alloc _, by omega⟩
    case measure => simp [intOf]; omega
   by_cases h9 : kd = 9
   ·subst h9
    rw [if_pos (.inr rfl)] at hb
    have HB := Lib.hid hb
    clear hb hbel hown hgc
    go_wp2_with fail
    go_roundw
    case rel => exact ⟨i + 1, true, acc, by omega, by go_num, rfl, HB.out, HBEL.out.trans ((below_alloc _ _).mono hws), HOWN.out.alloc _, by omega⟩
    case measure => simp [intOf]; omega
   ·rw [if_neg (by omega)] at hb
    have h8' : ((kd : Int) == 8) = false := by rw [beq_eq_false_iff_ne]; omega
    have h9' : ((kd : Int) == 9) = false := by rw [beq_eq_false_iff_ne]; omega
    obtain ⟨sq, hsq⟩ : ∃ sq, (sp || d) = sq := ⟨_, rfl⟩
    rw [hsq] at hb
    have HB := Lib.hid hb
    have HSQ := Lib.hid hsq
    clear hb hbel hown hgc h8 h9 hsq
    cases sp
    ·have e := HSQ.out
     simp only [Bool.false_or] at e
     subst e
     go_wp2_with (at_builtin; refine wpList_append_own _ rfl _ _ 97 rfl w.heap.size 145 i0 (.agg #[.int .i64 0, .string ⟨#[]⟩, .int .i64 0, .int .i64 0, .bool false]) 5 48 Tryz.underlying97 HI.out HZ0.out HZ1.out HZ2.out rfl (by decide) _ acc.length _ rfl ((HOWN.out.alloc _).alloc _) ⟨wr.heap.size + 1, 0, none⟩ 1 1 [.int .i64 kd, .string (str tx), .int .i64 lo, .int .i64 hi', .bool d] rfl rfl (by simpa using five_cells (wr.alloc (.cells #[.int .i64 kd, .string (str tx), .int .i64 lo, .int .i64 hi', .bool d] 145)) (.int .i64 kd) (.string (str tx)) (.int .i64 lo) (.int .i64 hi') (.bool d) 145) (fun u hu => by simp at hu; rcases hu with rfl | rfl | rfl | rfl | rfl <;> rfl) (by unfold maxLen; omega) (by omega) (by simp; omega) ?_; intro v' w1 hown' hgrow _)
     have HOWN' := Lib.hid hown'
     have HBE' := Lib.hid (((HBEL.out.alloc hws (.cells #[.int .i64 kd, .string (str tx), .int .i64 lo, .int .i64 hi', .bool d] 145)).alloc (by simp; omega) (.cells #[.int .i64 kd, .string (str tx), .int .i64 lo, .int .i64 hi', .bool d] 145)).grown hgrow (by simp; omega) (fun k hk => (row_cells HOWN.out hk).1))
     clear hown' hgrow
     go_wp2_with fail
     go_roundw
     case rel =>
      refine ⟨i + 1, false, acc ++ [⟨kd, tx, lo, hi', d⟩], by omega, by go_num, rfl, by rw [HB.out, List.append_assoc]; rfl, HBE'.out, ?_, by simp; omega⟩
      have h := HOWN'.out
      rw [List.flatMap_append, List.length_append]
      simpa [tkC] using h
     case measure => simp [intOf]; omega
    ·have e := HSQ.out
     simp only [Bool.true_or] at e
     subst e
     go_wp2_with (at_builtin; refine wpList_append_own _ rfl _ _ 97 rfl w.heap.size 145 i0 (.agg #[.int .i64 0, .string ⟨#[]⟩, .int .i64 0, .int .i64 0, .bool false]) 5 48 Tryz.underlying97 HI.out HZ0.out HZ1.out HZ2.out rfl (by decide) _ acc.length _ rfl ((HOWN.out.alloc _).alloc _) ⟨wr.heap.size + 1, 0, none⟩ 1 1 [.int .i64 kd, .string (str tx), .int .i64 lo, .int .i64 hi', .bool true] rfl rfl (by simpa using five_cells (wr.alloc (.cells #[.int .i64 kd, .string (str tx), .int .i64 lo, .int .i64 hi', .bool true] 145)) (.int .i64 kd) (.string (str tx)) (.int .i64 lo) (.int .i64 hi') (.bool true) 145) (fun u hu => by simp at hu; rcases hu with rfl | rfl | rfl | rfl | rfl <;> rfl) (by unfold maxLen; omega) (by omega) (by simp; omega) ?_; intro v' w1 hown' hgrow _)
     have HOWN' := Lib.hid hown'
     have HBE' := Lib.hid (((HBEL.out.alloc hws (.cells #[.int .i64 kd, .string (str tx), .int .i64 lo, .int .i64 hi', .bool true] 145)).alloc (by simp; omega) (.cells #[.int .i64 kd, .string (str tx), .int .i64 lo, .int .i64 hi', .bool true] 145)).grown hgrow (by simp; omega) (fun k hk => (row_cells HOWN.out hk).1))
     clear hown' hgrow
     go_wp2_with fail
     go_roundw
     case rel =>
      refine ⟨i + 1, false, acc ++ [⟨kd, tx, lo, hi', true⟩], by omega, by go_num, rfl, by rw [HB.out, List.append_assoc]; rfl, HBE'.out, ?_, by simp; omega⟩
      have h := HOWN'.out
      rw [List.flatMap_append, List.length_append]
      simpa [tkC] using h
     case measure => simp [intOf]; omega
  ·obtain rfl : i = l.length := by omega
   rw [List.drop_length] at hb
   have HB := Lib.hid hb
   have HBEL := Lib.hid hbel
   have HOWN := Lib.hid hown
   clear hb hbel hown
   go_wp2_with fail
   rw [Exit.noGoto_ret]
   go_ret
   refine ⟨_, rfl, ?_, HBEL.out⟩
   have h := HB.out
   simp only [bareD, List.append_nil] at h
   rw [h]
   exact HOWN.out
end Go.Proofs.YtlboejdhmggjpaaGreat.Ww

/- WtB -/
namespace Go.Proofs.YtlboejdhmggjpaaGreat.Ct
set_option maxRecDepth 100000
set_option maxHeartbeats 16000000
open Go.RowKit Go.BigFrame Go.Proofs.YtlboejdhmggjpaaGreat Go.Proofs.YtlboejdhmggjpaaGreat.Pp Go.Proofs.YtlboejdhmggjpaaGreat.Ww

def ClsPost (o : Option Ct) (w : World) (e : Ending) (w' : World) : Prop := e = .returned (.tuple #[ctV (o.getD ⟨0, []⟩), .int .i64 (if o.isSome then 0 else 40)]) ∧ Below w.heap.size w w'
def ClsOk (k : Nat) (t : Bs) (o : Option Ct) : Prop := ∀ w : World, Mx w → Calls Tryz.prog 70 #[.int .i64 k, .string (str t)] w (ClsPost o w)
theorem class_end {c : Int} {st : ByteArray} {W : World} {b : Nat} (h : W.heap[b]? = some (.cells #[.int .i64 c, .string st] 54 (0, 0))) : (loadVar 54 ⟨b, 0, none⟩).run Tryz.prog W = .ok (.agg #[.int .i64 c, .string st]) W :=
 run_loadVar_at W b 0 54 [.int .i64 c, .string st] _ (fun j v hv => by
  match j, hv with
  | 0, hv => cases hv; simp [World.cell?, h]
  | 1, hv => cases hv; simp [World.cell?, h]
  | j + 2, hv => simp at hv) Tryz.underlying54 rfl (by kernel_rfl)
theorem class_word (t : Bs) : ClsOk 1 t (some ⟨if isKw t then 1 else 2, t⟩) := fun w hm => by
 have hk := keywordF t
 obtain ⟨K, hK⟩ : ∃ K, isKw t = K := ⟨_, rfl⟩
 rw [hK] at hk ⊢
 obtain ⟨st, hst⟩ : ∃ st : ByteArray, str t = st := ⟨_, rfl⟩
 rw [hst] at hk ⊢
 obtain ⟨R, hR⟩ : ∃ R, R = ClsPost (some ⟨if K = true then 1 else 2, t⟩) w := ⟨_, rfl⟩
 rw [← hR]
 have HK := Lib.hid hk
 have HR := Lib.hid hR
 have HST := Lib.hid hst
 clear hK hm hk hst hR
 have hB : Below w.heap.size w ((w.alloc (.cells #[.int .i64 0, .string ⟨#[]⟩] 54))) := below_alloc _ _
 have HB := Lib.hid hB
 clear hB
 cases K
 ·go_enter Tryz.func70, Tryz.ntmps70
  go_wp2_with fail
  refine (HK.out _).mono ?_
  rintro e w1 ⟨rfl, rfl⟩
  go_wp2_with fail
  have hl := class_end (c := 2) (st := st) (new_cells w #[.int .i64 2, .string st] 54)
  refine bodyPost_ret (v := .tuple #[.agg #[.int .i64 2, .string st], .int .i64 0]) (by simp [results, Tryz.results70, go_sem, hl]) rfl ?_
  rw [HR.out]
  exact ⟨by rw [← HST.out]; rfl, below_alloc _ _⟩
 ·go_enter Tryz.func70, Tryz.ntmps70
  go_wp2_with fail
  refine (HK.out _).mono ?_
  rintro e w1 ⟨rfl, rfl⟩
  go_wp2_with fail
  have hl := class_end (c := 1) (st := st) (new_cells w #[.int .i64 1, .string st] 54)
  refine bodyPost_ret (v := .tuple #[.agg #[.int .i64 1, .string st], .int .i64 0]) (by simp [results, Tryz.results70, go_sem, hl]) rfl ?_
  rw [HR.out]
  exact ⟨by rw [← HST.out]; rfl, below_alloc _ _⟩
theorem class_punct (t : Bs) : ClsOk 5 t (some ⟨7, canon t⟩) := fun w hm => by
 have hk := canonF t
 obtain ⟨st, hst⟩ : ∃ st : ByteArray, str (canon t) = st := ⟨_, rfl⟩
 obtain ⟨s0, hs0⟩ : ∃ st : ByteArray, str t = st := ⟨_, rfl⟩
 rw [hst, hs0] at hk
 rw [hs0]
 obtain ⟨R, hR⟩ : ∃ R, R = ClsPost (some ⟨7, canon t⟩) w := ⟨_, rfl⟩
 rw [← hR]
 have HK := Lib.hid hk
 have HR := Lib.hid hR
 have HST := Lib.hid hst
 clear hm hk hst hR hs0
 ·go_enter Tryz.func70, Tryz.ntmps70
  go_wp2_with fail
  refine (HK.out _).mono ?_
  rintro e w1 ⟨rfl, rfl⟩
  go_wp2_with fail
  have hl := class_end (c := 7) (st := st) (new_cells w #[.int .i64 7, .string st] 54)
  refine bodyPost_ret (v := .tuple #[.agg #[.int .i64 7, .string st], .int .i64 0]) (by simp [results, Tryz.results70, go_sem, hl]) rfl ?_
  rw [HR.out]
  exact ⟨by rw [← HST.out]; rfl, below_alloc _ _⟩
end Go.Proofs.YtlboejdhmggjpaaGreat.Ct

/- WtC -/
namespace Go.Proofs.YtlboejdhmggjpaaGreat.Ct
set_option maxRecDepth 100000
set_option maxHeartbeats 16000000
open Go.RowKit Go.BigFrame Go.Proofs.YtlboejdhmggjpaaGreat Go.Proofs.YtlboejdhmggjpaaGreat.Pp Go.Proofs.YtlboejdhmggjpaaGreat.Ww

def clsL (cls : Nat → Bs → Option Ct) : List Tk → List Ct × Bool
 | [] => ([], true)
 | x :: r => match cls x.kind x.text with
  | some c => (c :: (clsL cls r).1, (clsL cls r).2)
  | none => ([], false)
def TokPost (cls : Nat → Bs → Option Ct) (l : List Tk) (w : World) (e : Ending) (w' : World) : Prop :=
 Below w.heap.size w w' ∧ ((clsL cls (bare l)).2 = true ∧ (∃ v, e = .returned (.tuple #[v, .int .i64 0, .int .i64 0]) ∧ w'.ownsRow w.heap.size 54 2 v (clsL cls (bare l)).1.length ((clsL cls (bare l)).1.flatMap ctC)) ∨
  (clsL cls (bare l)).2 = false ∧ e = .returned (.tuple #[(.slice none 0 0), .int .i64 (clsL cls (bare l)).1.length, .int .i64 40]))
theorem info54 : (Tryz.prog.info? 54).map (fun i => (i.zero, i.size, i.bytes)) = some (some (.agg #[.int .i64 0, .string ⟨#[]⟩]), 2, 24) := by kernel_rfl
theorem bareD_len : ∀ (l : List Tk) (d : Bool), (bareD d l).length ≤ l.length
 | [], d => Nat.le_refl _
 | x :: r, d => by
  rw [bareD]
  split
  ·have := bareD_len r true; simp; omega
  ·have := bareD_len r false; simp; omega
theorem bare_len (l : List Tk) : (bare l).length ≤ l.length := bareD_len l false
theorem clsL_at {cls : Nat → Bs → Option Ct} {L : List Tk} {i : Nat} (h : i < L.length) : clsL cls (L.drop i) = match cls L[i].kind L[i].text with | some c => (c :: (clsL cls (L.drop (i + 1))).1, (clsL cls (L.drop (i + 1))).2) | none => ([], false) := by
 rw [List.drop_eq_getElem_cons h]; rfl
theorem own_base {w : World} {X Y e size n : Nat} {v : Value} {xs : List Value} (h : w.ownsRow X e size v n xs) (hY : Y ≤ X) : w.ownsRow Y e size v n xs := by
 refine ⟨h.1, ?_⟩
 rcases h.2 with hn | ⟨g, cap, cur, rfl, hb, rest⟩
 ·exact .inl hn
 ·exact .inr ⟨g, cap, cur, rfl, Nat.le_trans hY hb, rest⟩
theorem two_cells (w : World) (p q : Value) (ty : TypeId) : ∀ j u, [p, q][j]? = some u → (w.alloc (.cells #[p, q] ty)).cell? ((⟨w.heap.size, 0, none⟩ : Addr).add j) = some u := by
 intro j u hj
 match j, hj with
 | 0, hj => simp at hj; subst hj; simp [Addr.add]
 | 1, hj => simp at hj; subst hj; simp [Addr.add]
theorem tokens (cls : Nat → Bs → Option Ct) (a : Option Addr) (c : Nat) (l : List Tk) (w : World) (hm : Mx w) (hr : RowAt 5 tkC w a l) (hl : l.length ≤ 1000000) (hc : ∀ x ∈ bare l, ClsOk x.kind x.text (cls x.kind x.text)) : Calls Tryz.prog 43 #[.slice a l.length c] w (TokPost cls l w) := by
 have hba := Sc.bare a c l w hr (by omega)
 obtain ⟨L, hL⟩ : ∃ L, bare l = L := ⟨_, rfl⟩
 obtain ⟨R, hR⟩ : ∃ R, R = TokPost cls l w := ⟨_, rfl⟩
 have hbl : L.length ≤ l.length := by rw [← hL]; exact bare_len l
 obtain ⟨nl, hnl⟩ : ∃ n, l.length = n := ⟨_, rfl⟩
 rw [← hR]
 rw [hL] at hc
 rw [hnl] at hba hl hbl ⊢
 have hR2 : R = fun e w' => Below w.heap.size w w' ∧ ((clsL cls L).2 = true ∧ (∃ v, e = .returned (.tuple #[v, .int .i64 0, .int .i64 0]) ∧ w'.ownsRow w.heap.size 54 2 v (clsL cls L).1.length ((clsL cls L).1.flatMap ctC)) ∨ (clsL cls L).2 = false ∧ e = .returned (.tuple #[(.slice none 0 0), .int .i64 (clsL cls L).1.length, .int .i64 40])) := by rw [hR]; unfold TokPost; rw [hL]
 have hba2 : Calls Tryz.prog 69 #[.slice a nl c] w fun e w' => ∃ v, e = .returned v ∧ w'.ownsRow w.heap.size 145 5 v L.length (L.flatMap tkC) ∧ Below w.heap.size w w' := by rw [← hL]; exact hba
 have HBA := Lib.hid hba2
 have HC := Lib.hid hc
 have HR := Lib.hid hR2
 have HM := Lib.hid hm
 obtain ⟨i0, hi, hz0, hz1, hz2⟩ := info_parts3 info54
 have HI := Lib.hid hi
 have HZ0 := Lib.hid hz0
 have HZ1 := Lib.hid hz1
 have HZ2 := Lib.hid hz2
 clear hi hz0 hz1 hz2 hr hm hba hba2 hc hR hR2 hL hnl
 go_enter Tryz.func43, Tryz.ntmps43
 go_wp2_with fail
 refine HBA.out.mono ?_
 rintro e w1 ⟨v, rfl, hown, hb1⟩
 obtain ⟨ba, bc, rfl⟩ := Pp.row_shape hown
 obtain ⟨n, hn⟩ : ∃ n, L.length = n := ⟨_, rfl⟩
 rw [hn] at hown hbl ⊢
 have HO := Lib.hid hown
 have HB1 := Lib.hid hb1
 have HN := Lib.hid hn
 clear hown hb1 hn
 go_wp2_with (first | (at_make; refine wpList_make_own _ rfl _ _ 22 rfl w1.heap.size 54 i0 (.agg #[.int .i64 0, .string ⟨#[]⟩]) 2 Tryz.underlying22 HI.out HZ0.out HZ1.out .i64 .i64 n n rfl rfl rfl (by rw [HZ2.out]; omega) (by unfold maxLen; omega) (Nat.le_refl _) ?_; intro w2 hown2 hgrow2) | fail)
 have hb12 : Below w1.heap.size w1 w2 := ⟨hgrow2.os, hgrow2.tape, hgrow2.output, hgrow2.size, fun k hk => hgrow2.block k hk (by simp)⟩
 have HB12 := Lib.hid hb12
 have HOW := Lib.hid hown2
 clear hb12 hown2 hgrow2 HBA
 obtain ⟨g2, hg2⟩ : ∃ g, w1.heap.size = g := ⟨_, rfl⟩
 have HG2 := Lib.hid hg2
 rw [hg2] at HOW ⊢
 have hws1 : w.heap.size ≤ g2 := by rw [← hg2]; exact HB1.out.size
 clear hg2
 go_loopw [6, 18] (fun s6 s18 wr => ∃ (i : Nat) (acc : List Ct), i ≤ n ∧ s18 = .int .i64 i ∧ clsL cls L = (acc ++ (clsL cls (L.drop i)).1, (clsL cls (L.drop i)).2) ∧ acc.length = i ∧ Below g2 w1 wr ∧ wr.ownsRow g2 54 2 s6 i (acc.flatMap ctC)) (fun s6 s18 _ => n - (intOf s18).toNat)
 case atStart => exact ⟨0, [], Nat.zero_le _, rfl, rfl, rfl, by rw [← HG2.out]; exact HB12.out, HOW.out⟩
 case round =>
  obtain ⟨i, acc, hi, rfl, hcl, hal, hbel, hown⟩ := hrel
  have hws := hbel.size
  rw [HG2.out] at hws
  obtain ⟨oa, oc, rfl⟩ := Pp.row_shape hown
  by_cases hlt : i < n
  ·have hlt2 : decide (i < n) = true := decide_eq_true hlt
   have hiL : i < L.length := by rw [HN.out]; exact hlt
   have hrow := ownsRow_ext HO.out (by rw [HG2.out]; exact hbel)
   obtain ⟨gb, bc', hbe, -, -, -⟩ := row_block hrow (by omega)
   cases hbe
   have hat := fun (j : Nat) (hj : j < 5) => flat_get 5 tkC (fun _ => rfl) L i j hiL hj
   rw [clsL_at hiL] at hcl
   obtain ⟨x, hx⟩ : ∃ x, L[i] = x := ⟨_, rfl⟩
   have hxm : x ∈ L := by rw [← hx]; exact List.getElem_mem hiL
   rw [hx] at hat hcl
   have hcx := HC.out x hxm
   obtain ⟨kd, tx, lo, hi', sp⟩ := x
   simp only at hcl hcx
   have k0 : wr.cell? ⟨gb, i * 5, none⟩ = some (.int .i64 kd) := by rw [hrow.cellAt _ (by omega)]; exact hat 0 (by omega)
   have k1 : wr.cell? ⟨gb, i * 5 + 1, none⟩ = some (.string (str tx)) := by rw [hrow.cellAt _ (by omega)]; exact hat 1 (by omega)
   have k2 : wr.cell? ⟨gb, i * 5 + 2, none⟩ = some (.int .i64 lo) := by rw [hrow.cellAt _ (by omega)]; exact hat 2 (by omega)
   have k3 : wr.cell? ⟨gb, i * 5 + 3, none⟩ = some (.int .i64 hi') := by rw [hrow.cellAt _ (by omega)]; exact hat 3 (by omega)
   have k4 : wr.cell? ⟨gb, i * 5 + 4, none⟩ = some (.bool sp) := by rw [hrow.cellAt _ (by omega)]; exact hat 4 (by omega)
   obtain ⟨o, ho⟩ : ∃ o, cls kd tx = o := ⟨_, rfl⟩
   rw [ho] at hcl hcx
   obtain ⟨st, hst⟩ : ∃ st : ByteArray, str tx = st := ⟨_, rfl⟩
   have hcx2 : ∀ w : World, Mx w → Calls Tryz.prog 70 #[.int .i64 kd, .string st] w (ClsPost o w) := fun w hw => by rw [← hst]; exact hcx w hw
   rw [hst] at k1
   have HCX := Lib.hid hcx2
   have HCL := Lib.hid hcl
   have HBEL := Lib.hid hbel
   have HOWN := Lib.hid hown
   have HAL := Lib.hid hal
   have hmx : Mx (wr.alloc (.cells #[.int .i64 kd, .string st, .int .i64 lo, .int .i64 hi', .bool sp] 145)) := by
    obtain ⟨m, hm⟩ := HM.out
    have hb := HB1.out.trans ((hbel.trans ((below_alloc wr (.cells #[.int .i64 kd, .string st, .int .i64 lo, .int .i64 hi', .bool sp] 145)).mono hws)).mono hws1)
    exact ⟨m, (hb.cell (World.block_lt_of_cell? _ _ hm)).trans hm⟩
   have HMX := Lib.hid hmx
   clear hcl hcx hcx2 hbel hown hal hrow hat hxm hx ho hst hmx
   go_wp2_with fail
   refine (HCX.out _ HMX.out).mono ?_
   rintro e w3 ⟨rfl, hb3⟩
   have HB3 := Lib.hid hb3
   clear hb3
   cases o with
   | some cc =>
    obtain ⟨cc, ct⟩ := cc
    simp only [Option.getD_some, Option.isSome_some, if_true, ctV]
    obtain ⟨sc, hsc⟩ : ∃ sc : ByteArray, str ct = sc := ⟨_, rfl⟩
    rw [hsc]
    have hcl2 := HCL.out
    simp only at hcl2
    have hbw : Below g2 w1 w3 := (HBEL.out.trans ((below_alloc wr _).mono hws)).trans (HB3.out.mono (by simp; omega))
    have hown3 : w3.ownsRow g2 54 2 (.slice oa i oc) i (acc.flatMap ctC) := ownsRow_ext (HOWN.out.alloc _) HB3.out
    have hs3 : g2 ≤ w3.heap.size := by have := hbw.size; rw [HG2.out] at this; exact this
    have HCL2 := Lib.hid hcl2
    have HBW := Lib.hid hbw
    have HOW3 := Lib.hid hown3
    have HSC := Lib.hid hsc
    clear hcl2 hbw hown3 hsc k0 k1 k2 k3 k4 HCL HBEL HOWN HB3 HCX HMX
    go_wp2_with (first | (at_builtin; refine wpList_append_own _ rfl _ _ 22 rfl g2 54 i0 (.agg #[.int .i64 0, .string ⟨#[]⟩]) 2 24 Tryz.underlying22 HI.out HZ0.out HZ1.out HZ2.out rfl (by decide) _ i _ rfl ((HOW3.out.alloc _).alloc _) ⟨w3.heap.size + 1, 0, none⟩ 1 1 [.int .i64 cc, .string sc] rfl rfl (by simpa using two_cells (w3.alloc (.cells #[.int .i64 cc, .string sc] 54)) (.int .i64 cc) (.string sc) 54) (fun u hu => by simp at hu; rcases hu with rfl | rfl <;> rfl) (by unfold maxLen; omega) (by omega) (by simp; omega) ?_; intro v' w5 hown' hgrow _) | fail)
    have HOWN' := Lib.hid hown'
    have hbe' : Below g2 w1 w5 := ((HBW.out.alloc hs3 (.cells #[.int .i64 cc, .string sc] 54)).alloc (by simp; omega) (.cells #[.int .i64 cc, .string sc] 54)).grown hgrow (by simp; omega) (fun k hk => (HOW3.out.lt k hk).1)
    have HBE' := Lib.hid hbe'
    clear hown' hgrow hbe'
    go_wp2_with fail
    go_roundw
    case rel =>
     refine ⟨i + 1, acc ++ [⟨cc, ct⟩], by omega, by go_num, by rw [HCL2.out, List.append_assoc]; rfl, by rw [List.length_append, HAL.out]; rfl, HBE'.out, ?_⟩
     have h := HOWN'.out
     rw [List.flatMap_append]
     simpa [ctC, HSC.out] using h
    case measure => simp [intOf]; omega
   | none =>
    simp only [Option.getD_none, Option.isSome_none, Bool.false_eq_true, if_false, ctV]
    have hcl2 := HCL.out
    simp only [List.append_nil] at hcl2
    have hbw : Below w.heap.size w w3 := HB1.out.trans (((HBEL.out.trans ((below_alloc wr _).mono hws)).trans (HB3.out.mono (by simp; omega))).mono hws1)
    have HCL2 := Lib.hid hcl2
    have HBW := Lib.hid hbw
    clear hcl2 hbw
    go_wp2_with fail
    rw [HR.out]
    have h := HCL2.out
    exact ⟨HBW.out.alloc HBW.out.size _, .inr ⟨by rw [h], by rw [h]; simp only; rw [HAL.out]⟩⟩
  ·obtain rfl : i = n := by omega
   have hlt2 : decide (i < i) = false := decide_eq_false hlt
   rw [← HN.out, List.drop_length] at hcl
   have HCL := Lib.hid hcl
   have HBEL := Lib.hid hbel
   have HOWN := Lib.hid hown
   have HAL := Lib.hid hal
   clear hcl hbel hown hal
   go_wp2_with fail
   rw [HR.out]
   have h := HCL.out
   simp only [clsL, List.append_nil] at h
   refine ⟨HB1.out.trans (HBEL.out.mono hws1), .inl ⟨by rw [h], _, rfl, ?_⟩⟩
   rw [h]
   simp only
   rw [HAL.out]
   exact own_base HOWN.out hws1
end Go.Proofs.YtlboejdhmggjpaaGreat.Ct

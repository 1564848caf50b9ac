/- the document: Rows. -/
import Derived.Test.YtbnhefibpjldfaaGreatDoorPxW
namespace Go.Proofs.YtbnhefibpjldfaaGreatDoor
open Go.RowKit Go.BigFrame Go.Shelf
set_option linter.unusedVariables false

/-- What a line's bare tokens say of it. -/
def nmP (b : List Tk) : Bs := match b with
  | _ :: t :: _ => if t.kind = 1 then t.text else []
  | _ => []
theorem dirP_hash (line : List Tk) : dirP false line = if hashP (bare line) then (nmP (bare line), true) else ([], false) := by
  rw [(dirP_bare line false).1]
  show _ = if hashP (bareD false line) then (nmP (bareD false line), true) else ([], false)
  generalize bareD false line = b
  match b with
  | [] => rfl
  | [t] =>
    show (if t.kind = 5 ∧ isHash t.text = true then (([], true) : Bs × Bool) else ([], false)) = _
    by_cases h : t.kind = 5 ∧ isHash t.text = true
    · have hh : hashP [t] = true := by simp [hashP, h.1, h.2]
      rw [if_pos h, hh]; rfl
    · have hh : hashP [t] = false := by rw [Bool.eq_false_iff]; intro e; simp only [hashP, Bool.and_eq_true, decide_eq_true_eq] at e; exact h e
      rw [if_neg h, hh]; rfl
  | t :: u :: r =>
    show (if t.kind = 5 ∧ isHash t.text = true then (if u.kind = 1 then (u.text, true) else (([], true) : Bs × Bool)) else ([], false)) = _
    by_cases h : t.kind = 5 ∧ isHash t.text = true
    · have hh : hashP (t :: u :: r) = true := by simp [hashP, h.1, h.2]
      rw [if_pos h, hh]
      show _ = ((if u.kind = 1 then u.text else [], true) : Bs × Bool)
      split <;> rfl
    · have hh : hashP (t :: u :: r) = false := by rw [Bool.eq_false_iff]; intro e; simp only [hashP, Bool.and_eq_true, decide_eq_true_eq] at e; exact h e
      rw [if_neg h, hh]; rfl
theorem lnsF_flush {line : List Tk} {t : Tk} {r : List Tk} (h : t.kind = 9 ∨ r = []) (rows : List Rw) : (lnsF line (t :: r)).foldl addRow rows = (lnsF [] r).foldl addRow (addRow rows (line ++ [t])) := by
  by_cases h9 : t.kind = 9
  · rw [lnsF, if_pos h9, List.foldl_cons]
  · rcases h with h | rfl
    · exact absurd h h9
    · have e1 : lnsF line [t] = [line ++ [t]] := by
        show (if t.kind = 9 then _ else lnsF (line ++ [t]) []) = _
        rw [if_neg h9]
        show (if line ++ [t] = [] then [] else [line ++ [t]]) = _
        rw [if_neg (by simp)]
      rw [e1]; rfl
theorem lnsF_go {line : List Tk} {t : Tk} {r : List Tk} (h : t.kind ≠ 9) : lnsF line (t :: r) = lnsF (line ++ [t]) r := by rw [lnsF, if_neg h]
def sumT (L : List Rv) : Nat := (L.map fun p => p.1.toks.length).sum
theorem sumT_snoc (L : List Rv) (p : Rv) : sumT (L ++ [p]) = sumT L + p.1.toks.length := by unfold sumT; simp
/-- What the loop keeps. -/
def RwL (l : List Tk) (w : World) (i : Nat) (lv nv : Value) (L : List Rv) (line : List Tk) (W : World) : Prop :=
  ∃ D E, RwD w.heap.size D E lv nv L line W ∧ Below w.heap.size w W ∧ rowsP l = (lnsF line (l.drop i)).foldl addRow (L.map (·.1)) ∧ (i = l.length → line = []) ∧ L.length ≤ i ∧ sumT L + line.length = i
set_option maxRecDepth 100000 in
set_option maxHeartbeats 8000000 in
theorem Rf.rows (a : Option Addr) (c : Nat) (l : List Tk) (w : World) (hr : RowAt 5 tkC w a l) (hl : l.length ≤ 1000000000) : Calls Tryz.prog 22 #[.slice a l.length c] w (RowsPost l w) := by
  have HROW := Lib.hid hr
  obtain ⟨i0, hi, hz0, hz1, hz2⟩ := info_parts info40
  have HI := Lib.hid hi
  have HZ0 := Lib.hid hz0
  have HZ1 := Lib.hid hz1
  have HZ2 := Lib.hid hz2
  obtain ⟨j0, hj, hy0, hy1, hy2⟩ := info_parts info78
  have HJ := Lib.hid hj
  have HY0 := Lib.hid hy0
  have HY1 := Lib.hid hy1
  have HY2 := Lib.hid hy2
  have h0 : RwL l w 0 (.slice none 0 0) (.slice none 0 0) [] [] w := ⟨w.heap.size, w.heap.size, ⟨World.ownsRow_nil _ _ _ _, by simp, by simp, World.ownsRow_nil _ _ _ _, Nat.le_refl _, Nat.le_refl _, Nat.le_refl _⟩, Below.refl _ _, rfl, fun _ => rfl, Nat.le_refl _, rfl⟩
  have H0 := Lib.hid h0
  clear hi hz0 hz1 hz2 hr hj hy0 hy1 hy2 h0
  go_enter Tryz.func22, Tryz.ntmps22
  go_wp2_with fail
  go_loopw [3, 4, 5] (fun s3 s4 s5 wr => ∃ (i : Nat) (L : List Rv) (line : List Tk), i ≤ l.length ∧ s5 = .int .i64 i ∧ RwL l w i s3 s4 L line wr) (fun _ _ s5 _ => l.length - (intOf s5).toNat)
  case atStart => exact ⟨0, [], [], Nat.zero_le _, rfl, H0.out⟩
  case round =>
    clear H0
    obtain ⟨i, L, line, hi, rfl, D, E, hrw, hbel, hrp, hend, hLi, hsum⟩ := hrel
    obtain ⟨oa, oc, rfl⟩ := row_shape hrw.row
    obtain ⟨la, lc, rfl⟩ := row_shape hrw.ln
    have hws := hbel.size
    by_cases hlt : i < l.length
    · obtain ⟨gb, go, rfl, hgb, hgc⟩ := HROW.out.at (by intro e; simp [e] at hlt)
      obtain ⟨k0, k1, k2, k3, k4⟩ := CellsAt.get5 ((hgc i hlt).below hbel hgb)
      have K0 : Hid (∀ w', Below w.heap.size w w' → w'.cell? ⟨gb, go + i * 5, none⟩ = some (.int .i64 l[i].kind)) := Lib.hid fun w' hw' => (CellsAt.get5 ((hgc i hlt).below hw' hgb)).1
      have hlt' : (i : Int) < l.length := by omega
      rw [List.drop_eq_getElem_cons hlt] at hrp
      have hrest : l.drop (i + 1) = [] ↔ i + 1 = l.length := by
        rw [List.drop_eq_nil_iff]; omega
      generalize l[i] = t at *
      have HT : Hid ([Value.int .i64 t.kind, .string (str t.text), .int .i64 t.lo, .int .i64 t.hi, .bool t.space] = tkC t) := Lib.hid rfl
      obtain ⟨kd, tx, lo, hi', sp⟩ := t
      simp only at k0 k1 k2 k3 k4 K0 HT
      have HBEL := Lib.hid hbel
      have HRW := Lib.hid hrw
      have HRP := Lib.hid hrp
      have HREST := Lib.hid hrest
      have hll : line.length ≤ i := by omega
      have HSUM := Lib.hid hsum
      clear hbel hrw hrp hgc hrest hend hsum
      go_upto_region 7 with (at_builtin; refine wpList_append_own _ rfl _ _ 30 rfl E 40 i0 (.agg #[.int .i64 0, .string ⟨#[]⟩, .int .i64 0, .int .i64 0, .bool false]) 5 48 Tryz.underlying30 HI.out HZ0.out HZ1.out HZ2.out rfl (by decide) _ line.length _ rfl (HRW.out.ln.alloc _) ⟨wr.heap.size, 0, none⟩ 1 1 [.int .i64 kd, .string (str tx), .int .i64 lo, .int .i64 hi', .bool sp] rfl rfl (five_cells _ _ _ _ _ _ 40) (fun u hu => by simp at hu; rcases hu with rfl | rfl | rfl | rfl | rfl <;> rfl) (by unfold maxLen; omega) (by omega) (by have := HRW.out.leE; simp; omega) ?_; intro v' w1 hown' hgrow _)
      have hmore := HRW.out.more (t := ⟨kd, tx, lo, hi', sp⟩) (below_alloc wr _) hgrow hown'
      clear hown' hgrow HRW k0 k1 k2 k3 k4
      obtain ⟨ln, hln⟩ : ∃ x, line ++ [(⟨kd, tx, lo, hi', sp⟩ : Tk)] = x := ⟨_, rfl⟩
      rw [hln] at hmore
      have hlnl : ln.length = line.length + 1 := by rw [← hln]; simp
      have HLN := Lib.hid hln
      have HLNL := Lib.hid hlnl
      obtain ⟨na, nc, rfl⟩ := row_shape hmore.1.ln
      have hB1 := HBEL.out.trans (hmore.2.mono (Nat.le_refl _))
      have HB1 := Lib.hid hB1
      have HRW := Lib.hid hmore.1
      have k0 := K0.out w1 hB1
      have hws1 := hB1.size
      have n1' : IntKind.i64.wrap ((l.length : Int) - 1) = (l.length : Int) - 1 := IntWalk.i64_in _ (by omega)
      clear hmore hln hB1 K0 HBEL hlnl
      by_cases hgo : kd ≠ 9 ∧ i + 1 < l.length
      · have h9' : ((kd : Int) != 9) = true := by rw [bne_iff_ne]; omega
        have hn1 : (i : Int) < (l.length : Int) - 1 := by omega
        have hrp2 : rowsP l = (lnsF ln (l.drop (i + 1))).foldl addRow (L.map (·.1)) := by rw [HRP.out, lnsF_go hgo.1, HLN.out]
        have HRP2 := Lib.hid hrp2
        have hgo2 := hgo.2
        clear hgo hrp2
        go_wp2_with fail
        go_roundw
        case rel => exact ⟨i + 1, L, ln, by omega, by go_num, D, E, HRW.out, HB1.out, HRP2.out, fun e => absurd e (by omega), by omega, by rw [HLNL.out]; have := HSUM.out; omega⟩
        case measure => simp [intOf]; omega
      have hfl : kd = 9 ∨ i + 1 = l.length := by omega
      have hrp2 : rowsP l = (lnsF [] (l.drop (i + 1))).foldl addRow (addRow (L.map (·.1)) ln) := by
        rw [HRP.out, lnsF_flush (hfl.elim .inl (fun e => .inr (HREST.out.2 e))), HLN.out]
      have HRP2 := Lib.hid hrp2
      clear hrp2 hgo
      go_cut [34] (fun s34 wx => s34 = .bool false ∧ wx = w1)
      case first =>
        by_cases h9 : kd = 9
        · subst h9
          go_wp2_with fail
          go_meet
          exact ⟨rfl, rfl⟩
        · have h9' : ((kd : Int) != 9) = true := by rw [bne_iff_ne]; omega
          have hn1 : ¬ (i : Int) < (l.length : Int) - 1 := by omega
          clear h9 hfl
          go_wp2_with fail
          go_meet
          exact ⟨rfl, rfl⟩
      case rest =>
        obtain ⟨rfl, rfl⟩ := hcut
        rename World => w1
        have hlnr := (rowAt_owns (f := tkC) tkC_len HRW.out.ln rfl)
        have HLNR := Lib.hid hlnr
        obtain ⟨B, hB⟩ : ∃ B, YtbnhefibpjldfaaGreatDoor.bare ln = B := ⟨_, rfl⟩
        have hbare := fun W (hW : Below w1.heap.size w1 W) => Rf.bare na nc ln W (hlnr.2.below hW (Nat.le_refl _) hW.size) (by rw [HLNL.out]; omega)
        have hblen : B.length ≤ ln.length := by rw [← hB]; exact bare_len ln false
        have hdir := dirP_hash ln
        unfold BarePost at hbare
        rw [hB] at hbare hdir
        have HDIR := Lib.hid hdir
        have HBARE := Lib.hid hbare
        have hbl : B.length ≤ 1000000000 := by have := HLNL.out; omega
        clear hlnr hB hbare hdir hfl k0 n1' hblen
        go_wp2_with fail
        refine (HBARE.out w1 (Below.refl _ _)).mono ?_
        rintro e w2 ⟨v, rfl, hown2, hb2⟩
        obtain ⟨ba, bc, rfl⟩ := row_shape hown2
        have hbr := (rowAt_owns (f := tkC) tkC_len hown2 rfl).2
        have HBR := Lib.hid hbr
        have hrw2 := HRW.out.on hb2
        have HRW2 := Lib.hid hrw2
        have HB2 := Lib.hid (HB1.out.trans (hb2.mono hws1))
        have hws2 : w.heap.size ≤ w2.heap.size := by have := hb2.size; omega
        have HLB := Lib.hid hb2
        clear hown2 hb2 hbr HRW HB1 hrw2
        go_wp2_with fail
        refine (Rf.hash ba bc B w2 HBR.out hbl).mono ?_
        rintro e w3 ⟨rfl, rfl⟩
        rename World => w2
        cases his : hashP B with
        | false =>
          rw [his, if_neg (by decide)] at HDIR
          have HD2 := HDIR
          clear his HDIR
          rcases last_cases L with rfl | ⟨d, ⟨xr, xv⟩, rfl⟩
          · have HOK : Hid (false = true ∨ runOf [] = false) := Lib.hid (.inr rfl)
            simp only [List.length_nil] at *
            go_wp2_with (at_builtin; refine wpList_append_own _ rfl _ _ 47 rfl w.heap.size 78 j0 (.agg #[.bool false, .string ⟨#[]⟩, .slice none 0 0]) 3 48 Tryz.underlying47 HJ.out HY0.out HY1.out HY2.out rfl (by decide) _ 0 _ rfl ((HRW2.out.row.alloc _).alloc _) ⟨w2.heap.size + 1, 0, none⟩ 1 1 [.bool false, .string ⟨#[]⟩, .slice na ln.length nc] rfl rfl (by simpa using three_cells (w2.alloc (.cells #[.bool false, .string ⟨#[]⟩, .slice na ln.length nc] 78)) (.bool false) (.string ⟨#[]⟩) (.slice na ln.length nc) 78) (fun u hu => by simp at hu; rcases hu with rfl | rfl | rfl <;> rfl) (by unfold maxLen; omega) (by omega) (by simp; omega) ?_; intro v' w4 hown' hgrow _)
            have hp := HRW2.out.push (r := ⟨false, [], ln⟩) ((below_alloc w2 _).trans ((below_alloc _ _).mono (by simp))) hgrow hown' rfl
            have HP := Lib.hid hp
            clear hown' hgrow hp
            go_wp2_with fail
            go_roundw
            case rel =>
              refine ⟨i + 1, [] ++ [((⟨false, [], ln⟩ : Rw), Value.slice na ln.length nc)], [], by omega, by go_num, _, _, HP.out.1, HB2.out.trans (HP.out.2.mono (Nat.le_refl _)), ?_, fun _ => rfl, by simp <;> omega, ?_⟩
              · rw [HRP2.out, addRow_push HD2.out HOK.out]; simp only [List.map_append, List.map_cons, List.map_nil]
              · rw [sumT_snoc]; have := HSUM.out; have := HLNL.out; simp; omega
            case measure => simp [intOf]; omega
          · cases hx : xr.dir with
            | true =>
              have HOK : Hid (false = true ∨ runOf (d ++ [((xr, xv) : Rv)]) = false) := Lib.hid (.inr (by simp [runOf, hx]))
              have hd0 : d.length + 1 ≤ 1000000000 := by have h := hLi; rw [List.length_append, List.length_singleton] at h; omega
              have hLi2 : d.length + 1 ≤ i := by have h := hLi; rw [List.length_append, List.length_singleton] at h; omega
              obtain ⟨G, cap, hlv, hBG, hGl, g0, g2, gf⟩ := HRW2.out.last
              have hLl : (d ++ [((xr, xv) : Rv)]).length = d.length + 1 := by simp
              rw [hLl] at hlv ⊢
              rw [hLl] at HRW2
              simp only [Value.slice.injEq, true_and] at hlv
              obtain ⟨rfl, rfl⟩ := hlv
              have hrow2 := HRW2.out.row
              rw [hLl] at hrow2
              have HROW2 := Lib.hid hrow2
              have HLL := Lib.hid hLl
              clear hrow2
              simp only at g0
              rw [hx] at g0
              have u1' : IntKind.i64.wrap (((d.length : Int) + 1) - 1) = (d.length : Int) := by rw [show ((d.length : Int) + 1) - 1 = d.length by omega]; exact IntWalk.i64_in _ (by omega)
              have hdn : (d.length : Int) < (d.length : Int) + 1 := by omega
              have hd1 : (0 : Int) < (d.length : Int) + 1 := by omega
              have w0' : (1 : Int) ≤ (d.length : Int) + 1 := by omega
              clear gf g2 hx hLl hLi
              go_wp2_with (at_builtin; refine wpList_append_own _ rfl _ _ 47 rfl w.heap.size 78 j0 (.agg #[.bool false, .string ⟨#[]⟩, .slice none 0 0]) 3 48 Tryz.underlying47 HJ.out HY0.out HY1.out HY2.out rfl (by decide) _ (d.length + 1) _ rfl ((HROW2.out.alloc _).alloc _) ⟨w2.heap.size + 1, 0, none⟩ 1 1 [.bool false, .string ⟨#[]⟩, .slice na ln.length nc] rfl rfl (by simpa using three_cells (w2.alloc (.cells #[.bool false, .string ⟨#[]⟩, .slice na ln.length nc] 78)) (.bool false) (.string ⟨#[]⟩) (.slice na ln.length nc) 78) (fun u hu => by simp at hu; rcases hu with rfl | rfl | rfl <;> rfl) (by unfold maxLen; omega) (by omega) (by simp; omega) ?_; intro v' w4 hown' hgrow _)
              have hp := HRW2.out.push (r := ⟨false, [], ln⟩) ((below_alloc w2 _).trans ((below_alloc _ _).mono (by simp))) hgrow (by rw [HLL.out]; exact hown') rfl
              have HP := Lib.hid hp
              clear hown' hgrow hp
              go_wp2_with fail
              go_roundw
              case rel =>
                refine ⟨i + 1, (d ++ [((xr, xv) : Rv)]) ++ [((⟨false, [], ln⟩ : Rw), Value.slice na ln.length nc)], [], by omega, by go_num, _, _, HP.out.1, HB2.out.trans (HP.out.2.mono (Nat.le_refl _)), ?_, fun _ => rfl, by simp <;> omega, ?_⟩
                · rw [HRP2.out, addRow_push HD2.out HOK.out]; simp only [List.map_append, List.map_cons, List.map_nil]
                · rw [sumT_snoc]; have := HSUM.out; have := HLNL.out; simp; omega
              case measure => simp [intOf]; omega
            | false =>
              have hd0 : d.length + 1 ≤ 1000000000 := by have h := hLi; rw [List.length_append, List.length_singleton] at h; omega
              obtain ⟨G, cap, hlv, hBG, hGl, g0, g2, gf⟩ := HRW2.out.last
              have hnew : w2.ownsRow D 40 5 xv xr.toks.length (xr.toks.flatMap tkC) := (HRW2.out.new (xr, xv) (by simp)).1
              obtain ⟨xa, xc, rfl⟩ := row_shape hnew
              have hLl : (d ++ [((xr, Value.slice xa xr.toks.length xc) : Rv)]).length = d.length + 1 := by simp
              rw [hLl] at hlv ⊢
              rw [hLl] at HRW2
              simp only [Value.slice.injEq, true_and] at hlv
              obtain ⟨rfl, rfl⟩ := hlv
              have hsx : sumT d + xr.toks.length + ln.length ≤ l.length := by
                have h1 := HSUM.out
                rw [sumT_snoc] at h1
                have h2 := HLNL.out
                simp only at h1
                omega
              have HNEW := Lib.hid hnew
              have hrow2 := HRW2.out.row
              rw [hLl] at hrow2
              have HROW2 := Lib.hid hrow2
              clear hrow2
              simp only at g0 g2
              rw [hx] at g0
              have u1' : IntKind.i64.wrap (((d.length : Int) + 1) - 1) = (d.length : Int) := by rw [show ((d.length : Int) + 1) - 1 = d.length by omega]; exact IntWalk.i64_in _ (by omega)
              have hdn : (d.length : Int) < (d.length : Int) + 1 := by omega
              have hd1 : (0 : Int) < (d.length : Int) + 1 := by omega
              have w0' : (1 : Int) ≤ (d.length : Int) + 1 := by omega
              have HGF := Lib.hid gf
              have HX := Lib.hid hx
              have hlb3 := HLB.out.trans ((below_alloc w2 (.cells #[.bool false, .string ⟨#[]⟩, .slice na ln.length nc] 78)).mono HLB.out.size)
              have HLN3 := Lib.hid (HLNR.out.2.below hlb3 (Nat.le_refl _) hlb3.size)
              have hd3 : D ≤ (w2.alloc (.cells #[.bool false, .string ⟨#[]⟩, .slice na ln.length nc] 78)).heap.size := by have h1 := HRW2.out.leE; have h2 := HRW2.out.leD; rw [World.size_alloc]; omega
              have HD3 := Lib.hid hd3
              have hlt4 : d.length * 3 + 2 < (d.length + 1) * 3 := by omega
              have HLT4 := Lib.hid hlt4
              clear hlt4 hnew gf hx hLl hlb3 hd3
              go_wp2_with (at_builtin; refine wpList_append_rows tkC rfl _ _ 30 rfl D 40 i0 (.agg #[.int .i64 0, .string ⟨#[]⟩, .int .i64 0, .int .i64 0, .bool false]) 5 48 Tryz.underlying30 HI.out HZ0.out HZ1.out HZ2.out rfl (by decide) tkC_len tkC_one _ xr.toks.length _ rfl (HNEW.out.alloc _) na ln nc rfl HLNR.out.1 HLN3.out (by unfold maxLen; omega) (by omega) HD3.out ?_; intro v' w4 hown' hgrow; have hr4 := other_row (HROW2.out.alloc (.cells #[.bool false, .string ⟨#[]⟩, .slice na ln.length nc] 78)) (HNEW.out.alloc _) (by decide) hgrow; obtain ⟨-, cur4, hg4⟩ := row_cells hr4 rfl; have hg5 : w4.heap[G]? = some (.cells cur4 78 (0, 0)) := hg4; have f1 := Lib.frozen_of_heap hg5 (d.length * 3 + 2); have d1 : w4.cell? ⟨G, d.length * 3 + 2, none⟩ = some (.slice xa xr.toks.length xc) := (by rw [hr4.cellAt (d.length * 3 + 2) HLT4.out, (rv_flat d _).2.2]); have HGR := Lib.hid hgrow; have HOWN' := Lib.hid hown'; obtain ⟨va, vc, hva⟩ := row_shape hown'; subst hva; clear hg4 hg5 hr4 hgrow hown')
              have hgg := (HRW2.out.on (below_alloc w2 (.cells #[.bool false, .string ⟨#[]⟩, .slice na ln.length nc] 78))).grow (ts := xr.toks ++ ln) HGR.out (by rw [List.length_append, List.flatMap_append]; exact HOWN'.out)
              have HGG := Lib.hid hgg
              clear hgg
              go_roundw
              case rel =>
                refine ⟨i + 1, d ++ [(({ xr with toks := xr.toks ++ ln } : Rw), Value.slice va (xr.toks.length + ln.length) vc)], [], by omega, by go_num, _, _, HGG.out.1, (HB2.out.trans ((below_alloc _ _).mono hws2)).trans (HGG.out.2.mono (Nat.le_refl _)), ?_, fun _ => rfl, by simp at hLi ⊢; omega, ?_⟩
                · rw [HRP2.out, addRow_grow HD2.out HX.out (Value.slice va (xr.toks.length + ln.length) vc)]
                · have h1 := HSUM.out
                  have h2 := HLNL.out
                  rw [sumT_snoc] at h1 ⊢
                  simp only [List.length_append, List.length_nil] at h1 ⊢
                  omega
              case measure => simp [intOf]; omega
        | true =>
          rw [his, if_pos rfl] at HDIR
          match B, his, HDIR, HBR, hbl with
          | [t0], his, HDIR, HBR, hbl =>
            have HD2 : Hid (dirP false ln = ([], true)) := HDIR
            simp only [List.length_cons, List.length_nil] at *
            clear his HDIR
            go_wp2_with (at_builtin; refine wpList_append_own _ rfl _ _ 47 rfl w.heap.size 78 j0 (.agg #[.bool false, .string ⟨#[]⟩, .slice none 0 0]) 3 48 Tryz.underlying47 HJ.out HY0.out HY1.out HY2.out rfl (by decide) _ L.length _ rfl ((HRW2.out.row.alloc _).alloc _) ⟨w2.heap.size + 1, 0, none⟩ 1 1 [.bool true, .string ⟨#[]⟩, .slice na ln.length nc] rfl rfl (by simpa using three_cells (w2.alloc (.cells #[.bool true, .string ⟨#[]⟩, .slice na ln.length nc] 78)) (.bool true) (.string ⟨#[]⟩) (.slice na ln.length nc) 78) (fun u hu => by simp at hu; rcases hu with rfl | rfl | rfl <;> rfl) (by unfold maxLen; omega) (by omega) (by simp; omega) ?_; intro v' w4 hown' hgrow _)
            have hp := HRW2.out.push (r := ⟨true, [], ln⟩) ((below_alloc w2 _).trans ((below_alloc _ _).mono (by simp))) hgrow hown' rfl
            have HP := Lib.hid hp
            clear hown' hgrow hp
            go_wp2_with fail
            go_roundw
            case rel =>
              refine ⟨i + 1, L ++ [((⟨true, [], ln⟩ : Rw), Value.slice na ln.length nc)], [], by omega, by go_num, _, _, HP.out.1, HB2.out.trans (HP.out.2.mono (Nat.le_refl _)), ?_, fun _ => rfl, by simp <;> omega, ?_⟩
              · rw [HRP2.out, addRow_push HD2.out (.inl rfl)]; simp only [List.map_append, List.map_cons, List.map_nil]
              · rw [sumT_snoc]; have := HSUM.out; have := HLNL.out; simp; omega
            case measure => simp [intOf]; omega
          | t0 :: t1 :: r, his, HDIR, HBR, hbl =>
            obtain ⟨bb, bo, rfl, hbb, hbc⟩ := HBR.out.at (by simp)
            obtain ⟨m0, m1, -, -, -⟩ := CellsAt.get5 (hbc 1 (by simp))
            simp only [List.getElem_cons_succ, List.getElem_cons_zero, Nat.one_mul] at m0 m1
            obtain ⟨N, hN⟩ : ∃ N, (t0 :: t1 :: r).length = N := ⟨_, rfl⟩
            rw [hN] at hbl ⊢
            have hN1 : (1 : Int) < N := by rw [← hN]; simp; omega
            have hbw : bb < w2.heap.size := hbb
            clear his hbc hN HBR
            by_cases hk : t1.kind = 1
            · have HD2 : Hid (dirP false ln = (t1.text, true)) := Lib.hid (by rw [HDIR.out]; simp [nmP, hk])
              rw [hk] at m0
              generalize t1.text = nm at *
              clear hk HDIR
              go_wp2_with (at_builtin; refine wpList_append_own _ rfl _ _ 47 rfl w.heap.size 78 j0 (.agg #[.bool false, .string ⟨#[]⟩, .slice none 0 0]) 3 48 Tryz.underlying47 HJ.out HY0.out HY1.out HY2.out rfl (by decide) _ L.length _ rfl ((HRW2.out.row.alloc _).alloc _) ⟨w2.heap.size + 1, 0, none⟩ 1 1 [.bool true, .string (str nm), .slice na ln.length nc] rfl rfl (by simpa using three_cells (w2.alloc (.cells #[.bool true, .string (str nm), .slice na ln.length nc] 78)) (.bool true) (.string (str nm)) (.slice na ln.length nc) 78) (fun u hu => by simp at hu; rcases hu with rfl | rfl | rfl <;> rfl) (by unfold maxLen; omega) (by omega) (by simp; omega) ?_; intro v' w4 hown' hgrow _)
              have hp := HRW2.out.push (r := ⟨true, nm, ln⟩) ((below_alloc w2 _).trans ((below_alloc _ _).mono (by simp))) hgrow hown' rfl
              have HP := Lib.hid hp
              clear hown' hgrow hp
              go_wp2_with fail
              go_roundw
              case rel =>
                refine ⟨i + 1, L ++ [((⟨true, nm, ln⟩ : Rw), Value.slice na ln.length nc)], [], by omega, by go_num, _, _, HP.out.1, HB2.out.trans (HP.out.2.mono (Nat.le_refl _)), ?_, fun _ => rfl, by simp <;> omega, ?_⟩
                · rw [HRP2.out, addRow_push HD2.out (.inl rfl)]; simp only [List.map_append, List.map_cons, List.map_nil]
                · rw [sumT_snoc]; have := HSUM.out; have := HLNL.out; simp; omega
              case measure => simp [intOf]; omega
            · have HD2 : Hid (dirP false ln = ([], true)) := Lib.hid (by rw [HDIR.out]; simp [nmP, hk])
              have hk' : ((t1.kind : Int) == 1) = false := by rw [beq_eq_false_iff_ne]; omega
              generalize t1.kind = kk at *
              clear hk HDIR
              go_wp2_with (at_builtin; refine wpList_append_own _ rfl _ _ 47 rfl w.heap.size 78 j0 (.agg #[.bool false, .string ⟨#[]⟩, .slice none 0 0]) 3 48 Tryz.underlying47 HJ.out HY0.out HY1.out HY2.out rfl (by decide) _ L.length _ rfl ((HRW2.out.row.alloc _).alloc _) ⟨w2.heap.size + 1, 0, none⟩ 1 1 [.bool true, .string ⟨#[]⟩, .slice na ln.length nc] rfl rfl (by simpa using three_cells (w2.alloc (.cells #[.bool true, .string ⟨#[]⟩, .slice na ln.length nc] 78)) (.bool true) (.string ⟨#[]⟩) (.slice na ln.length nc) 78) (fun u hu => by simp at hu; rcases hu with rfl | rfl | rfl <;> rfl) (by unfold maxLen; omega) (by omega) (by simp; omega) ?_; intro v' w4 hown' hgrow _)
              have hp := HRW2.out.push (r := ⟨true, [], ln⟩) ((below_alloc w2 _).trans ((below_alloc _ _).mono (by simp))) hgrow hown' rfl
              have HP := Lib.hid hp
              clear hown' hgrow hp
              go_wp2_with fail
              go_roundw
              case rel =>
                refine ⟨i + 1, L ++ [((⟨true, [], ln⟩ : Rw), Value.slice na ln.length nc)], [], by omega, by go_num, _, _, HP.out.1, HB2.out.trans (HP.out.2.mono (Nat.le_refl _)), ?_, fun _ => rfl, by simp <;> omega, ?_⟩
                · rw [HRP2.out, addRow_push HD2.out (.inl rfl)]; simp only [List.map_append, List.map_cons, List.map_nil]
                · rw [sumT_snoc]; have := HSUM.out; have := HLNL.out; simp; omega
              case measure => simp [intOf]; omega
    · obtain rfl : i = l.length := by omega
      have hle := hend rfl
      subst hle
      rw [List.drop_length] at hrp
      have hrp2 : rowsP l = L.map (·.1) := hrp
      have HRP := Lib.hid hrp2
      have HRV := Lib.hid hrw.rv
      have HBEL := Lib.hid hbel
      have hlt' : ¬ (l.length : Int) < l.length := by omega
      clear hrp hrp2 hrw hbel hend hsum
      go_wp2_with fail
      go_ret
      exact ⟨_, rfl, by rw [HRP.out]; exact HRV.out, HBEL.out⟩
end Go.Proofs.YtbnhefibpjldfaaGreatDoor

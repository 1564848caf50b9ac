/- told: the reader's head. -/
import Derived.Test.YtodjhgalbaelkaaDoorTwT
namespace Go.Proofs.YtodjhgalbaelkaaDoor
open Go.RowKit Go.BigFrame Go.Shelf
set_option linter.unusedVariables false

def headOk (l : List Chg) (name : Bs) : Bool := (match l.getLast? with | none => true | some c => !(c.es.length == 0) && !(leB name (dl c.n))) && isPath name
theorem infoChg : (Tryd.prog.info? 48).map (fun i => (i.zero, i.size, i.bytes)) = some (some (.agg #[.string ⟨#[]⟩, .slice none 0 0]), 2, 40) := by kernel_rfl
theorem other_row {w w' : World} {X e size n : Nat} {v lv : Value} {xs : List Value} {B t m sz : Nat} {ys : List Value} (h : w.ownsRow X e size v n xs) (hl : w.ownsRow B t sz lv m ys) (he : e ≠ t) (hg : w.grownBy w' lv.ownBlock) : w'.ownsRow X e size v n xs :=
  ownsRow_mod (S := fun k => lv.ownBlock = some k) h ⟨hg.os, hg.tape, hg.output, hg.size, fun k hk hn => hg.block k hk (fun e => hn e.symm)⟩ (fun k hk hs => by
    obtain ⟨_, c1, h1⟩ := row_cells h hk
    obtain ⟨_, c2, h2⟩ := row_cells hl hs
    rw [h1] at h2
    simp only [Option.some.injEq, Obj.cells.injEq] at h2
    exact he h2.2.1)
theorem other_block {w w' : World} {k : Nat} {cs : Array Value} {e : TypeId} {lv : Value} {B t m sz : Nat} {ys : List Value} (h : w.heap[k]? = some (.cells cs e (0, 0))) (hl : w.ownsRow B t sz lv m ys) (he : e ≠ t) (hg : w.grownBy w' lv.ownBlock) : w'.heap[k]? = some (.cells cs e (0, 0)) := by
  rw [hg.block k (Array.getElem?_eq_some_iff.1 h).1 (fun hs => by
    obtain ⟨_, c2, h2⟩ := row_cells hl hs.symm
    rw [h] at h2
    simp only [Option.some.injEq, Obj.cells.injEq] at h2
    exact he h2.2.1)]
  exact h
/-- A change is pushed. -/
theorem RdC.push {B K r : Nat} {lv tv v' : Value} {l : List Chg} {last want : Int} {text : Bs} {opn : Bool} {w w2 : World} {name : ByteArray} (h : RdC B K r lv tv l last want text opn w) (hg : w.grownBy w2 lv.ownBlock)
    (hown : w2.ownsRow B 48 2 v' (l.length + 1) (l.flatMap Chg.f ++ [.string name, .slice none 0 0])) : RdC B w2.heap.size r v' tv (l ++ [⟨name, none, 0, []⟩]) last want text opn (w2.setCell ⟨r, 0, none⟩ v') := by
  have hhd := other_block h.hd h.row (by decide) hg
  have hm : Mod (fun k => k = r) w2 (w2.setCell ⟨r, 0, none⟩ v') := Mod.setCell (S := fun k => k = r) (Mod.refl _ w2) ⟨r, 0, none⟩ (.inr rfl) v'
  have key : ∀ {X e size n : Nat} {v : Value} {xs : List Value}, e ≠ 74 → w2.ownsRow X e size v n xs → (w2.setCell ⟨r, 0, none⟩ v').ownsRow X e size v n xs := fun he hx =>
    ownsRow_mod hx hm (fun k hk hkr => by
      subst hkr
      obtain ⟨_, cur, hc⟩ := row_cells hx hk
      rw [hhd] at hc
      simp only [Option.some.injEq, Obj.cells.injEq] at hc
      exact he hc.2.1.symm)
  have hw := hg.size
  refine ⟨by simpa using heap_setCell_same w2 r 0 _ _ v' hhd, ?_, key (by decide) (other_row h.txt h.row (by decide) hg), fun c hc => ?_, fun c hc => ?_, Nat.le_trans h.B_le hw, by simp, h.leR⟩
  · have := key (by decide) hown
    simpa [Chg.f] using this
  · rw [List.dropLast_concat] at hc
    rcases last_cases l with rfl | ⟨d, x, rfl⟩
    · cases hc
    · rcases List.mem_append.1 hc with hc | hc
      · obtain ⟨h1, h2⟩ := h.old c (by rw [List.dropLast_concat]; exact hc)
        exact ⟨key (by decide) (other_row h1 h.row (by decide) hg), fun k hk => by have := h2 k hk; have := h.leK; omega⟩
      · rw [List.mem_singleton] at hc
        subst hc
        have h1 := h.new c (by simp)
        refine ⟨key (by decide) (other_row (ownsRow_base h1 h.leB) h.row (by decide) hg), fun k hk => ?_⟩
        obtain ⟨_, cur, hc⟩ := row_cells h1 hk
        have := (Array.getElem?_eq_some_iff.1 hc).1
        omega
  · have : c = ⟨name, none, 0, []⟩ := by simpa using hc.symm
    subst this
    exact World.ownsRow_nil _ _ _ _

def HeadPost (B r : Nat) (l : List Chg) (last want : Int) (text : Bs) (opn : Bool) (name : ByteArray) (w : World) (e : Ending) (w' : World) : Prop :=
  e = .returned (.bool (headOk l (dl name))) ∧ Below B w w' ∧ RdA B r (if headOk l (dl name) then l ++ [⟨name, none, 0, []⟩] else l) (if headOk l (dl name) then -1 else last) want text opn w' ∧ K9 w w'

set_option maxRecDepth 100000 in
set_option maxHeartbeats 4000000 in
theorem Rd.head {B r : Nat} {l : List Chg} {last want : Int} {text : Bs} {opn : Bool} {w : World} (name : ByteArray) (h : RdA B r l last want text opn w) (hl : l.length ≤ 4000000) (hn : name.size ≤ 4000000) :
    Calls Tryd.prog 47 #[.pointer (some ⟨r, 0, none⟩), .string name] w (HeadPost B r l last want text opn name w) := by
  obtain ⟨K, lv, tv, h⟩ := h
  obtain ⟨R, hR⟩ : ∃ R, headOk l (dl name) = R := ⟨_, rfl⟩
  have HPT := Lib.hid (fun (e : Ending) (w' : World) (he : e = .returned (.bool R)) (hb : Below B w w') (hx : RdA B r (if R then l ++ [⟨name, none, 0, []⟩] else l) (if R then -1 else last) want text opn w') (h9 : K9 w w') => show HeadPost B r l last want text opn name w e w' from by unfold HeadPost; rw [hR]; exact ⟨he, hb, hx, h9⟩)
  unfold headOk at hR
  obtain ⟨i0, hi, hz0, hz1, hz2⟩ := info_parts infoChg
  have HI := Lib.hid hi
  have HZ0 := Lib.hid hz0
  have HZ1 := Lib.hid hz1
  have HZ2 := Lib.hid hz2
  clear hi hz0 hz1 hz2
  obtain ⟨c0, c1, c2, c3, c4⟩ := h.cell
  have H := Lib.hid h
  have hrl : r < w.heap.size := (Array.getElem?_eq_some_iff.1 h.hd).1
  rcases last_cases l with rfl | ⟨d, c, rfl⟩
  · obtain ⟨ga, cap, rfl⟩ := row_shape h.row
    have hR2 : isPath (dl name) = R := by rw [← hR]; simp
    have HR := Lib.hid hR2
    have hlen : Hid (([] : List Chg).length = 0) := Lib.hid rfl
    clear hR hR2 h
    go_enter Tryd.func47, Tryd.ntmps47
    go_wp2_with fail
    refine (Td.path name w (by omega)).mono ?_
    rintro e w1 ⟨rfl, b1⟩
    have h1 := H.out.on b1
    have hs1 := b1.size
    have B1 := Lib.hid b1
    have HC := Lib.hid h1
    clear c0 c1 c2 c3 c4 b1 h1 
    cases R
    · rw [HR.out]
      go_wp2_with fail
      go_ret
      exact HPT.out _ _ rfl (B1.out.mono H.out.B_le) ⟨_, _, _, HC.out⟩ (K9.of_below B1.out)
    · rw [HR.out]
      obtain ⟨W, hW⟩ : ∃ W, W = w1.alloc (.cells #[.string name, .slice none 0 0] 48) := ⟨_, rfl⟩
      have hbW : Below w1.heap.size w1 W := by rw [hW]; exact below_alloc _ _
      have hlit : W.heap[w1.heap.size]? = some (.cells #[.string name, .slice none 0 0] 48 (0, 0)) := by rw [hW]; exact heap_alloc_new _ _
      have hW2 := HC.out.on hbW
      obtain ⟨c0, -⟩ := HC.out.cell
      have HW := Lib.hid hW
      have HBW := Lib.hid hbW
      have HLIT := Lib.hid hlit
      have HCW := Lib.hid hW2
      have hrowW := hW2.row
      rw [hlen.out] at hrowW
      have HROWW := Lib.hid hrowW
      clear hW hbW hlit hW2 hrowW
      go_wp2_with (at_builtin; rw [← HW.out]; refine wpList_append_own _ rfl _ _ 23 rfl B 48 i0 (.agg #[.string ⟨#[]⟩, .slice none 0 0]) 2 40 Tryd.underlying23 HI.out HZ0.out HZ1.out HZ2.out rfl (by decide) _ 0 _ rfl HROWW.out ⟨w1.heap.size, 0, none⟩ 1 1 [.string name, .slice none 0 0] rfl rfl ?c1 ?c2 ?c3 ?c4 ?c5 ?_)
      case c1 => intro j u hu; rw [addr_add]; exact (CellsAt.of_heap HLIT.out) j u (by simpa using hu)
      case c2 => intro u hu; simp at hu; rcases hu with rfl | rfl <;> rfl
      case c3 => unfold maxLen; omega
      case c4 => omega
      case c5 => exact HCW.out.B_le
      intro v'' w2 hown' hgrow _
      obtain ⟨a', c', rfl⟩ := row_shape hown'
      obtain ⟨v', hv'⟩ : ∃ v', v' = Value.slice a' (0 + 1) c' := ⟨_, rfl⟩
      have hhd := other_block HCW.out.hd HCW.out.row (by decide) hgrow
      have hfz : w2.frozen? ⟨r, 0, none⟩ = false := Lib.frozen_of_heap hhd 0
      have hfz1 : w2.frozen? ⟨r, 1, none⟩ = false := Lib.frozen_of_heap hhd 1
      have k0 : ∃ v0, w2.cell? ⟨r, 0, none⟩ = some v0 := ⟨_, by simp [World.cell?, hhd]; rfl⟩
      obtain ⟨v0, k0⟩ := k0
      have k1 : w2.cell? ⟨r, 1, none⟩ = some (.int .i64 last) := by simp [World.cell?, hhd]
      have hpush := HCW.out.push (name := name) (v' := v') hgrow (by rw [hlen.out]; rw [hv']; first | exact hown' | (rw [List.flatMap_append]; simpa using hown'))
      have h99 := ((((K9.of_below B1.out).trans (K9.of_below HBW.out)).grown HCW.out.row (by decide) hgrow).set hhd (by decide) 0 v')
      have hbb : Below B w (w2.setCell ⟨r, 0, none⟩ v') := ((B1.out.mono H.out.B_le).trans ((HBW.out.mono HC.out.B_le).trans ((Below.refl B W).grown hgrow HCW.out.B_le (fun k hk => (HCW.out.row.lt k hk).1)))).setCell (p := ⟨r, 0, none⟩) H.out.leR v'
      rw [hv'] at hpush hbb h99
      have H99 := Lib.hid (h99.set hpush.hd (by decide) 1 (.int .i64 (-1)))
      have HPUSH := Lib.hid hpush
      have HBB := Lib.hid hbb
      clear hown' hgrow hpush hbb hhd hv' h99
      go_wp2_with fail
      go_ret
      exact HPT.out _ _ rfl (HBB.out.setCell (p := ⟨r, 1, none⟩) H.out.leR _) ⟨_, _, _, HPUSH.out.setLast (-1)⟩ H99.out
  · obtain ⟨G, cap, rfl, hG, g0, g1⟩ := h.last
    unfold Chg.ev at g1
    have hdl : (d.length : Int) ≤ 4000000 := by simp at hl; omega
    by_cases he : c.es.length = 0
    · have he' : ((c.es.length : Int) == 0) = true := by rw [beq_iff_eq]; omega
      have hR2 : R = false := by rw [← hR]; simp [he]
      have HR := Lib.hid hR2
      clear he hR hR2 h
      go_enter Tryd.func47, Tryd.ntmps47
      go_wp2
      go_ret
      exact HPT.out _ _ (ret_bool HR.out.symm) (Below.refl _ _) (by rw [HR.out]; exact ⟨_, _, _, H.out⟩) (K9.refl _)
    · have he' : ((c.es.length : Int) == 0) = false := by rw [beq_eq_false_iff_ne]; omega
      have HE := Lib.hid he
      clear he
      cases hb1 : Op.bytesLess name.toList c.n.toList
      · cases hb2 : (name.toList == c.n.toList)
        · have hR2 : isPath (dl name) = R := by
            rw [← hR]
            have : leB (dl name) (dl c.n) = false := by unfold leB; rw [show dl name = name.toList from (Lib.toList_data _).symm, show dl c.n = c.n.toList from (Lib.toList_data _).symm, hb1, hb2]; rfl
            simp [this, HE.out]
          have HR := Lib.hid hR2
          have hlen : Hid ((d ++ [c]).length = d.length + 1) := Lib.hid (by simp)
          clear hR hR2 h hl
          go_enter Tryd.func47, Tryd.ntmps47
          go_wp2_with fail
          refine (Td.path name w (by omega)).mono ?_
          rintro e w1 ⟨rfl, b1⟩
          have h1 := H.out.on b1
          have hs1 := b1.size
          have B1 := Lib.hid b1
          have HC := Lib.hid h1
          clear c0 c1 c2 c3 c4 b1 h1 g0 g1
          cases R
          · rw [HR.out]
            go_wp2_with fail
            go_ret
            exact HPT.out _ _ rfl (B1.out.mono H.out.B_le) ⟨_, _, _, HC.out⟩ (K9.of_below B1.out)
          · rw [HR.out]
            obtain ⟨W, hW⟩ : ∃ W, W = w1.alloc (.cells #[.string name, .slice none 0 0] 48) := ⟨_, rfl⟩
            have hbW : Below w1.heap.size w1 W := by rw [hW]; exact below_alloc _ _
            have hlit : W.heap[w1.heap.size]? = some (.cells #[.string name, .slice none 0 0] 48 (0, 0)) := by rw [hW]; exact heap_alloc_new _ _
            have hW2 := HC.out.on hbW
            obtain ⟨c0, -⟩ := HC.out.cell
            have HW := Lib.hid hW
            have HBW := Lib.hid hbW
            have HLIT := Lib.hid hlit
            have HCW := Lib.hid hW2
            have hrowW := hW2.row
            rw [hlen.out] at hrowW
            have HROWW := Lib.hid hrowW
            clear hW hbW hlit hW2 hrowW
            go_wp2_with (at_builtin; rw [← HW.out]; refine wpList_append_own _ rfl _ _ 23 rfl B 48 i0 (.agg #[.string ⟨#[]⟩, .slice none 0 0]) 2 40 Tryd.underlying23 HI.out HZ0.out HZ1.out HZ2.out rfl (by decide) _ (d.length + 1) _ rfl HROWW.out ⟨w1.heap.size, 0, none⟩ 1 1 [.string name, .slice none 0 0] rfl rfl ?c1 ?c2 ?c3 ?c4 ?c5 ?_)
            case c1 => intro j u hu; rw [addr_add]; exact (CellsAt.of_heap HLIT.out) j u (by simpa using hu)
            case c2 => intro u hu; simp at hu; rcases hu with rfl | rfl <;> rfl
            case c3 => unfold maxLen; omega
            case c4 => omega
            case c5 => exact HCW.out.B_le
            intro v'' w2 hown' hgrow _
            obtain ⟨a', c', rfl⟩ := row_shape hown'
            obtain ⟨v', hv'⟩ : ∃ v', v' = Value.slice a' ((d.length + 1) + 1) c' := ⟨_, rfl⟩
            have hhd := other_block HCW.out.hd HCW.out.row (by decide) hgrow
            have hfz : w2.frozen? ⟨r, 0, none⟩ = false := Lib.frozen_of_heap hhd 0
            have hfz1 : w2.frozen? ⟨r, 1, none⟩ = false := Lib.frozen_of_heap hhd 1
            have k0 : ∃ v0, w2.cell? ⟨r, 0, none⟩ = some v0 := ⟨_, by simp [World.cell?, hhd]; rfl⟩
            obtain ⟨v0, k0⟩ := k0
            have k1 : w2.cell? ⟨r, 1, none⟩ = some (.int .i64 last) := by simp [World.cell?, hhd]
            have hpush := HCW.out.push (name := name) (v' := v') hgrow (by rw [hlen.out]; rw [hv']; first | exact hown' | (rw [List.flatMap_append]; simpa using hown'))
            have h99 := ((((K9.of_below B1.out).trans (K9.of_below HBW.out)).grown HCW.out.row (by decide) hgrow).set hhd (by decide) 0 v')
            have hbb : Below B w (w2.setCell ⟨r, 0, none⟩ v') := ((B1.out.mono H.out.B_le).trans ((HBW.out.mono HC.out.B_le).trans ((Below.refl B W).grown hgrow HCW.out.B_le (fun k hk => (HCW.out.row.lt k hk).1)))).setCell (p := ⟨r, 0, none⟩) H.out.leR v'
            rw [hv'] at hpush hbb h99
            have H99 := Lib.hid (h99.set hpush.hd (by decide) 1 (.int .i64 (-1)))
            have HPUSH := Lib.hid hpush
            have HBB := Lib.hid hbb
            clear hown' hgrow hpush hbb hhd hv' h99
            go_wp2_with fail
            go_ret
            exact HPT.out _ _ rfl (HBB.out.setCell (p := ⟨r, 1, none⟩) H.out.leR _) ⟨_, _, _, HPUSH.out.setLast (-1)⟩ H99.out
        · have hR2 : R = false := by
            rw [← hR]
            have : leB (dl name) (dl c.n) = true := by unfold leB; rw [show dl name = name.toList from (Lib.toList_data _).symm, show dl c.n = c.n.toList from (Lib.toList_data _).symm, hb1, hb2]; rfl
            simp [this]
          have HR := Lib.hid hR2
          clear hR hR2 h
          go_enter Tryd.func47, Tryd.ntmps47
          go_wp2
          go_ret
          exact HPT.out _ _ (ret_bool HR.out.symm) (Below.refl _ _) (by rw [HR.out]; exact ⟨_, _, _, H.out⟩) (K9.refl _)
      · have hR2 : R = false := by
          rw [← hR]
          have : leB (dl name) (dl c.n) = true := by unfold leB; rw [show dl name = name.toList from (Lib.toList_data _).symm, show dl c.n = c.n.toList from (Lib.toList_data _).symm, hb1]; rfl
          simp [this]
        have HR := Lib.hid hR2
        clear hR hR2 h
        go_enter Tryd.func47, Tryd.ntmps47
        go_wp2
        go_ret
        exact HPT.out _ _ (ret_bool HR.out.symm) (Below.refl _ _) (by rw [HR.out]; exact ⟨_, _, _, H.out⟩) (K9.refl _)
end Go.Proofs.YtodjhgalbaelkaaDoor

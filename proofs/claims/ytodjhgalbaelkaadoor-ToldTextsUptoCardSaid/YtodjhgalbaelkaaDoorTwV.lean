/- told: the reader's edit. -/
import Derived.Test.YtodjhgalbaelkaaDoorTwU
namespace Go.Proofs.YtodjhgalbaelkaaDoor
open Go.RowKit Go.BigFrame Go.Shelf
set_option linter.unusedVariables false

theorem digs_lt : ∀ (l : Bs) (n m : Nat), digs n l = some m → m < (n + 1) * 10 ^ l.length
  | [], n, m, h => by cases h; simp
  | c :: l, n, m, h => by
    rw [digs] at h
    split at h
    · cases h
    · have ih := digs_lt l _ m h
      rename_i hc
      refine Nat.lt_of_lt_of_le ih ?_
      rw [List.length_cons, Nat.pow_succ, ← Nat.mul_assoc, Nat.mul_right_comm]
      exact Nat.mul_le_mul_right _ (by omega)
theorem numB_le {l : Bs} {m : Nat} (h : numB l = some m) : m ≤ 99999 := by
  unfold numB at h
  split at h
  · cases h
  · rename_i hc
    have h5 : l.length ≤ 5 := by omega
    have := digs_lt l 0 m h
    have h2 : 10 ^ l.length ≤ 10 ^ 5 := Nat.pow_le_pow_right (by omega) h5
    omega
theorem cutB_len (l : Bs) : (cutB l).1.length ≤ l.length ∧ ((cutB l).2.getD []).length ≤ l.length := by
  rcases cutB_index l with ⟨_, h⟩ | ⟨i, hi, _, h⟩
  · rw [h]; simp
  · rw [h]; simp; omega
/-- What begins an edit. -/
def editR (last : Int) (s : Bs) : Option (Edi × Nat) :=
  match numB (cutB s).1 with
  | none => none
  | some f => match numB (cutB ((cutB s).2.getD [])).1 with
    | none => none
    | some o => match numB ((cutB ((cutB s).2.getD [])).2.getD []) with
      | none => none
      | some n => if nextB last ((f : Int) - 1) ((f : Int) - 1 + o) n = true then some (⟨(f : Int) - 1, (f : Int) - 1 + o, ⟨#[]⟩⟩, n) else none
def EditPost (B r : Nat) (l : List Chg) (last want : Int) (text : Bs) (opn : Bool) (s : ByteArray) (w : World) (e : Ending) (w' : World) : Prop :=
  Below B w w' ∧ ((e = .returned (.bool false) ∧ (l = [] ∨ editR last (dl s) = none) ∧ RdA B r l last want text opn w') ∨
    ∃ d c x n ea ec, l = d ++ [c] ∧ editR last (dl s) = some (x, n) ∧ e = .returned (.bool true) ∧ RdA B r (d ++ [⟨c.n, ea, ec, c.es ++ [x]⟩]) x.b n [] opn w') ∧ K9 w w'
theorem infoEdi : (Tryd.prog.info? 50).map (fun i => (i.zero, i.size, i.bytes)) = some (some (.agg #[.int .i64 0, .int .i64 0, .string ⟨#[]⟩]), 3, 32) := by kernel_rfl
theorem chg_set (d : List Chg) (c : Chg) (ea : Option Addr) (ec : Nat) (es : List Edi) : ((d ++ [c]).flatMap Chg.f).set (d.length * 2 + 1) (.slice ea es.length ec) = (d ++ [(⟨c.n, ea, ec, es⟩ : Chg)]).flatMap Chg.f := by
  rw [List.flatMap_append, List.flatMap_append, List.set_append, if_neg (by rw [flat_len 2 Chg.f (fun g => rfl)]; omega), flat_len 2 Chg.f (fun g => rfl)]
  rw [show d.length * 2 + 1 - d.length * 2 = 1 from by omega]
  simp [Chg.f]
/-- An edit is pushed. -/
theorem RdC.grow {B K r G cap : Nat} {tv : Value} {ea : Option Addr} {ec : Nat} {d : List Chg} {c : Chg} {x : Edi} {last want : Int} {text : Bs} {opn : Bool} {w w2 : World}
    (h : RdC B K r (.slice (some ⟨G, 0, none⟩) (d.length + 1) cap) tv (d ++ [c]) last want text opn w) (hg : w.grownBy w2 c.ev.ownBlock)
    (hown : w2.ownsRow K 50 3 (.slice ea (c.es.length + 1) ec) (c.es.length + 1) (c.es.flatMap Edi.f ++ Edi.f x)) :
    RdC B K r (.slice (some ⟨G, 0, none⟩) (d.length + 1) cap) tv (d ++ [⟨c.n, ea, ec, c.es ++ [x]⟩]) last want text opn (w2.setCell ⟨G, d.length * 2 + 1, none⟩ (.slice ea (c.es.length + 1) ec)) := by
  have hc := h.new c (by simp)
  have hl : (d ++ [c]).length = d.length + 1 := by simp
  have hrow := other_row h.row hc (by decide) hg
  rw [hl] at hrow
  obtain ⟨_, cur, hG⟩ := row_cells hrow rfl
  have hhd := other_block h.hd hc (by decide) hg
  have hm : Mod (fun k => k = G) w2 (w2.setCell ⟨G, d.length * 2 + 1, none⟩ (.slice ea (c.es.length + 1) ec)) := Mod.setCell (S := fun k => k = G) (Mod.refl _ w2) ⟨G, d.length * 2 + 1, none⟩ (.inr rfl) _
  have key : ∀ {X e size n : Nat} {v : Value} {xs : List Value}, e ≠ 48 → w2.ownsRow X e size v n xs → (w2.setCell ⟨G, d.length * 2 + 1, none⟩ (.slice ea (c.es.length + 1) ec)).ownsRow X e size v n xs := fun he hx =>
    ownsRow_mod hx hm (fun k hk hkr => by
      subst hkr
      obtain ⟨_, cur', hc'⟩ := row_cells hx hk
      rw [hG] at hc'
      simp only [Option.some.injEq, Obj.cells.injEq] at hc'
      exact he hc'.2.1.symm)
  have hst := (hrow.stored (d.length * 2 + 1) (.slice ea (c.es.length + 1) ec)).1
  have hset := chg_set d c ea ec (c.es ++ [x])
  rw [List.length_append, List.length_singleton] at hset
  rw [hset] at hst
  refine ⟨hm.keep hhd (fun e => ?_), by simpa using hst, key (by decide) (other_row h.txt hc (by decide) hg), fun c' hc' => ?_, fun c' hc' => ?_, h.leB, by have := hg.size; have := h.leK; simp; omega, h.leR⟩
  · subst e
    rw [hG] at hhd
    simp at hhd
  · rw [List.dropLast_concat] at hc'
    obtain ⟨h1, h2⟩ := h.old c' (by rw [List.dropLast_concat]; exact hc')
    refine ⟨key (by decide) (ownsRow_mod (S := fun k => c.ev.ownBlock = some k) h1 ⟨hg.os, hg.tape, hg.output, hg.size, fun k hk hn => hg.block k hk (fun e => hn e.symm)⟩ (fun k hk hs => ?_)), h2⟩
    have := h2 k hk
    have := (row_cells hc hs).1
    omega
  · have : c' = ⟨c.n, ea, ec, c.es ++ [x]⟩ := by simpa using hc'.symm
    subst this
    have := key (by decide) hown
    simpa [Chg.ev] using this

set_option maxRecDepth 100000 in
set_option maxHeartbeats 16000000 in
theorem Rd.edit {B r : Nat} {l : List Chg} {last want : Int} {text : Bs} {opn : Bool} {w : World} (s : ByteArray) (h : RdA B r l last want text opn w) (hl : l.length ≤ 4000000) (hs : s.size ≤ 4000000) (hes : ∀ c ∈ l, c.es.length ≤ 4000000) :
    Calls Tryd.prog 48 #[.pointer (some ⟨r, 0, none⟩), .string s] w (EditPost B r l last want text opn s w) := by
  obtain ⟨K, lv, tv, h⟩ := h
  obtain ⟨R, hR⟩ : ∃ R, editR last (dl s) = R := ⟨_, rfl⟩
  have HPF := Lib.hid (fun (e : Ending) (w' : World) (he : e = .returned (.bool false)) (hno : l = [] ∨ R = none) (hb : Below w.heap.size w w') => show EditPost B r l last want text opn s w e w' from
    ⟨hb.mono h.B_le, .inl ⟨he, by rw [hR]; exact hno, K, lv, tv, h.on hb⟩, K9.of_below hb⟩)
  have HPT := Lib.hid (fun (e : Ending) (w' : World) (d : List Chg) (c : Chg) (x : Edi) (n : Nat) (ea : Option Addr) (ec : Nat) (h0 : l = d ++ [c]) (hr : R = some (x, n)) (he : e = .returned (.bool true)) (hb : Below B w w') (hx : RdA B r (d ++ [⟨c.n, ea, ec, c.es ++ [x]⟩]) x.b n [] opn w') (h9 : K9 w w') =>
    show EditPost B r l last want text opn s w e w' from ⟨hb, .inr ⟨d, c, x, n, ea, ec, h0, by rw [hR]; exact hr, he, hx⟩, h9⟩)
  obtain ⟨i0, hi, hz0, hz1, hz2⟩ := info_parts infoEdi
  have HI := Lib.hid hi
  have HZ0 := Lib.hid hz0
  have HZ1 := Lib.hid hz1
  have HZ2 := Lib.hid hz2
  clear hi hz0 hz1 hz2
  have H := Lib.hid h
  have HES := Lib.hid hes
  unfold editR at hR
  have hp1 := (cutB_len (dl s)).1
  have hq1 := (cutB_len (dl s)).2
  have hp2 := (cutB_len ((cutB (dl s)).2.getD [])).1
  have hq2 := (cutB_len ((cutB (dl s)).2.getD [])).2
  rw [← size_dl] at hp1 hq1
  have hC1 : ∀ u : World, Calls Tryd.prog 61 #[.string s, .string ⟨#[32]⟩] u fun e w' => e = .returned (.tuple #[.string (str (cutB (dl s)).1), .string (str ((cutB (dl s)).2.getD [])), .bool (cutB (dl s)).2.isSome]) ∧ Below u.heap.size u w' := fun u => Td.cut s u (by omega)
  have hC2 : ∀ u : World, Calls Tryd.prog 61 #[.string (str ((cutB (dl s)).2.getD [])), .string ⟨#[32]⟩] u fun e w' => e = .returned (.tuple #[.string (str (cutB ((cutB (dl s)).2.getD [])).1), .string (str ((cutB ((cutB (dl s)).2.getD [])).2.getD [])), .bool (cutB ((cutB (dl s)).2.getD [])).2.isSome]) ∧ Below u.heap.size u w' := fun u => by
    have := Td.cut (str ((cutB (dl s)).2.getD [])) u (by rw [str_size]; omega)
    rw [dl_str] at this
    exact this
  generalize (cutB ((cutB (dl s)).2.getD [])).2.getD [] = q2 at *
  generalize (cutB ((cutB (dl s)).2.getD [])).1 = p2 at *
  generalize (cutB ((cutB (dl s)).2.getD [])).2.isSome = k2 at *
  generalize (cutB (dl s)).2.getD [] = q1 at *
  generalize (cutB (dl s)).1 = p1 at *
  generalize (cutB (dl s)).2.isSome = k1 at *
  have hN1 : ∀ u : World, Calls Tryd.prog 62 #[.string (str p1)] u fun e w' => e = .returned (numV p1) ∧ w' = u := fun u => by
    have := Td.number (str p1) u (by rw [str_size]; omega); rw [dl_str] at this; exact this
  have hN2 : ∀ u : World, Calls Tryd.prog 62 #[.string (str p2)] u fun e w' => e = .returned (numV p2) ∧ w' = u := fun u => by
    have := Td.number (str p2) u (by rw [str_size]; omega); rw [dl_str] at this; exact this
  have hN3 : ∀ u : World, Calls Tryd.prog 62 #[.string (str q2)] u fun e w' => e = .returned (numV q2) ∧ w' = u := fun u => by
    have := Td.number (str q2) u (by rw [str_size]; omega); rw [dl_str] at this; exact this
  have HC1 := Lib.hid hC1
  have HC2 := Lib.hid hC2
  clear hC1 hC2 hp1 hq1 hp2 hq2 hes
  cases hf : numB p1 with
  | none =>
    rw [hf] at hR
    have HR := Lib.hid hR
    have hV : numV p1 = .tuple #[.int .i64 0, .bool false] := by unfold numV; rw [hf]; rfl
    rw [hV] at hN1
    have HN1 := Lib.hid hN1
    clear hf hR hV hN1 hN2 hN3 h
    go_enter Tryd.func48, Tryd.ntmps48
    go_wp2_with fail
    refine (HC1.out w).mono ?_
    rintro e w1 ⟨rfl, b1⟩
    have B1 := Lib.hid b1
    clear b1
    go_wp2_with fail
    refine (HC2.out w1).mono ?_
    rintro e w2 ⟨rfl, b2⟩
    have B2 := Lib.hid b2
    clear b2
    go_wp2_with fail
    refine (HN1.out w2).mono ?_
    rintro e w3 ⟨rfl, rfl⟩
    go_wp2_with fail
    go_ret
    exact HPF.out _ _ rfl (.inr HR.out.symm) (B1.out.trans (B2.out.mono B1.out.size))
  | some f =>
    have hfb := numB_le hf
    rw [hf] at hR
    have hV : numV p1 = .tuple #[.int .i64 f, .bool true] := by unfold numV; rw [hf]; rfl
    rw [hV] at hN1
    have HN1 := Lib.hid hN1
    clear hf hV hN1
    rcases last_cases l with rfl | ⟨d, c, rfl⟩
    · have HR := Lib.hid hR
      obtain ⟨ga, cap, rfl⟩ := row_shape h.row
      clear hR hN2 hN3 h
      go_enter Tryd.func48, Tryd.ntmps48
      go_wp2_with fail
      refine (HC1.out w).mono ?_
      rintro e w1 ⟨rfl, b1⟩
      have B1 := Lib.hid b1
      clear b1
      go_wp2_with fail
      refine (HC2.out w1).mono ?_
      rintro e w2 ⟨rfl, b2⟩
      have B2 := Lib.hid b2
      have h2 := (H.out.on B1.out).on b2
      have H2 := Lib.hid h2
      clear b2 h2
      go_wp2_with fail
      refine (HN1.out w2).mono ?_
      rintro e w3 ⟨rfl, rfl⟩
      obtain ⟨c0, -⟩ := H2.out.cell
      go_wp2_with fail
      go_ret
      exact HPF.out _ _ rfl (.inl trivial) (B1.out.trans (B2.out.mono B1.out.size))
    · obtain ⟨G, cap, rfl, hG, -, -⟩ := h.last
      have hdl : (d.length : Int) ≤ 4000000 := by simp at hl; omega
      cases ho : numB p2 with
      | none =>
        rw [ho] at hR
        have HR := Lib.hid hR
        have hV : numV p2 = .tuple #[.int .i64 0, .bool false] := by unfold numV; rw [ho]; rfl
        rw [hV] at hN2
        have HN2 := Lib.hid hN2
        clear ho hR hV hN2 hN3 h
        go_enter Tryd.func48, Tryd.ntmps48
        go_wp2_with fail
        refine (HC1.out w).mono ?_
        rintro e w1 ⟨rfl, b1⟩
        have B1 := Lib.hid b1
        clear b1
        go_wp2_with fail
        refine (HC2.out w1).mono ?_
        rintro e w2 ⟨rfl, b2⟩
        have HB12 := Lib.hid (B1.out.trans (b2.mono B1.out.size))
        have H2 := Lib.hid ((H.out.on B1.out).on b2)
        clear b2
        go_wp2_with fail
        refine (HN1.out w2).mono ?_
        rintro e w3 ⟨rfl, rfl⟩
        obtain ⟨c0, c1, -⟩ := H2.out.cell
        go_wp2_with fail
        refine (HN2.out w3).mono ?_
        rintro e w4 ⟨rfl, rfl⟩
        go_wp2_with fail
        go_ret
        exact HPF.out _ _ rfl (.inr HR.out.symm) HB12.out
      | some o =>
        have hob := numB_le ho
        rw [ho] at hR
        have hV : numV p2 = .tuple #[.int .i64 o, .bool true] := by unfold numV; rw [ho]; rfl
        rw [hV] at hN2
        have HN2 := Lib.hid hN2
        clear ho hV hN2
        cases hq : numB q2 with
        | none =>
          rw [hq] at hR
          have HR := Lib.hid hR
          have hV : numV q2 = .tuple #[.int .i64 0, .bool false] := by unfold numV; rw [hq]; rfl
          rw [hV] at hN3
          have HN3 := Lib.hid hN3
          clear hq hR hV hN3 h
          go_enter Tryd.func48, Tryd.ntmps48
          go_wp2_with fail
          refine (HC1.out w).mono ?_
          rintro e w1 ⟨rfl, b1⟩
          have B1 := Lib.hid b1
          clear b1
          go_wp2_with fail
          refine (HC2.out w1).mono ?_
          rintro e w2 ⟨rfl, b2⟩
          have HB12 := Lib.hid (B1.out.trans (b2.mono B1.out.size))
          have H2 := Lib.hid ((H.out.on B1.out).on b2)
          clear b2
          go_wp2_with fail
          refine (HN1.out w2).mono ?_
          rintro e w3 ⟨rfl, rfl⟩
          obtain ⟨c0, c1, -⟩ := H2.out.cell
          go_wp2_with fail
          refine (HN2.out w3).mono ?_
          rintro e w4 ⟨rfl, rfl⟩
          go_wp2_with fail
          refine (HN3.out w4).mono ?_
          rintro e w5 ⟨rfl, rfl⟩
          go_wp2_with fail
          go_ret
          exact HPF.out _ _ rfl (.inr HR.out.symm) HB12.out
        | some n =>
          have hnb := numB_le hq
          rw [hq] at hR
          have hV : numV q2 = .tuple #[.int .i64 n, .bool true] := by unfold numV; rw [hq]; rfl
          rw [hV] at hN3
          have HN3 := Lib.hid hN3
          clear hq hV hN3
          simp only at hR
          cases hnx : nextB last ((f : Int) - 1) ((f : Int) - 1 + o) n
          · rw [hnx, if_neg (by decide)] at hR
            have HR := Lib.hid hR
            have HNX := Lib.hid hnx
            clear hR hnx h
            go_enter Tryd.func48, Tryd.ntmps48
            go_wp2_with fail
            refine (HC1.out w).mono ?_
            rintro e w1 ⟨rfl, b1⟩
            have B1 := Lib.hid b1
            clear b1
            go_wp2_with fail
            refine (HC2.out w1).mono ?_
            rintro e w2 ⟨rfl, b2⟩
            have HB12 := Lib.hid (B1.out.trans (b2.mono B1.out.size))
            have H2 := Lib.hid ((H.out.on B1.out).on b2)
            clear b2
            go_wp2_with fail
            refine (HN1.out w2).mono ?_
            rintro e w3 ⟨rfl, rfl⟩
            obtain ⟨c0, c1, -⟩ := H2.out.cell
            go_wp2_with fail
            refine (HN2.out w3).mono ?_
            rintro e w4 ⟨rfl, rfl⟩
            go_wp2_with fail
            refine (HN3.out w4).mono ?_
            rintro e w5 ⟨rfl, rfl⟩
            go_wp2_with fail
            refine (Td.next last ((f : Int) - 1) ((f : Int) - 1 + o) n w5).mono ?_
            rintro e w6 ⟨rfl, rfl⟩
            rw [HNX.out]
            go_wp2_with fail
            go_ret
            exact HPF.out _ _ rfl (.inr HR.out.symm) HB12.out
          · rw [hnx, if_pos rfl] at hR
            have HR := Lib.hid hR
            have HNX := Lib.hid hnx
            clear hR hnx h
            go_enter Tryd.func48, Tryd.ntmps48
            go_wp2_with fail
            refine (HC1.out w).mono ?_
            rintro e w1 ⟨rfl, b1⟩
            have B1 := Lib.hid b1
            clear b1
            go_wp2_with fail
            refine (HC2.out w1).mono ?_
            rintro e w2 ⟨rfl, b2⟩
            have HB12 := Lib.hid (B1.out.trans (b2.mono B1.out.size))
            have H2 := Lib.hid ((H.out.on B1.out).on b2)
            clear b2
            go_wp2_with fail
            refine (HN1.out w2).mono ?_
            rintro e w3 ⟨rfl, rfl⟩
            obtain ⟨c0, c1, -⟩ := H2.out.cell
            go_wp2_with fail
            refine (HN2.out w3).mono ?_
            rintro e w4 ⟨rfl, rfl⟩
            go_wp2_with fail
            refine (HN3.out w4).mono ?_
            rintro e w5 ⟨rfl, rfl⟩
            go_wp2_with fail
            refine (Td.next last ((f : Int) - 1) ((f : Int) - 1 + o) n w5).mono ?_
            rintro e w6 ⟨rfl, rfl⟩
            rw [HNX.out]
            have u0 : ∀ u : Ext w6, u.w.cell? ⟨r, 0, none⟩ = some (.slice (some ⟨G, 0, none⟩) (d.length + 1) cap) := fun u => (H2.out.on u.below).cell.1
            clear c0 c1
            go_wp2_with fail
            refine wp_region_quiet (C := fun w' => ∃ u : Ext w6, w' = u.w) (by kernel_rfl) (by kernel_rfl) (Ext.drew w6) ?_
            dsimp only []
            repeat (go_big_quiet_step (fail))
            refine wpQuiet_nil ?_
            rintro w' ⟨u, rfl⟩
            have HU := Lib.hid u.below
            clear u0
            generalize u.w = uw at *
            clear u
            have H7 := Lib.hid (H2.out.on HU.out)
            obtain ⟨W, hW⟩ : ∃ W, W = uw.alloc (.cells #[.int .i64 ((f : Int) - 1), .int .i64 ((f : Int) - 1 + o), .string ⟨#[]⟩] 50) := ⟨_, rfl⟩
            have hbW : Below uw.heap.size uw W := by rw [hW]; exact below_alloc _ _
            have hlit : W.heap[uw.heap.size]? = some (.cells #[.int .i64 ((f : Int) - 1), .int .i64 ((f : Int) - 1 + o), .string ⟨#[]⟩] 50 (0, 0)) := by rw [hW]; exact heap_alloc_new _ _
            have H8 := Lib.hid (H7.out.on hbW)
            obtain ⟨G', cap', hGe, -, -, g1⟩ := H7.out.last
            simp only [Value.slice.injEq, Option.some.injEq, Addr.mk.injEq, and_true] at hGe
            obtain ⟨rfl, -, rfl⟩ := hGe
            unfold Chg.ev at g1
            have hnew := H8.out.new c (by simp)
            have hce := HES.out c (by simp)
            have HW := Lib.hid hW
            have HBW := Lib.hid hbW
            have HLIT := Lib.hid hlit
            have HNEW := Lib.hid hnew
            clear hW hbW hlit hnew
            go_wp2_with (at_builtin; rw [← HW.out]; refine wpList_append_own _ rfl _ _ 46 rfl K 50 i0 (.agg #[.int .i64 0, .int .i64 0, .string ⟨#[]⟩]) 3 32 Tryd.underlying46 HI.out HZ0.out HZ1.out HZ2.out rfl (by decide) c.ev c.es.length _ rfl HNEW.out ⟨uw.heap.size, 0, none⟩ 1 1 [.int .i64 ((f : Int) - 1), .int .i64 ((f : Int) - 1 + o), .string ⟨#[]⟩] rfl rfl ?c1 ?c2 ?c3 ?c4 ?c5 ?_)
            case c1 => intro j u hu; rw [addr_add]; exact (CellsAt.of_heap HLIT.out) j u (by simpa using hu)
            case c2 => intro u hu; simp at hu; rcases hu with rfl | rfl | rfl <;> rfl
            case c3 => unfold maxLen; omega
            case c4 => omega
            case c5 => exact H8.out.leK
            intro v'' w9 hown' hgrow _
            obtain ⟨a', c', rfl⟩ := row_shape hown'
            have hc := H8.out.new c (by simp)
            have hrow := other_row H8.out.row hc (by decide) hgrow
            rw [show (d ++ [c]).length = d.length + 1 from by simp] at hrow
            have hhd := other_block H8.out.hd hc (by decide) hgrow
            obtain ⟨v0, k0⟩ : ∃ v0, w9.cell? ⟨G, d.length * 2 + 1, none⟩ = some v0 := ⟨c.ev, by rw [hrow.cellAt _ (by omega), (chg_flat d c).2]⟩
            have z0 : w9.frozen? ⟨G, d.length * 2 + 1, none⟩ = false := hrow.frozenAt _
            have k1 : w9.cell? ⟨r, 1, none⟩ = some (.int .i64 last) := by simp [World.cell?, hhd]
            have k2 : w9.cell? ⟨r, 2, none⟩ = some (.int .i64 want) := by simp [World.cell?, hhd]
            have k3 : w9.cell? ⟨r, 3, none⟩ = some tv := by simp [World.cell?, hhd]
            have z1 : w9.frozen? ⟨r, 1, none⟩ = false := Lib.frozen_of_heap hhd 1
            have z2 : w9.frozen? ⟨r, 2, none⟩ = false := Lib.frozen_of_heap hhd 2
            have z3 : w9.frozen? ⟨r, 3, none⟩ = false := Lib.frozen_of_heap hhd 3
            have hGr : G ≠ r := fun e => by
              subst e
              obtain ⟨_, cur, hq⟩ := row_cells hrow rfl
              rw [hhd] at hq
              simp at hq
            have hrG : r ≠ G := fun e => hGr e.symm
            have hg1 := H8.out.grow (x := ⟨(f : Int) - 1, (f : Int) - 1 + o, ⟨#[]⟩⟩) hgrow hown'
            have hg2 := hg1.setLast ((f : Int) - 1 + o)
            have hg3 := hg2.setWant n
            have hfin := hg3.setText (t := []) (World.ownsRow_nil _ _ _ _)
            obtain ⟨_, curG, hGc⟩ := row_cells hrow rfl
            have h99 := ((((((((K9.of_below HB12.out).trans (K9.of_below HU.out)).trans (K9.of_below HBW.out)).grown hc (by decide) hgrow).set hGc (by decide) (d.length * 2 + 1) (.slice a' (c.es.length + 1) c')).set hg1.hd (by decide) 1 (.int .i64 ((f : Int) - 1 + o))).set hg2.hd (by decide) 2 (.int .i64 n)).set hg3.hd (by decide) 3 (.slice none 0 0))
            have H99 := Lib.hid h99
            have hbel : Below B w w9 := ((HB12.out.mono H.out.B_le).trans ((HU.out.mono H2.out.B_le).trans (HBW.out.mono H7.out.B_le))).grown hgrow H8.out.B_le (fun k hk => Nat.le_trans H8.out.leB (row_cells hc hk).1)
            have HFIN := Lib.hid hfin
            have HBEL := Lib.hid hbel
            have HLR := Lib.hid H8.out.leR
            have HGB := Lib.hid hG
            clear hc hrow hhd hg1 hg2 hg3 hfin hbel hown' hgrow g1 hG h99 hGc
            go_wp2_with fail
            go_ret
            exact HPT.out _ _ d c _ n a' c' rfl HR.out.symm rfl ((((HBEL.out.setCell (p := ⟨G, d.length * 2 + 1, none⟩) HGB.out _).setCell (p := ⟨r, 1, none⟩) HLR.out _).setCell (p := ⟨r, 2, none⟩) HLR.out _).setCell (p := ⟨r, 3, none⟩) HLR.out _) ⟨_, _, _, HFIN.out⟩ H99.out
end Go.Proofs.YtodjhgalbaelkaaDoor

/- parse: strings, qualifiers. -/
import Derived.Test.YtlboejdhmggjpaaGreatWkO
set_option linter.all false
namespace Go.Proofs.YtlboejdhmggjpaaGreat.Pp
set_option maxRecDepth 100000
set_option maxHeartbeats 16000000
open Go.RowKit Go.BigFrame Go.Proofs.YtlboejdhmggjpaaGreat

theorem wk_strings {E : En} (hE : E.ok) (s : Ps) (w : World) (h : PW E w s) : Calls Tryz.prog 73 #[.pointer (some ⟨E.pb, 0, none⟩)] w (EndR E unV w (strings E.L s)) := by
  have hF : ∀ (z : Int) (x : ByteArray) (W : World), (Instr.field 54 (.agg #[.int .i64 z, .string x]) 0).run Tryz.prog W = .ok (.int .i64 z) W := fun z x W => by kernel_rfl
  obtain ⟨T, hT⟩ : ∃ T, peekS E.L s 0 = T := ⟨_, rfl⟩
  have pk := wk_peek hE 0 s w (by omega) h
  rw [hT] at pk
  unfold ctV at pk
  obtain ⟨F, hFF⟩ : ∃ F, strsF E.L (E.L.length - s.at' + 1) s = F := ⟨_, rfl⟩
  have hr : strings E.L s = if T.c = 6 then .ok () { s with at' := F } else .no := by unfold strings; rw [hT, hFF]
  rw [hr]
  have PK := Hh pk
  have H := Hh h
  have HFF := Hh hFF
  have HL := Hh hE.len
  have hle := h.at.2.2
  have HLE := Hh hle
  clear pk h hr hT hFF hle
  by_cases hc : T.c = 6
  · rw [if_pos hc]
    go_enter Tryz.func73, Tryz.ntmps73
    go_wp2_with fail
    refine PK.out.mono ?_
    rintro e w1 ⟨rfl, hb1⟩
    have HP1 := Hh (H.out.ext hE hb1)
    have HK1 := Hh (KP.of_below hb1)
    clear hb1
    go_wp2_with fail
    go_loopg [] (E.L.length - s.at' + 1) (fun k wr => ∃ i, E.L.length + 1 ≤ i + k ∧ strsF E.L k { s with at' := i } = F ∧ PW E wr { s with at' := i } ∧ KP w wr)
    case atStart => exact ⟨s.at', by have := HLE.out; omega, HFF.out, HP1.out, HK1.out⟩
    case round =>
      obtain ⟨i, hik, hst, hp2, hk2⟩ := hrel
      have hil := hp2.at.2.2
      cases gk with
      | zero => exfalso; simp only at hil; omega
      | succ g =>
        obtain ⟨U, hU⟩ : ∃ U, peekS E.L { s with at' := i } 0 = U := ⟨_, rfl⟩
        have pk := wk_peek hE 0 { s with at' := i } wr (by omega) hp2
        rw [hU] at pk
        unfold ctV at pk
        have hlt : U.c = 6 → i + 0 < E.L.length := fun e => peek_lt (l := E.L) (s := { s with at' := i }) (k := 0) (by rw [hU, e]; decide)
        unfold strsF at hst
        rw [hU] at hst
        have PK2 := Hh pk
        have HP2 := Hh hp2
        have HK2 := Hh hk2
        have HIK := Hh hik
        clear pk hp2 hk2 hU hik hil
        by_cases hd : U.c = 6
        · rw [if_pos hd] at hst
          have HST := Hh hst
          have HLT := Hh (hlt hd)
          have hi : i < 100000 := by have := hlt hd; have := HL.out; omega
          clear hst hlt
          go_wp2_with fail
          refine PK2.out.mono ?_
          rintro e w3 ⟨rfl, hb3⟩
          have hp3 := HP2.out.ext hE hb3
          obtain ⟨c1, f1, -⟩ := hp3.at
          simp only at c1
          have HP3 := Hh hp3
          have HK3 := Hh (HK2.out.trans (KP.of_below hb3))
          clear hb3 hp3
          go_wp2_with fail
          obtain ⟨q1, q2⟩ := HP3.out.on hE (n := i + 1) (by have := HLT.out; omega)
          have Q1 := Hh q1
          have Q2 := Hh q2
          clear q1 q2
          go_roundg g
          case measure => omega
          case rel => exact ⟨i + 1, by have := HIK.out; omega, HST.out, Q1.out, HK3.out.trans Q2.out⟩
        · rw [if_neg hd] at hst
          have hd' : ((U.c : Int) == 6) = false := by rw [beq_eq_false_iff_ne]; omega
          have HST := Hh hst
          clear hst hlt
          go_wp2_with fail
          refine PK2.out.mono ?_
          rintro e w3 ⟨rfl, hb3⟩
          have HB3 := Hh hb3
          clear hb3
          go_wp2_with fail
          have hst : i = F := HST.out
          refine ⟨rfl, .tuple #[], by simp [results, Tryz.results73, go_sem], ?_⟩
          rw [← hst]
          exact ⟨rfl, HP2.out.ext hE HB3.out, HK2.out.trans (KP.of_below HB3.out)⟩
  · rw [if_neg hc]
    have hc' : ((T.c : Int) != 6) = true := by rw [bne_iff_ne]; omega
    go_enter Tryz.func73, Tryz.ntmps73
    go_wp2_with fail
    refine PK.out.mono ?_
    rintro e w1 ⟨rfl, hb1⟩
    have HB := Hh hb1
    clear hb1
    go_wp2_with fail
    refine (wk_fail hE unV s _ (H.out.ext hE HB.out)).mono ?_
    rintro e w2 ⟨⟨n, rfl⟩, hb, hk2⟩
    exact ⟨rfl, ⟨_, rfl⟩, hb, (KP.of_below HB.out).trans hk2⟩
theorem wk_quals {E : En} (hE : E.ok) (s : Ps) (w : World) (h : PW E w s) : Calls Tryz.prog 82 #[.pointer (some ⟨E.pb, 0, none⟩)] w (EndR E .bool w (quals E.L s)) := by
  obtain ⟨F, hFF⟩ : ∃ F, qualsF E.L (E.L.length - s.at' + 1) s = F := ⟨_, rfl⟩
  have hr : quals E.L s = .ok (decide (s.at' < F)) { s with at' := F } := by unfold quals; rw [hFF]
  rw [hr]
  obtain ⟨c1, f1, hle⟩ := h.at
  have hlt := h.lt
  obtain ⟨a, ha⟩ : ∃ a, s.at' = a := ⟨_, rfl⟩
  rw [ha] at c1 hle hFF ⊢
  have H := Hh h
  have HFF := Hh hFF
  have HL := Hh hE.len
  have HLE := Hh hle
  have HA := Hh ha
  clear h hr hFF hle ha
  go_enter Tryz.func82, Tryz.ntmps82
  go_wp2_with fail
  go_step3
  go_wp2_with fail
  go_step3
  go_wp2_with fail
  go_loopg [] (E.L.length - a + 1) (fun k wr => ∃ i, E.L.length + 1 ≤ i + k ∧ qualsF E.L k { s with at' := i } = F ∧ PW E wr { s with at' := i } ∧ KP w wr)
  case atStart => exact ⟨a, by have := HLE.out; omega, by have q := HFF.out; have e : s = { s with at' := a } := by rw [← HA.out]; 
                                                          rw [← e]; exact q, by have q := H.out; have e : s = { s with at' := a } := by rw [← HA.out]; 
                                                                                rw [← e]; exact q, KP.refl _⟩
  case round =>
    clear c1 f1
    obtain ⟨i, hik, hst, hp2, hk2⟩ := hrel
    have hil := hp2.at.2.2
    cases gk with
    | zero => exfalso; simp only at hil; omega
    | succ g =>
      obtain ⟨U, hU⟩ : ∃ U, peekS E.L { s with at' := i } 0 = U := ⟨_, rfl⟩
      obtain ⟨B, hB⟩ : ∃ B, signS E.L { s with at' := i } 1 [40] = B := ⟨_, rfl⟩
      obtain ⟨q, hq⟩ : ∃ q, spec U.t = q := ⟨_, rfl⟩
      have pk := wk_peek hE 0 { s with at' := i } wr (by omega) hp2
      rw [hU] at pk
      unfold ctV at pk
      have hlt2 : U.c = 1 → i + 0 < E.L.length := fun e => peek_lt (l := E.L) (s := { s with at' := i }) (k := 0) (by rw [hU, e]; decide)
      unfold qualsF at hst
      rw [hU, hB, hq] at hst
      have SP := Hh (fun W : World => (hq ▸ wk_spec U.t W : Calls Tryz.prog 75 #[.string (str U.t)] W fun e w' => e = .returned (.int .i64 q) ∧ w' = W))
      have SG := Hh (fun (W : World) (hW : PW E W { s with at' := i }) => (hB ▸ wk_sign hE 1 [40] { s with at' := i } W (by omega) hW : Calls Tryz.prog 47 #[.pointer (some ⟨E.pb, 0, none⟩), .int .i64 1, .string (str [40])] W (EndR E .bool W (.ok B { s with at' := i }))))
      have PK2 := Hh pk
      have HP2 := Hh hp2
      have HK2 := Hh hk2
      have HIK := Hh hik
      clear pk hp2 hk2 hU hik hil hB hq
      have key : (U.c = 1 ∧ q = 3 ∧ qualsF E.L g { s with at' := i + 1 } = F) ∨ (U.c = 1 ∧ ((q : Int) == 3) = false ∧ q = 4 ∧ B = false ∧ qualsF E.L g { s with at' := i + 1 } = F) ∨ (U.c = 1 ∧ ((q : Int) == 3) = false ∧ q = 4 ∧ B = true ∧ i = F) ∨ (U.c = 1 ∧ ((q : Int) == 3) = false ∧ ((q : Int) == 4) = false ∧ i = F) ∨ (((U.c : Int) != 1) = true ∧ i = F) := by
        by_cases h1 : U.c = 1
        · by_cases h3 : q = 3
          · rw [if_pos ⟨h1, .inl h3⟩] at hst; exact .inl ⟨h1, h3, hst⟩
          · have h3' : ((q : Int) == 3) = false := by rw [beq_eq_false_iff_ne]; omega
            by_cases h4 : q = 4
            · cases B
              · rw [if_pos ⟨h1, .inr ⟨h4, rfl⟩⟩] at hst; exact .inr (.inl ⟨h1, h3', h4, rfl, hst⟩)
              · rw [if_neg (fun e => e.2.elim h3 (fun x => by cases x.2))] at hst; exact .inr (.inr (.inl ⟨h1, h3', h4, rfl, hst⟩))
            · rw [if_neg (fun e => e.2.elim h3 (fun x => h4 x.1))] at hst; exact .inr (.inr (.inr (.inl ⟨h1, h3', by rw [beq_eq_false_iff_ne]; omega, hst⟩)))
        · rw [if_neg (fun e => h1 e.1)] at hst; exact .inr (.inr (.inr (.inr ⟨by rw [bne_iff_ne]; omega, hst⟩)))
      clear hst
      have HLT2 := Hh hlt2
      clear hlt2
      rcases key with ⟨UC, QV, qf⟩ | ⟨UC, QN, QV, rfl, qf⟩ | ⟨UC, QN, QV, rfl, qf⟩ | ⟨UC, QN, QN2, qf⟩ | ⟨UC, qf⟩
      · have QF := Hh qf
        clear qf
        go_wp2_with fail
        refine PK2.out.mono ?_
        rintro e w3 ⟨rfl, hb3⟩
        have HB3 := Hh hb3
        clear hb3
        go_wp2_with fail
        refine (SP.out _).mono ?_
        rintro e w4 ⟨rfl, rfl⟩
        have hb4 : Below wr.heap.size wr (w3.alloc (.cells #[.int .i64 1, .string (str U.t)] 54)) := HB3.out.trans ((below_alloc _ _).mono HB3.out.size)
        have HP4 := Hh (HP2.out.ext hE hb4)
        have HK4 := Hh (HK2.out.trans (KP.of_below hb4))
        clear hb4
        have hi : i < 100000 := by have := HLT2.out UC; have := HL.out; omega
        obtain ⟨c1, f1, -⟩ := (HP2.out.ext hE HB3.out).at
        have hpb := (HP2.out.ext hE HB3.out).lt
        simp only at c1
        go_wp2_with fail
        obtain ⟨q1, q2⟩ := (HP2.out.ext hE HB3.out).on hE (n := i + 1) (by have := HLT2.out UC; omega)
        have Q1 := Hh q1
        have Q2 := Hh q2
        clear q1 q2
        go_roundg g
        case measure => omega
        case rel => exact ⟨i + 1, by have := HIK.out; omega, QF.out, Q1.out.ext hE (below_alloc _ _), ((HK2.out.trans (KP.of_below HB3.out)).trans Q2.out).trans (KP.of_below (below_alloc _ _))⟩
      · have QF := Hh qf
        clear qf
        go_wp2_with fail
        refine PK2.out.mono ?_
        rintro e w3 ⟨rfl, hb3⟩
        have HB3 := Hh hb3
        clear hb3
        go_wp2_with fail
        refine (SP.out _).mono ?_
        rintro e w4 ⟨rfl, rfl⟩
        have hb4 : Below wr.heap.size wr (w3.alloc (.cells #[.int .i64 1, .string (str U.t)] 54)) := HB3.out.trans ((below_alloc _ _).mono HB3.out.size)
        have HP4 := Hh (HP2.out.ext hE hb4)
        have HK4 := Hh (HK2.out.trans (KP.of_below hb4))
        clear hb4
        go_wp2_with fail
        refine (SG.out _ HP4.out).mono ?_
        rintro e w5 ⟨rfl, hp5, hk5⟩
        have hi : i < 100000 := by have := HLT2.out UC; have := HL.out; omega
        obtain ⟨c1, f1, -⟩ := hp5.at
        have hpb := hp5.lt
        simp only at c1
        obtain ⟨q1, q2⟩ := hp5.on hE (n := i + 1) (by have := HLT2.out UC; omega)
        have Q1 := Hh q1
        have Q2 := Hh (hk5.trans q2)
        clear q1 q2 hp5 hk5
        go_wp2_with fail
        go_roundg g
        case measure => omega
        case rel => exact ⟨i + 1, by have := HIK.out; omega, QF.out, Q1.out, HK4.out.trans Q2.out⟩
      · have QF := Hh qf
        clear qf
        go_wp2_with fail
        refine PK2.out.mono ?_
        rintro e w3 ⟨rfl, hb3⟩
        have HB3 := Hh hb3
        clear hb3
        go_wp2_with fail
        refine (SP.out _).mono ?_
        rintro e w4 ⟨rfl, rfl⟩
        have hb4 : Below wr.heap.size wr (w3.alloc (.cells #[.int .i64 1, .string (str U.t)] 54)) := HB3.out.trans ((below_alloc _ _).mono HB3.out.size)
        have HP4 := Hh (HP2.out.ext hE hb4)
        have HK4 := Hh (HK2.out.trans (KP.of_below hb4))
        clear hb4
        go_wp2_with fail
        refine (SG.out _ HP4.out).mono ?_
        rintro e w5 ⟨rfl, hp5, hk5⟩
        have HP5 := Hh hp5
        have HK5 := Hh (HK4.out.trans hk5)
        clear hp5 hk5
        obtain ⟨c1, f1, -⟩ := (HP5.out).at
        have hpb := (HP5.out).lt
        simp only at c1
        go_wp2_with fail
        try rw [Exit.noGoto_ret]
        refine ⟨rfl, .bool (decide (a < i)), by simp [results, Tryz.results82, go_sem], ?_⟩
        rw [← QF.out]
        exact ⟨rfl, HP5.out, HK5.out⟩
      · have QF := Hh qf
        clear qf
        go_wp2_with fail
        refine PK2.out.mono ?_
        rintro e w3 ⟨rfl, hb3⟩
        have HB3 := Hh hb3
        clear hb3
        go_wp2_with fail
        refine (SP.out _).mono ?_
        rintro e w4 ⟨rfl, rfl⟩
        have hb4 : Below wr.heap.size wr (w3.alloc (.cells #[.int .i64 1, .string (str U.t)] 54)) := HB3.out.trans ((below_alloc _ _).mono HB3.out.size)
        have HP4 := Hh (HP2.out.ext hE hb4)
        have HK4 := Hh (HK2.out.trans (KP.of_below hb4))
        clear hb4
        obtain ⟨c1, f1, -⟩ := (HP4.out).at
        have hpb := (HP4.out).lt
        simp only at c1
        go_wp2_with fail
        try rw [Exit.noGoto_ret]
        refine ⟨rfl, .bool (decide (a < i)), by simp [results, Tryz.results82, go_sem], ?_⟩
        rw [← QF.out]
        exact ⟨rfl, HP4.out, HK4.out⟩
      · have QF := Hh qf
        clear qf
        go_wp2_with fail
        refine PK2.out.mono ?_
        rintro e w3 ⟨rfl, hb3⟩
        have HB3 := Hh hb3
        clear hb3
        have hb4 : Below wr.heap.size wr (w3.alloc (.cells #[.int .i64 U.c, .string (str U.t)] 54)) := HB3.out.trans ((below_alloc _ _).mono HB3.out.size)
        have HP4 := Hh (HP2.out.ext hE hb4)
        have HK4 := Hh (HK2.out.trans (KP.of_below hb4))
        clear hb4
        obtain ⟨c1, f1, -⟩ := (HP4.out).at
        have hpb := (HP4.out).lt
        simp only at c1
        go_wp2_with fail
        try rw [Exit.noGoto_ret]
        refine ⟨rfl, .bool (decide (a < i)), by simp [results, Tryz.results82, go_sem], ?_⟩
        rw [← QF.out]
        exact ⟨rfl, HP4.out, HK4.out⟩
end Go.Proofs.YtlboejdhmggjpaaGreat.Pp

/- WkS -/
namespace Go.Proofs.YtlboejdhmggjpaaGreat.Pp
set_option maxRecDepth 100000
set_option maxHeartbeats 16000000
open Go.RowKit Go.BigFrame Go.Proofs.YtlboejdhmggjpaaGreat

theorem info3 : (Tryz.prog.info? 3).map (fun i => (i.zero, i.size, i.bytes)) = some (some (.int .i64 0), 1, 8) := by kernel_rfl
theorem grown_cells {w w3 : World} {X e sz n : Nat} {v : Value} {xs : List Value} (ho : w.ownsRow X e sz v n xs) (hg : w.grownBy w3 v.ownBlock) (k : Nat) (cs : Array Value) (t : TypeId) (ht : ¬ t = e) (hk : w.heap[k]? = some (.cells cs t (0, 0))) : w3.heap[k]? = some (.cells cs t (0, 0)) := by
 rw [hg.block k (Array.getElem?_eq_some_iff.1 hk).1 (fun q => by
  obtain ⟨_, cur, hc⟩ := row_cells ho q.symm
  rw [hk] at hc
  cases hc
  exact ht rfl)]
 exact hk
theorem grown_map {w w3 : World} {X e sz n M : Nat} {v : Value} {xs : List Value} {es : Array MapEntry} {c : Nat} (ho : w.ownsRow X e sz v n xs) (hg : w.grownBy w3 v.ownBlock) (hk : w.heap[M]? = some (.map es c)) : w3.heap[M]? = some (.map es c) := by
 rw [hg.block M (Array.getElem?_eq_some_iff.1 hk).1 (fun q => by
  obtain ⟨_, cur, hc⟩ := row_cells ho q.symm
  rw [hk] at hc
  cases hc)]
 exact hk
theorem grown_bel {w w3 : World} {X e sz n : Nat} {v : Value} {xs : List Value} (ho : w.ownsRow X e sz v n xs) (hg : w.grownBy w3 v.ownBlock) (hX : X ≤ w.heap.size) : Below X w w3 :=
 ⟨hg.os, hg.tape, hg.output, hg.size, fun k hk => hg.block k (by omega) (fun q => by
  obtain ⟨hx, _⟩ := row_cells ho q.symm
  omega)⟩
theorem grown_kp {w w3 : World} {X e sz n : Nat} {v : Value} {xs : List Value} (ho : w.ownsRow X e sz v n xs) (hg : w.grownBy w3 v.ownBlock) (he : own4 e = true) : KP w w3 :=
 ⟨hg.size, fun k cs t fz ht hk => by
  rw [hg.block k (Array.getElem?_eq_some_iff.1 hk).1 (fun q => by
   obtain ⟨_, cur, hc⟩ := row_cells ho q.symm
   rw [hk] at hc
   cases hc
   rw [he] at ht
   cases ht)]
  exact hk, fun k x hk => by
  rw [hg.block k (Array.getElem?_eq_some_iff.1 hk).1 (fun q => by
   obtain ⟨_, cur, hc⟩ := row_cells ho q.symm
   rw [hk] at hc
   cases hc)]
  exact hk⟩
theorem PX.lift {E : En} {w : World} {s : Ps} {vd vc vb : Value} {mb : Nat} (h : PX E w s vd vc vb mb) (hE : E.ok) : E.X ≤ w.heap.size := by have := h.bel.size; rw [hE.X]; exact this
theorem PX.opened {E : En} {w w3 : World} {s : Ps} {vd vc vb vb' : Value} {mb : Nat} (h : PX E w s vd vc vb mb) (hE : E.ok) (hbg : s.nm.bl.length ≤ 2 * E.L.length + 1) (hg : w.grownBy w3 vb.ownBlock) (ho : w3.ownsRow E.X 3 1 vb' (s.nm.bl.length + 1) (s.nm.bl.flatMap inC ++ inC s.nm.ch.length)) :
  PX E (w3.setCell ⟨E.pb, 6, none⟩ vb') { s with nm := s.nm.opened } vd vc vb' mb ∧ KP w (w3.setCell ⟨E.pb, 6, none⟩ vb') := by
 have hb3 := grown_cells h.bl hg _ _ 75 (by decide) h.box
 refine ⟨{ bel := (h.bel.trans (grown_bel h.bl hg (h.lift hE))).setCell hE.pb _, box := ?_, dn := ?_, ch := ?_, bl := ?_, mp := ?_, mx := h.mx, le := h.le, tx := h.tx, cb := h.cb, bb := ?_ }, ?_⟩
 ·have := box_set (i := 6) (v := vb') hb3; simpa using this
 ·exact own_other hb3 (by decide) (ownsRow_of h.dn fun g cur hq => grown_cells h.bl hg _ _ _ (by decide) hq)
 ·exact own_other hb3 (by decide) (ownsRow_of h.ch fun g cur hq => grown_cells h.bl hg _ _ _ (by decide) hq)
 ·have := own_other (x := vb') (i := 6) hb3 (by decide) ho
  simpa [Ns.opened] using this
 ·refine Nm.set hb3 ?_
  obtain ⟨n, D, h1, h2⟩ := h.mp
  exact ⟨n, D, ownsMap_of h1 fun es c hq => grown_map h.bl hg hq, h2⟩
 ·simp only [Ns.opened, List.length_append, List.length_cons, List.length_nil]; omega
 ·exact (grown_kp h.bl hg rfl).trans (KP.set hb3 rfl)
theorem wk_open {E : En} (hE : E.ok) (s : Ps) (w : World) (hp : PW E w s) (hne : open' E.L s ≠ .out) : Calls Tryz.prog 86 #[.pointer (some ⟨E.pb, 3, none⟩)] w (EndR E unV w (open' E.L s)) := by
 have hg : s.nm.bl.length ≤ 2 * E.L.length + 1 := by
  unfold open' at hne
  split at hne
  ·assumption
  ·exact absurd rfl hne
 have hr : open' E.L s = .ok () { s with nm := s.nm.opened } := by unfold open'; rw [if_pos hg]
 rw [hr]
 clear hne hr
 have hL := hE.len
 obtain ⟨i0, hi0, hz0, hz1, hz2⟩ := info_parts3 info3
 obtain ⟨vd, vc, vb, mb, hx⟩ := hp
 obtain ⟨ba, bc, rfl⟩ := row_shape hx.bl
 obtain ⟨ca, cc, rfl⟩ := row_shape hx.ch
 obtain ⟨n, hn⟩ : ∃ n, s.nm.bl.length = n := ⟨_, rfl⟩
 obtain ⟨a, ha⟩ : ∃ a, s.nm.ch.length = a := ⟨_, rfl⟩
 rw [hn] at hg hx
 rw [ha] at hx
 have hbl := hx.bl
 have hbx := hx.box
 rw [hn] at hbl
 obtain ⟨V1, hV1⟩ : ∃ V1, V1 = w.drew.alloc (.cells #[.int .i64 a] 3) := ⟨_, rfl⟩
 have hbV : Below w.heap.size w V1 := by rw [hV1]; exact ((Below.refl _ w).drew).alloc (Nat.le_refl _) _
 have hxV := hx.ext hE hbV
 have hnr : V1.heap[w.heap.size]? = some (.cells #[.int .i64 a] 3 (0, 0)) := by rw [hV1]; exact new_cells w.drew _ _
 have hblV := hxV.bl
 rw [hn] at hblV
 obtain ⟨v', w3, hrun, hown3, hgrow3, -⟩ := run_append_own_at (P := Tryz.prog) (w := V1) E.X 61 61 3 i0 (.int .i64 0) 1 8 Tryz.underlying61 hi0 hz0 hz1 hz2 rfl (by decide) (.slice ba n bc) n (s.nm.bl.flatMap inC) hblV
  ⟨w.heap.size, 0, none⟩ 1 1 [.int .i64 a] rfl (fun j u hu => by
   match j, hu with
   | 0, hu => simp at hu; subst hu; simp [World.cell?, Addr.add, hnr]
   | j + 1, hu => simp at hu) (fun u hu => by simp at hu; subst hu; rfl) (by unfold maxLen; omega) (by omega) (hxV.lift hE)
 obtain ⟨ba', bc', rfl⟩ := row_shape hown3
 have hV : ∃ V : Nat → World, V 0 = w.drew ∧ V 1 = V1 ∧ ∀ j, 2 ≤ j → V j = w3 := ⟨fun j => match j with | 0 => w.drew | 1 => V1 | _ => w3, rfl, rfl, fun j hj => by
  match j, hj with
  | j + 2, _ => rfl⟩
 obtain ⟨V, hV0, hV1', hV2⟩ := hV
 have hB : ∀ j, (V j).heap[E.pb]? = some (.cells #[.slice E.la E.L.length E.lc, .int .i64 s.at', vd, E.sp, .map (some mb), .slice ca a cc, .slice ba n bc] 75 (0, 0)) := fun j => by
  have q1 := heap_below hbV hbx (Array.getElem?_eq_some_iff.1 hbx).1
  match j with
  | 0 => rw [hV0]; exact hbx
  | 1 => rw [hV1']; exact q1
  | j + 2 => rw [hV2 _ (by omega)]; exact grown_cells hblV hgrow3 _ _ _ (by decide) q1
 have c5 : ∀ j, (V j).cell? ⟨E.pb, 5, none⟩ = some (.slice ca a cc) := fun j => by simp [World.cell?, hB j]
 have c6 : ∀ j, (V j).cell? ⟨E.pb, 6, none⟩ = some (.slice ba n bc) := fun j => by simp [World.cell?, hB j]
 have e6 : w3.cell? ⟨E.pb, 6, none⟩ = some (.slice ba n bc) := by have := c6 2; rwa [hV2 2 (Nat.le_refl _)] at this
 have f6 : w3.frozen? ⟨E.pb, 6, none⟩ = false := by have := hB 2; rw [hV2 2 (Nat.le_refl _)] at this; exact Lib.frozen_of_heap this 6
 have hfin := hxV.opened hE (by rw [hn]; exact hg) hgrow3 (by rw [hn, ha]; exact hown3)
 have HFIN := Hh hfin
 have HRUN := Hh hrun
 have HV1 := Hh hV1
 have K0 := Hh hV0
 have K1 := Hh hV1'
 have K2 := Hh hV2
 have HBV := Hh hbV
 clear hx hxV hfin hrun hV1 hV0 hV1' hV2 hbV hnr hblV hbl hbx hown3 hgrow3 hB hn ha hi0 hz0 hz1 hz2
 go_enter Tryz.func86, Tryz.ntmps86
 refine wp_region_chain_tail V [10, 11] 14 K0.out (by kernel_rfl) (by kernel_rfl) ?_
 simp only [List.take_succ_cons, List.take_zero, List.drop_succ_cons, List.drop_zero]
 refine chain_reads_at 10 (by kernel_rfl) ?_
 simp only [List.take_succ_cons, List.take_zero, List.drop_succ_cons, List.drop_zero]
 repeat (go_big_quiet_step (fail))
 refine wpQuiet_nil ?_
 refine chain_op 0 (.slice (some ⟨w.heap.size, 0, none⟩) 1 1) (by kernel_rfl) rfl (.inl ?_) ?_
 ·rw [K0.out, K1.out, HV1.out]
  kernel_rfl
 refine chain_op 1 (.slice ba' (n + 1) bc') (by kernel_rfl) rfl (.inl ?_) ?_
 ·rw [K1.out, K2.out _ (Nat.le_refl _)]
  exact exec_append rfl rfl rfl HRUN.out
 refine chain_reads_at 2 (by kernel_rfl) ?_
 simp only [List.take_succ_cons, List.take_zero, List.drop_succ_cons, List.drop_zero, Act.put, List.setIfInBounds_toArray, List.set_cons_succ, List.set_cons_zero]
 repeat (go_big_quiet_step (fail))
 refine wpQuiet_nil ?_
 refine chain_end ?_
 rw [show V ([10, 11] : List Nat).length = w3 from K2.out _ (Nat.le_refl _)]
 go_wp2_with fail
 refine ⟨rfl, .tuple #[], by simp [results, Tryz.results86, go_sem], rfl, ⟨_, _, _, _, HFIN.out.1⟩, (KP.of_below HBV.out).trans HFIN.out.2⟩
end Go.Proofs.YtlboejdhmggjpaaGreat.Pp

/- parse: External. -/
import Derived.Test.YtlboejdhmggjpaaGreatWnJ
import Derived.Test.YtlboejdhmggjpaaGreatPbA
set_option linter.all false
namespace Go.Proofs.YtlboejdhmggjpaaGreat.Pp
open Go.RowKit Go.BigFrame Go.Proofs.YtlboejdhmggjpaaGreat
set_option linter.unusedVariables false
attribute [local go_sem] Oper.semAt_some

/-- A list's first external, plain: its tree, how many tokens it has, what it declares. -/
def extP (L : List Ct) (base : Bs → Bool) : Option (List Nd × Nat × List (Bs × Bool)) :=
  match run L base (fu L) .external s0 with
  | .ok _ s => some (aheadP s.done, s.at', s.nm.declared)
  | _ => none
def baseF (F : List Sp.Frm) : Bs → Bool := fun x => Sp.isTy F (str x)
def ExtPost (L : List Ct) (A n : Nat) (S : Nat → Prop) (F : List Sp.Frm) (w : World) (e : Ending) (w' : World) : Prop :=
  ∃ v z1 z2, e = .returned (.tuple #[v, .int .i64 z1, .int .i64 z2]) ∧
    ((deepL L 0 = true ∧ v = nilS ∧ z1 = 0 ∧ z2 = 111 ∧ Below w.heap.size w w') ∨
     (deepL L 0 = false ∧ extP L (baseF F) = none ∧ v = nilS ∧ z1 = 0 ∧ z2 = 110 ∧ Below w.heap.size w w') ∨
     (∃ (P : List Nd) (k : Nat) (ds : List (Bs × Bool)), deepL L 0 = false ∧ extP L (baseF F) = some (P, k, ds) ∧ z1 = k ∧ z2 = 0 ∧ w'.ownsRow w.heap.size 38 4 v P.length (P.flatMap ndC) ∧ Sp.Leaves A (n + ds.length) S (declF F ds) w w'))
theorem sco_ext {w w' : World} {A n : Nat} {S : Nat → Prop} {F : List Sp.Frm} (h : Sp.Sco w A n S F) (hb : Below w.heap.size w w') : Sp.Sco w' A n S F := Sp.Sco.keep (T := fun _ => False) h (Mod.of_below hb) (fun _ _ h => h)
/-- What the values of the last region are. -/
def exS (pb dl : Nat) (vd : Value) (B : Nat) (P : List Nd) (z : Int) (i : Nat) (v : Value) (w : World) : Prop :=
  match i with
  | 0 => v = .pointer (some ⟨pb, 0, none⟩) | 1 => v = .pointer (some ⟨pb, 0, none⟩) | 6 => v = .pointer (some ⟨pb, 0, none⟩) | 2 => v = .pointer (some ⟨pb, 2, none⟩) | 3 => v = vd
  | 4 => w.ownsRow B 38 4 v dl (P.flatMap ndC) | 9 => w.ownsRow B 38 4 v dl (P.flatMap ndC)
  | 5 => v = .pointer (some ⟨pb, 0, none⟩) | 7 => v = .pointer (some ⟨pb, 1, none⟩) | 8 => v = .int .i64 z
  | _ => True
theorem exS_mono (pb dl : Nat) (vd : Value) (B : Nat) (P : List Nd) (z : Int) : ∀ i v w w', Below w.heap.size w w' → exS pb dl vd B P z i v w → exS pb dl vd B P z i v w' := fun i v w w' hb h => by
  unfold exS at *
  split at h <;> first
    | exact h
    | exact ownsRow_ext h hb
set_option maxRecDepth 100000 in
set_option maxHeartbeats 16000000 in
theorem wk_External (L : List Ct) (la : Option Addr) (lc A n : Nat) (S : Nat → Prop) (F : List Sp.Frm) (w : World) (hrow : RowAt 2 ctC w la L) (hl : L.length ≤ 100000) (htx : ∀ t ∈ L, t.t.length ≤ maxLen) (hsc : Sp.Sco w A n S F) (hF : F.length ≤ 65536) (hf : ∀ f ∈ F, f.length ≤ 500000) (hn : n ≤ 500000) :
    Calls Tryz.prog 19 #[.slice la L.length lc, .pointer (some ⟨A, 0, none⟩)] w (ExtPost L A n S F w) := by
  obtain ⟨w0, hw0⟩ : ∃ w0, w0 = w.alloc (.cells #[.pointer (some ⟨A, 0, none⟩)] 39) := ⟨_, rfl⟩
  have hb0 : Below w.heap.size w w0 := by rw [hw0]; exact below_alloc _ _
  have hbx : w0.heap[w.heap.size]? = some (.cells #[.pointer (some ⟨A, 0, none⟩)] 39 (0, 0)) := by rw [hw0]; exact new_cells _ _ _
  have hs0 : w0.heap.size = w.heap.size + 1 := by rw [hw0]; simp
  have htd := wk_tooDeep L la lc w0 (hrow.below hb0 (Nat.le_refl _) hb0.size) hl
  have hsc0 := sco_ext hsc hb0
  have hbk := Sp.Sc.blocks A n S F w0 hsc0
  have hpos := hsc.pos
  have hSw : ∀ k, S k → k < w.heap.size := by obtain ⟨M, vB, vs, mv, D, h1, h2, h3⟩ := hsc; exact h3
  obtain ⟨FL, hFL⟩ : ∃ FL, F.length = FL := ⟨_, rfl⟩
  have hF0 : ((FL : Int) == 0) = false := by rw [beq_eq_false_iff_ne]; omega
  obtain ⟨NL, hN⟩ : ∃ NL, L.length = NL := ⟨_, rfl⟩
  obtain ⟨R, hR⟩ : ∃ R, R = ExtPost L A n S F w := ⟨_, rfl⟩
  obtain ⟨bx, hbx1⟩ : ∃ b, w.heap.size = b := ⟨_, rfl⟩
  rw [hFL] at hbk
  rw [hN, ← hR]
  rw [hbx1] at hbx
  have HTD := Lib.hid htd
  have HROW := Lib.hid (hrow.below hb0 (Nat.le_refl _) hb0.size)
  have HTX := Lib.hid htx
  have HL := Lib.hid hl
  have HN := Lib.hid hN
  have HR := Lib.hid hR
  have HSC := Lib.hid hsc0
  have HBK := Lib.hid hbk
  have HB0 := Lib.hid hb0
  have HW0 := Lib.hid hw0
  have HBX := Lib.hid hbx
  have HBX1 := Lib.hid hbx1
  have HS0 := Lib.hid hs0
  have HSW := Lib.hid hSw
  have HF := Lib.hid hF
  have HFF := Lib.hid hf
  have HNN := Lib.hid hn
  have HFP := Lib.hid hpos
  have cbx : w0.cell? ⟨bx, 0, none⟩ = some (.pointer (some ⟨A, 0, none⟩)) := by simp [World.cell?, hbx]
  have hbt : ∀ (A m : Nat), (Tryz.prog.built 75 [(0, Value.slice la NL lc), (3, .agg #[.pointer (some ⟨A, 0, none⟩), .map (some m), nilS, nilS])]) = some #[.slice la NL lc, .int .i64 0, nilS, .pointer (some ⟨A, 0, none⟩), .map (some m), nilS, nilS] := fun A m => by kernel_rfl
  clear htd hrow htx hl hN hR hsc hsc0 hbk hb0 hbx hs0 hSw hF hf hn hFL hpos hw0
  refine (callsIn_wide (n := 5)).1 ?_
  refine callsIn_of_wp_marks Tryz.func19 rfl trivial ?_ rfl
  simp only [Tryz.ntmps19, List.size_toArray, List.length_cons, List.length_nil, Nat.reduceAdd, Nat.reduceSub, Array.replicate_succ, Array.replicate_zero, List.push_toArray, List.append_toArray, List.nil_append, List.cons_append]
  refine wpIn_wide.2 ?_
  go_wp2_with fail
  rw [← HW0.out]
  clear hbx1
  refine HBK.out.mono ?_
  rintro e wz ⟨rfl, hwz⟩
  obtain rfl : w0 = wz := hwz.symm
  clear hwz
  go_wp2_with fail
  rw [← HN.out]
  refine HTD.out.mono ?_
  rw [HN.out]
  rintro e w1 ⟨rfl, hb1⟩
  have hbx1 : w1.heap[bx]? = some (.cells #[.pointer (some ⟨A, 0, none⟩)] 39 (0, 0)) := heap_below hb1 HBX.out (by have := HS0.out; have := HBX1.out; omega)
  have HBXW := Lib.hid hbx1
  have HSC1 := Lib.hid (sco_ext HSC.out hb1)
  have HB1 := Lib.hid (HB0.out.trans (hb1.mono HB0.out.size))
  have HROW1 := Lib.hid (HROW.out.below hb1 (Nat.le_refl _) hb1.size)
  have HS1 := Lib.hid (show bx < w1.heap.size by have := hb1.size; have := HS0.out; have := HBX1.out; omega)
  clear cbx
  have cbx : w1.cell? ⟨bx, 0, none⟩ = some (.pointer (some ⟨A, 0, none⟩)) := by simp [World.cell?, hbx1]
  clear hb1 hbx1
  obtain ⟨D, hD⟩ : ∃ D, deepL L 0 = D := ⟨_, rfl⟩
  rw [hD]
  have HD := Lib.hid hD
  clear hD
  cases D
  case true =>
    go_wp2_with fail
    rw [HR.out]
    exact ⟨.tuple #[nilS, .int .i64 0, .int .i64 111], by simp [results, Tryz.results19, go_sem], _, _, _, rfl, .inl ⟨HD.out, rfl, rfl, rfl, HB1.out⟩⟩
  go_wp2_with fail
  refine (wk_newNames _ ⟨_, rfl⟩ w1).mono ?_
  rintro e w3 ⟨m, rfl, hm1, hm2, hb3⟩
  have HM1 := Lib.hid hm1
  have HM2 := Lib.hid hm2
  have HB3 := Lib.hid hb3
  clear hm1 hm2 hb3
  go_wp2_with (first | (refine wpList_build rfl 75 _ rfl (by simp [Act.eval, hbt]) ?_) | fail)
  obtain ⟨pb, hpb⟩ : ∃ b, w3.heap.size = b := ⟨_, rfl⟩
  obtain ⟨W5, hW5⟩ : ∃ W5, W5 = w3.alloc (.cells #[.slice la NL lc, .int .i64 0, nilS, .pointer (some ⟨A, 0, none⟩), .map (some m), nilS, nilS] 75) := ⟨_, rfl⟩
  have hb5 : Below w3.heap.size w3 W5 := by rw [hW5]; exact below_alloc _ _
  have h75 : W5.heap[pb]? = some (.cells #[.slice la NL lc, .int .i64 0, nilS, .pointer (some ⟨A, 0, none⟩), .map (some m), nilS, nilS] 75 (0, 0)) := by rw [hW5, ← hpb]; exact new_cells _ _ _
  have hs5 : W5.heap.size = pb + 1 := by rw [hW5, ← hpb]; simp
  rw [← hW5, hpb]
  clear hW5
  obtain ⟨W6, hW6⟩ : ∃ W6, W6 = W5.alloc (.cells #[.bool false] 4) := ⟨_, rfl⟩
  have hb6 : Below W5.heap.size W5 W6 := by rw [hW6]; exact below_alloc _ _
  have hb3 := HB3.out
  have hs3 : w1.heap.size ≤ pb := by rw [← hpb]; exact hb3.size
  obtain ⟨E, hE0⟩ : ∃ E : En, E = { X := w1.heap.size, pb := pb, la := la, lc := lc, L := L, sp := .pointer (some ⟨A, 0, none⟩), base := baseF F, w0 := w1 } := ⟨_, rfl⟩
  have hX : E.X = w1.heap.size := by rw [hE0]
  have hw0 : E.w0 = w1 := by rw [hE0]
  have hpbE : E.pb = pb := by rw [hE0]
  have hLE : E.L = L := by rw [hE0]
  have hbE : E.base = baseF F := by rw [hE0]
  have hE : E.ok := by
    subst hE0
    refine ⟨rfl, hs3, HROW1.out, HL.out, HTX.out, fun w' x hb hx => ?_⟩
    refine (Sp.Sc.isType A n S F (str x) w' (sco_ext HSC1.out hb) (by simpa using hx) (by have := HF.out; omega)).mono ?_
    rintro e w'' ⟨rfl, rfl⟩
    exact ⟨rfl, Below.refl _ _⟩
  have hb26 : Below w1.heap.size w1 W6 := (hb3.trans (hb5.mono hb3.size)).trans (hb6.mono (by omega))
  have hpx : PW E W6 s0 := ⟨nilS, nilS, nilS, m, PX.start hE (by rw [hX, hw0]; exact hb26) (by
    rw [hpbE]
    subst hE0
    rw [show L.length = NL from HN.out]
    exact heap_below hb6 h75 (by omega)) (ownsMap_of HM2.out fun es c hg => heap_below hb6 (heap_below hb5 hg (Array.getElem?_eq_some_iff.1 hg).1) (by have := (Array.getElem?_eq_some_iff.1 hg).1; omega)) (by rw [hX]; exact HM1.out)⟩
  obtain ⟨hne, hun⟩ := external_good L (baseF F)
  have hun2 := (walk hE (fu L)).f_external s0 W6 hpx (by rw [hLE, hbE]; exact hne)
  rw [hLE, hbE, hW6, hpbE] at hun2
  have hfit := fits33 pb W5 (A := fun W' => ∃ v s', run L (baseF F) (fu L) .external s0 = .ok v s' ∧ PW E W' s') (Bd := fun W' => run L (baseF F) (fu L) .external s0 = .no ∧ Below E.X E.w0 W') (hun2.mono fun e W' he => by
    cases hr : run L (baseF F) (fu L) .external s0 with
    | out => exact absurd hr hne
    | ok v s' =>
      rw [hr] at he
      obtain ⟨y, rfl, rfl, h3, h4⟩ := he
      exact ⟨h4, .inl ⟨rfl, v, s', rfl, h3⟩⟩
    | no =>
      rw [hr] at he
      exact ⟨he.2.2, .inr ⟨he.1, rfl, he.2.1⟩⟩)
  have HFIT := Lib.hid hfit
  have HE := Lib.hid hE
  have HXE := Lib.hid hX
  have HW01 := Lib.hid hw0
  have HPBE := Lib.hid hpbE
  have HUN := Lib.hid hun
  have HS3 := Lib.hid hs3
  have HS5 := Lib.hid hs5
  have HW6 := Lib.hid hW6
  have HLE := Lib.hid hLE
  clear hpb hb5 h75 hs5 hb6 hb3 hs3 hE0 hX hw0 hpbE hLE hbE hE hb26 hpx hne hun hun2 hfit hW6
  refine HFIT.out.mono ?_
  rintro e W7 (⟨W', ⟨v, s', hrun, hpw⟩, hk, rfl, rfl⟩ | ⟨W', z, ⟨hrun, hbel⟩, hk, rfl, rfl⟩)
  case inr =>
    have hpp : extP L (baseF F) = none := by unfold extP; rw [hrun]
    have HPP := Lib.hid hpp
    have HBL := Lib.hid hbel
    clear hpp hbel hrun hk
    go_wp2_with fail
    rw [HR.out]
    have hbl := HBL.out
    rw [HXE.out, HW01.out] at hbl
    have hs1 := HB1.out.size
    have hbw : Below w.heap.size w W' := HB1.out.trans (hbl.mono hs1)
    refine ⟨.tuple #[nilS, .int .i64 0, .int .i64 110], by simp [results, Tryz.results19, go_sem], _, _, _, rfl, .inr (.inl ⟨HD.out, HPP.out, rfl, rfl, rfl, ?_⟩)⟩
    exact (hbw.setCell (p := ⟨W5.heap.size, 0, none⟩) (by show w.heap.size ≤ W5.heap.size; have := HS5.out; have := HS3.out; omega) _).alloc (by simpa using hbw.size) _
  obtain ⟨ht, hat, hbl, hcl⟩ := HUN.out _ _ hrun
  have hkW : W'.heap[W5.heap.size]? = some (.cells #[.bool false] 4 (0, 0)) := hk.cells _ _ 4 _ rfl (new_cells _ _ _)
  have hpw2 := hpw.set (k := W5.heap.size) (i := 0) (v := .bool true) (by have := HS5.out; have := HS3.out; have := HXE.out; omega) hkW rfl
  have hpp : extP L (baseF F) = some (aheadP s'.done, s'.at', s'.nm.declared) := by unfold extP; rw [hrun]
  obtain ⟨ha, hpos, hfp, hlen, -⟩ := ht.ahead
  have HDN := Lib.hid (show s'.nm.declared.length ≤ 200000 by
    have h0 : s'.nm.declared = s'.nm.ch.drop (s'.nm.bl.getLast?.getD 0) := rfl
    rw [h0, List.length_drop]
    have := HL.out
    omega)
  obtain ⟨W8, hW8⟩ : ∃ W8, W8 = W'.setCell ⟨W5.heap.size, 0, none⟩ (.bool true) := ⟨_, rfl⟩
  rw [← hW8] at hpw2 ⊢
  have hdl := wk_declaredF E W8
  rw [HPBE.out] at hdl
  have HDL := Lib.hid hdl
  have HPW := Lib.hid hpw2
  have HPP := Lib.hid hpp
  have HA := Lib.hid ha
  have HPOS := Lib.hid hpos
  have HLEN := Lib.hid hlen
  have HBLK := Lib.hid hbl
  have HTL := Lib.hid ht.len
  clear hdl hpw2 hpp ha hpos hlen hbl ht hat hcl hkW hpw hk hrun hfp hW8
  go_wp2_with fail
  refine HDL.out.mono ?_
  rintro e we ⟨rfl, rfl⟩
  obtain ⟨V, hV⟩ : ∃ V, V = W8.alloc (.cells #[.pointer (some ⟨pb, 3, none⟩)] 129) := ⟨_, rfl⟩
  obtain ⟨bL, hbL⟩ : ∃ b, W8.heap.size = b := ⟨_, rfl⟩
  have hbV : Below W8.heap.size W8 V := by rw [hV]; exact below_alloc _ _
  have e1 : V.heap[bL]? = some (.cells #[.pointer (some ⟨E.pb, 3, none⟩)] 129 (0, 0)) := by rw [hV, ← hbL, HPBE.out]; exact new_cells _ _ _
  have hsV : V.heap.size = bL + 1 := by rw [hV, ← hbL]; simp
  have hpV := HPW.out.ext HE.out hbV
  have hxV : Below w1.heap.size w1 V := by obtain ⟨vd, vc, vb, mb, q⟩ := hpV; have := q.bel; rw [HXE.out, HW01.out] at this; exact this
  have hscV := sco_ext HSC1.out hxV
  have hbxV := heap_below hxV HBXW.out HS1.out
  have hbl := HBLK.out
  have hseq := Dc.seqR 4 bL HE.out s' V hpV e1 (by rw [hbl]; exact Nat.zero_le _)
  rw [hbL, ← hV]
  have HSEQ := Lib.hid hseq
  have HPV := Lib.hid hpV
  have HXV := Lib.hid hxV
  have HBXV := Lib.hid hbxV
  have HSV := Lib.hid hsV
  have HDCL := Lib.hid (HPV.out.decl HE.out)
  have HXW := Lib.hid (show E.X ≤ V.heap.size by have := hxV.size; have := HXE.out; omega)
  have hi0 : ExI A n S F V [] V := ⟨(by
    obtain ⟨S', q1, q2, q3⟩ := Sco.tight hscV
    exact ⟨S', q1, fun k hk => .inl (q2 k hk), q3⟩), Mod.refl _ _⟩
  have HI0 := Lib.hid hi0
  clear hV hbL hbV e1 hsV hpV hxV hscV hbxV hbl hseq hi0 HPW HDL
  go_wp2_with fail
  refine frame_named ?_
  intro T hT
  have HT := Lib.hid hT
  clear hT
  refine (wpIn_wide (n := 5)).1 ?_
  refine wpIn_rangeFunc_asgM rfl (by omega) (gf := 66) (lb := #[.pointer (some ⟨bL, 0, none⟩)]) (by have h := HT.out; subst h; rfl) trivial (enters_of Tryz.func66 (by kernel_rfl) rfl) HSEQ.out (fun k hk => hk.elim) (fun h k => h.trans k) (fun W l o o' hl hW ho _ => KR.putObj hW ho) (Below.refl _ _) (fun _ => rfl) (ExI A n S F V) (fun _ _ _ => False) (fun t A B h hm => h.keep (fun k hk => hk) (Nat.le_refl _) hm) (fun c t A B h _ => h) HI0.out (fun (p : Bs × Bool) a' W => ∃ b, W.heap[b]? = some (.cells #[.string (str p.1), .bool p.2] 95 (0, 0)) ∧ a' = { tmps := (T.setIfInBounds 27 (.agg #[.string (str p.1), .bool p.2])).setIfInBounds 8 (.pointer (some ⟨b, 0, none⟩)), defers := [] }) (fun h => KR.of_below h) (fun p a' W l o o' hl ho ⟨b, hb, ha⟩ => ⟨b, by rw [World.putObj_heap_other (fun e => by subst e; rw [hl] at hb; cases hb; cases ho)]; exact hb, ha⟩) ?assign ?body ?done ?stop
  case stop => rintro Dd c pre W hD _ h _; exact h.elim
  case assign =>
    intro l z W K hK
    have hT := HT.out
    subst hT
    obtain ⟨za, zb⟩ := z
    obtain ⟨zt, hzt⟩ : ∃ t : ByteArray, str za = t := ⟨_, rfl⟩
    simp only [hzt]
    gi_wp2_with (fail)
    refine hK _ _ (below_alloc W _) ⟨W.heap.size, ?_, ?_⟩
    · simp only [hzt]; exact heap_alloc_new _ _
    · simp only [hzt, List.setIfInBounds_toArray, List.set_cons_succ, List.set_cons_zero]
  case body =>
    rintro l pre x a' W ⟨⟨S', h1, h2, h3⟩, hmd⟩ ⟨rr, hr⟩ ⟨b, hb, rfl⟩
    have hpl : pre.length < 500000 := by have q := HDN.out; rw [hr] at q; simp at q; omega
    have hbxW := hmd.keep HBXV.out (fun hk => by have := HSW.out _ hk; have := HBX1.out; omega)
    obtain ⟨xa, xb⟩ := x
    have hxl : xa.length ≤ maxLen := HDCL.out.2 (xa, xb) (by rw [hr]; simp)
    obtain ⟨xt, hxt⟩ : ∃ t : ByteArray, str xa = t := ⟨_, rfl⟩
    have hxs : xt.size ≤ maxLen := by rw [← hxt]; simpa using hxl
    simp only [hxt] at hb ⊢
    have u0 : W.cell? ⟨b, 0, none⟩ = some (.string xt) := by simp [World.cell?, hb]
    have u1 : W.cell? ⟨b, 1, none⟩ = some (.bool xb) := by simp [World.cell?, hb]
    have ubx : W.cell? ⟨bx, 0, none⟩ = some (.pointer (some ⟨A, 0, none⟩)) := by simp [World.cell?, hbxW]
    obtain ⟨k1, k2⟩ := declF_ok pre F 500000 (fun e => by have := HFP.out; rw [e] at this; simp at this) HFF.out
    have hcall := Sp.Sc.declare A (n + pre.length) S' (declF F pre) xt xb W h1 hxs (by rw [k1]; exact HF.out) (fun f hf => by have := k2 f hf; omega) (by have := HNN.out; omega)
    have hcall2 := hcall.mono (fun e w' (h : _ ∧ _) => (⟨⟨_, h.1⟩, h.2⟩ : (∃ z : Int, e = .returned (.int .i64 z)) ∧ Sp.Leaves A (n + pre.length + 1) S' (if xt.size = 0 then declF F pre else Sp.declare (declF F pre) xt xb) W w'))
    have HCALL := Lib.hid hcall2
    have H2 := Lib.hid h2
    have H3 := Lib.hid h3
    have HMD := Lib.hid hmd
    have HXT := Lib.hid hxt
    clear hcall hcall2 h1 h2 h3 hmd hr hb hxt hpl hbxW hxl hxs k1 k2
    have hT := HT.out
    subst hT
    simp only [List.setIfInBounds_toArray, List.set_cons_succ, List.set_cons_zero]
    gi_wp2_with (fail)
    refine ⟨trivial, (calls_round HCALL.out).mono ?_⟩
    rintro e W2 ⟨⟨zc, rfl⟩, hlv⟩
    have HLV := Lib.hid hlv
    clear hlv u0 u1 ubx
    gi_wp2_with (fail)
    obtain ⟨S2, q1, q2, q3⟩ := HLV.out
    refine ⟨⟨q3.size, fun k o _ ho hc hm => q3.keep ho (fun hk => H3.out k hk ⟨o, ho, hc, hm⟩)⟩, ⟨q3.size, fun k cs t fz hk1 hk2 hk => q3.keep hk (fun hk3 => by
      rcases H2.out k hk3 with h | h
      · have := HSW.out k h; have := HXE.out; have := HB1.out.size; omega
      · omega)⟩, ?_, ?_⟩
    · obtain ⟨S3, t1, t2, t3⟩ := Sco.tight q1
      refine ⟨S3, ?_, fun k hk => ?_, t3⟩
      · rw [declF_snoc, List.length_append, List.length_singleton, ← Nat.add_assoc, show str (xa, xb).1 = xt from HXT.out]
        exact t1
      · rcases q2 k (t2 k hk) with h | h
        · exact H2.out k h
        · exact .inr (Nat.le_trans HMD.out.size h)
    · refine ⟨q3.os.trans HMD.out.os, q3.tape.trans HMD.out.tape, q3.output.trans HMD.out.output, Nat.le_trans HMD.out.size q3.size, fun k hk hs => ?_⟩
      rw [q3.block k (Nat.lt_of_lt_of_le hk HMD.out.size) (fun e => by
        rcases H2.out k e with h | h
        · exact hs h
        · omega)]
      exact HMD.out.block k hk hs
  case done =>
    rintro Dd zs W hD rfl hI hK
    have hmd := hI.md
    obtain ⟨vd, vc, vb, mb, hx⟩ := HPV.out
    have hsx : ∀ k, E.X ≤ k → ¬ S k := fun k hk hs => by have := HSW.out k hs; have := HXE.out; have := HB1.out.size; omega
    have hbW := hmd.keep hx.box (hsx _ HE.out.pb)
    have hdW := Sp.ownsRow_mod hx.dn hmd (fun k hk => hsx k (row_cells hx.dn hk).1)
    obtain ⟨g, lc2, hvd, hg1, hg2, hg3⟩ := row_block hx.dn HPOS.out
    subst hvd
    rw [HPBE.out] at hbW
    obtain ⟨z, hz⟩ : ∃ z : Int, (s'.at' : Int) = z := ⟨_, rfl⟩
    obtain ⟨dl, hdl⟩ : ∃ n, s'.done.length = n := ⟨_, rfl⟩
    rw [hz, hdl] at hbW
    rw [hdl] at hdW
    have HBW := Lib.hid hbW
    have HDNW := Lib.hid (show W.ownsRow E.X 38 4 (.slice (some ⟨g, 0, none⟩) s'.done.length lc2) s'.done.length (s'.done.flatMap ndC) from by rw [hdl]; exact hdW)
    have HPL := Lib.hid (Array.getElem?_eq_some_iff.1 hbW).1
    have HZ := Lib.hid hz
    have HDL2 := Lib.hid hdl
    have HI := Lib.hid hI
    have HK9 := Lib.hid hK
    have HD9 := Lib.hid hD
    have HXW2 := Lib.hid (show E.X ≤ W.heap.size by have := HXW.out; have := hmd.size; omega)
    clear hmd hx hbW hdW hg1 hg2 hg3 hz hdl hI hK hD hsx
    have hT := HT.out
    subst hT
    go_wp2_with fail
    refine wp_region_each_tail 10 (exS pb dl (.slice (some ⟨g, 0, none⟩) dl lc2) W.heap.size (aheadP s'.done) z) (by kernel_rfl) (by kernel_rfl) (exS_mono pb dl _ W.heap.size _ z) ?_ ?_
    · intro i o ho v w5 hb5 hd K hK
      have hi : i < 10 := (List.getElem?_eq_some_iff.1 ho).1
      have HK := Lib.hid hK
      clear hK
      rcases (show i = 0 ∨ i = 1 ∨ i = 2 ∨ i = 3 ∨ i = 4 ∨ i = 5 ∨ i = 6 ∨ i = 7 ∨ i = 8 ∨ i = 9 by omega) with rfl | rfl | rfl | rfl | rfl | rfl | rfl | rfl | rfl | rfl
      · -- op 0
        cases ho
        try clear hd
        simp only [List.take_succ_cons, List.take_zero, putAll, Act.put, List.setIfInBounds_toArray, List.set_cons_succ, List.set_cons_zero, Nat.reduceAdd, Nat.zero_add]
        go_wp2_with fail
        have q := HK.out (.pointer (some ⟨pb, 0, none⟩)) w5 rfl (Below.refl _ _)
        simp only [List.take_succ_cons, List.take_zero, putAll, Act.put, List.setIfInBounds_toArray, List.set_cons_succ, List.set_cons_zero, Nat.reduceAdd, Nat.zero_add] at q
        exact q
      · -- op 1
        have h0 : v 0 = .pointer (some ⟨pb, 0, none⟩) := hd 0 (by kernel_rfl)
        cases ho
        try clear hd
        simp only [List.take_succ_cons, List.take_zero, putAll, Act.put, List.setIfInBounds_toArray, List.set_cons_succ, List.set_cons_zero, Nat.reduceAdd, Nat.zero_add, h0]
        go_wp2_with fail
        have q := HK.out (.pointer (some ⟨pb, 0, none⟩)) w5 rfl (Below.refl _ _)
        simp only [List.take_succ_cons, List.take_zero, putAll, Act.put, List.setIfInBounds_toArray, List.set_cons_succ, List.set_cons_zero, Nat.reduceAdd, Nat.zero_add, h0] at q
        exact q
      · -- op 2
        have h1 : v 1 = .pointer (some ⟨pb, 0, none⟩) := hd 1 (by kernel_rfl)
        cases ho
        try clear hd
        simp only [List.take_succ_cons, List.take_zero, putAll, Act.put, List.setIfInBounds_toArray, List.set_cons_succ, List.set_cons_zero, Nat.reduceAdd, Nat.zero_add, h1]
        go_wp2_with fail
        have q := HK.out (.pointer (some ⟨pb, 2, none⟩)) w5 rfl (Below.refl _ _)
        simp only [List.take_succ_cons, List.take_zero, putAll, Act.put, List.setIfInBounds_toArray, List.set_cons_succ, List.set_cons_zero, Nat.reduceAdd, Nat.zero_add, h1] at q
        exact q
      · -- op 3
        have h2 : v 2 = .pointer (some ⟨pb, 2, none⟩) := hd 2 (by kernel_rfl)
        have hc : w5.cell? ⟨pb, 2, none⟩ = some (.slice (some ⟨g, 0, none⟩) dl lc2) := by simp [World.cell?, heap_below hb5 HBW.out HPL.out]
        cases ho
        try clear hd
        simp only [List.take_succ_cons, List.take_zero, putAll, Act.put, List.setIfInBounds_toArray, List.set_cons_succ, List.set_cons_zero, Nat.reduceAdd, Nat.zero_add, h2]
        go_wp2_with fail
        have q := HK.out (.slice (some ⟨g, 0, none⟩) dl lc2) w5 rfl (Below.refl _ _)
        simp only [List.take_succ_cons, List.take_zero, putAll, Act.put, List.setIfInBounds_toArray, List.set_cons_succ, List.set_cons_zero, Nat.reduceAdd, Nat.zero_add, h2] at q
        exact q
      · -- op 4
        have h3 : v 3 = .slice (some ⟨g, 0, none⟩) dl lc2 := hd 3 (by kernel_rfl)
        have hws := hb5.size
        have hrow5 := ownsRow_ext HDNW.out hb5
        have hah := wk_ahead s'.done E.X g lc2 w5 (by have := HXW2.out; omega) hrow5 HPOS.out (by have := HTL.out; have := HL.out; omega) HA.out
        rw [HDL2.out] at hah
        have HAH := Lib.hid hah
        clear hah hrow5
        cases ho
        try clear hd
        simp only [List.take_succ_cons, List.take_zero, putAll, Act.put, List.setIfInBounds_toArray, List.set_cons_succ, List.set_cons_zero, Nat.reduceAdd, Nat.zero_add, h3]
        go_wp2_with fail
        refine HAH.out.mono ?_
        rintro e w6 ⟨v', rfl, hown, b6⟩
        have HO := Lib.hid hown
        have HB6 := Lib.hid b6
        clear hown b6
        go_wp2_with fail
        have q := HK.out v' w6 (own_base HO.out hws) HB6.out
        simp only [List.take_succ_cons, List.take_zero, putAll, Act.put, List.setIfInBounds_toArray, List.set_cons_succ, List.set_cons_zero, Nat.reduceAdd, Nat.zero_add, h3] at q
        exact q
      · -- op 5
        cases ho
        try clear hd
        simp only [List.take_succ_cons, List.take_zero, putAll, Act.put, List.setIfInBounds_toArray, List.set_cons_succ, List.set_cons_zero, Nat.reduceAdd, Nat.zero_add]
        go_wp2_with fail
        have q := HK.out (.pointer (some ⟨pb, 0, none⟩)) w5 rfl (Below.refl _ _)
        simp only [List.take_succ_cons, List.take_zero, putAll, Act.put, List.setIfInBounds_toArray, List.set_cons_succ, List.set_cons_zero, Nat.reduceAdd, Nat.zero_add] at q
        exact q
      · -- op 6
        have h5 : v 5 = .pointer (some ⟨pb, 0, none⟩) := hd 5 (by kernel_rfl)
        cases ho
        try clear hd
        simp only [List.take_succ_cons, List.take_zero, putAll, Act.put, List.setIfInBounds_toArray, List.set_cons_succ, List.set_cons_zero, Nat.reduceAdd, Nat.zero_add, h5]
        go_wp2_with fail
        have q := HK.out (.pointer (some ⟨pb, 0, none⟩)) w5 rfl (Below.refl _ _)
        simp only [List.take_succ_cons, List.take_zero, putAll, Act.put, List.setIfInBounds_toArray, List.set_cons_succ, List.set_cons_zero, Nat.reduceAdd, Nat.zero_add, h5] at q
        exact q
      · -- op 7
        have h6 : v 6 = .pointer (some ⟨pb, 0, none⟩) := hd 6 (by kernel_rfl)
        cases ho
        try clear hd
        simp only [List.take_succ_cons, List.take_zero, putAll, Act.put, List.setIfInBounds_toArray, List.set_cons_succ, List.set_cons_zero, Nat.reduceAdd, Nat.zero_add, h6]
        go_wp2_with fail
        have q := HK.out (.pointer (some ⟨pb, 1, none⟩)) w5 rfl (Below.refl _ _)
        simp only [List.take_succ_cons, List.take_zero, putAll, Act.put, List.setIfInBounds_toArray, List.set_cons_succ, List.set_cons_zero, Nat.reduceAdd, Nat.zero_add, h6] at q
        exact q
      · -- op 8
        have h7 : v 7 = .pointer (some ⟨pb, 1, none⟩) := hd 7 (by kernel_rfl)
        have hc : w5.cell? ⟨pb, 1, none⟩ = some (.int .i64 z) := by simp [World.cell?, heap_below hb5 HBW.out HPL.out]
        cases ho
        try clear hd
        simp only [List.take_succ_cons, List.take_zero, putAll, Act.put, List.setIfInBounds_toArray, List.set_cons_succ, List.set_cons_zero, Nat.reduceAdd, Nat.zero_add, h7]
        go_wp2_with fail
        have q := HK.out (.int .i64 z) w5 rfl (Below.refl _ _)
        simp only [List.take_succ_cons, List.take_zero, putAll, Act.put, List.setIfInBounds_toArray, List.set_cons_succ, List.set_cons_zero, Nat.reduceAdd, Nat.zero_add, h7] at q
        exact q
      · -- op 9
        have hv4 : w5.ownsRow W.heap.size 38 4 (v 4) dl ((aheadP s'.done).flatMap ndC) := hd 4 (by kernel_rfl)
        have HV4 := Lib.hid hv4
        cases ho
        clear hd hv4
        simp only [List.take_succ_cons, List.take_zero, putAll, Act.put, List.setIfInBounds_toArray, List.set_cons_succ, List.set_cons_zero, Nat.reduceAdd, Nat.zero_add]
        go_wp2_with fail
        have q := HK.out (v 4) w5 HV4.out (Below.refl _ _)
        simp only [List.take_succ_cons, List.take_zero, putAll, Act.put, List.setIfInBounds_toArray, List.set_cons_succ, List.set_cons_zero, Nat.reduceAdd, Nat.zero_add] at q
        exact q
    · intro v w5 hb5 hS
      have hv4 : w5.ownsRow W.heap.size 38 4 (v 9) dl ((aheadP s'.done).flatMap ndC) := hS 9 (by decide)
      have e8 : v 8 = .int .i64 z := hS 8 (by decide)
      obtain ⟨v', hv'⟩ : ∃ v', v' = v 9 := ⟨_, rfl⟩
      rw [← hv'] at hv4
      have e4 := hv'.symm
      have HV4 := Lib.hid hv4
      have HB5 := Lib.hid hb5
      clear hS hv4 hb5
      simp only [List.take_succ_cons, List.take_zero, List.drop_succ_cons, List.drop_zero, putAll, Act.put, List.setIfInBounds_toArray, List.set_cons_succ, List.set_cons_zero, Nat.reduceAdd, Nat.zero_add, e4, e8]
      clear e4 e8 hv'
      go_wp2_with fail
      have hkd := heap_below HB5.out HK9.out (Array.getElem?_eq_some_iff.1 HK9.out).1
      refine ⟨by simp, .inl ⟨_, _, rfl, run_takeDeferred hkd, ?_⟩⟩
      rw [HR.out]
      refine ⟨.tuple #[v', .int .i64 z, .int .i64 0], by simp [results, Tryz.results19, go_sem], _, _, _, rfl, .inr (.inr ⟨aheadP s'.done, s'.at', s'.nm.declared, HD.out, HPP.out, HZ.out.symm, rfl, ?_, ?_⟩)⟩
      · rw [HLEN.out, HDL2.out]
        have hws : w.heap.size ≤ W.heap.size := by have := HXW2.out; have := HXE.out; have := HB1.out.size; omega
        exact ownsRow_of (own_base HV4.out hws) (fun g cur hg => (World.putObj_heap_other (fun e => by
          subst e
          rw [hkd] at hg; cases hg)).trans hg)
      · have hw5 := HI.out.keep (fun k hk => hk) (Nat.le_refl _) (X := fun _ => False) (Mod.of_below HB5.out)
        have hw6 := hw5.keep (X := fun _ => False) (B := V.heap.size) (W' := w5.putObj Dd (.deferred none)) (fun k hk => hk) (Nat.le_refl _) ⟨rfl, rfl, rfl, by simp, fun k hk hn => World.putObj_heap_other (fun e => hn (.inr ⟨by rw [e]; exact HD9.out, by rw [e]; exact ⟨_, hkd, rfl, rfl⟩⟩))⟩
        obtain ⟨⟨S', q1, q2, q3⟩, q4⟩ := hw6
        have hV := HXV.out
        have hs1 := HB1.out.size
        have hwV : Below w.heap.size w V := HB1.out.trans (hV.mono hs1)
        refine ⟨S', q1, fun k hk => ?_, (Mod.of_below hwV).trans q4⟩
        rcases q2 k hk with h | h
        · exact .inl h
        · exact .inr (Nat.le_trans hwV.size h)
end Go.Proofs.YtlboejdhmggjpaaGreat.Pp

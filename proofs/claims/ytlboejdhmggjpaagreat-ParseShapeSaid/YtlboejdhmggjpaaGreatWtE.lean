/- parse: newNames; a parser at its start. -/
import Derived.Test.YtlboejdhmggjpaaGreatWnE
import Derived.Test.YtlboejdhmggjpaaGreatWnF
import Derived.Test.YtlboejdhmggjpaaGreatPbA
import Derived.Test.YtlboejdhmggjpaaGreatWnC
import Derived.Test.YtlboejdhmggjpaaGreatWkB
import Derived.Laws.StructEq
set_option linter.all false
namespace Go.Proofs.YtlboejdhmggjpaaGreat.Pp
set_option maxRecDepth 100000
set_option maxHeartbeats 16000000
open Go.RowKit Go.BigFrame Go.Proofs.YtlboejdhmggjpaaGreat

abbrev nilS : Value := .slice none 0 0
theorem wk_newNames (sp : Value) (hsp : ∃ a, sp = .pointer a) (w : World) : Calls Tryz.prog 30 #[sp] w fun e w' => ∃ m, e = .returned (.agg #[sp, .map (some m), nilS, nilS]) ∧ w.heap.size ≤ m ∧ w'.ownsMap Tryz.prog 9 rawR m 0 (.map []) ∧ Below w.heap.size w w' := by
 obtain ⟨a, rfl⟩ := hsp
 have hmm := @run_makeMap Tryz.prog
 have hbt : ∀ m, (Tryz.prog.built 72 [(0, Value.pointer a), (1, Value.map (some m))]) = some #[.pointer a, .map (some m), nilS, nilS] := fun m => by kernel_rfl
 go_enter Tryz.func30, Tryz.ntmps30
 go_wp2_with (refine wpList_build rfl 72 _ rfl (by simp [Act.eval, hbt]) ?_)
 have h0 : ((w.alloc (.cells #[.pointer a, .map (some (w.heap.size + 1)), nilS, nilS] 72)).alloc (.map #[] 0)).heap[w.heap.size]? = some (.cells #[.pointer a, .map (some (w.heap.size + 1)), nilS, nilS] 72 (0, 0)) := by rw [Lib.alloc_old _ _ _ (by simp)]; exact new_cells _ _ _
 have c0 : ((w.alloc (.cells #[.pointer a, .map (some (w.heap.size + 1)), nilS, nilS] 72)).alloc (.map #[] 0)).cell? ⟨w.heap.size, 0, none⟩ = some (.pointer a) := by simp [World.cell?, h0]
 have c1 : ((w.alloc (.cells #[.pointer a, .map (some (w.heap.size + 1)), nilS, nilS] 72)).alloc (.map #[] 0)).cell? ⟨w.heap.size, 1, none⟩ = some (.map (some (w.heap.size + 1))) := by simp [World.cell?, h0]
 have c2 : ((w.alloc (.cells #[.pointer a, .map (some (w.heap.size + 1)), nilS, nilS] 72)).alloc (.map #[] 0)).cell? ⟨w.heap.size, 2, none⟩ = some nilS := by simp [World.cell?, h0]
 have c3 : ((w.alloc (.cells #[.pointer a, .map (some (w.heap.size + 1)), nilS, nilS] 72)).alloc (.map #[] 0)).cell? ⟨w.heap.size, 3, none⟩ = some nilS := by simp [World.cell?, h0]
 have hm := World.ownsMap_made (w.alloc (.cells #[.pointer a, .map (some (w.heap.size + 1)), nilS, nilS] 72)) Tryz.prog 9 rawR
 have hb : Below w.heap.size w ((w.alloc (.cells #[.pointer a, .map (some (w.heap.size + 1)), nilS, nilS] 72)).alloc (.map #[] 0)) := ((Below.refl _ w).alloc (Nat.le_refl _) _).alloc (by simp) _
 rw [World.size_alloc] at hm
 obtain ⟨W, hW⟩ : ∃ W, W = (w.alloc (.cells #[.pointer a, .map (some (w.heap.size + 1)), nilS, nilS] 72)).alloc (.map #[] 0) := ⟨_, rfl⟩
 rw [← hW] at c0 c1 c2 c3 hm hb
 rw [← hW]
 clear hW h0
 refine bodyPost_ret (v := .agg #[.pointer a, .map (some (w.heap.size + 1)), nilS, nilS]) ?_ rfl ⟨w.heap.size + 1, rfl, Nat.le_add_right _ _, hm, hb⟩
 have hl : (loadVar 72 ⟨w.heap.size, 0, none⟩).run Tryz.prog W = .ok (.agg #[.pointer a, .map (some (w.heap.size + 1)), nilS, nilS]) W :=
  run_loadVar_at W w.heap.size 0 72 [.pointer a, .map (some (w.heap.size + 1)), nilS, nilS] _ (fun j v hv => by
   match j, hv with
   | 0, hv => cases hv; exact c0
   | 1, hv => cases hv; exact c1
   | 2, hv => cases hv; exact c2
   | 3, hv => cases hv; exact c3
   | j + 4, hv => simp at hv) Tryz.underlying72 rfl (by kernel_rfl)
 simp [results, Tryz.results30, go_sem, hl, c0, c1, c2, c3]
theorem Nm.made {w : World} {m : Nat} (h : w.ownsMap Tryz.prog 9 rawR m 0 (.map [])) : Nm w m [] := ⟨0, .map [], h, fun x => ⟨fun z => rfl, rfl⟩⟩
theorem PX.start {E : En} {w : World} {mb : Nat} (hE : E.ok) (hbel : Below E.X E.w0 w) (hbox : w.heap[E.pb]? = some (.cells #[.slice E.la E.L.length E.lc, .int .i64 0, nilS, E.sp, .map (some mb), nilS, nilS] 75 (0, 0))) (hm : w.ownsMap Tryz.prog 9 rawR mb 0 (.map [])) (hmx : E.X ≤ mb) : PX E w s0 nilS nilS nilS mb where
 bel := hbel
 box := hbox
 dn := World.ownsRow_nil _ _ _ _
 ch := World.ownsRow_nil _ _ _ _
 bl := World.ownsRow_nil _ _ _ _
 mp := Nm.made hm
 mx := hmx
 le := Nat.zero_le _
 tx := fun p h => by simp [s0] at h
 cb := Nat.zero_le _
 bb := Nat.zero_le _
theorem PX.set {E : En} {w : World} {s : Ps} {vd vc vb : Value} {mb k i : Nat} {cs : Array Value} {t : TypeId} {fz : Nat × Nat} {v : Value} (h : PX E w s vd vc vb mb) (hX : E.X ≤ k) (hk : w.heap[k]? = some (.cells cs t fz)) (ht : own4 t = false) : PX E (w.setCell ⟨k, i, none⟩ v) s vd vc vb mb := by
 have ho : ∀ (j : Nat) (o : Obj), w.heap[j]? = some o → (∀ cs, o ≠ .cells cs t fz) → (w.setCell ⟨k, i, none⟩ v).heap[j]? = some o := fun j o hj hn => by
  rw [Below.heap_setCell _ _ _ _ (fun e => by subst e; rw [hk] at hj; cases hj; exact hn cs rfl)]
  exact hj
 have hne : ∀ (e : TypeId), own4 e = true → ∀ (j : Nat) (cur : Array Value), w.heap[j]? = some (.cells cur e (0, 0)) → (w.setCell ⟨k, i, none⟩ v).heap[j]? = some (.cells cur e (0, 0)) := fun e he j cur hj => ho j _ hj (fun cs hh => by
  cases hh
  rw [ht] at he; cases he)
 exact ⟨h.bel.setCell hX _, hne 75 rfl _ _ h.box, ownsRow_of h.dn (fun g cur hg => hne 38 rfl g cur hg), ownsRow_of h.ch (fun g cur hg => hne 132 rfl g cur hg), ownsRow_of h.bl (fun g cur hg => hne 3 rfl g cur hg), (by
  obtain ⟨n, D, h1, h2⟩ := h.mp
  exact ⟨n, D, ownsMap_of h1 fun es c hg => ho _ _ hg (fun cs hh => by cases hh), h2⟩), h.mx, h.le, h.tx, h.cb, h.bb⟩
theorem PW.set {E : En} {w : World} {s : Ps} {k i : Nat} {cs : Array Value} {t : TypeId} {fz : Nat × Nat} {v : Value} (h : PW E w s) (hX : E.X ≤ k) (hk : w.heap[k]? = some (.cells cs t fz)) (ht : own4 t = false) : PW E (w.setCell ⟨k, i, none⟩ v) s := by
 obtain ⟨vd, vc, vb, mb, h⟩ := h
 exact ⟨vd, vc, vb, mb, h.set hX hk ht⟩
end Go.Proofs.YtlboejdhmggjpaaGreat.Pp

/- WnH -/
namespace Go.Proofs.YtlboejdhmggjpaaGreat.Pp
set_option maxRecDepth 100000
set_option maxHeartbeats 16000000
open Go.RowKit Go.BigFrame Go.Proofs.YtlboejdhmggjpaaGreat

def parseP (L : List Ct) (base : Bs → Bool) : Option (List Nd) :=
 match run L base (fu L) .unit s0 with
 | .ok _ s => some (aheadP s.done)
 | _ => none
def PrsPost (L : List Ct) (w : World) (e : Ending) (w' : World) : Prop :=
 ∃ v z, e = .returned (.tuple #[v, .int .i64 z]) ∧ Below w.heap.size w w' ∧
  ((deepL L 0 = true ∧ v = nilS ∧ z = 111) ∨ (deepL L 0 = false ∧ parseP L (fun _ => false) = none ∧ v = nilS ∧ z = 110) ∨
   (∃ P, deepL L 0 = false ∧ parseP L (fun _ => false) = some P ∧ z = 0 ∧ w'.ownsRow w.heap.size 38 4 v P.length (P.flatMap ndC)))
theorem own_ext {W w w' : World} {A n : Nat} {F : List Sp.Frm} (h : Sp.Own W A n F w) (hb : Below w.heap.size w w') : Sp.Own W A n F w' := by
 obtain ⟨S, h1, h2, h3⟩ := h
 exact ⟨S, Sp.Sco.keep (T := fun _ => False) h1 (Mod.of_below hb) (fun _ _ h => h), h2, h3.trans (hb.mono h3.size)⟩
theorem wk_Parse (L : List Ct) (la : Option Addr) (lc : Nat) (w : World) (hrow : RowAt 2 ctC w la L) (hl : L.length ≤ 100000) (htx : ∀ t ∈ L, t.t.length ≤ maxLen) : Calls Tryz.prog 10 #[.slice la L.length lc] w (PrsPost L w) := by
 have htd := wk_tooDeep L la lc w hrow hl
 have HTD := Hh htd
 have HROW := Hh hrow
 have HTX := Hh htx
 have HL := Hh hl
 obtain ⟨NL, hN⟩ : ∃ NL, L.length = NL := ⟨_, rfl⟩
 have HN := Hh hN
 rw [hN]
 obtain ⟨R, hR⟩ : ∃ R, R = PrsPost L w := ⟨_, rfl⟩
 rw [← hR]
 have HR := Hh hR
 clear htd hrow htx hl hN hR
 have hbt : ∀ (A m : Nat), (Tryz.prog.built 75 [(0, Value.slice la NL lc), (3, .agg #[.pointer (some ⟨A, 0, none⟩), .map (some m), nilS, nilS])]) = some #[.slice la NL lc, .int .i64 0, nilS, .pointer (some ⟨A, 0, none⟩), .map (some m), nilS, nilS] := fun A m => by kernel_rfl
 go_enter Tryz.func10, Tryz.ntmps10
 go_wp2_with fail
 rw [← HN.out]
 refine HTD.out.mono ?_
 rw [HN.out]
 rintro e w1 ⟨rfl, hb1⟩
 have HB1 := Hh hb1
 clear hb1
 obtain ⟨D, hD⟩ : ∃ D, deepL L 0 = D := ⟨_, rfl⟩
 rw [hD]
 have HD := Hh hD
 clear hD
 cases D
 ·go_wp2_with fail
  refine (Sp.Ow.new w w1 HB1.out).mono ?_
  rintro e w2 ⟨A, rfl, hown⟩
  have HO := Hh hown
  clear hown
  go_wp2_with fail
  refine (wk_newNames _ ⟨_, rfl⟩ w2).mono ?_
  rintro e w3 ⟨m, rfl, hm1, hm2, hb3⟩
  have HM1 := Hh hm1
  have HM2 := Hh hm2
  have HB3 := Hh hb3
  clear hm1 hm2 hb3
  go_wp2_with (first | (refine wpList_build rfl 75 _ rfl (by simp [Act.eval, hbt]) ?_) | fail)
  obtain ⟨pb, hpb⟩ : ∃ b, w3.heap.size = b := ⟨_, rfl⟩
  obtain ⟨W5, hW5⟩ : ∃ W5, W5 = (w3.alloc (.cells #[.slice la NL lc, .int .i64 0, nilS, .pointer (some ⟨A, 0, none⟩), .map (some m), nilS, nilS] 75)).alloc (.cells #[.pointer (some ⟨w3.heap.size, 0, none⟩)] 68) := ⟨_, rfl⟩
  have hb5 : Below w3.heap.size w3 W5 := by rw [hW5]; exact ((Below.refl _ w3).alloc (Nat.le_refl _) _).alloc (by simp) _
  have h75 : W5.heap[pb]? = some (.cells #[.slice la NL lc, .int .i64 0, nilS, .pointer (some ⟨A, 0, none⟩), .map (some m), nilS, nilS] 75 (0, 0)) := by rw [hW5, ← hpb, Lib.alloc_old _ _ _ (by simp)]; exact new_cells _ _ _
  have h68 : W5.heap[pb + 1]? = some (.cells #[.pointer (some ⟨pb, 0, none⟩)] 68 (0, 0)) := by
   rw [hW5, ← hpb]
   have := new_cells (w3.alloc (.cells #[.slice la NL lc, .int .i64 0, nilS, .pointer (some ⟨A, 0, none⟩), .map (some m), nilS, nilS] 75)) #[.pointer (some ⟨w3.heap.size, 0, none⟩)] 68
   simpa using this
  have hs5 : W5.heap.size = pb + 2 := by rw [hW5, ← hpb]; simp
  rw [← hW5, hpb]
  clear hW5
  obtain ⟨W6, hW6⟩ : ∃ W6, W6 = W5.alloc (.cells #[.bool false] 4) := ⟨_, rfl⟩
  have hb6 : Below W5.heap.size W5 W6 := by rw [hW6]; exact below_alloc _ _
  have hb3 := HB3.out
  have ho := HO.out
  have hs3 : w2.heap.size ≤ pb := by rw [← hpb]; exact hb3.size
  obtain ⟨E, hE0⟩ : ∃ E : En, E = { X := w2.heap.size, pb := pb, la := la, lc := lc, L := L, sp := .pointer (some ⟨A, 0, none⟩), base := fun _ => false, w0 := w2 } := ⟨_, rfl⟩
  have hX : E.X = w2.heap.size := by rw [hE0]
  have hw0 : E.w0 = w2 := by rw [hE0]
  have hpbE : E.pb = pb := by rw [hE0]
  have hLE : E.L = L := by rw [hE0]
  have hbE : E.base = fun _ => false := by rw [hE0]
  have hE : E.ok := by
   subst hE0
   refine ⟨rfl, hs3, HROW.out.below ho.below (Nat.le_refl _) ho.below.size, HL.out, HTX.out, fun w' x hb hx => ?_⟩
   refine (Sp.Ow.isType w A 0 [[]] (str x) w' (own_ext ho hb) (by simpa using hx) (by simp)).mono ?_
   rintro e w'' ⟨rfl, rfl⟩
   exact ⟨rfl, Below.refl _ _⟩
  have hb26 : Below w2.heap.size w2 W6 := (hb3.trans (hb5.mono hb3.size)).trans (hb6.mono (by omega))
  have hpx : PW E W6 s0 := ⟨nilS, nilS, nilS, m, PX.start hE (by rw [hX, hw0]; exact hb26) (by
   rw [hpbE]
   subst hE0
   rw [show L.length = NL from HN.out]
   exact heap_below hb6 h75 (by omega)) (ownsMap_of HM2.out fun es c hg => heap_below hb6 (heap_below hb5 hg (Array.getElem?_eq_some_iff.1 hg).1) (by have := (Array.getElem?_eq_some_iff.1 hg).1; omega)) (by rw [hX]; exact HM1.out)⟩
  obtain ⟨hne, hun⟩ := unit_good L (fun _ => false)
  have hun2 := w_unit hE (fu L) (pb + 1) s0 W6 ⟨rfl, rfl⟩ (by rw [hpbE]; exact heap_below hb6 h68 (by omega)) hpx (by rw [hLE, hbE]; exact hne)
  rw [hLE, hbE, hW6] at hun2
  have hfit := fits31 (pb + 1) W5 (A := fun W' => ∃ v s', run L (fun _ => false) (fu L) .unit s0 = .ok v s' ∧ PW E W' s') (Bd := fun W' => run L (fun _ => false) (fu L) .unit s0 = .no ∧ Below E.X E.w0 W') (hun2.mono fun e W' he => by
   cases hr : run L (fun _ => false) (fu L) .unit s0 with
   | out => exact absurd hr hne
   | ok v s' =>
    rw [hr] at he
    obtain ⟨y, rfl, rfl, h3, h4⟩ := he
    exact ⟨h4, .inl ⟨rfl, v, s', rfl, h3⟩⟩
   | no =>
    rw [hr] at he
    exact ⟨he.2.2, .inr ⟨he.1, rfl, he.2.1⟩⟩)
  have HFIT := Hh hfit
  have HE := Hh hE
  have HXE := Hh hX
  have HW0 := Hh hw0
  have HPBE := Hh hpbE
  have HUN := Hh hun
  have HS3 := Hh hs3
  have HS5 := Hh hs5
  have H68 := Hh h68
  have HW6 := Hh hW6
  have HWX := Hh (show w.heap.size ≤ E.X from by rw [hX]; exact ho.below.size)
  have HBW := Hh (show Below w.heap.size w w2 from ho.below)
  clear hpb hb5 h75 h68 hs5 hb6 hb3 ho hs3 hE0 hX hw0 hpbE hLE hbE hE hb26 hpx hne hun hun2 hfit hW6
  refine HFIT.out.mono ?_
  rintro e W7 (⟨W', ⟨v, s', hrun, hpw⟩, hk, rfl, rfl⟩ | ⟨W', z, ⟨hrun, hbel⟩, hk, rfl, rfl⟩)
  ·have hkW : W'.heap[W5.heap.size]? = some (.cells #[.bool false] 4 (0, 0)) := hk.cells _ _ 4 _ rfl (new_cells _ _ _)
   have h68' : W'.heap[pb + 1]? = some (.cells #[.pointer (some ⟨pb, 0, none⟩)] 68 (0, 0)) := hk.cells _ _ 68 _ rfl (by rw [Lib.alloc_old _ _ _ (by rw [HS5.out]; omega)]; exact H68.out)
   obtain ⟨ht, -, -⟩ := HUN.out _ _ hrun
   have hpw2 := hpw.set (k := W5.heap.size) (i := 0) (v := .bool true) (by have := HS5.out; have := HS3.out; have := HXE.out; omega) hkW rfl
   obtain ⟨vd, vc, vb, mb, hx⟩ := hpw2
   obtain ⟨-, -, x2, -⟩ := hx.cell
   rw [HPBE.out] at x2
   obtain ⟨ha, hpos, hfp, hlen, -⟩ := ht.ahead
   obtain ⟨g, lc2, hvd, hg1, hg2, hg3⟩ := row_block hx.dn hpos
   have hdn := hx.dn
   have hbelW := hx.bel
   rw [hvd] at x2 hdn
   have hpp : parseP L (fun _ => false) = some (aheadP s'.done) := by unfold parseP; rw [hrun]
   obtain ⟨W8, hW8⟩ : ∃ W8, W8 = W'.setCell ⟨W5.heap.size, 0, none⟩ (.bool true) := ⟨_, rfl⟩
   rw [← hW8] at x2 hdn hbelW hg2 ⊢
   have c68 : W8.cell? ⟨pb + 1, 0, none⟩ = some (.pointer (some ⟨pb, 0, none⟩)) := by
    rw [hW8]
    have : (W'.setCell ⟨W5.heap.size, 0, none⟩ (.bool true)).heap[pb + 1]? = _ := (Below.heap_setCell _ _ _ _ (by show pb + 1 ≠ W5.heap.size; rw [HS5.out]; omega)).trans h68'
    simp [World.cell?, this]
   have hXW : E.X ≤ W8.heap.size := by have := hbelW.size; have := HXE.out; have := HW0.out; rw [HW0.out] at hbelW; have := hbelW.size; omega
   have hah := wk_ahead s'.done E.X g lc2 W8 hXW hdn hpos (by have := ht.len; have := HL.out; omega) ha
   obtain ⟨nd, hnd⟩ : ∃ nd, s'.done.length = nd := ⟨_, rfl⟩
   rw [hnd] at x2 hah
   have HAH := Hh hah
   have HPP := Hh hpp
   have HBL := Hh hbelW
   have HLEN := Hh hlen
   have HND := Hh hnd
   have HXW := Hh hXW
   clear hkW h68' ht hx ha hpos hfp hlen hg1 hg2 hg3 hdn hbelW hvd hpp hW8 hah hrun hpw hk hXW hnd
   go_wp2_with fail
   refine HAH.out.mono ?_
   rintro e w9 ⟨v9, rfl, hv9, hb9⟩
   have HV9 := Hh hv9
   have HB9 := Hh hb9
   clear hv9 hb9
   go_wp2_with fail
   rw [HR.out]
   have hbl := HBL.out
   rw [HXE.out, HW0.out] at hbl
   have hs1 := HBW.out.size
   have hb8 : Below w.heap.size w W8 := HBW.out.trans (hbl.mono hs1)
   refine ⟨v9, 0, rfl, hb8.trans (HB9.out.mono hb8.size), .inr (.inr ⟨aheadP s'.done, HD.out, HPP.out, rfl, ?_⟩)⟩
   rw [HLEN.out, HND.out]
   have q := HV9.out
   exact own_base q hb8.size
  ·have hpp : parseP L (fun _ => false) = none := by unfold parseP; rw [hrun]
   have hkW : W'.heap[W5.heap.size]? = some (.cells #[.bool false] 4 (0, 0)) := hk.cells _ _ 4 _ rfl (new_cells _ _ _)
   have HPP := Hh hpp
   have HBL := Hh hbel
   clear hpp hbel hrun hk hkW
   go_wp2_with fail
   rw [HR.out]
   have hbl := HBL.out
   rw [HXE.out, HW0.out] at hbl
   have hs1 := HBW.out.size
   have hs5 := HS5.out
   have hs3 := HS3.out
   have hbw : Below w.heap.size w W' := HBW.out.trans (hbl.mono hs1)
   exact ⟨nilS, 110, rfl, (hbw.setCell (p := ⟨W5.heap.size, 0, none⟩) (by show w.heap.size ≤ W5.heap.size; omega) _).alloc (by simpa using hbw.size) _, .inr (.inl ⟨HD.out, HPP.out, rfl, rfl⟩)⟩
 ·go_wp2_with fail
  rw [HR.out]
  exact ⟨_, _, rfl, HB1.out, .inl ⟨HD.out, rfl, rfl⟩⟩
end Go.Proofs.YtlboejdhmggjpaaGreat.Pp

/- PkN -/
namespace Go.Proofs.YtlboejdhmggjpaaGreat

def prtsN : Nat → Bs → Nat → List Pt
 | 0, _, _ => []
 | n + 1, s, i => if i < s.length then ptAt s i :: prtsN n s (i + (ptAt s i).len) else []
theorem prtsN_eq : ∀ (n : Nat) (s : Bs) (i : Nat), s.length - i ≤ n → prts s i = prtsN n s i
 | 0, s, i, h => prts_ge (by omega)
 | n + 1, s, i, h => by
  by_cases c : i < s.length
  ·rw [prts_lt c, prtsN, if_pos c, prtsN_eq n s _ (by have := pt_pos s i; omega)]
  ·rw [prts_ge (by omega), prtsN, if_neg c]
def tksN : Nat → Bs → Nat → Nat → Bool → List Tk × Nat
 | 0, _, _, _, _ => ([], 0)
 | _ + 1, [], _, _, _ => ([], 0)
 | m + 1, c :: r, at', st, sp =>
  if isWhite c then tksN m r (at' + 1) st true
  else if (itm (c :: r) (st == 2)).2.2 ≠ 0 then ([], (itm (c :: r) (st == 2)).2.2)
  else
   (⟨(itm (c :: r) (st == 2)).1, (c :: r).take (itm (c :: r) (st == 2)).2.1, at', at' + (itm (c :: r) (st == 2)).2.1, sp⟩ :: (tksN m (r.drop ((itm (c :: r) (st == 2)).2.1 - 1)) (at' + (itm (c :: r) (st == 2)).2.1) (after st (itm (c :: r) (st == 2)).1 ((c :: r).take (itm (c :: r) (st == 2)).2.1)) false).1,
    (tksN m (r.drop ((itm (c :: r) (st == 2)).2.1 - 1)) (at' + (itm (c :: r) (st == 2)).2.1) (after st (itm (c :: r) (st == 2)).1 ((c :: r).take (itm (c :: r) (st == 2)).2.1)) false).2)
theorem tksN_eq : ∀ (n : Nat) (t : Bs) (at' st : Nat) (sp : Bool), t.length ≤ n → tks t at' st sp = tksN n t at' st sp
 | 0, [], at', st, sp, _ => by rw [tks]; rfl
 | 0, c :: r, at', st, sp, h => by simp at h
 | n + 1, [], at', st, sp, _ => by rw [tks]; rfl
 | n + 1, c :: r, at', st, sp, h => by
  have h' : r.length ≤ n := by simpa using h
  rw [tks, tksN]
  split
  ·exact tksN_eq n r _ _ _ h'
  split
  ·rfl
  ·dsimp only
   rw [tksN_eq n _ _ _ _ (by rw [List.length_drop]; omega)]
def chkN (s : Bs) : Nat := if 65536 < s.length then 3 else if (match (prtsN s.length s 0).getLast? with | none => false | some p => endBad p) then 10 else 0
def charsN (s : Bs) : List Pt := (prtsN s.length s 0).filter fun p => !p.spl
def scanN (s : Bs) : Nat × List Tk :=
 if chkN s ≠ 0 then (chkN s, [])
 else match tksN s.length ((charsN s).map (·.b)) 0 0 false with
  | (l, e) => if e ≠ 0 then (e, []) else (0, l.map (place (charsN s)))
theorem prtsN_len : ∀ (n : Nat) (s : Bs) (i : Nat), (prtsN n s i).length ≤ n
 | 0, s, i => Nat.le_refl _
 | n + 1, s, i => by
  rw [prtsN]
  split
  ·have := prtsN_len n s (i + (ptAt s i).len); simp; omega
  ·simp
theorem scanN_eq (s : Bs) : scanP s = scanN s := by
 have h1 : prts s 0 = prtsN s.length s 0 := prtsN_eq _ _ _ (by omega)
 have h2 : chk s = chkN s := by unfold chk chkN badEnd; rw [h1]; rfl
 have h3 : chars s = charsN s := by unfold chars charsN; rw [h1]
 have h4 : tks (logic s) 0 0 false = tksN s.length ((charsN s).map (·.b)) 0 0 false := by
  unfold logic
  rw [h3]
  refine tksN_eq _ _ _ _ _ ?_
  rw [List.length_map]
  unfold charsN
  exact Nat.le_trans (List.length_filter_le _ _) (prtsN_len _ _ _)
 unfold scanP scanN
 rw [h2, h3, h4]
end Go.Proofs.YtlboejdhmggjpaaGreat

/- WtD -/
namespace Go.Proofs.YtlboejdhmggjpaaGreat.Ct
set_option maxRecDepth 100000
set_option maxHeartbeats 16000000
open Go.RowKit Go.BigFrame Go.Proofs.YtlboejdhmggjpaaGreat Go.Proofs.YtlboejdhmggjpaaGreat.Pp Go.Proofs.YtlboejdhmggjpaaGreat.Ww

theorem own_rowAt {α : Type} {n : Nat} {f : α → List Value} (hf : ∀ x, (f x).length = n) {w : World} {X e : Nat} {a : Option Addr} {c : Nat} {l : List α} (h : w.ownsRow X e n (.slice a l.length c) l.length (l.flatMap f)) : RowAt n f w a l := by
 rcases Nat.eq_zero_or_pos l.length with h0 | h0
 ·exact .inl (List.length_eq_zero_iff.1 h0)
 ·obtain ⟨g, c', he, h1, h2, h3⟩ := row_block h h0
  cases he
  refine .inr ⟨g, 0, rfl, h2, fun i hi j v hv => ?_⟩
  have hj : j < n := by have := (List.getElem?_eq_some_iff.1 hv).1; rw [hf] at this; exact this
  rw [Nat.zero_add, h.cellAt _ (by
   have : (i + 1) * n ≤ l.length * n := Nat.mul_le_mul_right _ hi
   rw [Nat.succ_mul] at this
   omega), flat_get n f hf l i j hi hj]
  exact hv
theorem scan (s : ByteArray) (w : World) (hs : s.size ≤ 1000000000) (hm : Mx w) : Calls Tryz.prog 42 #[.string s] w (ScPost s w) := by
 by_cases h : chk (dl s) = 0
 ·exact Sc.scanOk s w hs h hm
 ·exact Sc.scanBad s w hs h
theorem mx_below {w w' : World} (h : Mx w) (hb : Below w.heap.size w w') : Mx w' := by
 obtain ⟨m, hm⟩ := h
 exact ⟨m, (hb.cell (World.block_lt_of_cell? _ _ hm)).trans hm⟩
def cls1 (k : Nat) (t : Bs) : Option Ct := if k = 1 then some ⟨if isKw t then 1 else 2, t⟩ else if k = 5 then some ⟨7, canon t⟩ else none
theorem cls1_ok {k : Nat} {t : Bs} (h : k = 1 ∨ k = 5) : ClsOk k t (cls1 k t) := by
 rcases h with rfl | rfl
 ·exact class_word t
 ·exact class_punct t
theorem toksF (cls : Nat → Bs → Option Ct) (t : Bs) (C : List Ct) (w : World) (hm : Mx w) (hl : t.length ≤ 10000) (h0 : (scanP (t ++ [10])).1 = 0) (hn : (scanP (t ++ [10])).2.length ≤ 1000000) (hc : ∀ x ∈ bare (scanP (t ++ [10])).2, ClsOk x.kind x.text (cls x.kind x.text)) (hC : clsL cls (bare (scanP (t ++ [10])).2) = (C, true)) :
  Calls Tryz.prog 28 #[.string (str t)] w fun e w' => ∃ v, e = .returned v ∧ Below w.heap.size w w' ∧ w'.ownsRow w.heap.size 54 2 v C.length (C.flatMap ctC) := by
 obtain ⟨S, hS⟩ : ∃ S, str (t ++ [10]) = S := ⟨_, rfl⟩
 have hdl : dl S = t ++ [10] := by rw [← hS]; exact dl_str _
 have hap : str t ++ ⟨#[10]⟩ = S := by rw [← hS]; exact str_append t [10]
 have hsz : S.size ≤ 1000000000 := by rw [← hS, str_size, List.length_append]; simp; omega
 have hsc := scan S w hsz hm
 obtain ⟨st, hst⟩ : ∃ st : ByteArray, str t = st := ⟨_, rfl⟩
 rw [hst] at hap ⊢
 unfold ScPost at hsc
 rw [hdl, h0] at hsc
 simp only [if_true] at hsc
 obtain ⟨l, hlL⟩ : ∃ l, (scanP (t ++ [10])).2 = l := ⟨_, rfl⟩
 rw [hlL] at hsc hn hc hC
 have HSC := Lib.hid hsc
 have HC := Lib.hid hc
 have HCC := Lib.hid hC
 have HM := Lib.hid hm
 have HN := Lib.hid hn
 have hs1 : ¬ (9223372036854775807 < st.size + 1) := by rw [← hst, str_size]; omega
 clear hsc hc hC hm hn hlL h0 hst hdl hS hl
 go_enter Tryz.func28, Tryz.ntmps28
 go_wp2_with fail
 refine HSC.out.mono ?_
 rintro e w1 ⟨hb1, v, rfl, hown⟩
 obtain ⟨a, c, rfl⟩ := Pp.row_shape hown
 have htk := tokens cls a c l w1 (mx_below HM.out hb1) (own_rowAt (n := 5) (f := tkC) (fun _ => rfl) hown) HN.out HC.out
 obtain ⟨n, hn⟩ : ∃ n, l.length = n := ⟨_, rfl⟩
 rw [hn] at htk ⊢
 have HTK := Lib.hid htk
 have HB1 := Lib.hid hb1
 clear htk hb1 hown hn hap
 go_wp2_with fail
 refine HTK.out.mono ?_
 intro e w2 he
 unfold TokPost at he
 rw [HCC.out] at he
 obtain ⟨hb2, ⟨-, v2, rfl, hown2⟩ | ⟨h, -⟩⟩ := he
 case' inr => cases h
 have HB2 := Lib.hid hb2
 have HO2 := Lib.hid hown2
 clear hb2 hown2
 go_wp2_with fail
 go_ret
 exact ⟨v2, rfl, HB1.out.trans (HB2.out.mono HB1.out.size), own_base HO2.out HB1.out.size⟩
def TxtIs (cls : Nat → Bs → Option Ct) (ok : Tk → Bool) (t : Bs) (C : List Ct) : Prop :=
 (decide (t.length ≤ 10000) && decide ((scanN (t ++ [10])).1 = 0) && decide ((scanN (t ++ [10])).2.length ≤ 1000000) && (bare (scanN (t ++ [10])).2).all ok && decide (clsL cls (bare (scanN (t ++ [10])).2) = (C, true))) = true
theorem toks_is {cls : Nat → Bs → Option Ct} {ok : Tk → Bool} (hok : ∀ x, ok x = true → ClsOk x.kind x.text (cls x.kind x.text)) {t : Bs} {C : List Ct} (h : TxtIs cls ok t C) (w : World) (hm : Mx w) :
  Calls Tryz.prog 28 #[.string (str t)] w fun e w' => ∃ v, e = .returned v ∧ Below w.heap.size w w' ∧ w'.ownsRow w.heap.size 54 2 v C.length (C.flatMap ctC) := by
 unfold TxtIs at h
 simp only [Bool.and_eq_true, decide_eq_true_eq, List.all_eq_true, ← scanN_eq] at h
 obtain ⟨⟨⟨⟨h1, h2⟩, h3⟩, h4⟩, h5⟩ := h
 exact toksF cls t C w hm h1 h2 h3 (fun x hx => hok x (h4 x hx)) h5
def ok1 (x : Tk) : Bool := decide (x.kind = 1 ∨ x.kind = 5)
theorem ok1_ok (x : Tk) (h : ok1 x = true) : ClsOk x.kind x.text (cls1 x.kind x.text) := cls1_ok (of_decide_eq_true h)
def intX : List Ct := [⟨1, [105, 110, 116]⟩, ⟨2, [120]⟩, ⟨7, [59]⟩]
theorem intX_is : TxtIs cls1 ok1 [105, 110, 116, 32, 120, 59] intX := by
 unfold TxtIs
 decide +kernel
end Go.Proofs.YtlboejdhmggjpaaGreat.Ct

/- WtE -/
namespace Go.Proofs.YtlboejdhmggjpaaGreat.Pp
set_option maxRecDepth 100000
set_option maxHeartbeats 16000000
open Go.RowKit Go.BigFrame Go.Proofs.YtlboejdhmggjpaaGreat

def intXP : List Nd := [⟨1, 0, 3, 5⟩, ⟨3, 0, 3, 4⟩, ⟨5, 0, 1, 1⟩, ⟨13, 1, 2, 2⟩, ⟨14, 1, 2, 1⟩]
theorem intX_parse : parseP Ct.intX (fun _ => false) = some intXP := by decide +kernel
theorem intX_deep : deepL Ct.intX 0 = false := by decide +kernel
theorem nd_eq (a b c d : Int) (w : World) : (binOp .eql 38 (.agg #[.int .i64 a, .int .i64 b, .int .i64 c, .int .i64 d]) (.agg #[.int .i64 a, .int .i64 b, .int .i64 c, .int .i64 d])).run Tryz.prog w = .ok (.bool true) w := by
 simp [go_sem]
theorem wk_alive (w : World) (hm : Ww.Mx w) : Calls Tryz.prog 24 #[] w fun e w' => e = .returned (.bool true) ∧ Below w.heap.size w w' := by
 have ht := Ct.toks_is Ct.ok1_ok Ct.intX_is w hm
 have HT := Lib.hid ht
 have NE := nd_eq
 have hb0 : Tryz.prog.built 38 [(0, Value.int .i64 1), (2, Value.int .i64 3), (3, Value.int .i64 5)] = some #[.int .i64 1, .int .i64 0, .int .i64 3, .int .i64 5] := by kernel_rfl
 have hb1 : Tryz.prog.built 38 [(0, Value.int .i64 3), (2, Value.int .i64 3), (3, Value.int .i64 4)] = some #[.int .i64 3, .int .i64 0, .int .i64 3, .int .i64 4] := by kernel_rfl
 have hb2 : Tryz.prog.built 38 [(0, Value.int .i64 5), (2, Value.int .i64 1), (3, Value.int .i64 1)] = some #[.int .i64 5, .int .i64 0, .int .i64 1, .int .i64 1] := by kernel_rfl
 have hb3 : Tryz.prog.built 38 [(0, Value.int .i64 13), (1, Value.int .i64 1), (2, Value.int .i64 2), (3, Value.int .i64 2)] = some #[.int .i64 13, .int .i64 1, .int .i64 2, .int .i64 2] := by kernel_rfl
 have hb4 : Tryz.prog.built 38 [(0, Value.int .i64 14), (1, Value.int .i64 1), (2, Value.int .i64 2), (3, Value.int .i64 1)] = some #[.int .i64 14, .int .i64 1, .int .i64 2, .int .i64 1] := by kernel_rfl
 clear ht hm
 go_enter Tryz.func24, Tryz.ntmps24
 go_wp2_with fail
 rw [show (⟨#[105, 110, 116, 32, 120, 59]⟩ : ByteArray) = str [105, 110, 116, 32, 120, 59] from rfl]
 refine HT.out.mono ?_
 rintro e w1 ⟨v, rfl, hb1, hown⟩
 obtain ⟨a, c, rfl⟩ := row_shape hown
 have hp := wk_Parse Ct.intX a c w1 (Ct.own_rowAt (n := 2) (f := ctC) (fun _ => rfl) hown) (by decide) (fun t ht => by
  unfold maxLen
  have : ∀ t ∈ Ct.intX, t.t.length ≤ 3 := by decide
  have := this t ht
  omega)
 have HP := Lib.hid hp
 have HB1 := Lib.hid hb1
 clear hp hb1 hown
 go_wp2_with fail
 refine HP.out.mono ?_
 rintro e w2 ⟨v2, z, rfl, hb2, h⟩
 rcases h with ⟨h, -⟩ | ⟨-, h, -⟩ | ⟨P, -, h, rfl, hown2⟩
 ·rw [intX_deep] at h; cases h
 ·rw [intX_parse] at h; cases h
 rw [intX_parse] at h
 cases h
 obtain ⟨g, cc, rfl, hg1, hg2, hg3⟩ := row_block hown2 (by decide)
 have hrow := Ct.own_rowAt (n := 4) (f := ndC) (fun _ => rfl) hown2
 have HC := Lib.hid (show ∀ (i : Nat) (n : Nd), intXP[i]? = some n → CellsAt w2 g (i * 4) (ndC n) from fun i n hi => by
  obtain ⟨b, off, he, h1, h2⟩ := hrow.at (by decide)
  cases he
  obtain ⟨hi', rfl⟩ := List.getElem?_eq_some_iff.1 hi
  have := h2 i hi'
  rwa [Nat.zero_add] at this)
 have HB2 := Lib.hid hb2
 have hlen : intXP.length = 5 := rfl
 rw [hlen]
 clear hown2 hg1 hg2 hg3 hrow hb2 hlen
 have q00 : w2.cell? ⟨g, 0, none⟩ = some (.int .i64 1) := HC.out 0 _ rfl 0 _ rfl
 have q01 : w2.cell? ⟨g, 1, none⟩ = some (.int .i64 0) := HC.out 0 _ rfl 1 _ rfl
 have q02 : w2.cell? ⟨g, 2, none⟩ = some (.int .i64 3) := HC.out 0 _ rfl 2 _ rfl
 have q03 : w2.cell? ⟨g, 3, none⟩ = some (.int .i64 5) := HC.out 0 _ rfl 3 _ rfl
 have q10 : w2.cell? ⟨g, 4, none⟩ = some (.int .i64 3) := HC.out 1 _ rfl 0 _ rfl
 have q11 : w2.cell? ⟨g, 5, none⟩ = some (.int .i64 0) := HC.out 1 _ rfl 1 _ rfl
 have q12 : w2.cell? ⟨g, 6, none⟩ = some (.int .i64 3) := HC.out 1 _ rfl 2 _ rfl
 have q13 : w2.cell? ⟨g, 7, none⟩ = some (.int .i64 4) := HC.out 1 _ rfl 3 _ rfl
 have q20 : w2.cell? ⟨g, 8, none⟩ = some (.int .i64 5) := HC.out 2 _ rfl 0 _ rfl
 have q21 : w2.cell? ⟨g, 9, none⟩ = some (.int .i64 0) := HC.out 2 _ rfl 1 _ rfl
 have q22 : w2.cell? ⟨g, 10, none⟩ = some (.int .i64 1) := HC.out 2 _ rfl 2 _ rfl
 have q23 : w2.cell? ⟨g, 11, none⟩ = some (.int .i64 1) := HC.out 2 _ rfl 3 _ rfl
 have q30 : w2.cell? ⟨g, 12, none⟩ = some (.int .i64 13) := HC.out 3 _ rfl 0 _ rfl
 have q31 : w2.cell? ⟨g, 13, none⟩ = some (.int .i64 1) := HC.out 3 _ rfl 1 _ rfl
 have q32 : w2.cell? ⟨g, 14, none⟩ = some (.int .i64 2) := HC.out 3 _ rfl 2 _ rfl
 have q33 : w2.cell? ⟨g, 15, none⟩ = some (.int .i64 2) := HC.out 3 _ rfl 3 _ rfl
 have q40 : w2.cell? ⟨g, 16, none⟩ = some (.int .i64 14) := HC.out 4 _ rfl 0 _ rfl
 have q41 : w2.cell? ⟨g, 17, none⟩ = some (.int .i64 1) := HC.out 4 _ rfl 1 _ rfl
 have q42 : w2.cell? ⟨g, 18, none⟩ = some (.int .i64 2) := HC.out 4 _ rfl 2 _ rfl
 have q43 : w2.cell? ⟨g, 19, none⟩ = some (.int .i64 1) := HC.out 4 _ rfl 3 _ rfl
 clear HC
 go_wp2_with fail
 go_ret
 exact ⟨rfl, HB1.out.trans (HB2.out.mono HB1.out.size)⟩
end Go.Proofs.YtlboejdhmggjpaaGreat.Pp

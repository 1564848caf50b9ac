/- parse: newNames; a parser at its start. -/
import Derived.Test.YtlboejdhmggjpaaGreatWnI
import Derived.Test.YtlboejdhmggjpaaGreatWnF
import Derived.Test.YtlboejdhmggjpaaGreatPbA
import Derived.Test.YtlboejdhmggjpaaGreatWnC
import Derived.Test.YtlboejdhmggjpaaGreatMon
set_option linter.all false
namespace Go.Proofs.YtlboejdhmggjpaaGreat.Pp
set_option maxRecDepth 100000
set_option maxHeartbeats 16000000
open Go.RowKit Go.BigFrame Go.Proofs.YtlboejdhmggjpaaGreat

abbrev nilS : Value := .slice none 0 0
theorem wk_newNames (sp : Value) (hsp : ∃ a, sp = .pointer a) (w : World) : Calls Tryz.prog 30 #[sp] w fun e w' => ∃ m, e = .returned (.agg #[sp, .map (some m), nilS, nilS]) ∧ w.heap.size ≤ m ∧ w'.ownsMap Tryz.prog 9 rawR m 0 (.map []) ∧ Below w.heap.size w w' := by
 obtain ⟨a, rfl⟩ := hsp
 have hmm := @run_makeMap Tryz.prog
 have hbt : ∀ m, (Tryz.prog.built 72 [(0, Value.pointer a), (1, Value.map (some m))]) = some #[.pointer a, .map (some m), nilS, nilS] := fun m => by kernel_rfl
 go_enter Tryz.func30, Tryz.ntmps30
 go_wp2_with (refine wpList_build rfl 72 _ rfl (by simp [Act.eval, hbt]) ?_)
 have h0 : ((w.alloc (.cells #[.pointer a, .map (some (w.heap.size + 1)), nilS, nilS] 72)).alloc (.map #[] 0)).heap[w.heap.size]? = some (.cells #[.pointer a, .map (some (w.heap.size + 1)), nilS, nilS] 72 (0, 0)) := by rw [Lib.alloc_old _ _ _ (by simp)]; exact new_cells _ _ _
 have c0 : ((w.alloc (.cells #[.pointer a, .map (some (w.heap.size + 1)), nilS, nilS] 72)).alloc (.map #[] 0)).cell? ⟨w.heap.size, 0, none⟩ = some (.pointer a) := by simp [World.cell?, h0]
 have c1 : ((w.alloc (.cells #[.pointer a, .map (some (w.heap.size + 1)), nilS, nilS] 72)).alloc (.map #[] 0)).cell? ⟨w.heap.size, 1, none⟩ = some (.map (some (w.heap.size + 1))) := by simp [World.cell?, h0]
 have c2 : ((w.alloc (.cells #[.pointer a, .map (some (w.heap.size + 1)), nilS, nilS] 72)).alloc (.map #[] 0)).cell? ⟨w.heap.size, 2, none⟩ = some nilS := by simp [World.cell?, h0]
 have c3 : ((w.alloc (.cells #[.pointer a, .map (some (w.heap.size + 1)), nilS, nilS] 72)).alloc (.map #[] 0)).cell? ⟨w.heap.size, 3, none⟩ = some nilS := by simp [World.cell?, h0]
 have hm := World.ownsMap_made (w.alloc (.cells #[.pointer a, .map (some (w.heap.size + 1)), nilS, nilS] 72)) Tryz.prog 9 rawR
 have hb : Below w.heap.size w ((w.alloc (.cells #[.pointer a, .map (some (w.heap.size + 1)), nilS, nilS] 72)).alloc (.map #[] 0)) := ((Below.refl _ w).alloc (Nat.le_refl _) _).alloc (by simp) _
 rw [World.size_alloc] at hm
 obtain ⟨W, hW⟩ : ∃ W, W = (w.alloc (.cells #[.pointer a, .map (some (w.heap.size + 1)), nilS, nilS] 72)).alloc (.map #[] 0) := ⟨_, rfl⟩
 rw [← hW] at c0 c1 c2 c3 hm hb
 rw [← hW]
 clear hW h0
 refine bodyPost_ret (v := .agg #[.pointer a, .map (some (w.heap.size + 1)), nilS, nilS]) ?_ rfl ⟨w.heap.size + 1, rfl, Nat.le_add_right _ _, hm, hb⟩
 have hl : (loadVar 72 ⟨w.heap.size, 0, none⟩).run Tryz.prog W = .ok (.agg #[.pointer a, .map (some (w.heap.size + 1)), nilS, nilS]) W :=
  run_loadVar_at W w.heap.size 0 72 [.pointer a, .map (some (w.heap.size + 1)), nilS, nilS] _ (fun j v hv => by
   match j, hv with
   | 0, hv => cases hv; exact c0
   | 1, hv => cases hv; exact c1
   | 2, hv => cases hv; exact c2
   | 3, hv => cases hv; exact c3
   | j + 4, hv => simp at hv) Tryz.underlying72 rfl (by kernel_rfl)
 simp [results, Tryz.results30, go_sem, hl, c0, c1, c2, c3]
theorem Nm.made {w : World} {m : Nat} (h : w.ownsMap Tryz.prog 9 rawR m 0 (.map [])) : Nm w m [] := ⟨0, .map [], h, fun x => ⟨fun z => rfl, rfl⟩⟩
theorem PX.start {E : En} {w : World} {mb : Nat} (hE : E.ok) (hbel : Below E.X E.w0 w) (hbox : w.heap[E.pb]? = some (.cells #[.slice E.la E.L.length E.lc, .int .i64 0, nilS, E.sp, .map (some mb), nilS, nilS] 75 (0, 0))) (hm : w.ownsMap Tryz.prog 9 rawR mb 0 (.map [])) (hmx : E.X ≤ mb) : PX E w s0 nilS nilS nilS mb where
 bel := hbel
 box := hbox
 dn := World.ownsRow_nil _ _ _ _
 ch := World.ownsRow_nil _ _ _ _
 bl := World.ownsRow_nil _ _ _ _
 mp := Nm.made hm
 mx := hmx
 le := Nat.zero_le _
 tx := fun p h => by simp [s0] at h
 cb := Nat.zero_le _
 bb := Nat.zero_le _
theorem PX.set {E : En} {w : World} {s : Ps} {vd vc vb : Value} {mb k i : Nat} {cs : Array Value} {t : TypeId} {fz : Nat × Nat} {v : Value} (h : PX E w s vd vc vb mb) (hX : E.X ≤ k) (hk : w.heap[k]? = some (.cells cs t fz)) (ht : own4 t = false) : PX E (w.setCell ⟨k, i, none⟩ v) s vd vc vb mb := by
 have ho : ∀ (j : Nat) (o : Obj), w.heap[j]? = some o → (∀ cs, o ≠ .cells cs t fz) → (w.setCell ⟨k, i, none⟩ v).heap[j]? = some o := fun j o hj hn => by
  rw [Below.heap_setCell _ _ _ _ (fun e => by subst e; rw [hk] at hj; cases hj; exact hn cs rfl)]
  exact hj
 have hne : ∀ (e : TypeId), own4 e = true → ∀ (j : Nat) (cur : Array Value), w.heap[j]? = some (.cells cur e (0, 0)) → (w.setCell ⟨k, i, none⟩ v).heap[j]? = some (.cells cur e (0, 0)) := fun e he j cur hj => ho j _ hj (fun cs hh => by
  cases hh
  rw [ht] at he; cases he)
 exact ⟨h.bel.setCell hX _, hne 75 rfl _ _ h.box, ownsRow_of h.dn (fun g cur hg => hne 38 rfl g cur hg), ownsRow_of h.ch (fun g cur hg => hne 132 rfl g cur hg), ownsRow_of h.bl (fun g cur hg => hne 3 rfl g cur hg), (by
  obtain ⟨n, D, h1, h2⟩ := h.mp
  exact ⟨n, D, ownsMap_of h1 fun es c hg => ho _ _ hg (fun cs hh => by cases hh), h2⟩), h.mx, h.le, h.tx, h.cb, h.bb⟩
theorem PW.set {E : En} {w : World} {s : Ps} {k i : Nat} {cs : Array Value} {t : TypeId} {fz : Nat × Nat} {v : Value} (h : PW E w s) (hX : E.X ≤ k) (hk : w.heap[k]? = some (.cells cs t fz)) (ht : own4 t = false) : PW E (w.setCell ⟨k, i, none⟩ v) s := by
 obtain ⟨vd, vc, vb, mb, h⟩ := h
 exact ⟨vd, vc, vb, mb, h.set hX hk ht⟩
end Go.Proofs.YtlboejdhmggjpaaGreat.Pp

/- WnH -/
namespace Go.Proofs.YtlboejdhmggjpaaGreat.Pp
set_option maxRecDepth 100000
set_option maxHeartbeats 16000000
open Go.RowKit Go.BigFrame Go.Proofs.YtlboejdhmggjpaaGreat

def parseP (L : List Ct) (base : Bs → Bool) : Option (List Nd) :=
 match run L base (fu L) .unit s0 with
 | .ok _ s => some (aheadP s.done)
 | _ => none
def PrsPost (L : List Ct) (w : World) (e : Ending) (w' : World) : Prop :=
 ∃ v z, e = .returned (.tuple #[v, .int .i64 z]) ∧ Below w.heap.size w w' ∧
  ((deepL L 0 = true ∧ v = nilS ∧ z = 111) ∨ (deepL L 0 = false ∧ parseP L (fun _ => false) = none ∧ v = nilS ∧ z = 110) ∨
   (∃ P, deepL L 0 = false ∧ parseP L (fun _ => false) = some P ∧ z = 0 ∧ w'.ownsRow w.heap.size 38 4 v P.length (P.flatMap ndC)))
theorem own_ext {W w w' : World} {A n : Nat} {F : List Sp.Frm} (h : Sp.Own W A n F w) (hb : Below w.heap.size w w') : Sp.Own W A n F w' := by
 obtain ⟨S, h1, h2, h3⟩ := h
 exact ⟨S, Sp.Sco.keep (T := fun _ => False) h1 (Mod.of_below hb) (fun _ _ h => h), h2, h3.trans (hb.mono h3.size)⟩
theorem isTy_nil (x : ByteArray) : Sp.isTy [[]] x = false := rfl
theorem wk_Parse (L : List Ct) (la : Option Addr) (lc : Nat) (w : World) (hrow : RowAt 2 ctC w la L) (hl : L.length ≤ 100000) (htx : ∀ t ∈ L, t.t.length ≤ maxLen) : Calls Tryz.prog 10 #[.slice la L.length lc] w (PrsPost L w) := by
 have htd := wk_tooDeep L la lc w hrow hl
 have HTD := Hh htd
 have HROW := Hh hrow
 have HTX := Hh htx
 have HL := Hh hl
 obtain ⟨NL, hN⟩ : ∃ NL, L.length = NL := ⟨_, rfl⟩
 have HN := Hh hN
 rw [hN]
 obtain ⟨R, hR⟩ : ∃ R, R = PrsPost L w := ⟨_, rfl⟩
 rw [← hR]
 have HR := Hh hR
 clear htd hrow htx hl hN hR
 have hbt : ∀ (A m : Nat), (Tryz.prog.built 75 [(0, Value.slice la NL lc), (3, .agg #[.pointer (some ⟨A, 0, none⟩), .map (some m), nilS, nilS])]) = some #[.slice la NL lc, .int .i64 0, nilS, .pointer (some ⟨A, 0, none⟩), .map (some m), nilS, nilS] := fun A m => by kernel_rfl
 go_enter Tryz.func10, Tryz.ntmps10
 go_wp2_with fail
 rw [← HN.out]
 refine HTD.out.mono ?_
 rw [HN.out]
 rintro e w1 ⟨rfl, hb1⟩
 have HB1 := Hh hb1
 clear hb1
 obtain ⟨D, hD⟩ : ∃ D, deepL L 0 = D := ⟨_, rfl⟩
 rw [hD]
 have HD := Hh hD
 clear hD
 cases D
 ·go_wp2_with fail
  refine (Sp.Ow.new w w1 HB1.out).mono ?_
  rintro e w2 ⟨A, rfl, hown⟩
  have HO := Hh hown
  clear hown
  go_wp2_with fail
  refine (wk_newNames _ ⟨_, rfl⟩ w2).mono ?_
  rintro e w3 ⟨m, rfl, hm1, hm2, hb3⟩
  have HM1 := Hh hm1
  have HM2 := Hh hm2
  have HB3 := Hh hb3
  clear hm1 hm2 hb3
  go_wp2_with (first | (refine wpList_build rfl 75 _ rfl (by simp [Act.eval, hbt]) ?_) | fail)
  obtain ⟨pb, hpb⟩ : ∃ b, w3.heap.size = b := ⟨_, rfl⟩
  obtain ⟨W5, hW5⟩ : ∃ W5, W5 = (w3.alloc (.cells #[.slice la NL lc, .int .i64 0, nilS, .pointer (some ⟨A, 0, none⟩), .map (some m), nilS, nilS] 75)).alloc (.cells #[.pointer (some ⟨w3.heap.size, 0, none⟩)] 68) := ⟨_, rfl⟩
  have hb5 : Below w3.heap.size w3 W5 := by rw [hW5]; exact ((Below.refl _ w3).alloc (Nat.le_refl _) _).alloc (by simp) _
  have h75 : W5.heap[pb]? = some (.cells #[.slice la NL lc, .int .i64 0, nilS, .pointer (some ⟨A, 0, none⟩), .map (some m), nilS, nilS] 75 (0, 0)) := by rw [hW5, ← hpb, Lib.alloc_old _ _ _ (by simp)]; exact new_cells _ _ _
  have h68 : W5.heap[pb + 1]? = some (.cells #[.pointer (some ⟨pb, 0, none⟩)] 68 (0, 0)) := by
   rw [hW5, ← hpb]
   have := new_cells (w3.alloc (.cells #[.slice la NL lc, .int .i64 0, nilS, .pointer (some ⟨A, 0, none⟩), .map (some m), nilS, nilS] 75)) #[.pointer (some ⟨w3.heap.size, 0, none⟩)] 68
   simpa using this
  have hs5 : W5.heap.size = pb + 2 := by rw [hW5, ← hpb]; simp
  rw [← hW5, hpb]
  clear hW5
  obtain ⟨W6, hW6⟩ : ∃ W6, W6 = W5.alloc (.cells #[.bool false] 4) := ⟨_, rfl⟩
  have hb6 : Below W5.heap.size W5 W6 := by rw [hW6]; exact below_alloc _ _
  have hb3 := HB3.out
  have ho := HO.out
  have hs3 : w2.heap.size ≤ pb := by rw [← hpb]; exact hb3.size
  obtain ⟨E, hE0⟩ : ∃ E : En, E = { X := w2.heap.size, pb := pb, la := la, lc := lc, L := L, sp := .pointer (some ⟨A, 0, none⟩), base := fun _ => false, w0 := w2 } := ⟨_, rfl⟩
  have hX : E.X = w2.heap.size := by rw [hE0]
  have hw0 : E.w0 = w2 := by rw [hE0]
  have hpbE : E.pb = pb := by rw [hE0]
  have hLE : E.L = L := by rw [hE0]
  have hbE : E.base = fun _ => false := by rw [hE0]
  have hE : E.ok := by
   subst hE0
   refine ⟨rfl, hs3, HROW.out.below ho.below (Nat.le_refl _) ho.below.size, HL.out, HTX.out, fun w' x hb hx => ?_⟩
   refine (Sp.Ow.isType w A 0 [[]] (str x) w' (own_ext ho hb) (by simpa using hx) (by simp)).mono ?_
   rintro e w'' ⟨rfl, rfl⟩
   exact ⟨rfl, Below.refl _ _⟩
  have hb26 : Below w2.heap.size w2 W6 := (hb3.trans (hb5.mono hb3.size)).trans (hb6.mono (by omega))
  have hpx : PW E W6 s0 := ⟨nilS, nilS, nilS, m, PX.start hE (by rw [hX, hw0]; exact hb26) (by
   rw [hpbE]
   subst hE0
   rw [show L.length = NL from HN.out]
   exact heap_below hb6 h75 (by omega)) (ownsMap_of HM2.out fun es c hg => heap_below hb6 (heap_below hb5 hg (Array.getElem?_eq_some_iff.1 hg).1) (by have := (Array.getElem?_eq_some_iff.1 hg).1; omega)) (by rw [hX]; exact HM1.out)⟩
  obtain ⟨hne, hun⟩ := unit_good L (fun _ => false)
  have hun2 := w_unit hE (fu L) (pb + 1) s0 W6 ⟨rfl, rfl⟩ (by rw [hpbE]; exact heap_below hb6 h68 (by omega)) hpx (by rw [hLE, hbE]; exact hne)
  rw [hLE, hbE, hW6] at hun2
  have hfit := fits31 (pb + 1) W5 (A := fun W' => ∃ v s', run L (fun _ => false) (fu L) .unit s0 = .ok v s' ∧ PW E W' s') (Bd := fun W' => run L (fun _ => false) (fu L) .unit s0 = .no ∧ Below E.X E.w0 W') (hun2.mono fun e W' he => by
   cases hr : run L (fun _ => false) (fu L) .unit s0 with
   | out => exact absurd hr hne
   | ok v s' =>
    rw [hr] at he
    obtain ⟨y, rfl, rfl, h3, h4⟩ := he
    exact ⟨h4, .inl ⟨rfl, v, s', rfl, h3⟩⟩
   | no =>
    rw [hr] at he
    exact ⟨he.2.2, .inr ⟨he.1, rfl, he.2.1⟩⟩)
  have HFIT := Hh hfit
  have HE := Hh hE
  have HXE := Hh hX
  have HW0 := Hh hw0
  have HPBE := Hh hpbE
  have HUN := Hh hun
  have HS3 := Hh hs3
  have HS5 := Hh hs5
  have H68 := Hh h68
  have HW6 := Hh hW6
  have HWX := Hh (show w.heap.size ≤ E.X from by rw [hX]; exact ho.below.size)
  have HBW := Hh (show Below w.heap.size w w2 from ho.below)
  clear hpb hb5 h75 h68 hs5 hb6 hb3 ho hs3 hE0 hX hw0 hpbE hLE hbE hE hb26 hpx hne hun hun2 hfit hW6
  refine HFIT.out.mono ?_
  rintro e W7 (⟨W', ⟨v, s', hrun, hpw⟩, hk, rfl, rfl⟩ | ⟨W', z, ⟨hrun, hbel⟩, hk, rfl, rfl⟩)
  ·have hkW : W'.heap[W5.heap.size]? = some (.cells #[.bool false] 4 (0, 0)) := hk.cells _ _ 4 _ rfl (new_cells _ _ _)
   have h68' : W'.heap[pb + 1]? = some (.cells #[.pointer (some ⟨pb, 0, none⟩)] 68 (0, 0)) := hk.cells _ _ 68 _ rfl (by rw [Lib.alloc_old _ _ _ (by rw [HS5.out]; omega)]; exact H68.out)
   obtain ⟨ht, -, -⟩ := HUN.out _ _ hrun
   have hpw2 := hpw.set (k := W5.heap.size) (i := 0) (v := .bool true) (by have := HS5.out; have := HS3.out; have := HXE.out; omega) hkW rfl
   obtain ⟨vd, vc, vb, mb, hx⟩ := hpw2
   obtain ⟨-, -, x2, -⟩ := hx.cell
   rw [HPBE.out] at x2
   obtain ⟨ha, hpos, hfp, hlen, -⟩ := ht.ahead
   obtain ⟨g, lc2, hvd, hg1, hg2, hg3⟩ := row_block hx.dn hpos
   have hdn := hx.dn
   have hbelW := hx.bel
   rw [hvd] at x2 hdn
   have hpp : parseP L (fun _ => false) = some (aheadP s'.done) := by unfold parseP; rw [hrun]
   obtain ⟨W8, hW8⟩ : ∃ W8, W8 = W'.setCell ⟨W5.heap.size, 0, none⟩ (.bool true) := ⟨_, rfl⟩
   rw [← hW8] at x2 hdn hbelW hg2 ⊢
   have c68 : W8.cell? ⟨pb + 1, 0, none⟩ = some (.pointer (some ⟨pb, 0, none⟩)) := by
    rw [hW8]
    have : (W'.setCell ⟨W5.heap.size, 0, none⟩ (.bool true)).heap[pb + 1]? = _ := (Below.heap_setCell _ _ _ _ (by show pb + 1 ≠ W5.heap.size; rw [HS5.out]; omega)).trans h68'
    simp [World.cell?, this]
   have hXW : E.X ≤ W8.heap.size := by have := hbelW.size; have := HXE.out; have := HW0.out; rw [HW0.out] at hbelW; have := hbelW.size; omega
   have hah := wk_ahead s'.done E.X g lc2 W8 hXW hdn hpos (by have := ht.len; have := HL.out; omega) ha
   obtain ⟨nd, hnd⟩ : ∃ nd, s'.done.length = nd := ⟨_, rfl⟩
   rw [hnd] at x2 hah
   have HAH := Hh hah
   have HPP := Hh hpp
   have HBL := Hh hbelW
   have HLEN := Hh hlen
   have HND := Hh hnd
   have HXW := Hh hXW
   clear hkW h68' ht hx ha hpos hfp hlen hg1 hg2 hg3 hdn hbelW hvd hpp hW8 hah hrun hpw hk hXW hnd
   go_wp2_with fail
   refine HAH.out.mono ?_
   rintro e w9 ⟨v9, rfl, hv9, hb9⟩
   have HV9 := Hh hv9
   have HB9 := Hh hb9
   clear hv9 hb9
   go_wp2_with fail
   rw [HR.out]
   have hbl := HBL.out
   rw [HXE.out, HW0.out] at hbl
   have hs1 := HBW.out.size
   have hb8 : Below w.heap.size w W8 := HBW.out.trans (hbl.mono hs1)
   refine ⟨v9, 0, rfl, hb8.trans (HB9.out.mono hb8.size), .inr (.inr ⟨aheadP s'.done, HD.out, HPP.out, rfl, ?_⟩)⟩
   rw [HLEN.out, HND.out]
   have q := HV9.out
   exact own_base q hb8.size
  ·have hpp : parseP L (fun _ => false) = none := by unfold parseP; rw [hrun]
   have hkW : W'.heap[W5.heap.size]? = some (.cells #[.bool false] 4 (0, 0)) := hk.cells _ _ 4 _ rfl (new_cells _ _ _)
   have HPP := Hh hpp
   have HBL := Hh hbel
   clear hpp hbel hrun hk hkW
   go_wp2_with fail
   rw [HR.out]
   have hbl := HBL.out
   rw [HXE.out, HW0.out] at hbl
   have hs1 := HBW.out.size
   have hs5 := HS5.out
   have hs3 := HS3.out
   have hbw : Below w.heap.size w W' := HBW.out.trans (hbl.mono hs1)
   exact ⟨nilS, 110, rfl, (hbw.setCell (p := ⟨W5.heap.size, 0, none⟩) (by show w.heap.size ≤ W5.heap.size; omega) _).alloc (by simpa using hbw.size) _, .inr (.inl ⟨HD.out, HPP.out, rfl, rfl⟩)⟩
 ·go_wp2_with fail
  rw [HR.out]
  exact ⟨_, _, rfl, HB1.out, .inl ⟨HD.out, rfl, rfl⟩⟩
end Go.Proofs.YtlboejdhmggjpaaGreat.Pp

/- WnJ -/
namespace Go.Proofs.YtlboejdhmggjpaaGreat.Pp
open Go.RowKit Go.BigFrame Go.Proofs.YtlboejdhmggjpaaGreat
set_option linter.unusedVariables false

def declF (F : List Sp.Frm) (ds : List (Bs × Bool)) : List Sp.Frm := ds.foldl (fun F d => if (str d.1).size = 0 then F else Sp.declare F (str d.1) d.2) F
theorem declF_snoc (F : List Sp.Frm) (ds : List (Bs × Bool)) (d : Bs × Bool) : declF F (ds ++ [d]) = if (str d.1).size = 0 then declF F ds else Sp.declare (declF F ds) (str d.1) d.2 := by
  unfold declF; rw [List.foldl_append]; rfl
theorem setF_len : ∀ (f : Sp.Frm) (x : ByteArray) (t : Bool), (Sp.setF f x t).length ≤ f.length + 1
  | [], x, t => by simp [Sp.setF]
  | p :: f, x, t => by
    unfold Sp.setF
    split
    · simp
    · have := setF_len f x t; simp; omega
theorem declare_len {F : List Sp.Frm} (h0 : F ≠ []) (x : ByteArray) (t : Bool) : (Sp.declare F x t).length = F.length := by
  unfold Sp.declare
  rw [List.length_append, List.length_dropLast, List.length_singleton]
  have := List.length_pos_iff.2 h0
  omega
theorem declare_frm {F : List Sp.Frm} {B : Nat} (h : ∀ f ∈ F, f.length ≤ B) (x : ByteArray) (t : Bool) : ∀ f ∈ Sp.declare F x t, f.length ≤ B + 1 := by
  intro f hf
  unfold Sp.declare at hf
  rcases List.mem_append.1 hf with hf | hf
  · exact Nat.le_succ_of_le (h f (List.dropLast_subset _ hf))
  · rw [List.mem_singleton.1 hf]
    refine Nat.le_trans (setF_len _ _ _) ?_
    have : (F.getLastD []).length ≤ B := by
      cases hF : F with
      | nil => exact Nat.zero_le _
      | cons a r =>
        rw [← hF]
        have hne : F ≠ [] := by rw [hF]; simp
        rw [List.getLastD_eq_getLast?, List.getLast?_eq_some_getLast hne]
        exact h _ (List.getLast_mem hne)
    omega
theorem declF_ok : ∀ (ds : List (Bs × Bool)) (F : List Sp.Frm) (B : Nat), F ≠ [] → (∀ f ∈ F, f.length ≤ B) → (declF F ds).length = F.length ∧ ∀ f ∈ declF F ds, f.length ≤ B + ds.length
  | [], F, B, h0, h => ⟨rfl, h⟩
  | d :: r, F, B, h0, h => by
    by_cases hz : (str d.1).size = 0
    · have e : declF F (d :: r) = declF F r := by unfold declF; rw [List.foldl_cons, if_pos hz]
      obtain ⟨a, b⟩ := declF_ok r F B h0 h
      rw [e]
      exact ⟨a, fun f hf => Nat.le_trans (b f hf) (by simp)⟩
    · have e : declF F (d :: r) = declF (Sp.declare F (str d.1) d.2) r := by unfold declF; rw [List.foldl_cons, if_neg hz]
      have hl := declare_len h0 (str d.1) d.2
      obtain ⟨a, b⟩ := declF_ok r _ (B + 1) (fun e => by rw [e] at hl; exact h0 (List.length_eq_zero_iff.1 hl.symm)) (declare_frm h (str d.1) d.2)
      rw [e]
      exact ⟨by rw [a, hl], fun f hf => Nat.le_trans (b f hf) (by simp; omega)⟩
/-- A scope's blocks are cells, or its map. -/
theorem Sco.tight {w : World} {A n : Nat} {S : Nat → Prop} {F : List Sp.Frm} (h : Sp.Sco w A n S F) : ∃ S', Sp.Sco w A n S' F ∧ (∀ k, S' k → S k) ∧ ∀ k, S' k → ¬ nk w k := by
  obtain ⟨M, vB, vs, mv, D, h1, h2, h3⟩ := h
  have hc : ∀ {k : Nat} {cs : Array Value} {t : TypeId} {fz : Nat × Nat}, w.heap[k]? = some (.cells cs t fz) → ¬ nk w k := fun {k cs t fz} hk hn => by
    obtain ⟨o, ho, hc, -⟩ := hn
    rw [hk] at ho; cases ho; cases hc
  have hr : ∀ {b e s n k : Nat} {v : Value} {x : List Value}, w.ownsRow b e s v n x → v.ownBlock = some k → ¬ nk w k := fun {b e s n k v x} hh hk => by
    obtain ⟨_, cur, hg⟩ := row_cells hh hk
    exact hc hg
  refine ⟨Sp.foot A M vB vs mv, ⟨M, vB, vs, mv, D, h1, fun k hk => hk, fun k hk => h3 k (h2 k hk)⟩, h2, fun k hk => ?_⟩
  rcases hk with rfl | rfl | hk | ⟨i, hk⟩ | ⟨x, hk⟩
  · exact hc h1.hd
  · obtain ⟨es, c, hb, _⟩ := h1.mp
    rintro ⟨o, ho, -, hm⟩
    rw [hb] at ho; cases ho; cases hm
  · exact hr h1.brow hk
  · by_cases hi : i < F.length
    · exact hr (h1.vrow i hi) hk
    · rw [List.getD_eq_getElem?_getD, List.getElem?_eq_none (by rw [h1.vs_len]; omega)] at hk
      simp [Value.ownBlock] at hk
  · exact hr (h1.mrow x) hk
/-- A scope amid the declaring. -/
structure ExI (A n : Nat) (S : Nat → Prop) (F : List Sp.Frm) (V : World) (pre : List (Bs × Bool)) (W : World) : Prop where
  sc : ∃ S', Sp.Sco W A (n + pre.length) S' (declF F pre) ∧ (∀ k, S' k → S k ∨ V.heap.size ≤ k) ∧ ∀ k, S' k → ¬ nk W k
  md : Mod S V W
theorem ExI.keep {A n : Nat} {S : Nat → Prop} {F : List Sp.Frm} {V : World} {pre : List (Bs × Bool)} {X : Nat → Prop} {W W' : World} {B : Nat} (h : ExI A n S F V pre W) (hX : ∀ k, ¬ X k) (hB : V.heap.size ≤ B) (hm : Mod (fun k => X k ∨ (B ≤ k ∧ nk W k)) W W') : ExI A n S F V pre W' := by
  obtain ⟨⟨S', h1, h2, h3⟩, hmd⟩ := h
  have hn : ∀ k, S' k → ¬ (X k ∨ (B ≤ k ∧ nk W k)) := fun k hk e => by
    rcases e with e | e
    · exact hX k e
    · exact h3 k hk e.2
  refine ⟨⟨S', h1.keep hm hn, h2, fun k hk hnk => ?_⟩, ?_⟩
  · obtain ⟨M, vB, vs, mv, D, -, -, hlt⟩ := h1
    obtain ⟨o, ho, hc⟩ := hnk
    rw [hm.block k (hlt k hk) (hn k hk)] at ho
    exact h3 k hk ⟨o, ho, hc⟩
  · refine ⟨hm.os.trans hmd.os, hm.tape.trans hmd.tape, hm.output.trans hmd.output, Nat.le_trans hmd.size hm.size, fun k hk hs => ?_⟩
    rw [hm.block k (Nat.lt_of_lt_of_le hk hmd.size) (fun e => by
      rcases e with e | e
      · exact hX k e
      · omega)]
    exact hmd.block k hk hs
end Go.Proofs.YtlboejdhmggjpaaGreat.Pp

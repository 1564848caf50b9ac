/- parse: places never go back; a form in a box. -/
import Derived.Test.YtlboejdhmggjpaaGreatWlA
set_option linter.all false
namespace Go.Proofs.YtlboejdhmggjpaaGreat.Pp
set_option maxRecDepth 100000
set_option maxHeartbeats 16000000
open Go.RowKit Go.BigFrame Go.Proofs.YtlboejdhmggjpaaGreat

def Mo {α : Type} (x : Pm α) : Prop := ∀ s v s', x s = .ok v s' → s.at' ≤ s'.at'
theorem Mo.bind {α β : Type} {x : Pm α} {f : α → Pm β} (h : Mo x) (k : ∀ a, Mo (f a)) : Mo (x >>= f) := by
 intro s v s' e
 change Pm.bind x f s = .ok v s' at e
 unfold Pm.bind at e
 cases hx : x s with
 | ok a s1 => rw [hx] at e; exact Nat.le_trans (h _ _ _ hx) (k _ _ _ _ e)
 | no => rw [hx] at e; cases e
 | out => rw [hx] at e; cases e
theorem Mo.pure {α : Type} (a : α) : Mo (pure a : Pm α) := by intro s v s' e; cases e; exact Nat.le_refl _
theorem Mo.fail {α : Type} : Mo (fail' : Pm α) := by intro s v s' e; cases e
theorem Mo.out {α : Type} : Mo (out' : Pm α) := by intro s v s' e; cases e
theorem Mo.ite {α : Type} {c : Prop} {dc : Decidable c} {A B : Pm α} (h : Mo A) (k : Mo B) : Mo (if c then A else B) := by split <;> assumption
theorem Mo.here : Mo here := by intro s v s' e; cases e; exact Nat.le_refl _
theorem Mo.get : Mo get' := by intro s v s' e; cases e; exact Nat.le_refl _
theorem Mo.read {α : Type} (f : Ps → α) : Mo (fun s => .ok (f s) s : Pm α) := by intro s v s' e; cases e; exact Nat.le_refl _
section
variable (l : List Ct) (base : Bs → Bool)
theorem Mo.step (k : Nat) : Mo (step l k) := by intro s v s' e; unfold Pp.step at e; split at e <;> cases e; exact Nat.le_add_right _ _
theorem Mo.node (k : Nat) (h : Nat × Nat) : Mo (node l k h) := by intro s v s' e; unfold Pp.node at e; split at e <;> cases e; exact Nat.le_refl _
theorem Mo.declare (x : Bs) (b : Bool) : Mo (declare l x b) := by intro s v s' e; unfold Pp.declare at e; split at e <;> cases e; exact Nat.le_refl _
theorem Mo.declareAll (p : List (Bs × Bool)) : Mo (declareAll l p) := by
 induction p with
 | nil => exact Mo.pure _
 | cons a r i => exact Mo.bind (Mo.declare l _ _) fun _ => i
theorem Mo.open : Mo (open' l) := by intro s v s' e; unfold Pp.open' at e; split at e <;> cases e; exact Nat.le_refl _
theorem Mo.close : Mo close' := by intro s v s' e; unfold Pp.close' at e; split at e <;> (try split at e) <;> cases e; exact Nat.le_refl _
theorem Mo.took (t : Bs) : Mo (took l t) := by intro s v s' e; unfold Pp.took at e; split at e <;> cases e <;> simp
theorem Mo.tookWord (t : Bs) : Mo (tookWord l t) := by intro s v s' e; unfold Pp.tookWord at e; split at e <;> cases e <;> simp
theorem need_at {t : Bs} {s s' : Ps} {v : Unit} (e : need l t s = .ok v s') : s'.at' = s.at' + 1 := by unfold Pp.need at e; split at e <;> cases e; rfl
theorem Mo.need (t : Bs) : Mo (need l t) := by intro s v s' e; have := need_at l e; omega
theorem Mo.name : Mo (name' l) := by intro s v s' e; unfold Pp.name' at e; split at e <;> cases e; simp
theorem qualsF_le (n : Nat) : ∀ s, s.at' ≤ qualsF l n s := by
 induction n with
 | zero => intro s; exact Nat.le_refl _
 | succ n i =>
  intro s
  unfold qualsF
  split
  ·exact Nat.le_trans (Nat.le_succ _) (i { s with at' := s.at' + 1 })
  ·exact Nat.le_refl _
theorem strsF_le (n : Nat) : ∀ s, s.at' ≤ strsF l n s := by
 induction n with
 | zero => intro s; exact Nat.le_refl _
 | succ n i =>
  intro s
  unfold strsF
  split
  ·exact Nat.le_trans (Nat.le_succ _) (i { s with at' := s.at' + 1 })
  ·exact Nat.le_refl _
theorem Mo.quals : Mo (quals l) := by intro s v s' e; cases e; exact qualsF_le l _ _
theorem Mo.strings : Mo (strings l) := by intro s v s' e; unfold Pp.strings at e; split at e <;> cases e; exact strsF_le l _ _
theorem Mo.peek (k : Nat) : Mo (peek l k) := Mo.read _
theorem Mo.sign (k : Nat) (t : Bs) : Mo (sign l k t) := Mo.read _
theorem Mo.word (t : Bs) : Mo (word l t) := Mo.read _
theorem Mo.bLess (k : Nat) : Mo (bLess l base k) := Mo.read _
theorem Mo.typeAhead : Mo (typeAhead l base) := Mo.read _
theorem Mo.declares : Mo (declares l base) := Mo.read _
theorem Mo.labelled : Mo (labelled l) := Mo.read _
theorem Mo.level : Mo (level l) := Mo.read _
theorem Mo.assigns : Mo (assigns l) := Mo.read _
theorem Mo.run (n : Nat) : ∀ tg, Mo (run l base n tg) := by
 induction n with
 | zero => intro tg s v s' e; rw [Pp.run] at e; cases e
 | succ n ih =>
  intro tg
  cases tg <;> rw [Pp.run] <;>
  repeat' (with_reducible first
   | exact ih _ | exact Mo.pure _ | exact Mo.fail | exact Mo.out | exact Mo.here | exact Mo.get | exact Mo.step _ _ | exact Mo.node _ _ _ | exact Mo.declare _ _ _ | exact Mo.declareAll _ _ | exact Mo.open _ | exact Mo.close
   | exact Mo.took _ _ | exact Mo.tookWord _ _ | exact Mo.need _ _ | exact Mo.name _ | exact Mo.quals _ | exact Mo.strings _ | exact Mo.peek _ _ | exact Mo.sign _ _ _ | exact Mo.word _ _ | exact Mo.bLess _ _ _ | exact Mo.typeAhead _ _ | exact Mo.declares _ _ | exact Mo.labelled _ | exact Mo.level _ | exact Mo.assigns _
   | exact Mo.read _ | (refine Mo.bind ?_ fun _ => ?_) | (refine Mo.ite ?_ ?_) | (intro; skip))
  refine Mo.bind (Mo.read fun s => _) fun _ => ?_
  repeat' (with_reducible first
   | exact ih _ | exact Mo.pure _ | exact Mo.fail | exact Mo.out | exact Mo.here | exact Mo.get | exact Mo.step _ _ | exact Mo.node _ _ _ | exact Mo.declare _ _ _ | exact Mo.declareAll _ _ | exact Mo.open _ | exact Mo.close
   | exact Mo.took _ _ | exact Mo.tookWord _ _ | exact Mo.need _ _ | exact Mo.name _ | exact Mo.quals _ | exact Mo.strings _ | exact Mo.peek _ _ | exact Mo.sign _ _ _ | exact Mo.word _ _ | exact Mo.bLess _ _ _ | exact Mo.typeAhead _ _ | exact Mo.declares _ _ | exact Mo.labelled _ | exact Mo.level _ | exact Mo.assigns _
   | exact Mo.read _ | (refine Mo.bind ?_ fun _ => ?_) | (refine Mo.ite ?_ ?_) | (intro; skip))
end
theorem mo_array {l : List Ct} {base : Bs → Bool} {n : Nat} {s s' : Ps} {v : Va} (e : run l base n .array s = .ok v s') : s.at' < s'.at' := by
 cases n with
 | zero => rw [Pp.run] at e; cases e
 | succ n =>
  have hm := Mo.run l base (n + 1) .array
  rw [Pp.run] at e
  have e := qone (x := here) e rfl
  rcases hx : need l [91] s with ⟨v1, s1⟩ | _ | _
  ·have e2 := qone e hx
   have := need_at l hx
   refine Nat.lt_of_lt_of_le (show s.at' < s1.at' by omega) ?_
   revert e2
   refine (?_ : Mo _) _ _ _
   repeat' (with_reducible first
    | exact Mo.run _ _ _ _ | exact Mo.pure _ | exact Mo.fail | exact Mo.out | exact Mo.here | exact Mo.get | exact Mo.step _ _ | exact Mo.node _ _ _ | exact Mo.declare _ _ _ | exact Mo.declareAll _ _ | exact Mo.open _ | exact Mo.close
    | exact Mo.took _ _ | exact Mo.tookWord _ _ | exact Mo.need _ _ | exact Mo.name _ | exact Mo.quals _ | exact Mo.strings _ | exact Mo.peek _ _ | exact Mo.sign _ _ _ | exact Mo.word _ _ | exact Mo.bLess _ _ _ | exact Mo.typeAhead _ _ | exact Mo.declares _ _ | exact Mo.labelled _ | exact Mo.level _ | exact Mo.assigns _
    | exact Mo.read _ | (refine Mo.bind ?_ fun _ => ?_) | (refine Mo.ite ?_ ?_) | (intro; skip))
  ·change Pm.bind _ _ _ = _ at e; unfold Pm.bind at e; rw [hx] at e; cases e
  ·change Pm.bind _ _ _ = _ at e; unfold Pm.bind at e; rw [hx] at e; cases e
theorem mo_params {l : List Ct} {base : Bs → Bool} {n : Nat} {s s' : Ps} {v : Va} (e : run l base n .params s = .ok v s') : s.at' < s'.at' := by
 cases n with
 | zero => rw [Pp.run] at e; cases e
 | succ n =>
  rw [Pp.run] at e
  have e := qone (x := here) e rfl
  rcases hx : need l [40] s with ⟨v1, s1⟩ | _ | _
  ·have e2 := qone e hx
   have := need_at l hx
   refine Nat.lt_of_lt_of_le (show s.at' < s1.at' by omega) ?_
   revert e2
   refine (?_ : Mo _) _ _ _
   repeat' (with_reducible first
    | exact Mo.run _ _ _ _ | exact Mo.pure _ | exact Mo.fail | exact Mo.out | exact Mo.here | exact Mo.get | exact Mo.step _ _ | exact Mo.node _ _ _ | exact Mo.declare _ _ _ | exact Mo.declareAll _ _ | exact Mo.open _ | exact Mo.close
    | exact Mo.took _ _ | exact Mo.tookWord _ _ | exact Mo.need _ _ | exact Mo.name _ | exact Mo.quals _ | exact Mo.strings _ | exact Mo.peek _ _ | exact Mo.sign _ _ _ | exact Mo.word _ _ | exact Mo.bLess _ _ _ | exact Mo.typeAhead _ _ | exact Mo.declares _ _ | exact Mo.labelled _ | exact Mo.level _ | exact Mo.assigns _
    | exact Mo.read _ | (refine Mo.bind ?_ fun _ => ?_) | (refine Mo.ite ?_ ?_) | (intro; skip))
  ·change Pm.bind _ _ _ = _ at e; unfold Pm.bind at e; rw [hx] at e; cases e
  ·change Pm.bind _ _ _ = _ at e; unfold Pm.bind at e; rw [hx] at e; cases e
end Go.Proofs.YtlboejdhmggjpaaGreat.Pp

/- WmB -/
namespace Go.Proofs.YtlboejdhmggjpaaGreat.Pp
set_option maxRecDepth 100000
set_option maxHeartbeats 16000000
open Go.RowKit Go.BigFrame Go.Proofs.YtlboejdhmggjpaaGreat

structure KPb (fb : Nat) (w w' : World) : Prop where
 size : w.heap.size ≤ w'.heap.size
 cells : ∀ (k : Nat) (cs : Array Value) (t : TypeId) (fz : Nat × Nat), k ≠ fb → own4 t = false → w.heap[k]? = some (.cells cs t fz) → w'.heap[k]? = some (.cells cs t fz)
 dfr : ∀ (k : Nat) (x : Option (List Deferred)), k ≠ fb → w.heap[k]? = some (.deferred x) → w'.heap[k]? = some (.deferred x)
theorem KP.b {w w' : World} (h : KP w w') (fb : Nat) : KPb fb w w' := ⟨h.1, fun k cs t fz _ ht hk => h.2 k cs t fz ht hk, fun k x _ hk => h.3 k x hk⟩
theorem KPb.refl (fb : Nat) (w : World) : KPb fb w w := ⟨Nat.le_refl _, fun _ _ _ _ _ _ h => h, fun _ _ _ h => h⟩
theorem KPb.trans {fb : Nat} {a b c : World} (h : KPb fb a b) (k : KPb fb b c) : KPb fb a c := ⟨Nat.le_trans h.1 k.1, fun i cs t fz hi ht hk => k.2 i cs t fz hi ht (h.2 i cs t fz hi ht hk), fun i x hi hk => k.3 i x hi (h.3 i x hi hk)⟩
theorem KPb.store (w : World) (fb i : Nat) (v : Value) : KPb fb w (w.setCell ⟨fb, i, none⟩ v) := ⟨by simp, fun k cs t fz hk ht h => by rw [heap_setCell_other _ _ _ _ hk]; exact h, fun k x hk h => by rw [heap_setCell_other _ _ _ _ hk]; exact h⟩
theorem KP.store {a w : World} (h : KP a w) {fb : Nat} (hb : a.heap.size ≤ fb) (i : Nat) (v : Value) : KP a (w.setCell ⟨fb, i, none⟩ v) := ⟨by simpa using h.1, fun k cs t fz ht hk => by
 have hl := (Array.getElem?_eq_some_iff.1 hk).1
 rw [heap_setCell_other _ _ _ _ (by show k ≠ fb; omega)]
 exact h.2 k cs t fz ht hk, fun k x hk => by
 have hl := (Array.getElem?_eq_some_iff.1 hk).1
 rw [heap_setCell_other _ _ _ _ (by show k ≠ fb; omega)]
 exact h.3 k x hk⟩
theorem KPb.kp {a w w' : World} {fb : Nat} (h : KP a w) (hb : a.heap.size ≤ fb) (k : KPb fb w w') : KP a w' := ⟨Nat.le_trans h.1 k.1, fun i cs t fz ht hk => by
 have hl := (Array.getElem?_eq_some_iff.1 hk).1
 exact k.2 i cs t fz (by omega) ht (h.2 i cs t fz ht hk), fun i x hk => by
 have hl := (Array.getElem?_eq_some_iff.1 hk).1
 exact k.3 i x (by omega) (h.3 i x hk)⟩
theorem PW.store {E : En} {w : World} {s : Ps} {fb : Nat} {cs : Array Value} (h : PW E w s) (hE : E.ok) (hf : w.heap[fb]? = some (.cells cs 106 (0, 0))) (hX : E.X ≤ fb) (i : Nat) (v : Value) : PW E (w.setCell ⟨fb, i, none⟩ v) s := by
 obtain ⟨vd, vc, vb, mb, h⟩ := h
 refine ⟨vd, vc, vb, mb, { bel := h.bel.setCell hX _, box := ?_, dn := own_other hf (by decide) h.dn, ch := own_other hf (by decide) h.ch, bl := own_other hf (by decide) h.bl, mp := h.mp.set hf, mx := h.mx, le := h.le, tx := h.tx, cb := h.cb, bb := h.bb }⟩
 rw [heap_setCell_other _ _ _ _ (fun q => by have hx := h.box; rw [show E.pb = fb from q, hf] at hx; cases hx)]
 exact h.box
def FmB (w : World) (b : Nat) (f : Fm) (y : Value) : Prop := w.heap[b]? = some (.cells #[.bool f.named, .string (str f.name), .int .i64 f.near, y] 106 (0, 0)) ∧ DcV w y f.params ∧ f.name.length ≤ maxLen
theorem FmB.kp {w w' : World} {b : Nat} {f : Fm} {y : Value} (h : FmB w b f y) (hk : KP w w') : FmB w' b f y := ⟨hk.2 _ _ _ _ rfl h.1, h.2.1.kp hk, h.2.2⟩
theorem FmB.cells {w : World} {b : Nat} {f : Fm} {y : Value} (h : FmB w b f y) : w.cell? ⟨b, 0, none⟩ = some (.bool f.named) ∧ w.cell? ⟨b, 1, none⟩ = some (.string (str f.name)) ∧ w.cell? ⟨b, 2, none⟩ = some (.int .i64 f.near) ∧ w.cell? ⟨b, 3, none⟩ = some y := by simp [World.cell?, h.1]
theorem FmB.frozen {w : World} {b : Nat} {f : Fm} {y : Value} (h : FmB w b f y) (i : Nat) : w.frozen? ⟨b, i, none⟩ = false := Lib.frozen_of_heap h.1 i
theorem DcV.set {w : World} {y : Value} {p : List (Bs × Bool)} {fb i : Nat} {cs : Array Value} {v : Value} (h : DcV w y p) (hf : w.heap[fb]? = some (.cells cs 106 (0, 0))) : DcV (w.setCell ⟨fb, i, none⟩ v) y p := by
 obtain ⟨a, c, h1, h0, h2⟩ := h
 refine ⟨a, c, h1, h0, ?_⟩
 rcases h2 with h2 | ⟨b, cur, h3, h4, h5⟩
 ·exact .inl h2
 ·exact .inr ⟨b, cur, h3, by rw [heap_setCell_other _ _ _ _ (fun q => by subst q; rw [hf] at h4; cases h4)]; exact h4, h5⟩
theorem FmB.near {w : World} {b : Nat} {f : Fm} {y : Value} (h : FmB w b f y) (n : Nat) : FmB (w.setCell ⟨b, 2, none⟩ (.int .i64 n)) b { f with near := n } y := ⟨by have := box_set (i := 2) (v := .int .i64 n) h.1; simpa using this, h.2.1.set h.1, h.2.2⟩
theorem FmB.fn {w : World} {b : Nat} {f : Fm} {y y' : Value} {p : List (Bs × Bool)} (h : FmB w b f y) (hd : DcV w y' p) : FmB ((w.setCell ⟨b, 2, none⟩ (.int .i64 3)).setCell ⟨b, 3, none⟩ y') b { f with near := 3, params := p } y' := by
 have h1 := box_set (i := 2) (v := .int .i64 3) h.1
 have h2 := box_set (i := 3) (v := y') h1
 exact ⟨by simpa using h2, (hd.set h.1).set h1, h.2.2⟩
def EndS (E : En) (fb : Nat) (w : World) (s : Ps) (r : Rs Va) (e : Ending) (w' : World) : Prop :=
 match r with
 | .ok v s' => e = .returned (.bool (decide (s.at' < s'.at'))) ∧ s.at' ≤ s'.at' ∧ (∃ y, FmB w' fb v.form y) ∧ PW E w' s' ∧ KPb fb w w'
 | .no => (∃ n : Int, e = .panicked (failV n)) ∧ Below E.X E.w0 w' ∧ KPb fb w w'
 | .out => True
theorem s_no {E : En} {fb : Nat} {w w2 : World} {s : Ps} {r : Rs Va} {n : Int} (hr : r = .no) (hb : Below E.X E.w0 w2) (hk : KPb fb w w2) : EndS E fb w s r (.panicked (failV n)) w2 := by rw [hr]; exact ⟨⟨n, rfl⟩, hb, hk⟩
theorem w_suffixes {E : En} (hE : E.ok) {n : Nat} (ih : ∀ m, m ≤ n → Wk E m) (f0 : Fm) (a0 : Bool) (fb : Nat) (y0 : Value) (s : Ps) (w : World) (hX : E.X ≤ fb) (hf : FmB w fb f0 y0) (hp : PW E w s) (hne : run E.L E.base n (.suffixes f0 a0) s ≠ .out) : Calls Tryz.prog 85 #[.pointer (some ⟨E.pb, 0, none⟩), .pointer (some ⟨fb, 0, none⟩)] w (EndS E fb w s (run E.L E.base n (.suffixes f0 a0) s)) := by
 obtain ⟨r, hr⟩ : ∃ r, run E.L E.base n (.suffixes f0 a0) s = r := ⟨_, rfl⟩
 rw [hr] at hne ⊢
 have HN := Hh hne
 have HR0 := Hh hr
 have HP0 := Hh hp
 have HF0 := Hh hf
 have HX := Hh hX
 have IH := Hh ih
 clear hne hr hp hf hX ih
 go_enter Tryz.func85, Tryz.ntmps85
 go_wp2_with fail
 go_loopg [4, 5] n (fun gf q4 q5 wr => ∃ (s' : Ps) (f' : Fm) (a' b' : Bool) (y' : Value), q4 = .bool b' ∧ b' = decide (s.at' < s'.at') ∧ s.at' ≤ s'.at' ∧ gf ≤ n ∧ run E.L E.base gf (.suffixes f' a') s' = r ∧ PW E wr s' ∧ KPb fb w wr ∧ FmB wr fb f' y')
 case atStart => exact ⟨_, _, _, false, _, rfl, by simp, Nat.le_refl _, Nat.le_refl _, HR0.out, HP0.out, KPb.refl _ _, HF0.out⟩
 case round =>
  obtain ⟨s1, f1, a1, b1, y1, rfl, hbd, hle, hgn, hr1, hp1, hk1, hf1⟩ := hrel
  cases gk with
  | zero => rw [run0] at hr1; exact absurd hr1.symm HN.out
  | succ g =>
   rw [run] at hr1
   have HR1 := Hh hr1
   have HP1 := Hh hp1
   have HK1 := Hh hk1
   have HF1 := Hh hf1
   have HBD := Hh hbd
   have HLE := Hh hle
   clear hr1 hp1 hk1 hf1 hbd hle
   go_wp2_with fail
   refine (wk_sign hE 0 [91] _ _ (by omega) HP1.out).mono ?_
   intro e w2 he
   rcases qstepR (x := sign E.L 0 [91]) HR1.out HN.out (KP.refl _) he with ⟨v2, s2, hr2, hx2, rfl, hp2, hk2, -⟩ | ⟨hr2, ⟨z, rfl⟩, hb2, hk2⟩
   case' inr => exact ⟨rfl, s_no hr2 hb2 (HK1.out.trans (hk2.b fb))⟩
   obtain rfl : s2 = s1 := by cases hx2; rfl
   have HR2 := Hh hr2
   have HP2 := Hh hp2
   have HK2 := Hh (HK1.out.trans (hk2.b fb))
   have HF2 := Hh (HF1.out.kp hk2)
   clear he hr2 hx2 hp2 hk2
   cases v2
   ·have hq := HR2.out
    replace hq := q_iff hq
    have HR3 := Hh hq
    clear hq
    go_wp2_with fail
    refine (wk_sign hE 0 [40] _ _ (by omega) HP2.out).mono ?_
    intro e w4 he
    rcases qstepR (x := sign E.L 0 [40]) HR3.out HN.out (KP.refl _) he with ⟨v4, s4, hr4, hx4, rfl, hp4, hk4, -⟩ | ⟨hr4, ⟨z, rfl⟩, hb4, hk4⟩
    case' inr => exact ⟨rfl, s_no hr4 hb4 (HK2.out.trans (hk4.b fb))⟩
    obtain rfl : s4 = s2 := by cases hx4; rfl
    have HR4 := Hh hr4
    have HP4 := Hh hp4
    have HK4 := Hh (HK2.out.trans (hk4.b fb))
    have HF4 := Hh (HF2.out.kp hk4)
    clear he hr4 hx4 hp4 hk4
    cases v4
    ·have hq := HR4.out
     replace hq := q_pure (q_iff hq)
     have HQ := Hh hq
     clear hq
     go_wp2_with fail
     refine ⟨rfl, .bool b1, by simp [results, Tryz.results85, go_sem], ?_⟩
     rw [HQ.out]
     exact ⟨by rw [HBD.out], HLE.out, ⟨_, HF4.out⟩, HP4.out, HK4.out⟩
    ·have hq := HR4.out
     replace hq := q_ift hq
     have HR5 := Hh hq
     clear hq
     go_wp2_with fail
     refine ((IH.out g (by omega)).f_params _ _ HP4.out (qne HR5.out HN.out)).mono ?_
     intro e w6 he
     rcases qstep (x := run E.L E.base g .params) HR5.out HN.out (KP.refl _) he with ⟨v6, s6, y6, hr6, hx6, rfl, hy6, hp6, hk6, -⟩ | ⟨hr6, ⟨z, rfl⟩, hb6, hk6⟩
     case' inr => exact ⟨rfl, s_no hr6 hb6 (HK4.out.trans (hk6.b fb))⟩
     obtain ⟨ya, yc, rfl, -⟩ := id hy6
     have hlt := mo_params hx6
     have hl : s.at' < s6.at' := Nat.lt_of_le_of_lt HLE.out hlt
     have hf6 := HF4.out.kp hk6
     obtain ⟨-, -, d2, -⟩ := hf6.cells
     have z2 := hf6.frozen 2
     have z3 := hf6.frozen 3
     have HR6 := Hh hr6
     have HP6 := Hh hp6
     have HK6 := Hh (HK4.out.trans (hk6.b fb))
     have HF6 := Hh hf6
     have HY6 := Hh hy6
     have HL6 := Hh hl
     clear he hr6 hx6 hp6 hk6 hf6 hy6 hlt hl
     obtain ⟨zn, hzn⟩ : ∃ z : Int, (f1.near : Int) = z := ⟨_, rfl⟩
     rw [hzn] at d2
     by_cases h0 : f1.near = 0
     ·have e0 : (zn == 0) = true := by rw [← hzn, h0]; rfl
      have HZ := Hh hzn
      clear hzn
      have g3 := HF6.out.cells.2.2.2
      go_wp2_with fail
      go_roundg g
      case measure => omega
      case rel =>
       have e1 : f1.fun' v6.list = { f1 with near := 3, params := v6.list } := by unfold Fm.fun'; rw [if_pos h0]
       exact ⟨s6, _, true, true, _, rfl, (decide_eq_true HL6.out).symm, Nat.le_of_lt HL6.out, by omega, e1 ▸ HR6.out, (HP6.out.store hE HF6.out.1 HX.out 2 _).store hE (box_set (i := 2) HF6.out.1) HX.out 3 _, (HK6.out.trans (KPb.store _ fb 2 _)).trans (KPb.store _ fb 3 _), HF6.out.fn HY6.out⟩
     ·have e0 : (zn == 0) = false := by rw [beq_eq_false_iff_ne, ← hzn]; omega
      have HZ := Hh hzn
      clear hzn
      go_wp2_with fail
      go_roundg g
      case measure => omega
      case rel =>
       have e1 : f1.fun' v6.list = f1 := by unfold Fm.fun'; rw [if_neg h0]
       exact ⟨s6, _, true, true, _, rfl, (decide_eq_true HL6.out).symm, Nat.le_of_lt HL6.out, by omega, e1 ▸ HR6.out, HP6.out, HK6.out, HF6.out⟩
   ·have hq := HR2.out
    replace hq := q_ift hq
    have HR3 := Hh hq
    clear hq
    go_wp2_with fail
    refine ((IH.out g (by omega)).f_array _ _ HP2.out (qne HR3.out HN.out)).mono ?_
    intro e w6 he
    rcases qstep (x := run E.L E.base g .array) HR3.out HN.out (KP.refl _) he with ⟨v6, s6, y6, hr6, hx6, rfl, rfl, hp6, hk6, -⟩ | ⟨hr6, ⟨z, rfl⟩, hb6, hk6⟩
    case' inr => exact ⟨rfl, s_no hr6 hb6 (HK2.out.trans (hk6.b fb))⟩
    have hlt := mo_array hx6
    have hl : s.at' < s6.at' := Nat.lt_of_le_of_lt HLE.out hlt
    have hf6 := HF2.out.kp hk6
    obtain ⟨-, -, d2, -⟩ := hf6.cells
    have z2 := hf6.frozen 2
    have HR6 := Hh hr6
    have HP6 := Hh hp6
    have HK6 := Hh (HK2.out.trans (hk6.b fb))
    have HF6 := Hh hf6
    have HL6 := Hh hl
    clear he hr6 hx6 hp6 hk6 hf6 hlt hl
    obtain ⟨zn, hzn⟩ : ∃ z : Int, (f1.near : Int) = z := ⟨_, rfl⟩
    rw [hzn] at d2
    by_cases h0 : f1.near = 0
    ·have e0 : (zn == 0) = true := by rw [← hzn, h0]; rfl
     have HZ := Hh hzn
     clear hzn
     go_wp2_with fail
     go_roundg g
     case measure => omega
     case rel =>
      have e1 : f1.arr = { f1 with near := 2 } := by unfold Fm.arr; rw [if_pos h0]
      exact ⟨s6, _, true, true, _, rfl, (decide_eq_true HL6.out).symm, Nat.le_of_lt HL6.out, by omega, e1 ▸ HR6.out, HP6.out.store hE HF6.out.1 HX.out 2 _, HK6.out.trans (KPb.store _ fb 2 _), HF6.out.near 2⟩
    ·have e0 : (zn == 0) = false := by rw [beq_eq_false_iff_ne, ← hzn]; omega
     have HZ := Hh hzn
     clear hzn
     go_wp2_with fail
     go_roundg g
     case measure => omega
     case rel =>
      have e1 : f1.arr = f1 := by unfold Fm.arr; rw [if_neg h0]
      exact ⟨s6, _, true, true, _, rfl, (decide_eq_true HL6.out).symm, Nat.le_of_lt HL6.out, by omega, e1 ▸ HR6.out, HP6.out, HK6.out, HF6.out⟩
end Go.Proofs.YtlboejdhmggjpaaGreat.Pp

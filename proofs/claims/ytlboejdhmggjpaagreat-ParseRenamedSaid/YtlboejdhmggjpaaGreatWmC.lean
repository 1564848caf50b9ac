/- parse: declarator. -/
import Derived.Test.YtlboejdhmggjpaaGreatWmB
set_option linter.all false
namespace Go.Proofs.YtlboejdhmggjpaaGreat.Pp
set_option maxRecDepth 100000
set_option maxHeartbeats 16000000
open Go.RowKit Go.BigFrame Go.Proofs.YtlboejdhmggjpaaGreat

theorem FmB.new (w : World) : FmB (w.alloc (.cells #[.bool false, .string ⟨#[]⟩, .int .i64 0, .slice none 0 0] 106)) w.heap.size ⟨false, [], 0, []⟩ (.slice none 0 0) := ⟨new_cells _ _ _, ⟨none, 0, rfl, ⟨Nat.zero_le _, by simp⟩, .inl rfl⟩, Nat.zero_le _⟩
theorem PW.lift {E : En} {w : World} {s : Ps} (h : PW E w s) (hE : E.ok) : E.X ≤ w.heap.size := by obtain ⟨vd, vc, vb, mb, h⟩ := h; exact h.lift hE
theorem q_name {α β : Type} {x : Pm α} {f : α → Pm β} {s : Ps} {r : Rs β} (h : (x >>= f) s = r) : ∃ K, (x >>= K) s = r ∧ ∀ (a : α) (s' : Ps), K a s' = f a s' := ⟨f, h, fun _ _ => rfl⟩
theorem HdB.other {w : World} {b fb : Nat} {h : Nat × Nat} (hb : HdB w b h) (hne : ¬ b = fb) {cs : Array Value} (hf : w.heap[fb]? = some (.cells cs 106 (0, 0))) (i : Nat) (v : Value) : HdB (w.setCell ⟨fb, i, none⟩ v) b h := by
 unfold HdB
 rw [heap_setCell_other _ _ _ _ hne]
 exact hb
theorem FmB.other {w : World} {b fb : Nat} {f : Fm} {y : Value} (hb : FmB w b f y) (hne : ¬ b = fb) {cs : Array Value} (hf : w.heap[fb]? = some (.cells cs 106 (0, 0))) (i : Nat) (v : Value) : FmB (w.setCell ⟨fb, i, none⟩ v) b f y :=
 ⟨by rw [heap_setCell_other _ _ _ _ hne]; exact hb.1, hb.2.1.set hf, hb.2.2⟩
theorem HdB.kpb {w w' : World} {b fb : Nat} {h : Nat × Nat} (hb : HdB w b h) (hne : ¬ b = fb) (hk : KPb fb w w') : HdB w' b h := hk.2 _ _ _ _ hne rfl hb
theorem FmB.kpb {w w' : World} {b fb : Nat} (hb : FmB w b ⟨false, [], 0, []⟩ (.slice none 0 0)) (hne : ¬ b = fb) (hk : KPb fb w w') : FmB w' b ⟨false, [], 0, []⟩ (.slice none 0 0) := ⟨hk.2 _ _ _ _ hne rfl hb.1, ⟨none, 0, rfl, ⟨Nat.zero_le _, by simp⟩, .inl rfl⟩, Nat.zero_le _⟩
theorem FmB.nmd {w : World} {b : Nat} {f : Fm} {y : Value} (h : FmB w b f y) (t : Bool) : FmB (w.setCell ⟨b, 0, none⟩ (.bool t)) b { f with named := t } y := ⟨by have := box_set (i := 0) (v := .bool t) h.1; simpa using this, h.2.1.set h.1, h.2.2⟩
theorem FmB.nme {w : World} {b : Nat} {f : Fm} {y : Value} (h : FmB w b f y) (x : Bs) (hx : x.length ≤ maxLen) : FmB (w.setCell ⟨b, 1, none⟩ (.string (str x))) b { f with name := x } y := ⟨by have := box_set (i := 1) (v := .string (str x)) h.1; simpa using this, h.2.1.set h.1, hx⟩
theorem FmB.whole {w : World} {b : Nat} {f g : Fm} {y y' : Value} (h : FmB w b f y) (hd : DcV w y' g.params) (hn : g.name.length ≤ maxLen) : FmB ((((w.setCell ⟨b, 0, none⟩ (.bool g.named)).setCell ⟨b, 1, none⟩ (.string (str g.name))).setCell ⟨b, 2, none⟩ (.int .i64 g.near)).setCell ⟨b, 3, none⟩ y') b g y' := by
 have h1 := box_set (i := 0) (v := .bool g.named) h.1
 have h2 := box_set (i := 1) (v := .string (str g.name)) h1
 have h3 := box_set (i := 2) (v := .int .i64 g.near) h2
 have h4 := box_set (i := 3) (v := y') h3
 exact ⟨by simpa using h4, (((hd.set h.1).set h1).set h2).set h3, hn⟩
theorem PW.store4 {E : En} {w : World} {s : Ps} {b : Nat} {f : Fm} {y : Value} (h : PW E w s) (hE : E.ok) (hf : FmB w b f y) (hX : E.X ≤ b) (v0 v1 v2 v3 : Value) : PW E ((((w.setCell ⟨b, 0, none⟩ v0).setCell ⟨b, 1, none⟩ v1).setCell ⟨b, 2, none⟩ v2).setCell ⟨b, 3, none⟩ v3) s := by
 have h1 := box_set (i := 0) (v := v0) hf.1
 have h2 := box_set (i := 1) (v := v1) h1
 have h3 := box_set (i := 2) (v := v2) h2
 exact (((h.store hE hf.1 hX 0 v0).store hE h1 hX 1 v1).store hE h2 hX 2 v2).store hE h3 hX 3 v3
theorem KP.store4 {a w : World} (h : KP a w) {b : Nat} (hb : a.heap.size ≤ b) (v0 v1 v2 v3 : Value) : KP a ((((w.setCell ⟨b, 0, none⟩ v0).setCell ⟨b, 1, none⟩ v1).setCell ⟨b, 2, none⟩ v2).setCell ⟨b, 3, none⟩ v3) :=
 (((h.store hb 0 v0).store hb 1 v1).store hb 2 v2).store hb 3 v3
theorem HdB.other4 {w : World} {b fb : Nat} {h : Nat × Nat} {f : Fm} {y : Value} (hb : HdB w b h) (hne : ¬ b = fb) (hf : FmB w fb f y) (v0 v1 v2 v3 : Value) : HdB ((((w.setCell ⟨fb, 0, none⟩ v0).setCell ⟨fb, 1, none⟩ v1).setCell ⟨fb, 2, none⟩ v2).setCell ⟨fb, 3, none⟩ v3) b h := by
 have h1 := box_set (i := 0) (v := v0) hf.1
 have h2 := box_set (i := 1) (v := v1) h1
 have h3 := box_set (i := 2) (v := v2) h2
 exact (((hb.other hne hf.1 0 v0).other hne h1 1 v1).other hne h2 2 v2).other hne h3 3 v3
theorem FmB.other4 {w : World} {b fb : Nat} {f0 : Fm} {y0 : Value} {f : Fm} {y : Value} (hb : FmB w b f0 y0) (hne : ¬ b = fb) (hf : FmB w fb f y) (v0 v1 v2 v3 : Value) : FmB ((((w.setCell ⟨fb, 0, none⟩ v0).setCell ⟨fb, 1, none⟩ v1).setCell ⟨fb, 2, none⟩ v2).setCell ⟨fb, 3, none⟩ v3) b f0 y0 := by
 have h1 := box_set (i := 0) (v := v0) hf.1
 have h2 := box_set (i := 1) (v := v1) h1
 have h3 := box_set (i := 2) (v := v2) h2
 exact (((hb.other hne hf.1 0 v0).other hne h1 1 v1).other hne h2 2 v2).other hne h3 3 v3
theorem qstepS {E : En} {β : Type} {fb : Nat} {x : Pm Va} {k : Va → Pm β} {s : Ps} {r : Rs β} {w1 w2 : World} {e : Ending} (hr : (x >>= k) s = r) (hn : r ≠ .out) (he : EndS E fb w1 s (x s) e w2) :
  (∃ v s2 y, k v s2 = r ∧ e = .returned (.bool (decide (s.at' < s2.at'))) ∧ s.at' ≤ s2.at' ∧ FmB w2 fb v.form y ∧ PW E w2 s2 ∧ KPb fb w1 w2) ∨ (r = .no ∧ (∃ n, e = .panicked (failV n)) ∧ Below E.X E.w0 w2 ∧ KPb fb w1 w2) := by
 change Pm.bind x k s = r at hr
 unfold Pm.bind at hr
 cases hx : x s with
 | out => rw [hx] at hr; exact absurd hr.symm hn
 | no => rw [hx] at hr he; exact .inr ⟨hr.symm, he.1, he.2.1, he.2.2⟩
 | ok v s2 =>
  rw [hx] at hr he
  obtain ⟨h1, h2, ⟨y, h3⟩, h4, h5⟩ := he
  exact .inl ⟨v, s2, y, hr, h1, h2, h3, h4, h5⟩
theorem formed {E : En} {β : Type} {f : Nat} {args : Array Value} {x : Pm Va} {k : Va → Pm β} {s : Ps} {r : Rs β} {w w1 : World} {Q : Ending → World → Prop} (h : Calls Tryz.prog f args w1 (EndQ E vaF w1 (x s))) (hr : (x >>= k) s = r) (hn : r ≠ .out) (hk : KP w w1)
  (h1 : ∀ (v : Va) (s2 : Ps) (ya : Option Addr) (yc : Nat) (w2 : World), k v s2 = r → PW E w2 s2 → KP w1 w2 → KP w w2 → DcV w2 (.slice ya v.form.params.length yc) v.form.params → v.form.name.length ≤ maxLen → Q (.returned (.agg #[.bool v.form.named, .string (str v.form.name), .int .i64 v.form.near, .slice ya v.form.params.length yc])) w2)
  (h2 : ∀ (z : Int) (w2 : World), r = .no → Below E.X E.w0 w2 → KP w w2 → Q (.panicked (failV z)) w2) : Calls Tryz.prog f args w1 Q := h.mono fun e w2 he => by
 rcases qstep hr hn hk he with ⟨v, s2, y, a1, -, rfl, ⟨y2, rfl, b1, b2⟩, a3, a4, a5⟩ | ⟨a1, ⟨z, rfl⟩, a2, a3⟩
 ·obtain ⟨ya, yc, rfl, -⟩ := id b1
  exact h1 v s2 ya yc w2 a1 a3 a4 a5 b1 b2
 ·exact h2 z w2 a1 a2 a3
theorem w_declarator {E : En} (hE : E.ok) {n : Nat} (ih : ∀ m, m ≤ n → Wk E m) (k : Nat) (s : Ps) (w : World) (hp : PW E w s) (hne : run E.L E.base (n + 1) (.declarator k) s ≠ .out) : Calls Tryz.prog 48 #[.pointer (some ⟨E.pb, 0, none⟩), .int .i64 k] w (EndQ E vaF w (run E.L E.base (n + 1) (.declarator k) s)) := by
 obtain ⟨r, hr⟩ : ∃ r, run E.L E.base (n + 1) (.declarator k) s = r := ⟨_, rfl⟩
 rw [hr] at hne ⊢
 rw [run] at hr
 have HN := Hh hne
 have HR0 := Hh hr
 have HP0 := Hh hp
 have HK0 := Hh (KP.refl w)
 have IH := Hh ih
 clear hne hr hp ih
 go_enter Tryz.func48, Tryz.ntmps48
 obtain ⟨K0, hK0⟩ : ∃ K0, bodyPost Tryz.prog Tryz.f48 (EndQ E vaF w r) = K0 := ⟨_, rfl⟩
 rw [hK0]
 have HB0 := Hh hK0
 clear hK0
 go_wp2_with fail
 obtain ⟨br, hbr⟩ : ∃ b, w.heap.size = b := ⟨_, rfl⟩
 try rw [hbr]
 have HBr0 := Hh (hbr ▸ FmB.new w)
 have HXr := Hh (show E.X ≤ br from hbr ▸ HP0.out.lift hE)
 have HPn := Hh (HP0.out.ext hE (below_alloc w (.cells #[.bool false, .string ⟨#[]⟩, .int .i64 0, .slice none 0 0] 106)))
 have HKn := Hh (KP.of_below (below_alloc w (.cells #[.bool false, .string ⟨#[]⟩, .int .i64 0, .slice none 0 0] 106)))
 clear HP0 HK0
 have HP0 := Hh HPn.out
 have HK0 := Hh HKn.out
 clear HPn HKn
 refine (wk_here hE _ _ HP0.out).mono ?_
 intro e w1 he
 rcases qstepR (x := here) HR0.out HN.out HK0.out he with ⟨v1, s1, hr1, -, rfl, hp1, hkk, hk1⟩ | ⟨hr1, ⟨z, rfl⟩, hb1, hk1⟩
 case' inr => rw [← HB0.out]; exact ⟨rfl, q_no hr1 hb1 hk1⟩
 have HR1 := Hh hr1
 have HP1 := Hh hp1
 have HK1 := Hh hk1
 have HBr1 := Hh (HBr0.out.kp hkk)
 clear he hr1 hp1 hkk hk1
 have HBn := Hh (HdB.new w1 v1)
 have HPn := Hh (HP1.out.ext hE (below_alloc w1 (.cells #[.int .i64 v1.1, .int .i64 v1.2] 77)))
 have HKn := Hh (HK1.out.trans (KP.of_below (below_alloc w1 (.cells #[.int .i64 v1.1, .int .i64 v1.2] 77))))
 have HBor1 := Hh HBr1.out
 have HXr := Hh (HBr1.out.kp (KP.of_below (below_alloc w1 (.cells #[.int .i64 v1.1, .int .i64 v1.2] 77))))
 clear HBr1
 have HBr1 := Hh HXr.out
 clear HXr
 have HPo1 := Hh HP1.out
 have HKo1 := Hh HK1.out
 clear HP1 HK1
 have HP1 := Hh HPn.out
 have HK1 := Hh HKn.out
 clear HPn HKn
 simp only [hdV]
 obtain ⟨bh, hbh⟩ : ∃ b, w1.heap.size = b := ⟨_, rfl⟩
 have HBh1 := Hh (hbh ▸ HBn.out)
 clear HBn
 go_wp2_with fail
 try rw [hbh]
 obtain ⟨bf, hbf⟩ : ∃ b, bh + 1 = b := ⟨_, rfl⟩
 try rw [hbf]
 obtain ⟨W2, hW2⟩ : ∃ W, W = (w1.alloc (.cells #[.int .i64 v1.1, .int .i64 v1.2] 77)).alloc (.cells #[.bool false, .string ⟨#[]⟩, .int .i64 0, .slice none 0 0] 106) := ⟨_, rfl⟩
 have hb2 := below_alloc (w1.alloc (.cells #[.int .i64 v1.1, .int .i64 v1.2] 77)) (.cells #[.bool false, .string ⟨#[]⟩, .int .i64 0, .slice none 0 0] 106)
 rw [← hW2] at hb2
 have HP2 := Hh (HP1.out.ext hE hb2)
 have HK2 := Hh (HK1.out.trans (KP.of_below hb2))
 have HBh2 := Hh (HBh1.out.kp (KP.of_below hb2))
 have HBr2 := Hh (HBr1.out.kp (KP.of_below hb2))
 have hfn := FmB.new (w1.alloc (.cells #[.int .i64 v1.1, .int .i64 v1.2] 77))
 rw [← hW2, show (w1.alloc (.cells #[.int .i64 v1.1, .int .i64 v1.2] 77)).heap.size = bf from by rw [← hbf, ← hbh]; simp] at hfn
 have HBf2 := Hh hfn
 have hle := HKo1.out.1
 have hbx := HP1.out.lift hE
 have HXF := Hh (show E.X ≤ bf from by have q := HPo1.out.lift hE; omega)
 have HWF := Hh (show w.heap.size ≤ bf from by omega)
 rw [← hW2]
 clear hW2 hb2 hfn hle hbx
 have HR2 := Hh HR1.out
 have HNEr := Hh (show ¬ br = bf from by have q := (Array.getElem?_eq_some_iff.1 HBor1.out.1).1; omega)
 have HNEh := Hh (show ¬ bh = bf from by omega)
 have hq := HR2.out
 obtain ⟨K, hqK, hKe⟩ := q_name hq
 clear HR2 hq
 have HR2 := Hh hqK
 have HKe := Hh hKe
 clear hqK hKe
 go_loopg [7] n (fun gf q7 wr => ∃ (s' : Ps) (st : Bool), q7 = .bool st ∧ gf ≤ n ∧ (run E.L E.base gf (.starsR st) >>= K) s' = r ∧ PW E wr s' ∧ KP w wr ∧ FmB wr br ⟨false, [], 0, []⟩ (.slice none 0 0) ∧ HdB wr bh v1 ∧ FmB wr bf ⟨false, [], 0, []⟩ (.slice none 0 0))
 case atStart => exact ⟨_, _, rfl, Nat.le_refl _, HR2.out, HP2.out, HK2.out, HBr2.out, HBh2.out, HBf2.out⟩
 case round =>
  obtain ⟨s3, st, rfl, hgn3, hr3, hp3, hk3, hhr3, hhh3, hhf3⟩ := hrel
  cases gk with
  | zero => exact absurd (q_0 hr3) HN.out
  | succ g3 =>
   rw [run] at hr3
   have HR3 := Hh hr3
   have HP3 := Hh hp3
   have HK3 := Hh hk3
   have HBr3 := Hh hhr3
   have HBh3 := Hh hhh3
   have HBf3 := Hh hhf3
   clear hr3 hp3 hk3 hhr3 hhh3 hhf3
   with_reducible replace HR3 := Hh (q_assoc HR3.out)
   go_wp2_with fail
   refine (wk_took hE [42] _ _ HP3.out).mono ?_
   intro e w4 he
   rcases qstepR (x := took E.L [42]) HR3.out HN.out HK3.out he with ⟨v4, s4, hr4, -, rfl, hp4, hkk, hk4⟩ | ⟨hr4, ⟨z, rfl⟩, hb4, hk4⟩
   case' inr => rw [← HB0.out]; exact ⟨rfl, q_no hr4 hb4 hk4⟩
   have HR4 := Hh hr4
   have HP4 := Hh hp4
   have HK4 := Hh hk4
   have HBr4 := Hh (HBr3.out.kp hkk)
   have HBh4 := Hh (HBh3.out.kp hkk)
   have HBf4 := Hh (HBf3.out.kp hkk)
   clear he hr4 hp4 hkk hk4
   obtain ⟨bb4, hbb4⟩ : ∃ bb, v4 = bb := ⟨_, rfl⟩
   rw [hbb4] at HR4 ⊢
   clear hbb4
   cases bb4
   ·replace HR4 := Hh (q_iffK HR4.out)
    with_reducible replace HR4 := Hh (q_pb HR4.out)
    have hq := HR4.out
    rw [HKe.out] at hq
    clear HR4
    have HR4 := Hh hq
    clear hq
    clear HKe
    by_cases hk2 : k = 2
    ·subst hk2
     have hq := HR4.out
     replace hq := qone (x := peek E.L 0) hq rfl
     clear HR4
     have HR4 := Hh hq
     clear hq
     have hq := HR4.out
     replace hq := qone hq rfl
     clear HR4
     have HR4 := Hh hq
     clear hq
     replace HR4 := Hh (q_neg HR4.out (by simp []))
     obtain ⟨B5, hB⟩ : ∃ B, signS E.L s4 0 [40] = B := ⟨_, rfl⟩
     have hq := HR4.out
     rw [hB] at hq
     have HR5 := Hh hq
     clear hq
     have SG := Hh (by have h := wk_sign hE 0 [40] s4 _ (by omega) HP4.out; rw [show sign E.L 0 [40] s4 = .ok (signS E.L s4 0 [40]) s4 from rfl, hB] at h; exact h : Calls Tryz.prog 47 #[.pointer (some ⟨E.pb, 0, none⟩), .int .i64 0, .string (str [40])] _ (EndR E .bool _ (.ok B5 s4)))
     clear hB
     cases B5
     ·try clear HR3
      go_wp2_with fail
      refine SG.out.mono ?_
      rintro e w5 ⟨rfl, hp5, hkk⟩
      clear SG
      have HP5 := Hh hp5
      have HK5 := Hh (HK4.out.trans hkk)
      have HBr5 := Hh (HBr4.out.kp hkk)
      have HBh5 := Hh (HBh4.out.kp hkk)
      have HBf5 := Hh (HBf4.out.kp hkk)
      clear hp5 hkk
      replace HR5 := Hh (q_neg HR5.out (by simp []))
      replace HR5 := Hh (q_neg HR5.out (by simp []))
      with_reducible replace HR5 := Hh (q_pb HR5.out)
      dsimp only at HR5
      go_wp2_with fail
      have hq := HR5.out
      replace hq := qone hq rfl
      clear HR5
      have HR5 := Hh hq
      clear hq
      have hq := HR5.out
      try simp only [form_fo, bool_bo] at hq
      clear HR5
      have HR5 := Hh hq
      clear hq
      refine (w_suffixes hE (fun m hm => IH.out m hm) _ false bf _ _ _ HXF.out HBf5.out HP5.out (qne HR5.out HN.out)).mono ?_
      intro e w6 he
      rcases qstepS HR5.out HN.out he with ⟨v6, s6, y6, hr6, rfl, hle6, hf6, hp6, hkb6⟩ | ⟨hr6, ⟨z, rfl⟩, hb6, hkb6⟩
      case' inr => rw [← HB0.out]; exact ⟨rfl, q_no hr6 hb6 (KPb.kp HK5.out HWF.out hkb6)⟩
      have HR6 := Hh hr6
      have HP6 := Hh hp6
      have HK6 := Hh (KPb.kp HK5.out HWF.out hkb6)
      have HBf6 := Hh hf6
      have HLE := Hh hle6
      have HBr6 := Hh (HBr5.out.kpb HNEr.out hkb6)
      have HBh6 := Hh (HBh5.out.kpb HNEh.out hkb6)
      clear he hr6 hp6 hkb6 hf6 hle6
      have hq := HR6.out
      replace hq := qone hq rfl
      clear HR6
      have HR6 := Hh hq
      clear hq
      obtain ⟨an, han⟩ : ∃ b, decide (s4.at' < s6.at') = b := ⟨_, rfl⟩
      rw [han]
      have HAN := Hh han
      clear han
      cases st
      ·cases an
       ·replace HR6 := Hh (q_pos HR6.out (by have q := of_decide_eq_false HAN.out; have q2 := HLE.out; exact ⟨by trivial, by trivial, by omega⟩))
        go_wp2_with fail
        refine (wk_fail (α := Va) hE (fun _ => .tuple #[]) _ _ HP6.out).mono ?_
        rintro e wf ⟨⟨z, rfl⟩, hbf, hkf⟩
        rw [← HB0.out]; exact ⟨rfl, q_no (show r = .no from HR6.out.symm) hbf (HK6.out.trans hkf)⟩
       ·replace HR6 := Hh (q_neg HR6.out (fun h => by have q := of_decide_eq_true HAN.out; have e := h.2.2; omega))
        obtain ⟨d0, d1⟩ := HBh6.out.cells
        have hne1 : ¬ bf = bh := fun q => HNEh.out q.symm
        go_wp2_with fail
        have hq := HR6.out
        rw [show Fm.ptr false (v6.form) = v6.form from rfl] at hq
        try (with_reducible replace hq := q_assoc hq)
        clear HR6
        have HR6 := Hh hq
        clear hq
        refine (wk_node hE 14 v1 _ _ HP6.out (qne HR6.out HN.out)).mono ?_
        intro e w7 he
        rcases qstepR (x := node E.L 14 v1) HR6.out HN.out HK6.out he with ⟨v7, s7, hr7, -, rfl, hp7, hkk, hk7⟩ | ⟨hr7, ⟨z, rfl⟩, hb7, hk7⟩
        case' inr => rw [← HB0.out]; exact ⟨rfl, q_no hr7 hb7 hk7⟩
        try dsimp only at hr7
        have HR7 := Hh hr7
        have HP7 := Hh hp7
        have HK7 := Hh hk7
        have HBr7 := Hh (HBr6.out.kp hkk)
        have HBh7 := Hh (HBh6.out.kp hkk)
        have HBf7 := Hh (HBf6.out.kp hkk)
        clear he hr7 hp7 hkk hk7
        have hq := HR7.out
        try (with_reducible replace hq := q_assoc hq)
        clear HR7
        have HR7 := Hh hq
        clear hq
        try clear d0 d1
        obtain ⟨f0, f1, f2, f3⟩ := HBf7.out.cells
        obtain ⟨r0, r1, r2, r3⟩ := HBr7.out.cells
        have zr0 := HBr7.out.frozen 0
        have zr1 := HBr7.out.frozen 1
        have zr2 := HBr7.out.frozen 2
        have zr3 := HBr7.out.frozen 3
        have HDF := Hh HBf7.out.2
        obtain ⟨ya, yc, hye, -⟩ := HBf7.out.2.1
        rw [hye] at f3
        have HYE := Hh hye
        clear hye
        go_wp2_with fail
        have hdf := HDF.out
        rw [HYE.out] at hdf
        have hw := HBr7.out.whole (g := v6.form) hdf.1 hdf.2
        have hpr := HP7.out.store4 hE HBr7.out HXr.out (.bool (v6.form).named) (.string (str (v6.form).name)) (.int .i64 (v6.form).near) (.slice ya (v6.form).params.length yc)
        have hkr := HK7.out.store4 (Nat.le_of_eq hbr) (.bool (v6.form).named) (.string (str (v6.form).name)) (.int .i64 (v6.form).near) (.slice ya (v6.form).params.length yc)
        have hqr := q_pure HR7.out
        have HW := Hh hw
        have HPR := Hh hpr
        have HKR := Hh hkr
        have HQR := Hh hqr
        clear hw hpr hkr hqr hdf
        rw [← HB0.out]
        refine bodyPost_ret (v := .agg #[.bool (v6.form).named, .string (str (v6.form).name), .int .i64 (v6.form).near, .slice ya (v6.form).params.length yc]) ?_ rfl ?_
        ·simp [results, Tryz.results48, go_sem, r0, r1, r2, r3]
        ·exact q_ok HQR.out ⟨_, rfl, HW.out.2.1, HW.out.2.2⟩ HPR.out HKR.out
      ·replace HR6 := Hh (q_neg HR6.out (fun h => by cases h.2.1))
       obtain ⟨d0, d1⟩ := HBh6.out.cells
       have hne1 : ¬ bf = bh := fun q => HNEh.out q.symm
       obtain ⟨zn, hzn⟩ : ∃ z : Int, ((v6.form).near : Int) = z := ⟨_, rfl⟩
       by_cases hn0 : (v6.form).near = 0
       ·obtain ⟨f0, f1, f2, f3⟩ := HBf6.out.cells
        have z2f := HBf6.out.frozen 2
        rw [hzn] at f2
        have e0 : (zn == 0) = true := by rw [← hzn, hn0]; rfl
        have HZN := Hh hzn
        clear hzn
        go_wp2_with fail
        try clear f0 f1 f2 f3 z2f
        have hnf := HBf6.out.near 1
        have HP8 := Hh ((HP6.out.store hE (HBf6.out.1) HXF.out 2 (.int .i64 1)))
        have HK8 := Hh ((HK6.out.store HWF.out 2 (.int .i64 1)))
        have HBr8 := Hh ((HBr6.out.other HNEr.out (HBf6.out.1) 2 (.int .i64 1)))
        have HBh8 := Hh ((HBh6.out.other HNEh.out (HBf6.out.1) 2 (.int .i64 1)))
        have HBf8 := Hh hnf
        clear hnf
        have HR8 := Hh HR6.out
        have hq := HR8.out
        rw [show Fm.ptr true (v6.form) = { v6.form with near := 1 } from by unfold Fm.ptr; rw [hn0]; rfl] at hq
        try (with_reducible replace hq := q_assoc hq)
        clear HR8
        have HR8 := Hh hq
        clear hq
        refine (wk_node hE 14 v1 _ _ HP8.out (qne HR8.out HN.out)).mono ?_
        intro e w9 he
        rcases qstepR (x := node E.L 14 v1) HR8.out HN.out HK8.out he with ⟨v9, s9, hr9, -, rfl, hp9, hkk, hk9⟩ | ⟨hr9, ⟨z, rfl⟩, hb9, hk9⟩
        case' inr => rw [← HB0.out]; exact ⟨rfl, q_no hr9 hb9 hk9⟩
        try dsimp only at hr9
        have HR9 := Hh hr9
        have HP9 := Hh hp9
        have HK9 := Hh hk9
        have HBr9 := Hh (HBr8.out.kp hkk)
        have HBh9 := Hh (HBh8.out.kp hkk)
        have HBf9 := Hh (HBf8.out.kp hkk)
        clear he hr9 hp9 hkk hk9
        have hq := HR9.out
        try (with_reducible replace hq := q_assoc hq)
        clear HR9
        have HR9 := Hh hq
        clear hq
        try clear d0 d1
        obtain ⟨f0, f1, f2, f3⟩ := HBf9.out.cells
        obtain ⟨r0, r1, r2, r3⟩ := HBr9.out.cells
        have zr0 := HBr9.out.frozen 0
        have zr1 := HBr9.out.frozen 1
        have zr2 := HBr9.out.frozen 2
        have zr3 := HBr9.out.frozen 3
        have HDF := Hh HBf9.out.2
        obtain ⟨ya, yc, hye, -⟩ := HBf9.out.2.1
        rw [hye] at f3
        have HYE := Hh hye
        clear hye
        go_wp2_with fail
        have hdf := HDF.out
        rw [HYE.out] at hdf
        have hw := HBr9.out.whole (g := { v6.form with near := 1 }) hdf.1 hdf.2
        have hpr := HP9.out.store4 hE HBr9.out HXr.out (.bool ({ v6.form with near := 1 }).named) (.string (str ({ v6.form with near := 1 }).name)) (.int .i64 ({ v6.form with near := 1 }).near) (.slice ya ({ v6.form with near := 1 }).params.length yc)
        have hkr := HK9.out.store4 (Nat.le_of_eq hbr) (.bool ({ v6.form with near := 1 }).named) (.string (str ({ v6.form with near := 1 }).name)) (.int .i64 ({ v6.form with near := 1 }).near) (.slice ya ({ v6.form with near := 1 }).params.length yc)
        have hqr := q_pure HR9.out
        have HW := Hh hw
        have HPR := Hh hpr
        have HKR := Hh hkr
        have HQR := Hh hqr
        clear hw hpr hkr hqr hdf
        rw [← HB0.out]
        refine bodyPost_ret (v := .agg #[.bool ({ v6.form with near := 1 }).named, .string (str ({ v6.form with near := 1 }).name), .int .i64 ({ v6.form with near := 1 }).near, .slice ya ({ v6.form with near := 1 }).params.length yc]) ?_ rfl ?_
        ·simp [results, Tryz.results48, go_sem, r0, r1, r2, r3]
        ·exact q_ok HQR.out ⟨_, rfl, HW.out.2.1, HW.out.2.2⟩ HPR.out HKR.out
       ·obtain ⟨f0, f1, f2, f3⟩ := HBf6.out.cells
        have z2f := HBf6.out.frozen 2
        rw [hzn] at f2
        have e0 : (zn == 0) = false := by rw [beq_eq_false_iff_ne, ← hzn]; omega
        have HZN := Hh hzn
        clear hzn
        go_wp2_with fail
        try clear f0 f1 f2 f3 z2f
        have hq := HR6.out
        rw [show Fm.ptr true (v6.form) = v6.form from by unfold Fm.ptr; rw [show ((v6.form).near == 0) = false from by rw [beq_eq_false_iff_ne]; exact hn0]; rfl] at hq
        try (with_reducible replace hq := q_assoc hq)
        clear HR6
        have HR6 := Hh hq
        clear hq
        refine (wk_node hE 14 v1 _ _ HP6.out (qne HR6.out HN.out)).mono ?_
        intro e w10 he
        rcases qstepR (x := node E.L 14 v1) HR6.out HN.out HK6.out he with ⟨v10, s10, hr10, -, rfl, hp10, hkk, hk10⟩ | ⟨hr10, ⟨z, rfl⟩, hb10, hk10⟩
        case' inr => rw [← HB0.out]; exact ⟨rfl, q_no hr10 hb10 hk10⟩
        try dsimp only at hr10
        have HR10 := Hh hr10
        have HP10 := Hh hp10
        have HK10 := Hh hk10
        have HBr10 := Hh (HBr6.out.kp hkk)
        have HBh10 := Hh (HBh6.out.kp hkk)
        have HBf10 := Hh (HBf6.out.kp hkk)
        clear he hr10 hp10 hkk hk10
        have hq := HR10.out
        try (with_reducible replace hq := q_assoc hq)
        clear HR10
        have HR10 := Hh hq
        clear hq
        try clear d0 d1
        obtain ⟨f0, f1, f2, f3⟩ := HBf10.out.cells
        obtain ⟨r0, r1, r2, r3⟩ := HBr10.out.cells
        have zr0 := HBr10.out.frozen 0
        have zr1 := HBr10.out.frozen 1
        have zr2 := HBr10.out.frozen 2
        have zr3 := HBr10.out.frozen 3
        have HDF := Hh HBf10.out.2
        obtain ⟨ya, yc, hye, -⟩ := HBf10.out.2.1
        rw [hye] at f3
        have HYE := Hh hye
        clear hye
        go_wp2_with fail
        have hdf := HDF.out
        rw [HYE.out] at hdf
        have hw := HBr10.out.whole (g := v6.form) hdf.1 hdf.2
        have hpr := HP10.out.store4 hE HBr10.out HXr.out (.bool (v6.form).named) (.string (str (v6.form).name)) (.int .i64 (v6.form).near) (.slice ya (v6.form).params.length yc)
        have hkr := HK10.out.store4 (Nat.le_of_eq hbr) (.bool (v6.form).named) (.string (str (v6.form).name)) (.int .i64 (v6.form).near) (.slice ya (v6.form).params.length yc)
        have hqr := q_pure HR10.out
        have HW := Hh hw
        have HPR := Hh hpr
        have HKR := Hh hkr
        have HQR := Hh hqr
        clear hw hpr hkr hqr hdf
        rw [← HB0.out]
        refine bodyPost_ret (v := .agg #[.bool (v6.form).named, .string (str (v6.form).name), .int .i64 (v6.form).near, .slice ya (v6.form).params.length yc]) ?_ rfl ?_
        ·simp [results, Tryz.results48, go_sem, r0, r1, r2, r3]
        ·exact q_ok HQR.out ⟨_, rfl, HW.out.2.1, HW.out.2.2⟩ HPR.out HKR.out
     ·try clear HR3
      go_wp2_with fail
      refine SG.out.mono ?_
      rintro e w5 ⟨rfl, hp5, hkk⟩
      clear SG
      have HP5 := Hh hp5
      have HK5 := Hh (HK4.out.trans hkk)
      have HBr5 := Hh (HBr4.out.kp hkk)
      have HBh5 := Hh (HBh4.out.kp hkk)
      have HBf5 := Hh (HBf4.out.kp hkk)
      clear hp5 hkk
      obtain ⟨B11, hB⟩ : ∃ B, (signS E.L s4 1 [41] || bSpecS E.L E.base s4 1) = B := ⟨_, rfl⟩
      have hq := HR5.out
      rw [hB] at hq
      have HR11 := Hh hq
      clear hq
      have SG := Hh (by have h := wk_sufA hE s4 _ HP5.out; rw [show sufA E.L E.base s4 = B11 from hB] at h; exact h : Calls Tryz.prog 84 #[.pointer (some ⟨E.pb, 0, none⟩)] _ (EndR E .bool _ (.ok B11 s4)))
      clear hB
      cases B11
      ·try clear HR4
       go_wp2_with fail
       refine SG.out.mono ?_
       rintro e w11 ⟨rfl, hp11, hkk⟩
       clear SG
       have HP11 := Hh hp11
       have HK11 := Hh (HK5.out.trans hkk)
       have HBr11 := Hh (HBr5.out.kp hkk)
       have HBh11 := Hh (HBh5.out.kp hkk)
       have HBf11 := Hh (HBf5.out.kp hkk)
       clear hp11 hkk
       replace HR11 := Hh (q_pos HR11.out (by simp []))
       with_reducible replace HR11 := Hh (q_assoc HR11.out)
       obtain ⟨hle12, hr12⟩ := q_step HR11.out HN.out
       obtain ⟨c1, f1, -⟩ := HP11.out.at
       have hpb := HP11.out.lt
       obtain ⟨q121, q122⟩ := HP11.out.on hE hle12
       have hLn := hE.len
       obtain ⟨a12, hat12⟩ : ∃ a, Ps.at' s4 = a := ⟨_, rfl⟩
       rw [hat12] at c1 hle12 hr12 q121 q122
       have hi : a12 < 100000 := by omega
       obtain ⟨s12, hs12⟩ : ∃ t : Ps, (⟨a12 + 1, s4.done, s4.nm⟩ : Ps) = t := ⟨_, rfl⟩
       rw [hs12] at hr12 q121
       clear hs12
       have HR12 := Hh hr12
       have HP12 := Hh q121
       have HK12 := Hh (HK11.out.trans q122)
       have HBr12 := Hh (HBr11.out.kp q122)
       have HBh12 := Hh (HBh11.out.kp q122)
       have HBf12 := Hh (HBf11.out.kp q122)
       have HAT12 := Hh hat12
       clear q121 q122 hr12 hle12 hLn hat12
       with_reducible replace HR12 := Hh (q_assoc HR12.out)
       go_wp2_with fail
       try clear c1 f1 hpb hi
       refine formed (x := run E.L E.base n (.declarator 2)) ((IH.out n (Nat.le_refl _)).f_declarator 2 _ _ HP12.out (qne HR12.out HN.out)) HR12.out HN.out HK12.out ?_ ?_
       case' refine_2 => intro z w13 hr13 hb13 hk13; rw [← HB0.out]; exact ⟨rfl, q_no hr13 hb13 hk13⟩
       intro v13 s13 ya13 yc13 w13 hr13 hp13 hkk hk13 hdc13 hnl13
       have HR13 := Hh hr13
       have HP13 := Hh hp13
       have HK13 := Hh hk13
       have HDC := Hh hdc13
       have HNL := Hh hnl13
       have HBr13 := Hh (HBr12.out.kp hkk)
       have HBh13 := Hh (HBh12.out.kp hkk)
       have HBf13 := Hh (HBf12.out.kp hkk)
       clear hr13 hp13 hkk hk13 hdc13 hnl13
       with_reducible replace HR13 := Hh (q_assoc HR13.out)
       obtain ⟨f0, f1, f2, f3⟩ := HBf13.out.cells
       have z0f := HBf13.out.frozen 0
       have z1f := HBf13.out.frozen 1
       have z2f := HBf13.out.frozen 2
       have z3f := HBf13.out.frozen 3
       go_wp2_with fail
       try clear f0 f1 f2 f3 z0f z1f z2f z3f
       have hnf := HBf13.out.whole HDC.out HNL.out
       have HP14 := Hh (HP13.out.store4 hE HBf13.out HXF.out (.bool v13.form.named) (.string (str v13.form.name)) (.int .i64 v13.form.near) (.slice ya13 v13.form.params.length yc13))
       have HK14 := Hh (HK13.out.store4 HWF.out (.bool v13.form.named) (.string (str v13.form.name)) (.int .i64 v13.form.near) (.slice ya13 v13.form.params.length yc13))
       have HBr14 := Hh (HBr13.out.other4 HNEr.out HBf13.out (.bool v13.form.named) (.string (str v13.form.name)) (.int .i64 v13.form.near) (.slice ya13 v13.form.params.length yc13))
       have HBh14 := Hh (HBh13.out.other4 HNEh.out HBf13.out (.bool v13.form.named) (.string (str v13.form.name)) (.int .i64 v13.form.near) (.slice ya13 v13.form.params.length yc13))
       have HBf14 := Hh hnf
       clear hnf
       have HR14 := Hh HR13.out
       refine (wk_need hE [41] _ _ HP14.out).mono ?_
       intro e w15 he
       rcases qstepR (x := need E.L [41]) HR14.out HN.out HK14.out he with ⟨v15, s15, hr15, -, rfl, hp15, hkk, hk15⟩ | ⟨hr15, ⟨z, rfl⟩, hb15, hk15⟩
       case' inr => rw [← HB0.out]; exact ⟨rfl, q_no hr15 hb15 hk15⟩
       have HR15 := Hh hr15
       have HP15 := Hh hp15
       have HK15 := Hh hk15
       have HBr15 := Hh (HBr14.out.kp hkk)
       have HBh15 := Hh (HBh14.out.kp hkk)
       have HBf15 := Hh (HBf14.out.kp hkk)
       clear he hr15 hp15 hkk hk15
       go_wp2_with fail
       with_reducible replace HR15 := Hh (q_pb HR15.out)
       dsimp only at HR15
       have hq := HR15.out
       replace hq := qone hq rfl
       clear HR15
       have HR15 := Hh hq
       clear hq
       have hq := HR15.out
       try simp only [form_fo, bool_bo] at hq
       clear HR15
       have HR15 := Hh hq
       clear hq
       refine (w_suffixes hE (fun m hm => IH.out m hm) _ false bf _ _ _ HXF.out HBf15.out HP15.out (qne HR15.out HN.out)).mono ?_
       intro e w16 he
       rcases qstepS HR15.out HN.out he with ⟨v16, s16, y16, hr16, rfl, hle16, hf16, hp16, hkb16⟩ | ⟨hr16, ⟨z, rfl⟩, hb16, hkb16⟩
       case' inr => rw [← HB0.out]; exact ⟨rfl, q_no hr16 hb16 (KPb.kp HK15.out HWF.out hkb16)⟩
       have HR16 := Hh hr16
       have HP16 := Hh hp16
       have HK16 := Hh (KPb.kp HK15.out HWF.out hkb16)
       have HBf16 := Hh hf16
       have HLE := Hh hle16
       have HBr16 := Hh (HBr15.out.kpb HNEr.out hkb16)
       have HBh16 := Hh (HBh15.out.kpb HNEh.out hkb16)
       clear he hr16 hp16 hkb16 hf16 hle16
       have hq := HR16.out
       replace hq := qone hq rfl
       clear HR16
       have HR16 := Hh hq
       clear hq
       obtain ⟨an, han⟩ : ∃ b, decide (s15.at' < s16.at') = b := ⟨_, rfl⟩
       rw [han]
       have HAN := Hh han
       clear han
       replace HR16 := Hh (q_neg HR16.out (fun h => by cases h.1))
       cases st
       ·obtain ⟨d0, d1⟩ := HBh16.out.cells
        have hne1 : ¬ bf = bh := fun q => HNEh.out q.symm
        go_wp2_with fail
        have hq := HR16.out
        rw [show Fm.ptr false (v16.form) = v16.form from rfl] at hq
        try (with_reducible replace hq := q_assoc hq)
        clear HR16
        have HR16 := Hh hq
        clear hq
        refine (wk_node hE 14 v1 _ _ HP16.out (qne HR16.out HN.out)).mono ?_
        intro e w17 he
        rcases qstepR (x := node E.L 14 v1) HR16.out HN.out HK16.out he with ⟨v17, s17, hr17, -, rfl, hp17, hkk, hk17⟩ | ⟨hr17, ⟨z, rfl⟩, hb17, hk17⟩
        case' inr => rw [← HB0.out]; exact ⟨rfl, q_no hr17 hb17 hk17⟩
        try dsimp only at hr17
        have HR17 := Hh hr17
        have HP17 := Hh hp17
        have HK17 := Hh hk17
        have HBr17 := Hh (HBr16.out.kp hkk)
        have HBh17 := Hh (HBh16.out.kp hkk)
        have HBf17 := Hh (HBf16.out.kp hkk)
        clear he hr17 hp17 hkk hk17
        have hq := HR17.out
        try (with_reducible replace hq := q_assoc hq)
        clear HR17
        have HR17 := Hh hq
        clear hq
        try clear d0 d1
        obtain ⟨f0, f1, f2, f3⟩ := HBf17.out.cells
        obtain ⟨r0, r1, r2, r3⟩ := HBr17.out.cells
        have zr0 := HBr17.out.frozen 0
        have zr1 := HBr17.out.frozen 1
        have zr2 := HBr17.out.frozen 2
        have zr3 := HBr17.out.frozen 3
        have HDF := Hh HBf17.out.2
        obtain ⟨ya, yc, hye, -⟩ := HBf17.out.2.1
        rw [hye] at f3
        have HYE := Hh hye
        clear hye
        go_wp2_with fail
        have hdf := HDF.out
        rw [HYE.out] at hdf
        have hw := HBr17.out.whole (g := v16.form) hdf.1 hdf.2
        have hpr := HP17.out.store4 hE HBr17.out HXr.out (.bool (v16.form).named) (.string (str (v16.form).name)) (.int .i64 (v16.form).near) (.slice ya (v16.form).params.length yc)
        have hkr := HK17.out.store4 (Nat.le_of_eq hbr) (.bool (v16.form).named) (.string (str (v16.form).name)) (.int .i64 (v16.form).near) (.slice ya (v16.form).params.length yc)
        have hqr := q_pure HR17.out
        have HW := Hh hw
        have HPR := Hh hpr
        have HKR := Hh hkr
        have HQR := Hh hqr
        clear hw hpr hkr hqr hdf
        rw [← HB0.out]
        refine bodyPost_ret (v := .agg #[.bool (v16.form).named, .string (str (v16.form).name), .int .i64 (v16.form).near, .slice ya (v16.form).params.length yc]) ?_ rfl ?_
        ·simp [results, Tryz.results48, go_sem, r0, r1, r2, r3]
        ·exact q_ok HQR.out ⟨_, rfl, HW.out.2.1, HW.out.2.2⟩ HPR.out HKR.out
       ·obtain ⟨d0, d1⟩ := HBh16.out.cells
        have hne1 : ¬ bf = bh := fun q => HNEh.out q.symm
        obtain ⟨zn, hzn⟩ : ∃ z : Int, ((v16.form).near : Int) = z := ⟨_, rfl⟩
        by_cases hn0 : (v16.form).near = 0
        ·obtain ⟨f0, f1, f2, f3⟩ := HBf16.out.cells
         have z2f := HBf16.out.frozen 2
         rw [hzn] at f2
         have e0 : (zn == 0) = true := by rw [← hzn, hn0]; rfl
         have HZN := Hh hzn
         clear hzn
         go_wp2_with fail
         try clear f0 f1 f2 f3 z2f
         have hnf := HBf16.out.near 1
         have HP18 := Hh ((HP16.out.store hE (HBf16.out.1) HXF.out 2 (.int .i64 1)))
         have HK18 := Hh ((HK16.out.store HWF.out 2 (.int .i64 1)))
         have HBr18 := Hh ((HBr16.out.other HNEr.out (HBf16.out.1) 2 (.int .i64 1)))
         have HBh18 := Hh ((HBh16.out.other HNEh.out (HBf16.out.1) 2 (.int .i64 1)))
         have HBf18 := Hh hnf
         clear hnf
         have HR18 := Hh HR16.out
         have hq := HR18.out
         rw [show Fm.ptr true (v16.form) = { v16.form with near := 1 } from by unfold Fm.ptr; rw [hn0]; rfl] at hq
         try (with_reducible replace hq := q_assoc hq)
         clear HR18
         have HR18 := Hh hq
         clear hq
         refine (wk_node hE 14 v1 _ _ HP18.out (qne HR18.out HN.out)).mono ?_
         intro e w19 he
         rcases qstepR (x := node E.L 14 v1) HR18.out HN.out HK18.out he with ⟨v19, s19, hr19, -, rfl, hp19, hkk, hk19⟩ | ⟨hr19, ⟨z, rfl⟩, hb19, hk19⟩
         case' inr => rw [← HB0.out]; exact ⟨rfl, q_no hr19 hb19 hk19⟩
         try dsimp only at hr19
         have HR19 := Hh hr19
         have HP19 := Hh hp19
         have HK19 := Hh hk19
         have HBr19 := Hh (HBr18.out.kp hkk)
         have HBh19 := Hh (HBh18.out.kp hkk)
         have HBf19 := Hh (HBf18.out.kp hkk)
         clear he hr19 hp19 hkk hk19
         have hq := HR19.out
         try (with_reducible replace hq := q_assoc hq)
         clear HR19
         have HR19 := Hh hq
         clear hq
         try clear d0 d1
         obtain ⟨f0, f1, f2, f3⟩ := HBf19.out.cells
         obtain ⟨r0, r1, r2, r3⟩ := HBr19.out.cells
         have zr0 := HBr19.out.frozen 0
         have zr1 := HBr19.out.frozen 1
         have zr2 := HBr19.out.frozen 2
         have zr3 := HBr19.out.frozen 3
         have HDF := Hh HBf19.out.2
         obtain ⟨ya, yc, hye, -⟩ := HBf19.out.2.1
         rw [hye] at f3
         have HYE := Hh hye
         clear hye
         go_wp2_with fail
         have hdf := HDF.out
         rw [HYE.out] at hdf
         have hw := HBr19.out.whole (g := { v16.form with near := 1 }) hdf.1 hdf.2
         have hpr := HP19.out.store4 hE HBr19.out HXr.out (.bool ({ v16.form with near := 1 }).named) (.string (str ({ v16.form with near := 1 }).name)) (.int .i64 ({ v16.form with near := 1 }).near) (.slice ya ({ v16.form with near := 1 }).params.length yc)
         have hkr := HK19.out.store4 (Nat.le_of_eq hbr) (.bool ({ v16.form with near := 1 }).named) (.string (str ({ v16.form with near := 1 }).name)) (.int .i64 ({ v16.form with near := 1 }).near) (.slice ya ({ v16.form with near := 1 }).params.length yc)
         have hqr := q_pure HR19.out
         have HW := Hh hw
         have HPR := Hh hpr
         have HKR := Hh hkr
         have HQR := Hh hqr
         clear hw hpr hkr hqr hdf
         rw [← HB0.out]
         refine bodyPost_ret (v := .agg #[.bool ({ v16.form with near := 1 }).named, .string (str ({ v16.form with near := 1 }).name), .int .i64 ({ v16.form with near := 1 }).near, .slice ya ({ v16.form with near := 1 }).params.length yc]) ?_ rfl ?_
         ·simp [results, Tryz.results48, go_sem, r0, r1, r2, r3]
         ·exact q_ok HQR.out ⟨_, rfl, HW.out.2.1, HW.out.2.2⟩ HPR.out HKR.out
        ·obtain ⟨f0, f1, f2, f3⟩ := HBf16.out.cells
         have z2f := HBf16.out.frozen 2
         rw [hzn] at f2
         have e0 : (zn == 0) = false := by rw [beq_eq_false_iff_ne, ← hzn]; omega
         have HZN := Hh hzn
         clear hzn
         go_wp2_with fail
         try clear f0 f1 f2 f3 z2f
         have hq := HR16.out
         rw [show Fm.ptr true (v16.form) = v16.form from by unfold Fm.ptr; rw [show ((v16.form).near == 0) = false from by rw [beq_eq_false_iff_ne]; exact hn0]; rfl] at hq
         try (with_reducible replace hq := q_assoc hq)
         clear HR16
         have HR16 := Hh hq
         clear hq
         refine (wk_node hE 14 v1 _ _ HP16.out (qne HR16.out HN.out)).mono ?_
         intro e w20 he
         rcases qstepR (x := node E.L 14 v1) HR16.out HN.out HK16.out he with ⟨v20, s20, hr20, -, rfl, hp20, hkk, hk20⟩ | ⟨hr20, ⟨z, rfl⟩, hb20, hk20⟩
         case' inr => rw [← HB0.out]; exact ⟨rfl, q_no hr20 hb20 hk20⟩
         try dsimp only at hr20
         have HR20 := Hh hr20
         have HP20 := Hh hp20
         have HK20 := Hh hk20
         have HBr20 := Hh (HBr16.out.kp hkk)
         have HBh20 := Hh (HBh16.out.kp hkk)
         have HBf20 := Hh (HBf16.out.kp hkk)
         clear he hr20 hp20 hkk hk20
         have hq := HR20.out
         try (with_reducible replace hq := q_assoc hq)
         clear HR20
         have HR20 := Hh hq
         clear hq
         try clear d0 d1
         obtain ⟨f0, f1, f2, f3⟩ := HBf20.out.cells
         obtain ⟨r0, r1, r2, r3⟩ := HBr20.out.cells
         have zr0 := HBr20.out.frozen 0
         have zr1 := HBr20.out.frozen 1
         have zr2 := HBr20.out.frozen 2
         have zr3 := HBr20.out.frozen 3
         have HDF := Hh HBf20.out.2
         obtain ⟨ya, yc, hye, -⟩ := HBf20.out.2.1
         rw [hye] at f3
         have HYE := Hh hye
         clear hye
         go_wp2_with fail
         have hdf := HDF.out
         rw [HYE.out] at hdf
         have hw := HBr20.out.whole (g := v16.form) hdf.1 hdf.2
         have hpr := HP20.out.store4 hE HBr20.out HXr.out (.bool (v16.form).named) (.string (str (v16.form).name)) (.int .i64 (v16.form).near) (.slice ya (v16.form).params.length yc)
         have hkr := HK20.out.store4 (Nat.le_of_eq hbr) (.bool (v16.form).named) (.string (str (v16.form).name)) (.int .i64 (v16.form).near) (.slice ya (v16.form).params.length yc)
         have hqr := q_pure HR20.out
         have HW := Hh hw
         have HPR := Hh hpr
         have HKR := Hh hkr
         have HQR := Hh hqr
         clear hw hpr hkr hqr hdf
         rw [← HB0.out]
         refine bodyPost_ret (v := .agg #[.bool (v16.form).named, .string (str (v16.form).name), .int .i64 (v16.form).near, .slice ya (v16.form).params.length yc]) ?_ rfl ?_
         ·simp [results, Tryz.results48, go_sem, r0, r1, r2, r3]
         ·exact q_ok HQR.out ⟨_, rfl, HW.out.2.1, HW.out.2.2⟩ HPR.out HKR.out
      ·try clear HR4
       go_wp2_with fail
       refine SG.out.mono ?_
       rintro e w11 ⟨rfl, hp11, hkk⟩
       clear SG
       have HP11 := Hh hp11
       have HK11 := Hh (HK5.out.trans hkk)
       have HBr11 := Hh (HBr5.out.kp hkk)
       have HBh11 := Hh (HBh5.out.kp hkk)
       have HBf11 := Hh (HBf5.out.kp hkk)
       clear hp11 hkk
       have hq := HR11.out
       simp only [Bool.not_true, Bool.and_false, Bool.or_false] at hq
       clear HR11
       have HR11 := Hh hq
       clear hq
       replace HR11 := Hh (q_neg HR11.out (by simp []))
       replace HR11 := Hh (q_neg HR11.out (by simp []))
       with_reducible replace HR11 := Hh (q_pb HR11.out)
       dsimp only at HR11
       go_wp2_with fail
       have hq := HR11.out
       replace hq := qone hq rfl
       clear HR11
       have HR11 := Hh hq
       clear hq
       have hq := HR11.out
       try simp only [form_fo, bool_bo] at hq
       clear HR11
       have HR11 := Hh hq
       clear hq
       refine (w_suffixes hE (fun m hm => IH.out m hm) _ false bf _ _ _ HXF.out HBf11.out HP11.out (qne HR11.out HN.out)).mono ?_
       intro e w21 he
       rcases qstepS HR11.out HN.out he with ⟨v21, s21, y21, hr21, rfl, hle21, hf21, hp21, hkb21⟩ | ⟨hr21, ⟨z, rfl⟩, hb21, hkb21⟩
       case' inr => rw [← HB0.out]; exact ⟨rfl, q_no hr21 hb21 (KPb.kp HK11.out HWF.out hkb21)⟩
       have HR21 := Hh hr21
       have HP21 := Hh hp21
       have HK21 := Hh (KPb.kp HK11.out HWF.out hkb21)
       have HBf21 := Hh hf21
       have HLE := Hh hle21
       have HBr21 := Hh (HBr11.out.kpb HNEr.out hkb21)
       have HBh21 := Hh (HBh11.out.kpb HNEh.out hkb21)
       clear he hr21 hp21 hkb21 hf21 hle21
       have hq := HR21.out
       replace hq := qone hq rfl
       clear HR21
       have HR21 := Hh hq
       clear hq
       obtain ⟨an, han⟩ : ∃ b, decide (s4.at' < s21.at') = b := ⟨_, rfl⟩
       rw [han]
       have HAN := Hh han
       clear han
       cases st
       ·cases an
        ·replace HR21 := Hh (q_pos HR21.out (by have q := of_decide_eq_false HAN.out; have q2 := HLE.out; exact ⟨by trivial, by trivial, by omega⟩))
         go_wp2_with fail
         refine (wk_fail (α := Va) hE (fun _ => .tuple #[]) _ _ HP21.out).mono ?_
         rintro e wf ⟨⟨z, rfl⟩, hbf, hkf⟩
         rw [← HB0.out]; exact ⟨rfl, q_no (show r = .no from HR21.out.symm) hbf (HK21.out.trans hkf)⟩
        ·replace HR21 := Hh (q_neg HR21.out (fun h => by have q := of_decide_eq_true HAN.out; have e := h.2.2; omega))
         obtain ⟨d0, d1⟩ := HBh21.out.cells
         have hne1 : ¬ bf = bh := fun q => HNEh.out q.symm
         go_wp2_with fail
         have hq := HR21.out
         rw [show Fm.ptr false (v21.form) = v21.form from rfl] at hq
         try (with_reducible replace hq := q_assoc hq)
         clear HR21
         have HR21 := Hh hq
         clear hq
         refine (wk_node hE 14 v1 _ _ HP21.out (qne HR21.out HN.out)).mono ?_
         intro e w22 he
         rcases qstepR (x := node E.L 14 v1) HR21.out HN.out HK21.out he with ⟨v22, s22, hr22, -, rfl, hp22, hkk, hk22⟩ | ⟨hr22, ⟨z, rfl⟩, hb22, hk22⟩
         case' inr => rw [← HB0.out]; exact ⟨rfl, q_no hr22 hb22 hk22⟩
         try dsimp only at hr22
         have HR22 := Hh hr22
         have HP22 := Hh hp22
         have HK22 := Hh hk22
         have HBr22 := Hh (HBr21.out.kp hkk)
         have HBh22 := Hh (HBh21.out.kp hkk)
         have HBf22 := Hh (HBf21.out.kp hkk)
         clear he hr22 hp22 hkk hk22
         have hq := HR22.out
         try (with_reducible replace hq := q_assoc hq)
         clear HR22
         have HR22 := Hh hq
         clear hq
         try clear d0 d1
         obtain ⟨f0, f1, f2, f3⟩ := HBf22.out.cells
         obtain ⟨r0, r1, r2, r3⟩ := HBr22.out.cells
         have zr0 := HBr22.out.frozen 0
         have zr1 := HBr22.out.frozen 1
         have zr2 := HBr22.out.frozen 2
         have zr3 := HBr22.out.frozen 3
         have HDF := Hh HBf22.out.2
         obtain ⟨ya, yc, hye, -⟩ := HBf22.out.2.1
         rw [hye] at f3
         have HYE := Hh hye
         clear hye
         go_wp2_with fail
         have hdf := HDF.out
         rw [HYE.out] at hdf
         have hw := HBr22.out.whole (g := v21.form) hdf.1 hdf.2
         have hpr := HP22.out.store4 hE HBr22.out HXr.out (.bool (v21.form).named) (.string (str (v21.form).name)) (.int .i64 (v21.form).near) (.slice ya (v21.form).params.length yc)
         have hkr := HK22.out.store4 (Nat.le_of_eq hbr) (.bool (v21.form).named) (.string (str (v21.form).name)) (.int .i64 (v21.form).near) (.slice ya (v21.form).params.length yc)
         have hqr := q_pure HR22.out
         have HW := Hh hw
         have HPR := Hh hpr
         have HKR := Hh hkr
         have HQR := Hh hqr
         clear hw hpr hkr hqr hdf
         rw [← HB0.out]
         refine bodyPost_ret (v := .agg #[.bool (v21.form).named, .string (str (v21.form).name), .int .i64 (v21.form).near, .slice ya (v21.form).params.length yc]) ?_ rfl ?_
         ·simp [results, Tryz.results48, go_sem, r0, r1, r2, r3]
         ·exact q_ok HQR.out ⟨_, rfl, HW.out.2.1, HW.out.2.2⟩ HPR.out HKR.out
       ·replace HR21 := Hh (q_neg HR21.out (fun h => by cases h.2.1))
        obtain ⟨d0, d1⟩ := HBh21.out.cells
        have hne1 : ¬ bf = bh := fun q => HNEh.out q.symm
        obtain ⟨zn, hzn⟩ : ∃ z : Int, ((v21.form).near : Int) = z := ⟨_, rfl⟩
        by_cases hn0 : (v21.form).near = 0
        ·obtain ⟨f0, f1, f2, f3⟩ := HBf21.out.cells
         have z2f := HBf21.out.frozen 2
         rw [hzn] at f2
         have e0 : (zn == 0) = true := by rw [← hzn, hn0]; rfl
         have HZN := Hh hzn
         clear hzn
         go_wp2_with fail
         try clear f0 f1 f2 f3 z2f
         have hnf := HBf21.out.near 1
         have HP23 := Hh ((HP21.out.store hE (HBf21.out.1) HXF.out 2 (.int .i64 1)))
         have HK23 := Hh ((HK21.out.store HWF.out 2 (.int .i64 1)))
         have HBr23 := Hh ((HBr21.out.other HNEr.out (HBf21.out.1) 2 (.int .i64 1)))
         have HBh23 := Hh ((HBh21.out.other HNEh.out (HBf21.out.1) 2 (.int .i64 1)))
         have HBf23 := Hh hnf
         clear hnf
         have HR23 := Hh HR21.out
         have hq := HR23.out
         rw [show Fm.ptr true (v21.form) = { v21.form with near := 1 } from by unfold Fm.ptr; rw [hn0]; rfl] at hq
         try (with_reducible replace hq := q_assoc hq)
         clear HR23
         have HR23 := Hh hq
         clear hq
         refine (wk_node hE 14 v1 _ _ HP23.out (qne HR23.out HN.out)).mono ?_
         intro e w24 he
         rcases qstepR (x := node E.L 14 v1) HR23.out HN.out HK23.out he with ⟨v24, s24, hr24, -, rfl, hp24, hkk, hk24⟩ | ⟨hr24, ⟨z, rfl⟩, hb24, hk24⟩
         case' inr => rw [← HB0.out]; exact ⟨rfl, q_no hr24 hb24 hk24⟩
         try dsimp only at hr24
         have HR24 := Hh hr24
         have HP24 := Hh hp24
         have HK24 := Hh hk24
         have HBr24 := Hh (HBr23.out.kp hkk)
         have HBh24 := Hh (HBh23.out.kp hkk)
         have HBf24 := Hh (HBf23.out.kp hkk)
         clear he hr24 hp24 hkk hk24
         have hq := HR24.out
         try (with_reducible replace hq := q_assoc hq)
         clear HR24
         have HR24 := Hh hq
         clear hq
         try clear d0 d1
         obtain ⟨f0, f1, f2, f3⟩ := HBf24.out.cells
         obtain ⟨r0, r1, r2, r3⟩ := HBr24.out.cells
         have zr0 := HBr24.out.frozen 0
         have zr1 := HBr24.out.frozen 1
         have zr2 := HBr24.out.frozen 2
         have zr3 := HBr24.out.frozen 3
         have HDF := Hh HBf24.out.2
         obtain ⟨ya, yc, hye, -⟩ := HBf24.out.2.1
         rw [hye] at f3
         have HYE := Hh hye
         clear hye
         go_wp2_with fail
         have hdf := HDF.out
         rw [HYE.out] at hdf
         have hw := HBr24.out.whole (g := { v21.form with near := 1 }) hdf.1 hdf.2
         have hpr := HP24.out.store4 hE HBr24.out HXr.out (.bool ({ v21.form with near := 1 }).named) (.string (str ({ v21.form with near := 1 }).name)) (.int .i64 ({ v21.form with near := 1 }).near) (.slice ya ({ v21.form with near := 1 }).params.length yc)
         have hkr := HK24.out.store4 (Nat.le_of_eq hbr) (.bool ({ v21.form with near := 1 }).named) (.string (str ({ v21.form with near := 1 }).name)) (.int .i64 ({ v21.form with near := 1 }).near) (.slice ya ({ v21.form with near := 1 }).params.length yc)
         have hqr := q_pure HR24.out
         have HW := Hh hw
         have HPR := Hh hpr
         have HKR := Hh hkr
         have HQR := Hh hqr
         clear hw hpr hkr hqr hdf
         rw [← HB0.out]
         refine bodyPost_ret (v := .agg #[.bool ({ v21.form with near := 1 }).named, .string (str ({ v21.form with near := 1 }).name), .int .i64 ({ v21.form with near := 1 }).near, .slice ya ({ v21.form with near := 1 }).params.length yc]) ?_ rfl ?_
         ·simp [results, Tryz.results48, go_sem, r0, r1, r2, r3]
         ·exact q_ok HQR.out ⟨_, rfl, HW.out.2.1, HW.out.2.2⟩ HPR.out HKR.out
        ·obtain ⟨f0, f1, f2, f3⟩ := HBf21.out.cells
         have z2f := HBf21.out.frozen 2
         rw [hzn] at f2
         have e0 : (zn == 0) = false := by rw [beq_eq_false_iff_ne, ← hzn]; omega
         have HZN := Hh hzn
         clear hzn
         go_wp2_with fail
         try clear f0 f1 f2 f3 z2f
         have hq := HR21.out
         rw [show Fm.ptr true (v21.form) = v21.form from by unfold Fm.ptr; rw [show ((v21.form).near == 0) = false from by rw [beq_eq_false_iff_ne]; exact hn0]; rfl] at hq
         try (with_reducible replace hq := q_assoc hq)
         clear HR21
         have HR21 := Hh hq
         clear hq
         refine (wk_node hE 14 v1 _ _ HP21.out (qne HR21.out HN.out)).mono ?_
         intro e w25 he
         rcases qstepR (x := node E.L 14 v1) HR21.out HN.out HK21.out he with ⟨v25, s25, hr25, -, rfl, hp25, hkk, hk25⟩ | ⟨hr25, ⟨z, rfl⟩, hb25, hk25⟩
         case' inr => rw [← HB0.out]; exact ⟨rfl, q_no hr25 hb25 hk25⟩
         try dsimp only at hr25
         have HR25 := Hh hr25
         have HP25 := Hh hp25
         have HK25 := Hh hk25
         have HBr25 := Hh (HBr21.out.kp hkk)
         have HBh25 := Hh (HBh21.out.kp hkk)
         have HBf25 := Hh (HBf21.out.kp hkk)
         clear he hr25 hp25 hkk hk25
         have hq := HR25.out
         try (with_reducible replace hq := q_assoc hq)
         clear HR25
         have HR25 := Hh hq
         clear hq
         try clear d0 d1
         obtain ⟨f0, f1, f2, f3⟩ := HBf25.out.cells
         obtain ⟨r0, r1, r2, r3⟩ := HBr25.out.cells
         have zr0 := HBr25.out.frozen 0
         have zr1 := HBr25.out.frozen 1
         have zr2 := HBr25.out.frozen 2
         have zr3 := HBr25.out.frozen 3
         have HDF := Hh HBf25.out.2
         obtain ⟨ya, yc, hye, -⟩ := HBf25.out.2.1
         rw [hye] at f3
         have HYE := Hh hye
         clear hye
         go_wp2_with fail
         have hdf := HDF.out
         rw [HYE.out] at hdf
         have hw := HBr25.out.whole (g := v21.form) hdf.1 hdf.2
         have hpr := HP25.out.store4 hE HBr25.out HXr.out (.bool (v21.form).named) (.string (str (v21.form).name)) (.int .i64 (v21.form).near) (.slice ya (v21.form).params.length yc)
         have hkr := HK25.out.store4 (Nat.le_of_eq hbr) (.bool (v21.form).named) (.string (str (v21.form).name)) (.int .i64 (v21.form).near) (.slice ya (v21.form).params.length yc)
         have hqr := q_pure HR25.out
         have HW := Hh hw
         have HPR := Hh hpr
         have HKR := Hh hkr
         have HQR := Hh hqr
         clear hw hpr hkr hqr hdf
         rw [← HB0.out]
         refine bodyPost_ret (v := .agg #[.bool (v21.form).named, .string (str (v21.form).name), .int .i64 (v21.form).near, .slice ya (v21.form).params.length yc]) ?_ rfl ?_
         ·simp [results, Tryz.results48, go_sem, r0, r1, r2, r3]
         ·exact q_ok HQR.out ⟨_, rfl, HW.out.2.1, HW.out.2.2⟩ HPR.out HKR.out
    ·by_cases hk0 : k = 0
     ·subst hk0
      obtain ⟨T, hT⟩ : ∃ T, peekS E.L s4 0 = T := ⟨_, rfl⟩
      have pk := wk_peek hE 0 _ _ (by omega) HP4.out
      rw [hT] at pk
      have hq := qone (x := peek E.L 0) HR4.out rfl
      rw [hT] at hq
      clear hT
      obtain ⟨c26, t26⟩ := T
      unfold ctV at pk
      dsimp only at pk hq
      obtain ⟨x26, hxs⟩ : ∃ x : ByteArray, str t26 = x := ⟨_, rfl⟩
      obtain ⟨z26, hzs⟩ : ∃ z : Int, (c26 : Int) = z := ⟨_, rfl⟩
      rw [hxs, hzs] at pk
      have HX26 := Hh hxs
      have HZ26 := Hh hzs
      have HR26 := Hh hq
      have PK := Hh pk
      clear hxs hzs hq pk
      go_wp2_with fail
      refine PK.out.mono ?_
      rintro e w26 ⟨rfl, hbl⟩
      have HBL := Hh hbl
      clear hbl PK
      have HP26 := Hh (HP4.out.ext hE HBL.out)
      have HK26 := Hh (HK4.out.trans (KP.of_below HBL.out))
      have HBr26 := Hh (HBr4.out.kp (KP.of_below HBL.out))
      have HBh26 := Hh (HBh4.out.kp (KP.of_below HBL.out))
      have HBf26 := Hh (HBf4.out.kp (KP.of_below HBL.out))
      clear HBL
      have hF : ∀ (z : Int) (x : ByteArray) (W : World), (Instr.field 54 (.agg #[.int .i64 z, .string x]) 0).run Tryz.prog W = .ok (.int .i64 z) W := fun z x W => by kernel_rfl
      by_cases hc262 : c26 = 2
      ·have fc262 : (z26 == 2) = true := by rw [← HZ26.out, hc262]; rfl
       have fn262 : (z26 != 2) = false := by rw [← HZ26.out, hc262]; rfl
       have hq := HR26.out
       replace hq := qone hq rfl
       clear HR26
       have HR26 := Hh hq
       clear hq
       replace HR26 := Hh (q_pos HR26.out (by simp [hc262]))
       with_reducible replace HR26 := Hh (q_assoc HR26.out)
       obtain ⟨f0, f1, f2, f3⟩ := HBf26.out.cells
       have z0f := HBf26.out.frozen 0
       go_wp2_with fail
       have hnf := HBf26.out.nmd true
       have HP27 := Hh ((HP26.out.store hE (HBf26.out.1) HXF.out 0 (.bool true)))
       have HK27 := Hh ((HK26.out.store HWF.out 0 (.bool true)))
       have HBr27 := Hh ((HBr26.out.other HNEr.out (HBf26.out.1) 0 (.bool true)))
       have HBh27 := Hh ((HBh26.out.other HNEh.out (HBf26.out.1) 0 (.bool true)))
       have HBf27 := Hh hnf
       clear hnf
       have HR27 := Hh HR26.out
       refine (wk_name hE _ _ HP27.out).mono ?_
       intro e w28 he
       rcases qstepR (x := name' E.L) HR27.out HN.out HK27.out he with ⟨v28, s28, hr28, hxe28, rfl, hp28, hkk, hk28⟩ | ⟨hr28, ⟨z, rfl⟩, hb28, hk28⟩
       case' inr => rw [← HB0.out]; exact ⟨rfl, q_no hr28 hb28 hk28⟩
       have HR28 := Hh hr28
       have HP28 := Hh hp28
       have HK28 := Hh hk28
       have HBr28 := Hh (HBr27.out.kp hkk)
       have HBh28 := Hh (HBh27.out.kp hkk)
       have HBf28 := Hh (HBf27.out.kp hkk)
       clear he hr28 hp28 hkk hk28
       have HLn28 := Hh (name_len hE hxe28)
       clear hxe28
       simp only [stV]
       obtain ⟨f0, f1, f2, f3⟩ := HBf28.out.cells
       have z1f := HBf28.out.frozen 1
       go_wp2_with fail
       try clear f0 f1 f2 f3 z1f
       have hnf := HBf28.out.nme v28 HLn28.out
       have HP29 := Hh ((HP28.out.store hE (HBf28.out.1) HXF.out 1 (.string (str v28))))
       have HK29 := Hh ((HK28.out.store HWF.out 1 (.string (str v28))))
       have HBr29 := Hh ((HBr28.out.other HNEr.out (HBf28.out.1) 1 (.string (str v28))))
       have HBh29 := Hh ((HBh28.out.other HNEh.out (HBf28.out.1) 1 (.string (str v28))))
       have HBf29 := Hh hnf
       clear hnf
       have HR29 := Hh HR28.out
       with_reducible replace HR29 := Hh (q_pb HR29.out)
       dsimp only at HR29
       have hq := HR29.out
       replace hq := qone hq rfl
       clear HR29
       have HR29 := Hh hq
       clear hq
       have hq := HR29.out
       try simp only [form_fo, bool_bo] at hq
       clear HR29
       have HR29 := Hh hq
       clear hq
       refine (w_suffixes hE (fun m hm => IH.out m hm) _ false bf _ _ _ HXF.out HBf29.out HP29.out (qne HR29.out HN.out)).mono ?_
       intro e w30 he
       rcases qstepS HR29.out HN.out he with ⟨v30, s30, y30, hr30, rfl, hle30, hf30, hp30, hkb30⟩ | ⟨hr30, ⟨z, rfl⟩, hb30, hkb30⟩
       case' inr => rw [← HB0.out]; exact ⟨rfl, q_no hr30 hb30 (KPb.kp HK29.out HWF.out hkb30)⟩
       have HR30 := Hh hr30
       have HP30 := Hh hp30
       have HK30 := Hh (KPb.kp HK29.out HWF.out hkb30)
       have HBf30 := Hh hf30
       have HLE := Hh hle30
       have HBr30 := Hh (HBr29.out.kpb HNEr.out hkb30)
       have HBh30 := Hh (HBh29.out.kpb HNEh.out hkb30)
       clear he hr30 hp30 hkb30 hf30 hle30
       have hq := HR30.out
       replace hq := qone hq rfl
       clear HR30
       have HR30 := Hh hq
       clear hq
       obtain ⟨an, han⟩ : ∃ b, decide (s28.at' < s30.at') = b := ⟨_, rfl⟩
       rw [han]
       have HAN := Hh han
       clear han
       replace HR30 := Hh (q_neg HR30.out (fun h => by cases h.1))
       cases st
       ·obtain ⟨d0, d1⟩ := HBh30.out.cells
        have hne1 : ¬ bf = bh := fun q => HNEh.out q.symm
        go_wp2_with fail
        have hq := HR30.out
        rw [show Fm.ptr false (v30.form) = v30.form from rfl] at hq
        try (with_reducible replace hq := q_assoc hq)
        clear HR30
        have HR30 := Hh hq
        clear hq
        refine (wk_node hE 14 v1 _ _ HP30.out (qne HR30.out HN.out)).mono ?_
        intro e w31 he
        rcases qstepR (x := node E.L 14 v1) HR30.out HN.out HK30.out he with ⟨v31, s31, hr31, -, rfl, hp31, hkk, hk31⟩ | ⟨hr31, ⟨z, rfl⟩, hb31, hk31⟩
        case' inr => rw [← HB0.out]; exact ⟨rfl, q_no hr31 hb31 hk31⟩
        try dsimp only at hr31
        have HR31 := Hh hr31
        have HP31 := Hh hp31
        have HK31 := Hh hk31
        have HBr31 := Hh (HBr30.out.kp hkk)
        have HBh31 := Hh (HBh30.out.kp hkk)
        have HBf31 := Hh (HBf30.out.kp hkk)
        clear he hr31 hp31 hkk hk31
        have hq := HR31.out
        try (with_reducible replace hq := q_assoc hq)
        clear HR31
        have HR31 := Hh hq
        clear hq
        try clear d0 d1
        obtain ⟨f0, f1, f2, f3⟩ := HBf31.out.cells
        obtain ⟨r0, r1, r2, r3⟩ := HBr31.out.cells
        have zr0 := HBr31.out.frozen 0
        have zr1 := HBr31.out.frozen 1
        have zr2 := HBr31.out.frozen 2
        have zr3 := HBr31.out.frozen 3
        have HDF := Hh HBf31.out.2
        obtain ⟨ya, yc, hye, -⟩ := HBf31.out.2.1
        rw [hye] at f3
        have HYE := Hh hye
        clear hye
        go_wp2_with fail
        have hdf := HDF.out
        rw [HYE.out] at hdf
        have hw := HBr31.out.whole (g := v30.form) hdf.1 hdf.2
        have hpr := HP31.out.store4 hE HBr31.out HXr.out (.bool (v30.form).named) (.string (str (v30.form).name)) (.int .i64 (v30.form).near) (.slice ya (v30.form).params.length yc)
        have hkr := HK31.out.store4 (Nat.le_of_eq hbr) (.bool (v30.form).named) (.string (str (v30.form).name)) (.int .i64 (v30.form).near) (.slice ya (v30.form).params.length yc)
        have hqr := q_pure HR31.out
        have HW := Hh hw
        have HPR := Hh hpr
        have HKR := Hh hkr
        have HQR := Hh hqr
        clear hw hpr hkr hqr hdf
        rw [← HB0.out]
        refine bodyPost_ret (v := .agg #[.bool (v30.form).named, .string (str (v30.form).name), .int .i64 (v30.form).near, .slice ya (v30.form).params.length yc]) ?_ rfl ?_
        ·simp [results, Tryz.results48, go_sem, r0, r1, r2, r3]
        ·exact q_ok HQR.out ⟨_, rfl, HW.out.2.1, HW.out.2.2⟩ HPR.out HKR.out
       ·obtain ⟨d0, d1⟩ := HBh30.out.cells
        have hne1 : ¬ bf = bh := fun q => HNEh.out q.symm
        obtain ⟨zn, hzn⟩ : ∃ z : Int, ((v30.form).near : Int) = z := ⟨_, rfl⟩
        by_cases hn0 : (v30.form).near = 0
        ·obtain ⟨f0, f1, f2, f3⟩ := HBf30.out.cells
         have z2f := HBf30.out.frozen 2
         rw [hzn] at f2
         have e0 : (zn == 0) = true := by rw [← hzn, hn0]; rfl
         have HZN := Hh hzn
         clear hzn
         go_wp2_with fail
         try clear f0 f1 f2 f3 z2f
         have hnf := HBf30.out.near 1
         have HP32 := Hh ((HP30.out.store hE (HBf30.out.1) HXF.out 2 (.int .i64 1)))
         have HK32 := Hh ((HK30.out.store HWF.out 2 (.int .i64 1)))
         have HBr32 := Hh ((HBr30.out.other HNEr.out (HBf30.out.1) 2 (.int .i64 1)))
         have HBh32 := Hh ((HBh30.out.other HNEh.out (HBf30.out.1) 2 (.int .i64 1)))
         have HBf32 := Hh hnf
         clear hnf
         have HR32 := Hh HR30.out
         have hq := HR32.out
         rw [show Fm.ptr true (v30.form) = { v30.form with near := 1 } from by unfold Fm.ptr; rw [hn0]; rfl] at hq
         try (with_reducible replace hq := q_assoc hq)
         clear HR32
         have HR32 := Hh hq
         clear hq
         refine (wk_node hE 14 v1 _ _ HP32.out (qne HR32.out HN.out)).mono ?_
         intro e w33 he
         rcases qstepR (x := node E.L 14 v1) HR32.out HN.out HK32.out he with ⟨v33, s33, hr33, -, rfl, hp33, hkk, hk33⟩ | ⟨hr33, ⟨z, rfl⟩, hb33, hk33⟩
         case' inr => rw [← HB0.out]; exact ⟨rfl, q_no hr33 hb33 hk33⟩
         try dsimp only at hr33
         have HR33 := Hh hr33
         have HP33 := Hh hp33
         have HK33 := Hh hk33
         have HBr33 := Hh (HBr32.out.kp hkk)
         have HBh33 := Hh (HBh32.out.kp hkk)
         have HBf33 := Hh (HBf32.out.kp hkk)
         clear he hr33 hp33 hkk hk33
         have hq := HR33.out
         try (with_reducible replace hq := q_assoc hq)
         clear HR33
         have HR33 := Hh hq
         clear hq
         try clear d0 d1
         obtain ⟨f0, f1, f2, f3⟩ := HBf33.out.cells
         obtain ⟨r0, r1, r2, r3⟩ := HBr33.out.cells
         have zr0 := HBr33.out.frozen 0
         have zr1 := HBr33.out.frozen 1
         have zr2 := HBr33.out.frozen 2
         have zr3 := HBr33.out.frozen 3
         have HDF := Hh HBf33.out.2
         obtain ⟨ya, yc, hye, -⟩ := HBf33.out.2.1
         rw [hye] at f3
         have HYE := Hh hye
         clear hye
         go_wp2_with fail
         have hdf := HDF.out
         rw [HYE.out] at hdf
         have hw := HBr33.out.whole (g := { v30.form with near := 1 }) hdf.1 hdf.2
         have hpr := HP33.out.store4 hE HBr33.out HXr.out (.bool ({ v30.form with near := 1 }).named) (.string (str ({ v30.form with near := 1 }).name)) (.int .i64 ({ v30.form with near := 1 }).near) (.slice ya ({ v30.form with near := 1 }).params.length yc)
         have hkr := HK33.out.store4 (Nat.le_of_eq hbr) (.bool ({ v30.form with near := 1 }).named) (.string (str ({ v30.form with near := 1 }).name)) (.int .i64 ({ v30.form with near := 1 }).near) (.slice ya ({ v30.form with near := 1 }).params.length yc)
         have hqr := q_pure HR33.out
         have HW := Hh hw
         have HPR := Hh hpr
         have HKR := Hh hkr
         have HQR := Hh hqr
         clear hw hpr hkr hqr hdf
         rw [← HB0.out]
         refine bodyPost_ret (v := .agg #[.bool ({ v30.form with near := 1 }).named, .string (str ({ v30.form with near := 1 }).name), .int .i64 ({ v30.form with near := 1 }).near, .slice ya ({ v30.form with near := 1 }).params.length yc]) ?_ rfl ?_
         ·simp [results, Tryz.results48, go_sem, r0, r1, r2, r3]
         ·exact q_ok HQR.out ⟨_, rfl, HW.out.2.1, HW.out.2.2⟩ HPR.out HKR.out
        ·obtain ⟨f0, f1, f2, f3⟩ := HBf30.out.cells
         have z2f := HBf30.out.frozen 2
         rw [hzn] at f2
         have e0 : (zn == 0) = false := by rw [beq_eq_false_iff_ne, ← hzn]; omega
         have HZN := Hh hzn
         clear hzn
         go_wp2_with fail
         try clear f0 f1 f2 f3 z2f
         have hq := HR30.out
         rw [show Fm.ptr true (v30.form) = v30.form from by unfold Fm.ptr; rw [show ((v30.form).near == 0) = false from by rw [beq_eq_false_iff_ne]; exact hn0]; rfl] at hq
         try (with_reducible replace hq := q_assoc hq)
         clear HR30
         have HR30 := Hh hq
         clear hq
         refine (wk_node hE 14 v1 _ _ HP30.out (qne HR30.out HN.out)).mono ?_
         intro e w34 he
         rcases qstepR (x := node E.L 14 v1) HR30.out HN.out HK30.out he with ⟨v34, s34, hr34, -, rfl, hp34, hkk, hk34⟩ | ⟨hr34, ⟨z, rfl⟩, hb34, hk34⟩
         case' inr => rw [← HB0.out]; exact ⟨rfl, q_no hr34 hb34 hk34⟩
         try dsimp only at hr34
         have HR34 := Hh hr34
         have HP34 := Hh hp34
         have HK34 := Hh hk34
         have HBr34 := Hh (HBr30.out.kp hkk)
         have HBh34 := Hh (HBh30.out.kp hkk)
         have HBf34 := Hh (HBf30.out.kp hkk)
         clear he hr34 hp34 hkk hk34
         have hq := HR34.out
         try (with_reducible replace hq := q_assoc hq)
         clear HR34
         have HR34 := Hh hq
         clear hq
         try clear d0 d1
         obtain ⟨f0, f1, f2, f3⟩ := HBf34.out.cells
         obtain ⟨r0, r1, r2, r3⟩ := HBr34.out.cells
         have zr0 := HBr34.out.frozen 0
         have zr1 := HBr34.out.frozen 1
         have zr2 := HBr34.out.frozen 2
         have zr3 := HBr34.out.frozen 3
         have HDF := Hh HBf34.out.2
         obtain ⟨ya, yc, hye, -⟩ := HBf34.out.2.1
         rw [hye] at f3
         have HYE := Hh hye
         clear hye
         go_wp2_with fail
         have hdf := HDF.out
         rw [HYE.out] at hdf
         have hw := HBr34.out.whole (g := v30.form) hdf.1 hdf.2
         have hpr := HP34.out.store4 hE HBr34.out HXr.out (.bool (v30.form).named) (.string (str (v30.form).name)) (.int .i64 (v30.form).near) (.slice ya (v30.form).params.length yc)
         have hkr := HK34.out.store4 (Nat.le_of_eq hbr) (.bool (v30.form).named) (.string (str (v30.form).name)) (.int .i64 (v30.form).near) (.slice ya (v30.form).params.length yc)
         have hqr := q_pure HR34.out
         have HW := Hh hw
         have HPR := Hh hpr
         have HKR := Hh hkr
         have HQR := Hh hqr
         clear hw hpr hkr hqr hdf
         rw [← HB0.out]
         refine bodyPost_ret (v := .agg #[.bool (v30.form).named, .string (str (v30.form).name), .int .i64 (v30.form).near, .slice ya (v30.form).params.length yc]) ?_ rfl ?_
         ·simp [results, Tryz.results48, go_sem, r0, r1, r2, r3]
         ·exact q_ok HQR.out ⟨_, rfl, HW.out.2.1, HW.out.2.2⟩ HPR.out HKR.out
      ·have fc262 : (z26 == 2) = false := by rw [← HZ26.out, beq_eq_false_iff_ne]; omega
       have fn262 : (z26 != 2) = true := by rw [← HZ26.out, bne_iff_ne]; omega
       have hq := HR26.out
       replace hq := qone hq rfl
       clear HR26
       have HR26 := Hh hq
       clear hq
       replace HR26 := Hh (q_neg HR26.out (by simp [hc262]))
       obtain ⟨B35, hB⟩ : ∃ B, signS E.L s4 0 [40] = B := ⟨_, rfl⟩
       have hq := HR26.out
       rw [hB] at hq
       have HR35 := Hh hq
       clear hq
       have SG := Hh (by have h := wk_sign hE 0 [40] s4 _ (by omega) HP26.out; rw [show sign E.L 0 [40] s4 = .ok (signS E.L s4 0 [40]) s4 from rfl, hB] at h; exact h : Calls Tryz.prog 47 #[.pointer (some ⟨E.pb, 0, none⟩), .int .i64 0, .string (str [40])] _ (EndR E .bool _ (.ok B35 s4)))
       clear hB
       cases B35
       ·try clear HR4
        go_wp2_with fail
        refine SG.out.mono ?_
        rintro e w35 ⟨rfl, hp35, hkk⟩
        clear SG
        have HP35 := Hh hp35
        have HK35 := Hh (HK26.out.trans hkk)
        have HBr35 := Hh (HBr26.out.kp hkk)
        have HBh35 := Hh (HBh26.out.kp hkk)
        have HBf35 := Hh (HBf26.out.kp hkk)
        clear hp35 hkk
        replace HR35 := Hh (q_neg HR35.out (by simp [hc262]))
        go_wp2_with fail
        refine (wk_fail (α := Va) hE (fun _ => .tuple #[]) _ _ HP35.out).mono ?_
        rintro e wf ⟨⟨z, rfl⟩, hbf, hkf⟩
        rw [← HB0.out]; exact ⟨rfl, q_no (show r = .no from HR35.out.symm) hbf (HK35.out.trans hkf)⟩
       ·try clear HR4
        go_wp2_with fail
        refine SG.out.mono ?_
        rintro e w35 ⟨rfl, hp35, hkk⟩
        clear SG
        have HP35 := Hh hp35
        have HK35 := Hh (HK26.out.trans hkk)
        have HBr35 := Hh (HBr26.out.kp hkk)
        have HBh35 := Hh (HBh26.out.kp hkk)
        have HBf35 := Hh (HBf26.out.kp hkk)
        clear hp35 hkk
        replace HR35 := Hh (q_pos HR35.out (by simp [hc262]))
        with_reducible replace HR35 := Hh (q_assoc HR35.out)
        obtain ⟨hle36, hr36⟩ := q_step HR35.out HN.out
        obtain ⟨c1, f1, -⟩ := HP35.out.at
        have hpb := HP35.out.lt
        obtain ⟨q361, q362⟩ := HP35.out.on hE hle36
        have hLn := hE.len
        obtain ⟨a36, hat36⟩ : ∃ a, Ps.at' s4 = a := ⟨_, rfl⟩
        rw [hat36] at c1 hle36 hr36 q361 q362
        have hi : a36 < 100000 := by omega
        obtain ⟨s36, hs36⟩ : ∃ t : Ps, (⟨a36 + 1, s4.done, s4.nm⟩ : Ps) = t := ⟨_, rfl⟩
        rw [hs36] at hr36 q361
        clear hs36
        have HR36 := Hh hr36
        have HP36 := Hh q361
        have HK36 := Hh (HK35.out.trans q362)
        have HBr36 := Hh (HBr35.out.kp q362)
        have HBh36 := Hh (HBh35.out.kp q362)
        have HBf36 := Hh (HBf35.out.kp q362)
        have HAT36 := Hh hat36
        clear q361 q362 hr36 hle36 hLn hat36
        with_reducible replace HR36 := Hh (q_assoc HR36.out)
        go_wp2_with fail
        try clear c1 f1 hpb hi
        refine formed (x := run E.L E.base n (.declarator 0)) ((IH.out n (Nat.le_refl _)).f_declarator 0 _ _ HP36.out (qne HR36.out HN.out)) HR36.out HN.out HK36.out ?_ ?_
        case' refine_2 => intro z w37 hr37 hb37 hk37; rw [← HB0.out]; exact ⟨rfl, q_no hr37 hb37 hk37⟩
        intro v37 s37 ya37 yc37 w37 hr37 hp37 hkk hk37 hdc37 hnl37
        have HR37 := Hh hr37
        have HP37 := Hh hp37
        have HK37 := Hh hk37
        have HDC := Hh hdc37
        have HNL := Hh hnl37
        have HBr37 := Hh (HBr36.out.kp hkk)
        have HBh37 := Hh (HBh36.out.kp hkk)
        have HBf37 := Hh (HBf36.out.kp hkk)
        clear hr37 hp37 hkk hk37 hdc37 hnl37
        with_reducible replace HR37 := Hh (q_assoc HR37.out)
        obtain ⟨f0, f1, f2, f3⟩ := HBf37.out.cells
        have z0f := HBf37.out.frozen 0
        have z1f := HBf37.out.frozen 1
        have z2f := HBf37.out.frozen 2
        have z3f := HBf37.out.frozen 3
        go_wp2_with fail
        try clear f0 f1 f2 f3 z0f z1f z2f z3f
        have hnf := HBf37.out.whole HDC.out HNL.out
        have HP38 := Hh (HP37.out.store4 hE HBf37.out HXF.out (.bool v37.form.named) (.string (str v37.form.name)) (.int .i64 v37.form.near) (.slice ya37 v37.form.params.length yc37))
        have HK38 := Hh (HK37.out.store4 HWF.out (.bool v37.form.named) (.string (str v37.form.name)) (.int .i64 v37.form.near) (.slice ya37 v37.form.params.length yc37))
        have HBr38 := Hh (HBr37.out.other4 HNEr.out HBf37.out (.bool v37.form.named) (.string (str v37.form.name)) (.int .i64 v37.form.near) (.slice ya37 v37.form.params.length yc37))
        have HBh38 := Hh (HBh37.out.other4 HNEh.out HBf37.out (.bool v37.form.named) (.string (str v37.form.name)) (.int .i64 v37.form.near) (.slice ya37 v37.form.params.length yc37))
        have HBf38 := Hh hnf
        clear hnf
        have HR38 := Hh HR37.out
        refine (wk_need hE [41] _ _ HP38.out).mono ?_
        intro e w39 he
        rcases qstepR (x := need E.L [41]) HR38.out HN.out HK38.out he with ⟨v39, s39, hr39, -, rfl, hp39, hkk, hk39⟩ | ⟨hr39, ⟨z, rfl⟩, hb39, hk39⟩
        case' inr => rw [← HB0.out]; exact ⟨rfl, q_no hr39 hb39 hk39⟩
        have HR39 := Hh hr39
        have HP39 := Hh hp39
        have HK39 := Hh hk39
        have HBr39 := Hh (HBr38.out.kp hkk)
        have HBh39 := Hh (HBh38.out.kp hkk)
        have HBf39 := Hh (HBf38.out.kp hkk)
        clear he hr39 hp39 hkk hk39
        go_wp2_with fail
        with_reducible replace HR39 := Hh (q_pb HR39.out)
        dsimp only at HR39
        have hq := HR39.out
        replace hq := qone hq rfl
        clear HR39
        have HR39 := Hh hq
        clear hq
        have hq := HR39.out
        try simp only [form_fo, bool_bo] at hq
        clear HR39
        have HR39 := Hh hq
        clear hq
        refine (w_suffixes hE (fun m hm => IH.out m hm) _ false bf _ _ _ HXF.out HBf39.out HP39.out (qne HR39.out HN.out)).mono ?_
        intro e w40 he
        rcases qstepS HR39.out HN.out he with ⟨v40, s40, y40, hr40, rfl, hle40, hf40, hp40, hkb40⟩ | ⟨hr40, ⟨z, rfl⟩, hb40, hkb40⟩
        case' inr => rw [← HB0.out]; exact ⟨rfl, q_no hr40 hb40 (KPb.kp HK39.out HWF.out hkb40)⟩
        have HR40 := Hh hr40
        have HP40 := Hh hp40
        have HK40 := Hh (KPb.kp HK39.out HWF.out hkb40)
        have HBf40 := Hh hf40
        have HLE := Hh hle40
        have HBr40 := Hh (HBr39.out.kpb HNEr.out hkb40)
        have HBh40 := Hh (HBh39.out.kpb HNEh.out hkb40)
        clear he hr40 hp40 hkb40 hf40 hle40
        have hq := HR40.out
        replace hq := qone hq rfl
        clear HR40
        have HR40 := Hh hq
        clear hq
        obtain ⟨an, han⟩ : ∃ b, decide (s39.at' < s40.at') = b := ⟨_, rfl⟩
        rw [han]
        have HAN := Hh han
        clear han
        replace HR40 := Hh (q_neg HR40.out (fun h => by cases h.1))
        cases st
        ·obtain ⟨d0, d1⟩ := HBh40.out.cells
         have hne1 : ¬ bf = bh := fun q => HNEh.out q.symm
         go_wp2_with fail
         have hq := HR40.out
         rw [show Fm.ptr false (v40.form) = v40.form from rfl] at hq
         try (with_reducible replace hq := q_assoc hq)
         clear HR40
         have HR40 := Hh hq
         clear hq
         refine (wk_node hE 14 v1 _ _ HP40.out (qne HR40.out HN.out)).mono ?_
         intro e w41 he
         rcases qstepR (x := node E.L 14 v1) HR40.out HN.out HK40.out he with ⟨v41, s41, hr41, -, rfl, hp41, hkk, hk41⟩ | ⟨hr41, ⟨z, rfl⟩, hb41, hk41⟩
         case' inr => rw [← HB0.out]; exact ⟨rfl, q_no hr41 hb41 hk41⟩
         try dsimp only at hr41
         have HR41 := Hh hr41
         have HP41 := Hh hp41
         have HK41 := Hh hk41
         have HBr41 := Hh (HBr40.out.kp hkk)
         have HBh41 := Hh (HBh40.out.kp hkk)
         have HBf41 := Hh (HBf40.out.kp hkk)
         clear he hr41 hp41 hkk hk41
         have hq := HR41.out
         try (with_reducible replace hq := q_assoc hq)
         clear HR41
         have HR41 := Hh hq
         clear hq
         try clear d0 d1
         obtain ⟨f0, f1, f2, f3⟩ := HBf41.out.cells
         obtain ⟨r0, r1, r2, r3⟩ := HBr41.out.cells
         have zr0 := HBr41.out.frozen 0
         have zr1 := HBr41.out.frozen 1
         have zr2 := HBr41.out.frozen 2
         have zr3 := HBr41.out.frozen 3
         have HDF := Hh HBf41.out.2
         obtain ⟨ya, yc, hye, -⟩ := HBf41.out.2.1
         rw [hye] at f3
         have HYE := Hh hye
         clear hye
         go_wp2_with fail
         have hdf := HDF.out
         rw [HYE.out] at hdf
         have hw := HBr41.out.whole (g := v40.form) hdf.1 hdf.2
         have hpr := HP41.out.store4 hE HBr41.out HXr.out (.bool (v40.form).named) (.string (str (v40.form).name)) (.int .i64 (v40.form).near) (.slice ya (v40.form).params.length yc)
         have hkr := HK41.out.store4 (Nat.le_of_eq hbr) (.bool (v40.form).named) (.string (str (v40.form).name)) (.int .i64 (v40.form).near) (.slice ya (v40.form).params.length yc)
         have hqr := q_pure HR41.out
         have HW := Hh hw
         have HPR := Hh hpr
         have HKR := Hh hkr
         have HQR := Hh hqr
         clear hw hpr hkr hqr hdf
         rw [← HB0.out]
         refine bodyPost_ret (v := .agg #[.bool (v40.form).named, .string (str (v40.form).name), .int .i64 (v40.form).near, .slice ya (v40.form).params.length yc]) ?_ rfl ?_
         ·simp [results, Tryz.results48, go_sem, r0, r1, r2, r3]
         ·exact q_ok HQR.out ⟨_, rfl, HW.out.2.1, HW.out.2.2⟩ HPR.out HKR.out
        ·obtain ⟨d0, d1⟩ := HBh40.out.cells
         have hne1 : ¬ bf = bh := fun q => HNEh.out q.symm
         obtain ⟨zn, hzn⟩ : ∃ z : Int, ((v40.form).near : Int) = z := ⟨_, rfl⟩
         by_cases hn0 : (v40.form).near = 0
         ·obtain ⟨f0, f1, f2, f3⟩ := HBf40.out.cells
          have z2f := HBf40.out.frozen 2
          rw [hzn] at f2
          have e0 : (zn == 0) = true := by rw [← hzn, hn0]; rfl
          have HZN := Hh hzn
          clear hzn
          go_wp2_with fail
          try clear f0 f1 f2 f3 z2f
          have hnf := HBf40.out.near 1
          have HP42 := Hh ((HP40.out.store hE (HBf40.out.1) HXF.out 2 (.int .i64 1)))
          have HK42 := Hh ((HK40.out.store HWF.out 2 (.int .i64 1)))
          have HBr42 := Hh ((HBr40.out.other HNEr.out (HBf40.out.1) 2 (.int .i64 1)))
          have HBh42 := Hh ((HBh40.out.other HNEh.out (HBf40.out.1) 2 (.int .i64 1)))
          have HBf42 := Hh hnf
          clear hnf
          have HR42 := Hh HR40.out
          have hq := HR42.out
          rw [show Fm.ptr true (v40.form) = { v40.form with near := 1 } from by unfold Fm.ptr; rw [hn0]; rfl] at hq
          try (with_reducible replace hq := q_assoc hq)
          clear HR42
          have HR42 := Hh hq
          clear hq
          refine (wk_node hE 14 v1 _ _ HP42.out (qne HR42.out HN.out)).mono ?_
          intro e w43 he
          rcases qstepR (x := node E.L 14 v1) HR42.out HN.out HK42.out he with ⟨v43, s43, hr43, -, rfl, hp43, hkk, hk43⟩ | ⟨hr43, ⟨z, rfl⟩, hb43, hk43⟩
          case' inr => rw [← HB0.out]; exact ⟨rfl, q_no hr43 hb43 hk43⟩
          try dsimp only at hr43
          have HR43 := Hh hr43
          have HP43 := Hh hp43
          have HK43 := Hh hk43
          have HBr43 := Hh (HBr42.out.kp hkk)
          have HBh43 := Hh (HBh42.out.kp hkk)
          have HBf43 := Hh (HBf42.out.kp hkk)
          clear he hr43 hp43 hkk hk43
          have hq := HR43.out
          try (with_reducible replace hq := q_assoc hq)
          clear HR43
          have HR43 := Hh hq
          clear hq
          try clear d0 d1
          obtain ⟨f0, f1, f2, f3⟩ := HBf43.out.cells
          obtain ⟨r0, r1, r2, r3⟩ := HBr43.out.cells
          have zr0 := HBr43.out.frozen 0
          have zr1 := HBr43.out.frozen 1
          have zr2 := HBr43.out.frozen 2
          have zr3 := HBr43.out.frozen 3
          have HDF := Hh HBf43.out.2
          obtain ⟨ya, yc, hye, -⟩ := HBf43.out.2.1
          rw [hye] at f3
          have HYE := Hh hye
          clear hye
          go_wp2_with fail
          have hdf := HDF.out
          rw [HYE.out] at hdf
          have hw := HBr43.out.whole (g := { v40.form with near := 1 }) hdf.1 hdf.2
          have hpr := HP43.out.store4 hE HBr43.out HXr.out (.bool ({ v40.form with near := 1 }).named) (.string (str ({ v40.form with near := 1 }).name)) (.int .i64 ({ v40.form with near := 1 }).near) (.slice ya ({ v40.form with near := 1 }).params.length yc)
          have hkr := HK43.out.store4 (Nat.le_of_eq hbr) (.bool ({ v40.form with near := 1 }).named) (.string (str ({ v40.form with near := 1 }).name)) (.int .i64 ({ v40.form with near := 1 }).near) (.slice ya ({ v40.form with near := 1 }).params.length yc)
          have hqr := q_pure HR43.out
          have HW := Hh hw
          have HPR := Hh hpr
          have HKR := Hh hkr
          have HQR := Hh hqr
          clear hw hpr hkr hqr hdf
          rw [← HB0.out]
          refine bodyPost_ret (v := .agg #[.bool ({ v40.form with near := 1 }).named, .string (str ({ v40.form with near := 1 }).name), .int .i64 ({ v40.form with near := 1 }).near, .slice ya ({ v40.form with near := 1 }).params.length yc]) ?_ rfl ?_
          ·simp [results, Tryz.results48, go_sem, r0, r1, r2, r3]
          ·exact q_ok HQR.out ⟨_, rfl, HW.out.2.1, HW.out.2.2⟩ HPR.out HKR.out
         ·obtain ⟨f0, f1, f2, f3⟩ := HBf40.out.cells
          have z2f := HBf40.out.frozen 2
          rw [hzn] at f2
          have e0 : (zn == 0) = false := by rw [beq_eq_false_iff_ne, ← hzn]; omega
          have HZN := Hh hzn
          clear hzn
          go_wp2_with fail
          try clear f0 f1 f2 f3 z2f
          have hq := HR40.out
          rw [show Fm.ptr true (v40.form) = v40.form from by unfold Fm.ptr; rw [show ((v40.form).near == 0) = false from by rw [beq_eq_false_iff_ne]; exact hn0]; rfl] at hq
          try (with_reducible replace hq := q_assoc hq)
          clear HR40
          have HR40 := Hh hq
          clear hq
          refine (wk_node hE 14 v1 _ _ HP40.out (qne HR40.out HN.out)).mono ?_
          intro e w44 he
          rcases qstepR (x := node E.L 14 v1) HR40.out HN.out HK40.out he with ⟨v44, s44, hr44, -, rfl, hp44, hkk, hk44⟩ | ⟨hr44, ⟨z, rfl⟩, hb44, hk44⟩
          case' inr => rw [← HB0.out]; exact ⟨rfl, q_no hr44 hb44 hk44⟩
          try dsimp only at hr44
          have HR44 := Hh hr44
          have HP44 := Hh hp44
          have HK44 := Hh hk44
          have HBr44 := Hh (HBr40.out.kp hkk)
          have HBh44 := Hh (HBh40.out.kp hkk)
          have HBf44 := Hh (HBf40.out.kp hkk)
          clear he hr44 hp44 hkk hk44
          have hq := HR44.out
          try (with_reducible replace hq := q_assoc hq)
          clear HR44
          have HR44 := Hh hq
          clear hq
          try clear d0 d1
          obtain ⟨f0, f1, f2, f3⟩ := HBf44.out.cells
          obtain ⟨r0, r1, r2, r3⟩ := HBr44.out.cells
          have zr0 := HBr44.out.frozen 0
          have zr1 := HBr44.out.frozen 1
          have zr2 := HBr44.out.frozen 2
          have zr3 := HBr44.out.frozen 3
          have HDF := Hh HBf44.out.2
          obtain ⟨ya, yc, hye, -⟩ := HBf44.out.2.1
          rw [hye] at f3
          have HYE := Hh hye
          clear hye
          go_wp2_with fail
          have hdf := HDF.out
          rw [HYE.out] at hdf
          have hw := HBr44.out.whole (g := v40.form) hdf.1 hdf.2
          have hpr := HP44.out.store4 hE HBr44.out HXr.out (.bool (v40.form).named) (.string (str (v40.form).name)) (.int .i64 (v40.form).near) (.slice ya (v40.form).params.length yc)
          have hkr := HK44.out.store4 (Nat.le_of_eq hbr) (.bool (v40.form).named) (.string (str (v40.form).name)) (.int .i64 (v40.form).near) (.slice ya (v40.form).params.length yc)
          have hqr := q_pure HR44.out
          have HW := Hh hw
          have HPR := Hh hpr
          have HKR := Hh hkr
          have HQR := Hh hqr
          clear hw hpr hkr hqr hdf
          rw [← HB0.out]
          refine bodyPost_ret (v := .agg #[.bool (v40.form).named, .string (str (v40.form).name), .int .i64 (v40.form).near, .slice ya (v40.form).params.length yc]) ?_ rfl ?_
          ·simp [results, Tryz.results48, go_sem, r0, r1, r2, r3]
          ·exact q_ok HQR.out ⟨_, rfl, HW.out.2.1, HW.out.2.2⟩ HPR.out HKR.out
     ·have kn2 : ((k : Int) != 2) = true := by rw [bne_iff_ne]; omega
      have ke0 : ((k : Int) == 0) = false := by rw [beq_eq_false_iff_ne]; omega
      obtain ⟨T, hT⟩ : ∃ T, peekS E.L s4 0 = T := ⟨_, rfl⟩
      have pk := wk_peek hE 0 _ _ (by omega) HP4.out
      rw [hT] at pk
      have hq := qone (x := peek E.L 0) HR4.out rfl
      rw [hT] at hq
      clear hT
      obtain ⟨c45, t45⟩ := T
      unfold ctV at pk
      dsimp only at pk hq
      obtain ⟨x45, hxs⟩ : ∃ x : ByteArray, str t45 = x := ⟨_, rfl⟩
      obtain ⟨z45, hzs⟩ : ∃ z : Int, (c45 : Int) = z := ⟨_, rfl⟩
      rw [hxs, hzs] at pk
      have HX45 := Hh hxs
      have HZ45 := Hh hzs
      have HR45 := Hh hq
      have PK := Hh pk
      clear hxs hzs hq pk
      go_wp2_with fail
      refine PK.out.mono ?_
      rintro e w45 ⟨rfl, hbl⟩
      have HBL := Hh hbl
      clear hbl PK
      have HP45 := Hh (HP4.out.ext hE HBL.out)
      have HK45 := Hh (HK4.out.trans (KP.of_below HBL.out))
      have HBr45 := Hh (HBr4.out.kp (KP.of_below HBL.out))
      have HBh45 := Hh (HBh4.out.kp (KP.of_below HBL.out))
      have HBf45 := Hh (HBf4.out.kp (KP.of_below HBL.out))
      clear HBL
      have hF : ∀ (z : Int) (x : ByteArray) (W : World), (Instr.field 54 (.agg #[.int .i64 z, .string x]) 0).run Tryz.prog W = .ok (.int .i64 z) W := fun z x W => by kernel_rfl
      by_cases hc452 : c45 = 2
      ·have fc452 : (z45 == 2) = true := by rw [← HZ45.out, hc452]; rfl
       have fn452 : (z45 != 2) = false := by rw [← HZ45.out, hc452]; rfl
       have hq := HR45.out
       replace hq := qone hq rfl
       clear HR45
       have HR45 := Hh hq
       clear hq
       replace HR45 := Hh (q_pos HR45.out (by simp [hk2, hk0, hc452]))
       with_reducible replace HR45 := Hh (q_assoc HR45.out)
       obtain ⟨f0, f1, f2, f3⟩ := HBf45.out.cells
       have z0f := HBf45.out.frozen 0
       go_wp2_with fail
       have hnf := HBf45.out.nmd true
       have HP46 := Hh ((HP45.out.store hE (HBf45.out.1) HXF.out 0 (.bool true)))
       have HK46 := Hh ((HK45.out.store HWF.out 0 (.bool true)))
       have HBr46 := Hh ((HBr45.out.other HNEr.out (HBf45.out.1) 0 (.bool true)))
       have HBh46 := Hh ((HBh45.out.other HNEh.out (HBf45.out.1) 0 (.bool true)))
       have HBf46 := Hh hnf
       clear hnf
       have HR46 := Hh HR45.out
       refine (wk_name hE _ _ HP46.out).mono ?_
       intro e w47 he
       rcases qstepR (x := name' E.L) HR46.out HN.out HK46.out he with ⟨v47, s47, hr47, hxe47, rfl, hp47, hkk, hk47⟩ | ⟨hr47, ⟨z, rfl⟩, hb47, hk47⟩
       case' inr => rw [← HB0.out]; exact ⟨rfl, q_no hr47 hb47 hk47⟩
       have HR47 := Hh hr47
       have HP47 := Hh hp47
       have HK47 := Hh hk47
       have HBr47 := Hh (HBr46.out.kp hkk)
       have HBh47 := Hh (HBh46.out.kp hkk)
       have HBf47 := Hh (HBf46.out.kp hkk)
       clear he hr47 hp47 hkk hk47
       have HLn47 := Hh (name_len hE hxe47)
       clear hxe47
       simp only [stV]
       obtain ⟨f0, f1, f2, f3⟩ := HBf47.out.cells
       have z1f := HBf47.out.frozen 1
       go_wp2_with fail
       try clear f0 f1 f2 f3 z1f
       have hnf := HBf47.out.nme v47 HLn47.out
       have HP48 := Hh ((HP47.out.store hE (HBf47.out.1) HXF.out 1 (.string (str v47))))
       have HK48 := Hh ((HK47.out.store HWF.out 1 (.string (str v47))))
       have HBr48 := Hh ((HBr47.out.other HNEr.out (HBf47.out.1) 1 (.string (str v47))))
       have HBh48 := Hh ((HBh47.out.other HNEh.out (HBf47.out.1) 1 (.string (str v47))))
       have HBf48 := Hh hnf
       clear hnf
       have HR48 := Hh HR47.out
       with_reducible replace HR48 := Hh (q_pb HR48.out)
       dsimp only at HR48
       have hq := HR48.out
       replace hq := qone hq rfl
       clear HR48
       have HR48 := Hh hq
       clear hq
       have hq := HR48.out
       try simp only [form_fo, bool_bo] at hq
       clear HR48
       have HR48 := Hh hq
       clear hq
       refine (w_suffixes hE (fun m hm => IH.out m hm) _ false bf _ _ _ HXF.out HBf48.out HP48.out (qne HR48.out HN.out)).mono ?_
       intro e w49 he
       rcases qstepS HR48.out HN.out he with ⟨v49, s49, y49, hr49, rfl, hle49, hf49, hp49, hkb49⟩ | ⟨hr49, ⟨z, rfl⟩, hb49, hkb49⟩
       case' inr => rw [← HB0.out]; exact ⟨rfl, q_no hr49 hb49 (KPb.kp HK48.out HWF.out hkb49)⟩
       have HR49 := Hh hr49
       have HP49 := Hh hp49
       have HK49 := Hh (KPb.kp HK48.out HWF.out hkb49)
       have HBf49 := Hh hf49
       have HLE := Hh hle49
       have HBr49 := Hh (HBr48.out.kpb HNEr.out hkb49)
       have HBh49 := Hh (HBh48.out.kpb HNEh.out hkb49)
       clear he hr49 hp49 hkb49 hf49 hle49
       have hq := HR49.out
       replace hq := qone hq rfl
       clear HR49
       have HR49 := Hh hq
       clear hq
       obtain ⟨an, han⟩ : ∃ b, decide (s47.at' < s49.at') = b := ⟨_, rfl⟩
       rw [han]
       have HAN := Hh han
       clear han
       replace HR49 := Hh (q_neg HR49.out (fun h => by cases h.1))
       cases st
       ·obtain ⟨d0, d1⟩ := HBh49.out.cells
        have hne1 : ¬ bf = bh := fun q => HNEh.out q.symm
        go_wp2_with fail
        have hq := HR49.out
        rw [show Fm.ptr false (v49.form) = v49.form from rfl] at hq
        try (with_reducible replace hq := q_assoc hq)
        clear HR49
        have HR49 := Hh hq
        clear hq
        refine (wk_node hE 14 v1 _ _ HP49.out (qne HR49.out HN.out)).mono ?_
        intro e w50 he
        rcases qstepR (x := node E.L 14 v1) HR49.out HN.out HK49.out he with ⟨v50, s50, hr50, -, rfl, hp50, hkk, hk50⟩ | ⟨hr50, ⟨z, rfl⟩, hb50, hk50⟩
        case' inr => rw [← HB0.out]; exact ⟨rfl, q_no hr50 hb50 hk50⟩
        try dsimp only at hr50
        have HR50 := Hh hr50
        have HP50 := Hh hp50
        have HK50 := Hh hk50
        have HBr50 := Hh (HBr49.out.kp hkk)
        have HBh50 := Hh (HBh49.out.kp hkk)
        have HBf50 := Hh (HBf49.out.kp hkk)
        clear he hr50 hp50 hkk hk50
        have hq := HR50.out
        try (with_reducible replace hq := q_assoc hq)
        clear HR50
        have HR50 := Hh hq
        clear hq
        try clear d0 d1
        obtain ⟨f0, f1, f2, f3⟩ := HBf50.out.cells
        obtain ⟨r0, r1, r2, r3⟩ := HBr50.out.cells
        have zr0 := HBr50.out.frozen 0
        have zr1 := HBr50.out.frozen 1
        have zr2 := HBr50.out.frozen 2
        have zr3 := HBr50.out.frozen 3
        have HDF := Hh HBf50.out.2
        obtain ⟨ya, yc, hye, -⟩ := HBf50.out.2.1
        rw [hye] at f3
        have HYE := Hh hye
        clear hye
        go_wp2_with fail
        have hdf := HDF.out
        rw [HYE.out] at hdf
        have hw := HBr50.out.whole (g := v49.form) hdf.1 hdf.2
        have hpr := HP50.out.store4 hE HBr50.out HXr.out (.bool (v49.form).named) (.string (str (v49.form).name)) (.int .i64 (v49.form).near) (.slice ya (v49.form).params.length yc)
        have hkr := HK50.out.store4 (Nat.le_of_eq hbr) (.bool (v49.form).named) (.string (str (v49.form).name)) (.int .i64 (v49.form).near) (.slice ya (v49.form).params.length yc)
        have hqr := q_pure HR50.out
        have HW := Hh hw
        have HPR := Hh hpr
        have HKR := Hh hkr
        have HQR := Hh hqr
        clear hw hpr hkr hqr hdf
        rw [← HB0.out]
        refine bodyPost_ret (v := .agg #[.bool (v49.form).named, .string (str (v49.form).name), .int .i64 (v49.form).near, .slice ya (v49.form).params.length yc]) ?_ rfl ?_
        ·simp [results, Tryz.results48, go_sem, r0, r1, r2, r3]
        ·exact q_ok HQR.out ⟨_, rfl, HW.out.2.1, HW.out.2.2⟩ HPR.out HKR.out
       ·obtain ⟨d0, d1⟩ := HBh49.out.cells
        have hne1 : ¬ bf = bh := fun q => HNEh.out q.symm
        obtain ⟨zn, hzn⟩ : ∃ z : Int, ((v49.form).near : Int) = z := ⟨_, rfl⟩
        by_cases hn0 : (v49.form).near = 0
        ·obtain ⟨f0, f1, f2, f3⟩ := HBf49.out.cells
         have z2f := HBf49.out.frozen 2
         rw [hzn] at f2
         have e0 : (zn == 0) = true := by rw [← hzn, hn0]; rfl
         have HZN := Hh hzn
         clear hzn
         go_wp2_with fail
         try clear f0 f1 f2 f3 z2f
         have hnf := HBf49.out.near 1
         have HP51 := Hh ((HP49.out.store hE (HBf49.out.1) HXF.out 2 (.int .i64 1)))
         have HK51 := Hh ((HK49.out.store HWF.out 2 (.int .i64 1)))
         have HBr51 := Hh ((HBr49.out.other HNEr.out (HBf49.out.1) 2 (.int .i64 1)))
         have HBh51 := Hh ((HBh49.out.other HNEh.out (HBf49.out.1) 2 (.int .i64 1)))
         have HBf51 := Hh hnf
         clear hnf
         have HR51 := Hh HR49.out
         have hq := HR51.out
         rw [show Fm.ptr true (v49.form) = { v49.form with near := 1 } from by unfold Fm.ptr; rw [hn0]; rfl] at hq
         try (with_reducible replace hq := q_assoc hq)
         clear HR51
         have HR51 := Hh hq
         clear hq
         refine (wk_node hE 14 v1 _ _ HP51.out (qne HR51.out HN.out)).mono ?_
         intro e w52 he
         rcases qstepR (x := node E.L 14 v1) HR51.out HN.out HK51.out he with ⟨v52, s52, hr52, -, rfl, hp52, hkk, hk52⟩ | ⟨hr52, ⟨z, rfl⟩, hb52, hk52⟩
         case' inr => rw [← HB0.out]; exact ⟨rfl, q_no hr52 hb52 hk52⟩
         try dsimp only at hr52
         have HR52 := Hh hr52
         have HP52 := Hh hp52
         have HK52 := Hh hk52
         have HBr52 := Hh (HBr51.out.kp hkk)
         have HBh52 := Hh (HBh51.out.kp hkk)
         have HBf52 := Hh (HBf51.out.kp hkk)
         clear he hr52 hp52 hkk hk52
         have hq := HR52.out
         try (with_reducible replace hq := q_assoc hq)
         clear HR52
         have HR52 := Hh hq
         clear hq
         try clear d0 d1
         obtain ⟨f0, f1, f2, f3⟩ := HBf52.out.cells
         obtain ⟨r0, r1, r2, r3⟩ := HBr52.out.cells
         have zr0 := HBr52.out.frozen 0
         have zr1 := HBr52.out.frozen 1
         have zr2 := HBr52.out.frozen 2
         have zr3 := HBr52.out.frozen 3
         have HDF := Hh HBf52.out.2
         obtain ⟨ya, yc, hye, -⟩ := HBf52.out.2.1
         rw [hye] at f3
         have HYE := Hh hye
         clear hye
         go_wp2_with fail
         have hdf := HDF.out
         rw [HYE.out] at hdf
         have hw := HBr52.out.whole (g := { v49.form with near := 1 }) hdf.1 hdf.2
         have hpr := HP52.out.store4 hE HBr52.out HXr.out (.bool ({ v49.form with near := 1 }).named) (.string (str ({ v49.form with near := 1 }).name)) (.int .i64 ({ v49.form with near := 1 }).near) (.slice ya ({ v49.form with near := 1 }).params.length yc)
         have hkr := HK52.out.store4 (Nat.le_of_eq hbr) (.bool ({ v49.form with near := 1 }).named) (.string (str ({ v49.form with near := 1 }).name)) (.int .i64 ({ v49.form with near := 1 }).near) (.slice ya ({ v49.form with near := 1 }).params.length yc)
         have hqr := q_pure HR52.out
         have HW := Hh hw
         have HPR := Hh hpr
         have HKR := Hh hkr
         have HQR := Hh hqr
         clear hw hpr hkr hqr hdf
         rw [← HB0.out]
         refine bodyPost_ret (v := .agg #[.bool ({ v49.form with near := 1 }).named, .string (str ({ v49.form with near := 1 }).name), .int .i64 ({ v49.form with near := 1 }).near, .slice ya ({ v49.form with near := 1 }).params.length yc]) ?_ rfl ?_
         ·simp [results, Tryz.results48, go_sem, r0, r1, r2, r3]
         ·exact q_ok HQR.out ⟨_, rfl, HW.out.2.1, HW.out.2.2⟩ HPR.out HKR.out
        ·obtain ⟨f0, f1, f2, f3⟩ := HBf49.out.cells
         have z2f := HBf49.out.frozen 2
         rw [hzn] at f2
         have e0 : (zn == 0) = false := by rw [beq_eq_false_iff_ne, ← hzn]; omega
         have HZN := Hh hzn
         clear hzn
         go_wp2_with fail
         try clear f0 f1 f2 f3 z2f
         have hq := HR49.out
         rw [show Fm.ptr true (v49.form) = v49.form from by unfold Fm.ptr; rw [show ((v49.form).near == 0) = false from by rw [beq_eq_false_iff_ne]; exact hn0]; rfl] at hq
         try (with_reducible replace hq := q_assoc hq)
         clear HR49
         have HR49 := Hh hq
         clear hq
         refine (wk_node hE 14 v1 _ _ HP49.out (qne HR49.out HN.out)).mono ?_
         intro e w53 he
         rcases qstepR (x := node E.L 14 v1) HR49.out HN.out HK49.out he with ⟨v53, s53, hr53, -, rfl, hp53, hkk, hk53⟩ | ⟨hr53, ⟨z, rfl⟩, hb53, hk53⟩
         case' inr => rw [← HB0.out]; exact ⟨rfl, q_no hr53 hb53 hk53⟩
         try dsimp only at hr53
         have HR53 := Hh hr53
         have HP53 := Hh hp53
         have HK53 := Hh hk53
         have HBr53 := Hh (HBr49.out.kp hkk)
         have HBh53 := Hh (HBh49.out.kp hkk)
         have HBf53 := Hh (HBf49.out.kp hkk)
         clear he hr53 hp53 hkk hk53
         have hq := HR53.out
         try (with_reducible replace hq := q_assoc hq)
         clear HR53
         have HR53 := Hh hq
         clear hq
         try clear d0 d1
         obtain ⟨f0, f1, f2, f3⟩ := HBf53.out.cells
         obtain ⟨r0, r1, r2, r3⟩ := HBr53.out.cells
         have zr0 := HBr53.out.frozen 0
         have zr1 := HBr53.out.frozen 1
         have zr2 := HBr53.out.frozen 2
         have zr3 := HBr53.out.frozen 3
         have HDF := Hh HBf53.out.2
         obtain ⟨ya, yc, hye, -⟩ := HBf53.out.2.1
         rw [hye] at f3
         have HYE := Hh hye
         clear hye
         go_wp2_with fail
         have hdf := HDF.out
         rw [HYE.out] at hdf
         have hw := HBr53.out.whole (g := v49.form) hdf.1 hdf.2
         have hpr := HP53.out.store4 hE HBr53.out HXr.out (.bool (v49.form).named) (.string (str (v49.form).name)) (.int .i64 (v49.form).near) (.slice ya (v49.form).params.length yc)
         have hkr := HK53.out.store4 (Nat.le_of_eq hbr) (.bool (v49.form).named) (.string (str (v49.form).name)) (.int .i64 (v49.form).near) (.slice ya (v49.form).params.length yc)
         have hqr := q_pure HR53.out
         have HW := Hh hw
         have HPR := Hh hpr
         have HKR := Hh hkr
         have HQR := Hh hqr
         clear hw hpr hkr hqr hdf
         rw [← HB0.out]
         refine bodyPost_ret (v := .agg #[.bool (v49.form).named, .string (str (v49.form).name), .int .i64 (v49.form).near, .slice ya (v49.form).params.length yc]) ?_ rfl ?_
         ·simp [results, Tryz.results48, go_sem, r0, r1, r2, r3]
         ·exact q_ok HQR.out ⟨_, rfl, HW.out.2.1, HW.out.2.2⟩ HPR.out HKR.out
      ·have fc452 : (z45 == 2) = false := by rw [← HZ45.out, beq_eq_false_iff_ne]; omega
       have fn452 : (z45 != 2) = true := by rw [← HZ45.out, bne_iff_ne]; omega
       have hq := HR45.out
       replace hq := qone hq rfl
       clear HR45
       have HR45 := Hh hq
       clear hq
       replace HR45 := Hh (q_neg HR45.out (by simp [hk2, hk0, hc452]))
       obtain ⟨B54, hB⟩ : ∃ B, signS E.L s4 0 [40] = B := ⟨_, rfl⟩
       have hq := HR45.out
       rw [hB] at hq
       have HR54 := Hh hq
       clear hq
       have SG := Hh (by have h := wk_sign hE 0 [40] s4 _ (by omega) HP45.out; rw [show sign E.L 0 [40] s4 = .ok (signS E.L s4 0 [40]) s4 from rfl, hB] at h; exact h : Calls Tryz.prog 47 #[.pointer (some ⟨E.pb, 0, none⟩), .int .i64 0, .string (str [40])] _ (EndR E .bool _ (.ok B54 s4)))
       clear hB
       cases B54
       ·try clear HR4
        go_wp2_with fail
        refine SG.out.mono ?_
        rintro e w54 ⟨rfl, hp54, hkk⟩
        clear SG
        have HP54 := Hh hp54
        have HK54 := Hh (HK45.out.trans hkk)
        have HBr54 := Hh (HBr45.out.kp hkk)
        have HBh54 := Hh (HBh45.out.kp hkk)
        have HBf54 := Hh (HBf45.out.kp hkk)
        clear hp54 hkk
        replace HR54 := Hh (q_neg HR54.out (by simp [hk2, hk0, hc452]))
        replace HR54 := Hh (q_neg HR54.out (by simp [hk2, hk0, hc452]))
        with_reducible replace HR54 := Hh (q_pb HR54.out)
        dsimp only at HR54
        go_wp2_with fail
        have hq := HR54.out
        replace hq := qone hq rfl
        clear HR54
        have HR54 := Hh hq
        clear hq
        have hq := HR54.out
        try simp only [form_fo, bool_bo] at hq
        clear HR54
        have HR54 := Hh hq
        clear hq
        refine (w_suffixes hE (fun m hm => IH.out m hm) _ false bf _ _ _ HXF.out HBf54.out HP54.out (qne HR54.out HN.out)).mono ?_
        intro e w55 he
        rcases qstepS HR54.out HN.out he with ⟨v55, s55, y55, hr55, rfl, hle55, hf55, hp55, hkb55⟩ | ⟨hr55, ⟨z, rfl⟩, hb55, hkb55⟩
        case' inr => rw [← HB0.out]; exact ⟨rfl, q_no hr55 hb55 (KPb.kp HK54.out HWF.out hkb55)⟩
        have HR55 := Hh hr55
        have HP55 := Hh hp55
        have HK55 := Hh (KPb.kp HK54.out HWF.out hkb55)
        have HBf55 := Hh hf55
        have HLE := Hh hle55
        have HBr55 := Hh (HBr54.out.kpb HNEr.out hkb55)
        have HBh55 := Hh (HBh54.out.kpb HNEh.out hkb55)
        clear he hr55 hp55 hkb55 hf55 hle55
        have hq := HR55.out
        replace hq := qone hq rfl
        clear HR55
        have HR55 := Hh hq
        clear hq
        obtain ⟨an, han⟩ : ∃ b, decide (s4.at' < s55.at') = b := ⟨_, rfl⟩
        rw [han]
        have HAN := Hh han
        clear han
        cases st
        ·cases an
         ·replace HR55 := Hh (q_pos HR55.out (by have q := of_decide_eq_false HAN.out; have q2 := HLE.out; exact ⟨by trivial, by trivial, by omega⟩))
          go_wp2_with fail
          refine (wk_fail (α := Va) hE (fun _ => .tuple #[]) _ _ HP55.out).mono ?_
          rintro e wf ⟨⟨z, rfl⟩, hbf, hkf⟩
          rw [← HB0.out]; exact ⟨rfl, q_no (show r = .no from HR55.out.symm) hbf (HK55.out.trans hkf)⟩
         ·replace HR55 := Hh (q_neg HR55.out (fun h => by have q := of_decide_eq_true HAN.out; have e := h.2.2; omega))
          obtain ⟨d0, d1⟩ := HBh55.out.cells
          have hne1 : ¬ bf = bh := fun q => HNEh.out q.symm
          go_wp2_with fail
          have hq := HR55.out
          rw [show Fm.ptr false (v55.form) = v55.form from rfl] at hq
          try (with_reducible replace hq := q_assoc hq)
          clear HR55
          have HR55 := Hh hq
          clear hq
          refine (wk_node hE 14 v1 _ _ HP55.out (qne HR55.out HN.out)).mono ?_
          intro e w56 he
          rcases qstepR (x := node E.L 14 v1) HR55.out HN.out HK55.out he with ⟨v56, s56, hr56, -, rfl, hp56, hkk, hk56⟩ | ⟨hr56, ⟨z, rfl⟩, hb56, hk56⟩
          case' inr => rw [← HB0.out]; exact ⟨rfl, q_no hr56 hb56 hk56⟩
          try dsimp only at hr56
          have HR56 := Hh hr56
          have HP56 := Hh hp56
          have HK56 := Hh hk56
          have HBr56 := Hh (HBr55.out.kp hkk)
          have HBh56 := Hh (HBh55.out.kp hkk)
          have HBf56 := Hh (HBf55.out.kp hkk)
          clear he hr56 hp56 hkk hk56
          have hq := HR56.out
          try (with_reducible replace hq := q_assoc hq)
          clear HR56
          have HR56 := Hh hq
          clear hq
          try clear d0 d1
          obtain ⟨f0, f1, f2, f3⟩ := HBf56.out.cells
          obtain ⟨r0, r1, r2, r3⟩ := HBr56.out.cells
          have zr0 := HBr56.out.frozen 0
          have zr1 := HBr56.out.frozen 1
          have zr2 := HBr56.out.frozen 2
          have zr3 := HBr56.out.frozen 3
          have HDF := Hh HBf56.out.2
          obtain ⟨ya, yc, hye, -⟩ := HBf56.out.2.1
          rw [hye] at f3
          have HYE := Hh hye
          clear hye
          go_wp2_with fail
          have hdf := HDF.out
          rw [HYE.out] at hdf
          have hw := HBr56.out.whole (g := v55.form) hdf.1 hdf.2
          have hpr := HP56.out.store4 hE HBr56.out HXr.out (.bool (v55.form).named) (.string (str (v55.form).name)) (.int .i64 (v55.form).near) (.slice ya (v55.form).params.length yc)
          have hkr := HK56.out.store4 (Nat.le_of_eq hbr) (.bool (v55.form).named) (.string (str (v55.form).name)) (.int .i64 (v55.form).near) (.slice ya (v55.form).params.length yc)
          have hqr := q_pure HR56.out
          have HW := Hh hw
          have HPR := Hh hpr
          have HKR := Hh hkr
          have HQR := Hh hqr
          clear hw hpr hkr hqr hdf
          rw [← HB0.out]
          refine bodyPost_ret (v := .agg #[.bool (v55.form).named, .string (str (v55.form).name), .int .i64 (v55.form).near, .slice ya (v55.form).params.length yc]) ?_ rfl ?_
          ·simp [results, Tryz.results48, go_sem, r0, r1, r2, r3]
          ·exact q_ok HQR.out ⟨_, rfl, HW.out.2.1, HW.out.2.2⟩ HPR.out HKR.out
        ·replace HR55 := Hh (q_neg HR55.out (fun h => by cases h.2.1))
         obtain ⟨d0, d1⟩ := HBh55.out.cells
         have hne1 : ¬ bf = bh := fun q => HNEh.out q.symm
         obtain ⟨zn, hzn⟩ : ∃ z : Int, ((v55.form).near : Int) = z := ⟨_, rfl⟩
         by_cases hn0 : (v55.form).near = 0
         ·obtain ⟨f0, f1, f2, f3⟩ := HBf55.out.cells
          have z2f := HBf55.out.frozen 2
          rw [hzn] at f2
          have e0 : (zn == 0) = true := by rw [← hzn, hn0]; rfl
          have HZN := Hh hzn
          clear hzn
          go_wp2_with fail
          try clear f0 f1 f2 f3 z2f
          have hnf := HBf55.out.near 1
          have HP57 := Hh ((HP55.out.store hE (HBf55.out.1) HXF.out 2 (.int .i64 1)))
          have HK57 := Hh ((HK55.out.store HWF.out 2 (.int .i64 1)))
          have HBr57 := Hh ((HBr55.out.other HNEr.out (HBf55.out.1) 2 (.int .i64 1)))
          have HBh57 := Hh ((HBh55.out.other HNEh.out (HBf55.out.1) 2 (.int .i64 1)))
          have HBf57 := Hh hnf
          clear hnf
          have HR57 := Hh HR55.out
          have hq := HR57.out
          rw [show Fm.ptr true (v55.form) = { v55.form with near := 1 } from by unfold Fm.ptr; rw [hn0]; rfl] at hq
          try (with_reducible replace hq := q_assoc hq)
          clear HR57
          have HR57 := Hh hq
          clear hq
          refine (wk_node hE 14 v1 _ _ HP57.out (qne HR57.out HN.out)).mono ?_
          intro e w58 he
          rcases qstepR (x := node E.L 14 v1) HR57.out HN.out HK57.out he with ⟨v58, s58, hr58, -, rfl, hp58, hkk, hk58⟩ | ⟨hr58, ⟨z, rfl⟩, hb58, hk58⟩
          case' inr => rw [← HB0.out]; exact ⟨rfl, q_no hr58 hb58 hk58⟩
          try dsimp only at hr58
          have HR58 := Hh hr58
          have HP58 := Hh hp58
          have HK58 := Hh hk58
          have HBr58 := Hh (HBr57.out.kp hkk)
          have HBh58 := Hh (HBh57.out.kp hkk)
          have HBf58 := Hh (HBf57.out.kp hkk)
          clear he hr58 hp58 hkk hk58
          have hq := HR58.out
          try (with_reducible replace hq := q_assoc hq)
          clear HR58
          have HR58 := Hh hq
          clear hq
          try clear d0 d1
          obtain ⟨f0, f1, f2, f3⟩ := HBf58.out.cells
          obtain ⟨r0, r1, r2, r3⟩ := HBr58.out.cells
          have zr0 := HBr58.out.frozen 0
          have zr1 := HBr58.out.frozen 1
          have zr2 := HBr58.out.frozen 2
          have zr3 := HBr58.out.frozen 3
          have HDF := Hh HBf58.out.2
          obtain ⟨ya, yc, hye, -⟩ := HBf58.out.2.1
          rw [hye] at f3
          have HYE := Hh hye
          clear hye
          go_wp2_with fail
          have hdf := HDF.out
          rw [HYE.out] at hdf
          have hw := HBr58.out.whole (g := { v55.form with near := 1 }) hdf.1 hdf.2
          have hpr := HP58.out.store4 hE HBr58.out HXr.out (.bool ({ v55.form with near := 1 }).named) (.string (str ({ v55.form with near := 1 }).name)) (.int .i64 ({ v55.form with near := 1 }).near) (.slice ya ({ v55.form with near := 1 }).params.length yc)
          have hkr := HK58.out.store4 (Nat.le_of_eq hbr) (.bool ({ v55.form with near := 1 }).named) (.string (str ({ v55.form with near := 1 }).name)) (.int .i64 ({ v55.form with near := 1 }).near) (.slice ya ({ v55.form with near := 1 }).params.length yc)
          have hqr := q_pure HR58.out
          have HW := Hh hw
          have HPR := Hh hpr
          have HKR := Hh hkr
          have HQR := Hh hqr
          clear hw hpr hkr hqr hdf
          rw [← HB0.out]
          refine bodyPost_ret (v := .agg #[.bool ({ v55.form with near := 1 }).named, .string (str ({ v55.form with near := 1 }).name), .int .i64 ({ v55.form with near := 1 }).near, .slice ya ({ v55.form with near := 1 }).params.length yc]) ?_ rfl ?_
          ·simp [results, Tryz.results48, go_sem, r0, r1, r2, r3]
          ·exact q_ok HQR.out ⟨_, rfl, HW.out.2.1, HW.out.2.2⟩ HPR.out HKR.out
         ·obtain ⟨f0, f1, f2, f3⟩ := HBf55.out.cells
          have z2f := HBf55.out.frozen 2
          rw [hzn] at f2
          have e0 : (zn == 0) = false := by rw [beq_eq_false_iff_ne, ← hzn]; omega
          have HZN := Hh hzn
          clear hzn
          go_wp2_with fail
          try clear f0 f1 f2 f3 z2f
          have hq := HR55.out
          rw [show Fm.ptr true (v55.form) = v55.form from by unfold Fm.ptr; rw [show ((v55.form).near == 0) = false from by rw [beq_eq_false_iff_ne]; exact hn0]; rfl] at hq
          try (with_reducible replace hq := q_assoc hq)
          clear HR55
          have HR55 := Hh hq
          clear hq
          refine (wk_node hE 14 v1 _ _ HP55.out (qne HR55.out HN.out)).mono ?_
          intro e w59 he
          rcases qstepR (x := node E.L 14 v1) HR55.out HN.out HK55.out he with ⟨v59, s59, hr59, -, rfl, hp59, hkk, hk59⟩ | ⟨hr59, ⟨z, rfl⟩, hb59, hk59⟩
          case' inr => rw [← HB0.out]; exact ⟨rfl, q_no hr59 hb59 hk59⟩
          try dsimp only at hr59
          have HR59 := Hh hr59
          have HP59 := Hh hp59
          have HK59 := Hh hk59
          have HBr59 := Hh (HBr55.out.kp hkk)
          have HBh59 := Hh (HBh55.out.kp hkk)
          have HBf59 := Hh (HBf55.out.kp hkk)
          clear he hr59 hp59 hkk hk59
          have hq := HR59.out
          try (with_reducible replace hq := q_assoc hq)
          clear HR59
          have HR59 := Hh hq
          clear hq
          try clear d0 d1
          obtain ⟨f0, f1, f2, f3⟩ := HBf59.out.cells
          obtain ⟨r0, r1, r2, r3⟩ := HBr59.out.cells
          have zr0 := HBr59.out.frozen 0
          have zr1 := HBr59.out.frozen 1
          have zr2 := HBr59.out.frozen 2
          have zr3 := HBr59.out.frozen 3
          have HDF := Hh HBf59.out.2
          obtain ⟨ya, yc, hye, -⟩ := HBf59.out.2.1
          rw [hye] at f3
          have HYE := Hh hye
          clear hye
          go_wp2_with fail
          have hdf := HDF.out
          rw [HYE.out] at hdf
          have hw := HBr59.out.whole (g := v55.form) hdf.1 hdf.2
          have hpr := HP59.out.store4 hE HBr59.out HXr.out (.bool (v55.form).named) (.string (str (v55.form).name)) (.int .i64 (v55.form).near) (.slice ya (v55.form).params.length yc)
          have hkr := HK59.out.store4 (Nat.le_of_eq hbr) (.bool (v55.form).named) (.string (str (v55.form).name)) (.int .i64 (v55.form).near) (.slice ya (v55.form).params.length yc)
          have hqr := q_pure HR59.out
          have HW := Hh hw
          have HPR := Hh hpr
          have HKR := Hh hkr
          have HQR := Hh hqr
          clear hw hpr hkr hqr hdf
          rw [← HB0.out]
          refine bodyPost_ret (v := .agg #[.bool (v55.form).named, .string (str (v55.form).name), .int .i64 (v55.form).near, .slice ya (v55.form).params.length yc]) ?_ rfl ?_
          ·simp [results, Tryz.results48, go_sem, r0, r1, r2, r3]
          ·exact q_ok HQR.out ⟨_, rfl, HW.out.2.1, HW.out.2.2⟩ HPR.out HKR.out
       ·try clear HR4
        go_wp2_with fail
        refine SG.out.mono ?_
        rintro e w54 ⟨rfl, hp54, hkk⟩
        clear SG
        have HP54 := Hh hp54
        have HK54 := Hh (HK45.out.trans hkk)
        have HBr54 := Hh (HBr45.out.kp hkk)
        have HBh54 := Hh (HBh45.out.kp hkk)
        have HBf54 := Hh (HBf45.out.kp hkk)
        clear hp54 hkk
        obtain ⟨B60, hB⟩ : ∃ B, (signS E.L s4 1 [41] || bSpecS E.L E.base s4 1) = B := ⟨_, rfl⟩
        have hq := HR54.out
        rw [hB] at hq
        have HR60 := Hh hq
        clear hq
        have SG := Hh (by have h := wk_sufA hE s4 _ HP54.out; rw [show sufA E.L E.base s4 = B60 from hB] at h; exact h : Calls Tryz.prog 84 #[.pointer (some ⟨E.pb, 0, none⟩)] _ (EndR E .bool _ (.ok B60 s4)))
        clear hB
        cases B60
        ·try clear HR45
         go_wp2_with fail
         refine SG.out.mono ?_
         rintro e w60 ⟨rfl, hp60, hkk⟩
         clear SG
         have HP60 := Hh hp60
         have HK60 := Hh (HK54.out.trans hkk)
         have HBr60 := Hh (HBr54.out.kp hkk)
         have HBh60 := Hh (HBh54.out.kp hkk)
         have HBf60 := Hh (HBf54.out.kp hkk)
         clear hp60 hkk
         replace HR60 := Hh (q_pos HR60.out (by simp [hk2, hk0, hc452]))
         with_reducible replace HR60 := Hh (q_assoc HR60.out)
         obtain ⟨hle61, hr61⟩ := q_step HR60.out HN.out
         obtain ⟨c1, f1, -⟩ := HP60.out.at
         have hpb := HP60.out.lt
         obtain ⟨q611, q612⟩ := HP60.out.on hE hle61
         have hLn := hE.len
         obtain ⟨a61, hat61⟩ : ∃ a, Ps.at' s4 = a := ⟨_, rfl⟩
         rw [hat61] at c1 hle61 hr61 q611 q612
         have hi : a61 < 100000 := by omega
         obtain ⟨s61, hs61⟩ : ∃ t : Ps, (⟨a61 + 1, s4.done, s4.nm⟩ : Ps) = t := ⟨_, rfl⟩
         rw [hs61] at hr61 q611
         clear hs61
         have HR61 := Hh hr61
         have HP61 := Hh q611
         have HK61 := Hh (HK60.out.trans q612)
         have HBr61 := Hh (HBr60.out.kp q612)
         have HBh61 := Hh (HBh60.out.kp q612)
         have HBf61 := Hh (HBf60.out.kp q612)
         have HAT61 := Hh hat61
         clear q611 q612 hr61 hle61 hLn hat61
         with_reducible replace HR61 := Hh (q_assoc HR61.out)
         go_wp2_with fail
         try clear c1 f1 hpb hi
         refine formed (x := run E.L E.base n (.declarator k)) ((IH.out n (Nat.le_refl _)).f_declarator k _ _ HP61.out (qne HR61.out HN.out)) HR61.out HN.out HK61.out ?_ ?_
         case' refine_2 => intro z w62 hr62 hb62 hk62; rw [← HB0.out]; exact ⟨rfl, q_no hr62 hb62 hk62⟩
         intro v62 s62 ya62 yc62 w62 hr62 hp62 hkk hk62 hdc62 hnl62
         have HR62 := Hh hr62
         have HP62 := Hh hp62
         have HK62 := Hh hk62
         have HDC := Hh hdc62
         have HNL := Hh hnl62
         have HBr62 := Hh (HBr61.out.kp hkk)
         have HBh62 := Hh (HBh61.out.kp hkk)
         have HBf62 := Hh (HBf61.out.kp hkk)
         clear hr62 hp62 hkk hk62 hdc62 hnl62
         with_reducible replace HR62 := Hh (q_assoc HR62.out)
         obtain ⟨f0, f1, f2, f3⟩ := HBf62.out.cells
         have z0f := HBf62.out.frozen 0
         have z1f := HBf62.out.frozen 1
         have z2f := HBf62.out.frozen 2
         have z3f := HBf62.out.frozen 3
         go_wp2_with fail
         try clear f0 f1 f2 f3 z0f z1f z2f z3f
         have hnf := HBf62.out.whole HDC.out HNL.out
         have HP63 := Hh (HP62.out.store4 hE HBf62.out HXF.out (.bool v62.form.named) (.string (str v62.form.name)) (.int .i64 v62.form.near) (.slice ya62 v62.form.params.length yc62))
         have HK63 := Hh (HK62.out.store4 HWF.out (.bool v62.form.named) (.string (str v62.form.name)) (.int .i64 v62.form.near) (.slice ya62 v62.form.params.length yc62))
         have HBr63 := Hh (HBr62.out.other4 HNEr.out HBf62.out (.bool v62.form.named) (.string (str v62.form.name)) (.int .i64 v62.form.near) (.slice ya62 v62.form.params.length yc62))
         have HBh63 := Hh (HBh62.out.other4 HNEh.out HBf62.out (.bool v62.form.named) (.string (str v62.form.name)) (.int .i64 v62.form.near) (.slice ya62 v62.form.params.length yc62))
         have HBf63 := Hh hnf
         clear hnf
         have HR63 := Hh HR62.out
         refine (wk_need hE [41] _ _ HP63.out).mono ?_
         intro e w64 he
         rcases qstepR (x := need E.L [41]) HR63.out HN.out HK63.out he with ⟨v64, s64, hr64, -, rfl, hp64, hkk, hk64⟩ | ⟨hr64, ⟨z, rfl⟩, hb64, hk64⟩
         case' inr => rw [← HB0.out]; exact ⟨rfl, q_no hr64 hb64 hk64⟩
         have HR64 := Hh hr64
         have HP64 := Hh hp64
         have HK64 := Hh hk64
         have HBr64 := Hh (HBr63.out.kp hkk)
         have HBh64 := Hh (HBh63.out.kp hkk)
         have HBf64 := Hh (HBf63.out.kp hkk)
         clear he hr64 hp64 hkk hk64
         go_wp2_with fail
         with_reducible replace HR64 := Hh (q_pb HR64.out)
         dsimp only at HR64
         have hq := HR64.out
         replace hq := qone hq rfl
         clear HR64
         have HR64 := Hh hq
         clear hq
         have hq := HR64.out
         try simp only [form_fo, bool_bo] at hq
         clear HR64
         have HR64 := Hh hq
         clear hq
         refine (w_suffixes hE (fun m hm => IH.out m hm) _ false bf _ _ _ HXF.out HBf64.out HP64.out (qne HR64.out HN.out)).mono ?_
         intro e w65 he
         rcases qstepS HR64.out HN.out he with ⟨v65, s65, y65, hr65, rfl, hle65, hf65, hp65, hkb65⟩ | ⟨hr65, ⟨z, rfl⟩, hb65, hkb65⟩
         case' inr => rw [← HB0.out]; exact ⟨rfl, q_no hr65 hb65 (KPb.kp HK64.out HWF.out hkb65)⟩
         have HR65 := Hh hr65
         have HP65 := Hh hp65
         have HK65 := Hh (KPb.kp HK64.out HWF.out hkb65)
         have HBf65 := Hh hf65
         have HLE := Hh hle65
         have HBr65 := Hh (HBr64.out.kpb HNEr.out hkb65)
         have HBh65 := Hh (HBh64.out.kpb HNEh.out hkb65)
         clear he hr65 hp65 hkb65 hf65 hle65
         have hq := HR65.out
         replace hq := qone hq rfl
         clear HR65
         have HR65 := Hh hq
         clear hq
         obtain ⟨an, han⟩ : ∃ b, decide (s64.at' < s65.at') = b := ⟨_, rfl⟩
         rw [han]
         have HAN := Hh han
         clear han
         replace HR65 := Hh (q_neg HR65.out (fun h => by cases h.1))
         cases st
         ·obtain ⟨d0, d1⟩ := HBh65.out.cells
          have hne1 : ¬ bf = bh := fun q => HNEh.out q.symm
          go_wp2_with fail
          have hq := HR65.out
          rw [show Fm.ptr false (v65.form) = v65.form from rfl] at hq
          try (with_reducible replace hq := q_assoc hq)
          clear HR65
          have HR65 := Hh hq
          clear hq
          refine (wk_node hE 14 v1 _ _ HP65.out (qne HR65.out HN.out)).mono ?_
          intro e w66 he
          rcases qstepR (x := node E.L 14 v1) HR65.out HN.out HK65.out he with ⟨v66, s66, hr66, -, rfl, hp66, hkk, hk66⟩ | ⟨hr66, ⟨z, rfl⟩, hb66, hk66⟩
          case' inr => rw [← HB0.out]; exact ⟨rfl, q_no hr66 hb66 hk66⟩
          try dsimp only at hr66
          have HR66 := Hh hr66
          have HP66 := Hh hp66
          have HK66 := Hh hk66
          have HBr66 := Hh (HBr65.out.kp hkk)
          have HBh66 := Hh (HBh65.out.kp hkk)
          have HBf66 := Hh (HBf65.out.kp hkk)
          clear he hr66 hp66 hkk hk66
          have hq := HR66.out
          try (with_reducible replace hq := q_assoc hq)
          clear HR66
          have HR66 := Hh hq
          clear hq
          try clear d0 d1
          obtain ⟨f0, f1, f2, f3⟩ := HBf66.out.cells
          obtain ⟨r0, r1, r2, r3⟩ := HBr66.out.cells
          have zr0 := HBr66.out.frozen 0
          have zr1 := HBr66.out.frozen 1
          have zr2 := HBr66.out.frozen 2
          have zr3 := HBr66.out.frozen 3
          have HDF := Hh HBf66.out.2
          obtain ⟨ya, yc, hye, -⟩ := HBf66.out.2.1
          rw [hye] at f3
          have HYE := Hh hye
          clear hye
          go_wp2_with fail
          have hdf := HDF.out
          rw [HYE.out] at hdf
          have hw := HBr66.out.whole (g := v65.form) hdf.1 hdf.2
          have hpr := HP66.out.store4 hE HBr66.out HXr.out (.bool (v65.form).named) (.string (str (v65.form).name)) (.int .i64 (v65.form).near) (.slice ya (v65.form).params.length yc)
          have hkr := HK66.out.store4 (Nat.le_of_eq hbr) (.bool (v65.form).named) (.string (str (v65.form).name)) (.int .i64 (v65.form).near) (.slice ya (v65.form).params.length yc)
          have hqr := q_pure HR66.out
          have HW := Hh hw
          have HPR := Hh hpr
          have HKR := Hh hkr
          have HQR := Hh hqr
          clear hw hpr hkr hqr hdf
          rw [← HB0.out]
          refine bodyPost_ret (v := .agg #[.bool (v65.form).named, .string (str (v65.form).name), .int .i64 (v65.form).near, .slice ya (v65.form).params.length yc]) ?_ rfl ?_
          ·simp [results, Tryz.results48, go_sem, r0, r1, r2, r3]
          ·exact q_ok HQR.out ⟨_, rfl, HW.out.2.1, HW.out.2.2⟩ HPR.out HKR.out
         ·obtain ⟨d0, d1⟩ := HBh65.out.cells
          have hne1 : ¬ bf = bh := fun q => HNEh.out q.symm
          obtain ⟨zn, hzn⟩ : ∃ z : Int, ((v65.form).near : Int) = z := ⟨_, rfl⟩
          by_cases hn0 : (v65.form).near = 0
          ·obtain ⟨f0, f1, f2, f3⟩ := HBf65.out.cells
           have z2f := HBf65.out.frozen 2
           rw [hzn] at f2
           have e0 : (zn == 0) = true := by rw [← hzn, hn0]; rfl
           have HZN := Hh hzn
           clear hzn
           go_wp2_with fail
           try clear f0 f1 f2 f3 z2f
           have hnf := HBf65.out.near 1
           have HP67 := Hh ((HP65.out.store hE (HBf65.out.1) HXF.out 2 (.int .i64 1)))
           have HK67 := Hh ((HK65.out.store HWF.out 2 (.int .i64 1)))
           have HBr67 := Hh ((HBr65.out.other HNEr.out (HBf65.out.1) 2 (.int .i64 1)))
           have HBh67 := Hh ((HBh65.out.other HNEh.out (HBf65.out.1) 2 (.int .i64 1)))
           have HBf67 := Hh hnf
           clear hnf
           have HR67 := Hh HR65.out
           have hq := HR67.out
           rw [show Fm.ptr true (v65.form) = { v65.form with near := 1 } from by unfold Fm.ptr; rw [hn0]; rfl] at hq
           try (with_reducible replace hq := q_assoc hq)
           clear HR67
           have HR67 := Hh hq
           clear hq
           refine (wk_node hE 14 v1 _ _ HP67.out (qne HR67.out HN.out)).mono ?_
           intro e w68 he
           rcases qstepR (x := node E.L 14 v1) HR67.out HN.out HK67.out he with ⟨v68, s68, hr68, -, rfl, hp68, hkk, hk68⟩ | ⟨hr68, ⟨z, rfl⟩, hb68, hk68⟩
           case' inr => rw [← HB0.out]; exact ⟨rfl, q_no hr68 hb68 hk68⟩
           try dsimp only at hr68
           have HR68 := Hh hr68
           have HP68 := Hh hp68
           have HK68 := Hh hk68
           have HBr68 := Hh (HBr67.out.kp hkk)
           have HBh68 := Hh (HBh67.out.kp hkk)
           have HBf68 := Hh (HBf67.out.kp hkk)
           clear he hr68 hp68 hkk hk68
           have hq := HR68.out
           try (with_reducible replace hq := q_assoc hq)
           clear HR68
           have HR68 := Hh hq
           clear hq
           try clear d0 d1
           obtain ⟨f0, f1, f2, f3⟩ := HBf68.out.cells
           obtain ⟨r0, r1, r2, r3⟩ := HBr68.out.cells
           have zr0 := HBr68.out.frozen 0
           have zr1 := HBr68.out.frozen 1
           have zr2 := HBr68.out.frozen 2
           have zr3 := HBr68.out.frozen 3
           have HDF := Hh HBf68.out.2
           obtain ⟨ya, yc, hye, -⟩ := HBf68.out.2.1
           rw [hye] at f3
           have HYE := Hh hye
           clear hye
           go_wp2_with fail
           have hdf := HDF.out
           rw [HYE.out] at hdf
           have hw := HBr68.out.whole (g := { v65.form with near := 1 }) hdf.1 hdf.2
           have hpr := HP68.out.store4 hE HBr68.out HXr.out (.bool ({ v65.form with near := 1 }).named) (.string (str ({ v65.form with near := 1 }).name)) (.int .i64 ({ v65.form with near := 1 }).near) (.slice ya ({ v65.form with near := 1 }).params.length yc)
           have hkr := HK68.out.store4 (Nat.le_of_eq hbr) (.bool ({ v65.form with near := 1 }).named) (.string (str ({ v65.form with near := 1 }).name)) (.int .i64 ({ v65.form with near := 1 }).near) (.slice ya ({ v65.form with near := 1 }).params.length yc)
           have hqr := q_pure HR68.out
           have HW := Hh hw
           have HPR := Hh hpr
           have HKR := Hh hkr
           have HQR := Hh hqr
           clear hw hpr hkr hqr hdf
           rw [← HB0.out]
           refine bodyPost_ret (v := .agg #[.bool ({ v65.form with near := 1 }).named, .string (str ({ v65.form with near := 1 }).name), .int .i64 ({ v65.form with near := 1 }).near, .slice ya ({ v65.form with near := 1 }).params.length yc]) ?_ rfl ?_
           ·simp [results, Tryz.results48, go_sem, r0, r1, r2, r3]
           ·exact q_ok HQR.out ⟨_, rfl, HW.out.2.1, HW.out.2.2⟩ HPR.out HKR.out
          ·obtain ⟨f0, f1, f2, f3⟩ := HBf65.out.cells
           have z2f := HBf65.out.frozen 2
           rw [hzn] at f2
           have e0 : (zn == 0) = false := by rw [beq_eq_false_iff_ne, ← hzn]; omega
           have HZN := Hh hzn
           clear hzn
           go_wp2_with fail
           try clear f0 f1 f2 f3 z2f
           have hq := HR65.out
           rw [show Fm.ptr true (v65.form) = v65.form from by unfold Fm.ptr; rw [show ((v65.form).near == 0) = false from by rw [beq_eq_false_iff_ne]; exact hn0]; rfl] at hq
           try (with_reducible replace hq := q_assoc hq)
           clear HR65
           have HR65 := Hh hq
           clear hq
           refine (wk_node hE 14 v1 _ _ HP65.out (qne HR65.out HN.out)).mono ?_
           intro e w69 he
           rcases qstepR (x := node E.L 14 v1) HR65.out HN.out HK65.out he with ⟨v69, s69, hr69, -, rfl, hp69, hkk, hk69⟩ | ⟨hr69, ⟨z, rfl⟩, hb69, hk69⟩
           case' inr => rw [← HB0.out]; exact ⟨rfl, q_no hr69 hb69 hk69⟩
           try dsimp only at hr69
           have HR69 := Hh hr69
           have HP69 := Hh hp69
           have HK69 := Hh hk69
           have HBr69 := Hh (HBr65.out.kp hkk)
           have HBh69 := Hh (HBh65.out.kp hkk)
           have HBf69 := Hh (HBf65.out.kp hkk)
           clear he hr69 hp69 hkk hk69
           have hq := HR69.out
           try (with_reducible replace hq := q_assoc hq)
           clear HR69
           have HR69 := Hh hq
           clear hq
           try clear d0 d1
           obtain ⟨f0, f1, f2, f3⟩ := HBf69.out.cells
           obtain ⟨r0, r1, r2, r3⟩ := HBr69.out.cells
           have zr0 := HBr69.out.frozen 0
           have zr1 := HBr69.out.frozen 1
           have zr2 := HBr69.out.frozen 2
           have zr3 := HBr69.out.frozen 3
           have HDF := Hh HBf69.out.2
           obtain ⟨ya, yc, hye, -⟩ := HBf69.out.2.1
           rw [hye] at f3
           have HYE := Hh hye
           clear hye
           go_wp2_with fail
           have hdf := HDF.out
           rw [HYE.out] at hdf
           have hw := HBr69.out.whole (g := v65.form) hdf.1 hdf.2
           have hpr := HP69.out.store4 hE HBr69.out HXr.out (.bool (v65.form).named) (.string (str (v65.form).name)) (.int .i64 (v65.form).near) (.slice ya (v65.form).params.length yc)
           have hkr := HK69.out.store4 (Nat.le_of_eq hbr) (.bool (v65.form).named) (.string (str (v65.form).name)) (.int .i64 (v65.form).near) (.slice ya (v65.form).params.length yc)
           have hqr := q_pure HR69.out
           have HW := Hh hw
           have HPR := Hh hpr
           have HKR := Hh hkr
           have HQR := Hh hqr
           clear hw hpr hkr hqr hdf
           rw [← HB0.out]
           refine bodyPost_ret (v := .agg #[.bool (v65.form).named, .string (str (v65.form).name), .int .i64 (v65.form).near, .slice ya (v65.form).params.length yc]) ?_ rfl ?_
           ·simp [results, Tryz.results48, go_sem, r0, r1, r2, r3]
           ·exact q_ok HQR.out ⟨_, rfl, HW.out.2.1, HW.out.2.2⟩ HPR.out HKR.out
        ·try clear HR45
         go_wp2_with fail
         refine SG.out.mono ?_
         rintro e w60 ⟨rfl, hp60, hkk⟩
         clear SG
         have HP60 := Hh hp60
         have HK60 := Hh (HK54.out.trans hkk)
         have HBr60 := Hh (HBr54.out.kp hkk)
         have HBh60 := Hh (HBh54.out.kp hkk)
         have HBf60 := Hh (HBf54.out.kp hkk)
         clear hp60 hkk
         have hq := HR60.out
         simp only [Bool.not_true, Bool.and_false, Bool.or_false] at hq
         clear HR60
         have HR60 := Hh hq
         clear hq
         replace HR60 := Hh (q_neg HR60.out (by simp [hk2, hk0, hc452]))
         replace HR60 := Hh (q_neg HR60.out (by simp [hk2, hk0, hc452]))
         with_reducible replace HR60 := Hh (q_pb HR60.out)
         dsimp only at HR60
         go_wp2_with fail
         have hq := HR60.out
         replace hq := qone hq rfl
         clear HR60
         have HR60 := Hh hq
         clear hq
         have hq := HR60.out
         try simp only [form_fo, bool_bo] at hq
         clear HR60
         have HR60 := Hh hq
         clear hq
         refine (w_suffixes hE (fun m hm => IH.out m hm) _ false bf _ _ _ HXF.out HBf60.out HP60.out (qne HR60.out HN.out)).mono ?_
         intro e w70 he
         rcases qstepS HR60.out HN.out he with ⟨v70, s70, y70, hr70, rfl, hle70, hf70, hp70, hkb70⟩ | ⟨hr70, ⟨z, rfl⟩, hb70, hkb70⟩
         case' inr => rw [← HB0.out]; exact ⟨rfl, q_no hr70 hb70 (KPb.kp HK60.out HWF.out hkb70)⟩
         have HR70 := Hh hr70
         have HP70 := Hh hp70
         have HK70 := Hh (KPb.kp HK60.out HWF.out hkb70)
         have HBf70 := Hh hf70
         have HLE := Hh hle70
         have HBr70 := Hh (HBr60.out.kpb HNEr.out hkb70)
         have HBh70 := Hh (HBh60.out.kpb HNEh.out hkb70)
         clear he hr70 hp70 hkb70 hf70 hle70
         have hq := HR70.out
         replace hq := qone hq rfl
         clear HR70
         have HR70 := Hh hq
         clear hq
         obtain ⟨an, han⟩ : ∃ b, decide (s4.at' < s70.at') = b := ⟨_, rfl⟩
         rw [han]
         have HAN := Hh han
         clear han
         cases st
         ·cases an
          ·replace HR70 := Hh (q_pos HR70.out (by have q := of_decide_eq_false HAN.out; have q2 := HLE.out; exact ⟨by trivial, by trivial, by omega⟩))
           go_wp2_with fail
           refine (wk_fail (α := Va) hE (fun _ => .tuple #[]) _ _ HP70.out).mono ?_
           rintro e wf ⟨⟨z, rfl⟩, hbf, hkf⟩
           rw [← HB0.out]; exact ⟨rfl, q_no (show r = .no from HR70.out.symm) hbf (HK70.out.trans hkf)⟩
          ·replace HR70 := Hh (q_neg HR70.out (fun h => by have q := of_decide_eq_true HAN.out; have e := h.2.2; omega))
           obtain ⟨d0, d1⟩ := HBh70.out.cells
           have hne1 : ¬ bf = bh := fun q => HNEh.out q.symm
           go_wp2_with fail
           have hq := HR70.out
           rw [show Fm.ptr false (v70.form) = v70.form from rfl] at hq
           try (with_reducible replace hq := q_assoc hq)
           clear HR70
           have HR70 := Hh hq
           clear hq
           refine (wk_node hE 14 v1 _ _ HP70.out (qne HR70.out HN.out)).mono ?_
           intro e w71 he
           rcases qstepR (x := node E.L 14 v1) HR70.out HN.out HK70.out he with ⟨v71, s71, hr71, -, rfl, hp71, hkk, hk71⟩ | ⟨hr71, ⟨z, rfl⟩, hb71, hk71⟩
           case' inr => rw [← HB0.out]; exact ⟨rfl, q_no hr71 hb71 hk71⟩
           try dsimp only at hr71
           have HR71 := Hh hr71
           have HP71 := Hh hp71
           have HK71 := Hh hk71
           have HBr71 := Hh (HBr70.out.kp hkk)
           have HBh71 := Hh (HBh70.out.kp hkk)
           have HBf71 := Hh (HBf70.out.kp hkk)
           clear he hr71 hp71 hkk hk71
           have hq := HR71.out
           try (with_reducible replace hq := q_assoc hq)
           clear HR71
           have HR71 := Hh hq
           clear hq
           try clear d0 d1
           obtain ⟨f0, f1, f2, f3⟩ := HBf71.out.cells
           obtain ⟨r0, r1, r2, r3⟩ := HBr71.out.cells
           have zr0 := HBr71.out.frozen 0
           have zr1 := HBr71.out.frozen 1
           have zr2 := HBr71.out.frozen 2
           have zr3 := HBr71.out.frozen 3
           have HDF := Hh HBf71.out.2
           obtain ⟨ya, yc, hye, -⟩ := HBf71.out.2.1
           rw [hye] at f3
           have HYE := Hh hye
           clear hye
           go_wp2_with fail
           have hdf := HDF.out
           rw [HYE.out] at hdf
           have hw := HBr71.out.whole (g := v70.form) hdf.1 hdf.2
           have hpr := HP71.out.store4 hE HBr71.out HXr.out (.bool (v70.form).named) (.string (str (v70.form).name)) (.int .i64 (v70.form).near) (.slice ya (v70.form).params.length yc)
           have hkr := HK71.out.store4 (Nat.le_of_eq hbr) (.bool (v70.form).named) (.string (str (v70.form).name)) (.int .i64 (v70.form).near) (.slice ya (v70.form).params.length yc)
           have hqr := q_pure HR71.out
           have HW := Hh hw
           have HPR := Hh hpr
           have HKR := Hh hkr
           have HQR := Hh hqr
           clear hw hpr hkr hqr hdf
           rw [← HB0.out]
           refine bodyPost_ret (v := .agg #[.bool (v70.form).named, .string (str (v70.form).name), .int .i64 (v70.form).near, .slice ya (v70.form).params.length yc]) ?_ rfl ?_
           ·simp [results, Tryz.results48, go_sem, r0, r1, r2, r3]
           ·exact q_ok HQR.out ⟨_, rfl, HW.out.2.1, HW.out.2.2⟩ HPR.out HKR.out
         ·replace HR70 := Hh (q_neg HR70.out (fun h => by cases h.2.1))
          obtain ⟨d0, d1⟩ := HBh70.out.cells
          have hne1 : ¬ bf = bh := fun q => HNEh.out q.symm
          obtain ⟨zn, hzn⟩ : ∃ z : Int, ((v70.form).near : Int) = z := ⟨_, rfl⟩
          by_cases hn0 : (v70.form).near = 0
          ·obtain ⟨f0, f1, f2, f3⟩ := HBf70.out.cells
           have z2f := HBf70.out.frozen 2
           rw [hzn] at f2
           have e0 : (zn == 0) = true := by rw [← hzn, hn0]; rfl
           have HZN := Hh hzn
           clear hzn
           go_wp2_with fail
           try clear f0 f1 f2 f3 z2f
           have hnf := HBf70.out.near 1
           have HP72 := Hh ((HP70.out.store hE (HBf70.out.1) HXF.out 2 (.int .i64 1)))
           have HK72 := Hh ((HK70.out.store HWF.out 2 (.int .i64 1)))
           have HBr72 := Hh ((HBr70.out.other HNEr.out (HBf70.out.1) 2 (.int .i64 1)))
           have HBh72 := Hh ((HBh70.out.other HNEh.out (HBf70.out.1) 2 (.int .i64 1)))
           have HBf72 := Hh hnf
           clear hnf
           have HR72 := Hh HR70.out
           have hq := HR72.out
           rw [show Fm.ptr true (v70.form) = { v70.form with near := 1 } from by unfold Fm.ptr; rw [hn0]; rfl] at hq
           try (with_reducible replace hq := q_assoc hq)
           clear HR72
           have HR72 := Hh hq
           clear hq
           refine (wk_node hE 14 v1 _ _ HP72.out (qne HR72.out HN.out)).mono ?_
           intro e w73 he
           rcases qstepR (x := node E.L 14 v1) HR72.out HN.out HK72.out he with ⟨v73, s73, hr73, -, rfl, hp73, hkk, hk73⟩ | ⟨hr73, ⟨z, rfl⟩, hb73, hk73⟩
           case' inr => rw [← HB0.out]; exact ⟨rfl, q_no hr73 hb73 hk73⟩
           try dsimp only at hr73
           have HR73 := Hh hr73
           have HP73 := Hh hp73
           have HK73 := Hh hk73
           have HBr73 := Hh (HBr72.out.kp hkk)
           have HBh73 := Hh (HBh72.out.kp hkk)
           have HBf73 := Hh (HBf72.out.kp hkk)
           clear he hr73 hp73 hkk hk73
           have hq := HR73.out
           try (with_reducible replace hq := q_assoc hq)
           clear HR73
           have HR73 := Hh hq
           clear hq
           try clear d0 d1
           obtain ⟨f0, f1, f2, f3⟩ := HBf73.out.cells
           obtain ⟨r0, r1, r2, r3⟩ := HBr73.out.cells
           have zr0 := HBr73.out.frozen 0
           have zr1 := HBr73.out.frozen 1
           have zr2 := HBr73.out.frozen 2
           have zr3 := HBr73.out.frozen 3
           have HDF := Hh HBf73.out.2
           obtain ⟨ya, yc, hye, -⟩ := HBf73.out.2.1
           rw [hye] at f3
           have HYE := Hh hye
           clear hye
           go_wp2_with fail
           have hdf := HDF.out
           rw [HYE.out] at hdf
           have hw := HBr73.out.whole (g := { v70.form with near := 1 }) hdf.1 hdf.2
           have hpr := HP73.out.store4 hE HBr73.out HXr.out (.bool ({ v70.form with near := 1 }).named) (.string (str ({ v70.form with near := 1 }).name)) (.int .i64 ({ v70.form with near := 1 }).near) (.slice ya ({ v70.form with near := 1 }).params.length yc)
           have hkr := HK73.out.store4 (Nat.le_of_eq hbr) (.bool ({ v70.form with near := 1 }).named) (.string (str ({ v70.form with near := 1 }).name)) (.int .i64 ({ v70.form with near := 1 }).near) (.slice ya ({ v70.form with near := 1 }).params.length yc)
           have hqr := q_pure HR73.out
           have HW := Hh hw
           have HPR := Hh hpr
           have HKR := Hh hkr
           have HQR := Hh hqr
           clear hw hpr hkr hqr hdf
           rw [← HB0.out]
           refine bodyPost_ret (v := .agg #[.bool ({ v70.form with near := 1 }).named, .string (str ({ v70.form with near := 1 }).name), .int .i64 ({ v70.form with near := 1 }).near, .slice ya ({ v70.form with near := 1 }).params.length yc]) ?_ rfl ?_
           ·simp [results, Tryz.results48, go_sem, r0, r1, r2, r3]
           ·exact q_ok HQR.out ⟨_, rfl, HW.out.2.1, HW.out.2.2⟩ HPR.out HKR.out
          ·obtain ⟨f0, f1, f2, f3⟩ := HBf70.out.cells
           have z2f := HBf70.out.frozen 2
           rw [hzn] at f2
           have e0 : (zn == 0) = false := by rw [beq_eq_false_iff_ne, ← hzn]; omega
           have HZN := Hh hzn
           clear hzn
           go_wp2_with fail
           try clear f0 f1 f2 f3 z2f
           have hq := HR70.out
           rw [show Fm.ptr true (v70.form) = v70.form from by unfold Fm.ptr; rw [show ((v70.form).near == 0) = false from by rw [beq_eq_false_iff_ne]; exact hn0]; rfl] at hq
           try (with_reducible replace hq := q_assoc hq)
           clear HR70
           have HR70 := Hh hq
           clear hq
           refine (wk_node hE 14 v1 _ _ HP70.out (qne HR70.out HN.out)).mono ?_
           intro e w74 he
           rcases qstepR (x := node E.L 14 v1) HR70.out HN.out HK70.out he with ⟨v74, s74, hr74, -, rfl, hp74, hkk, hk74⟩ | ⟨hr74, ⟨z, rfl⟩, hb74, hk74⟩
           case' inr => rw [← HB0.out]; exact ⟨rfl, q_no hr74 hb74 hk74⟩
           try dsimp only at hr74
           have HR74 := Hh hr74
           have HP74 := Hh hp74
           have HK74 := Hh hk74
           have HBr74 := Hh (HBr70.out.kp hkk)
           have HBh74 := Hh (HBh70.out.kp hkk)
           have HBf74 := Hh (HBf70.out.kp hkk)
           clear he hr74 hp74 hkk hk74
           have hq := HR74.out
           try (with_reducible replace hq := q_assoc hq)
           clear HR74
           have HR74 := Hh hq
           clear hq
           try clear d0 d1
           obtain ⟨f0, f1, f2, f3⟩ := HBf74.out.cells
           obtain ⟨r0, r1, r2, r3⟩ := HBr74.out.cells
           have zr0 := HBr74.out.frozen 0
           have zr1 := HBr74.out.frozen 1
           have zr2 := HBr74.out.frozen 2
           have zr3 := HBr74.out.frozen 3
           have HDF := Hh HBf74.out.2
           obtain ⟨ya, yc, hye, -⟩ := HBf74.out.2.1
           rw [hye] at f3
           have HYE := Hh hye
           clear hye
           go_wp2_with fail
           have hdf := HDF.out
           rw [HYE.out] at hdf
           have hw := HBr74.out.whole (g := v70.form) hdf.1 hdf.2
           have hpr := HP74.out.store4 hE HBr74.out HXr.out (.bool (v70.form).named) (.string (str (v70.form).name)) (.int .i64 (v70.form).near) (.slice ya (v70.form).params.length yc)
           have hkr := HK74.out.store4 (Nat.le_of_eq hbr) (.bool (v70.form).named) (.string (str (v70.form).name)) (.int .i64 (v70.form).near) (.slice ya (v70.form).params.length yc)
           have hqr := q_pure HR74.out
           have HW := Hh hw
           have HPR := Hh hpr
           have HKR := Hh hkr
           have HQR := Hh hqr
           clear hw hpr hkr hqr hdf
           rw [← HB0.out]
           refine bodyPost_ret (v := .agg #[.bool (v70.form).named, .string (str (v70.form).name), .int .i64 (v70.form).near, .slice ya (v70.form).params.length yc]) ?_ rfl ?_
           ·simp [results, Tryz.results48, go_sem, r0, r1, r2, r3]
           ·exact q_ok HQR.out ⟨_, rfl, HW.out.2.1, HW.out.2.2⟩ HPR.out HKR.out
   ·replace HR4 := Hh (q_iftK HR4.out)
    with_reducible replace HR4 := Hh (q_assoc HR4.out)
    go_wp2_with fail
    refine (wk_quals hE _ _ HP4.out).mono ?_
    intro e w75 he
    rcases qstepR (x := quals E.L) HR4.out HN.out HK4.out he with ⟨v75, s75, hr75, -, rfl, hp75, hkk, hk75⟩ | ⟨hr75, ⟨z, rfl⟩, hb75, hk75⟩
    case' inr => rw [← HB0.out]; exact ⟨rfl, q_no hr75 hb75 hk75⟩
    have HR75 := Hh hr75
    have HP75 := Hh hp75
    have HK75 := Hh hk75
    have HBr75 := Hh (HBr4.out.kp hkk)
    have HBh75 := Hh (HBh4.out.kp hkk)
    have HBf75 := Hh (HBf4.out.kp hkk)
    clear he hr75 hp75 hkk hk75
    go_wp2_with fail
    go_roundg g3
    case measure => omega
    case rel => exact ⟨_, true, rfl, by omega, HR75.out, HP75.out, HK75.out, HBr75.out, HBh75.out, HBf75.out⟩
end Go.Proofs.YtlboejdhmggjpaaGreat.Pp

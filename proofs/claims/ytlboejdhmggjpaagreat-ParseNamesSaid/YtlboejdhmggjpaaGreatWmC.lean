/- parse: declarator. -/
import Derived.Test.YtlboejdhmggjpaaGreatWmB
set_option linter.all false
namespace Go.Proofs.YtlboejdhmggjpaaGreat.Pp
set_option maxRecDepth 100000
set_option maxHeartbeats 16000000
open Go.RowKit Go.BigFrame Go.Proofs.YtlboejdhmggjpaaGreat

theorem FmB.new (w : World) : FmB (w.alloc (.cells #[.bool false, .string ⟨#[]⟩, .int .i64 0, .slice none 0 0] 106)) w.heap.size ⟨false, [], 0, []⟩ (.slice none 0 0) := ⟨new_cells _ _ _, ⟨none, 0, rfl, ⟨Nat.zero_le _, by simp⟩, .inl rfl⟩, Nat.zero_le _⟩
theorem PW.lift {E : En} {w : World} {s : Ps} (h : PW E w s) (hE : E.ok) : E.X ≤ w.heap.size := by obtain ⟨vd, vc, vb, mb, h⟩ := h; exact h.lift hE
theorem q_name {α β : Type} {x : Pm α} {f : α → Pm β} {s : Ps} {r : Rs β} (h : (x >>= f) s = r) : ∃ K, (x >>= K) s = r ∧ ∀ (a : α) (s' : Ps), K a s' = f a s' := ⟨f, h, fun _ _ => rfl⟩
theorem HdB.other {w : World} {b fb : Nat} {h : Nat × Nat} (hb : HdB w b h) (hne : ¬ b = fb) {cs : Array Value} (hf : w.heap[fb]? = some (.cells cs 106 (0, 0))) (i : Nat) (v : Value) : HdB (w.setCell ⟨fb, i, none⟩ v) b h := by
 unfold HdB
 rw [heap_setCell_other _ _ _ _ hne]
 exact hb
theorem FmB.other {w : World} {b fb : Nat} {f : Fm} {y : Value} (hb : FmB w b f y) (hne : ¬ b = fb) {cs : Array Value} (hf : w.heap[fb]? = some (.cells cs 106 (0, 0))) (i : Nat) (v : Value) : FmB (w.setCell ⟨fb, i, none⟩ v) b f y :=
 ⟨by rw [heap_setCell_other _ _ _ _ hne]; exact hb.1, hb.2.1.set hf, hb.2.2⟩
theorem HdB.kpb {w w' : World} {b fb : Nat} {h : Nat × Nat} (hb : HdB w b h) (hne : ¬ b = fb) (hk : KPb fb w w') : HdB w' b h := hk.2 _ _ _ _ hne rfl hb
theorem FmB.kpb {w w' : World} {b fb : Nat} (hb : FmB w b ⟨false, [], 0, []⟩ (.slice none 0 0)) (hne : ¬ b = fb) (hk : KPb fb w w') : FmB w' b ⟨false, [], 0, []⟩ (.slice none 0 0) := ⟨hk.2 _ _ _ _ hne rfl hb.1, ⟨none, 0, rfl, ⟨Nat.zero_le _, by simp⟩, .inl rfl⟩, Nat.zero_le _⟩
theorem FmB.nmd {w : World} {b : Nat} {f : Fm} {y : Value} (h : FmB w b f y) (t : Bool) : FmB (w.setCell ⟨b, 0, none⟩ (.bool t)) b { f with named := t } y := ⟨by have := box_set (i := 0) (v := .bool t) h.1; simpa using this, h.2.1.set h.1, h.2.2⟩
theorem FmB.nme {w : World} {b : Nat} {f : Fm} {y : Value} (h : FmB w b f y) (x : Bs) (hx : x.length ≤ maxLen) : FmB (w.setCell ⟨b, 1, none⟩ (.string (str x))) b { f with name := x } y := ⟨by have := box_set (i := 1) (v := .string (str x)) h.1; simpa using this, h.2.1.set h.1, hx⟩
theorem FmB.whole {w : World} {b : Nat} {f g : Fm} {y y' : Value} (h : FmB w b f y) (hd : DcV w y' g.params) (hn : g.name.length ≤ maxLen) : FmB ((((w.setCell ⟨b, 0, none⟩ (.bool g.named)).setCell ⟨b, 1, none⟩ (.string (str g.name))).setCell ⟨b, 2, none⟩ (.int .i64 g.near)).setCell ⟨b, 3, none⟩ y') b g y' := by
 have h1 := box_set (i := 0) (v := .bool g.named) h.1
 have h2 := box_set (i := 1) (v := .string (str g.name)) h1
 have h3 := box_set (i := 2) (v := .int .i64 g.near) h2
 have h4 := box_set (i := 3) (v := y') h3
 exact ⟨by simpa using h4, (((hd.set h.1).set h1).set h2).set h3, hn⟩
theorem PW.store4 {E : En} {w : World} {s : Ps} {b : Nat} {f : Fm} {y : Value} (h : PW E w s) (hE : E.ok) (hf : FmB w b f y) (hX : E.X ≤ b) (v0 v1 v2 v3 : Value) : PW E ((((w.setCell ⟨b, 0, none⟩ v0).setCell ⟨b, 1, none⟩ v1).setCell ⟨b, 2, none⟩ v2).setCell ⟨b, 3, none⟩ v3) s := by
 have h1 := box_set (i := 0) (v := v0) hf.1
 have h2 := box_set (i := 1) (v := v1) h1
 have h3 := box_set (i := 2) (v := v2) h2
 exact (((h.store hE hf.1 hX 0 v0).store hE h1 hX 1 v1).store hE h2 hX 2 v2).store hE h3 hX 3 v3
theorem KP.store4 {a w : World} (h : KP a w) {b : Nat} (hb : a.heap.size ≤ b) (v0 v1 v2 v3 : Value) : KP a ((((w.setCell ⟨b, 0, none⟩ v0).setCell ⟨b, 1, none⟩ v1).setCell ⟨b, 2, none⟩ v2).setCell ⟨b, 3, none⟩ v3) :=
 (((h.store hb 0 v0).store hb 1 v1).store hb 2 v2).store hb 3 v3
theorem HdB.other4 {w : World} {b fb : Nat} {h : Nat × Nat} {f : Fm} {y : Value} (hb : HdB w b h) (hne : ¬ b = fb) (hf : FmB w fb f y) (v0 v1 v2 v3 : Value) : HdB ((((w.setCell ⟨fb, 0, none⟩ v0).setCell ⟨fb, 1, none⟩ v1).setCell ⟨fb, 2, none⟩ v2).setCell ⟨fb, 3, none⟩ v3) b h := by
 have h1 := box_set (i := 0) (v := v0) hf.1
 have h2 := box_set (i := 1) (v := v1) h1
 have h3 := box_set (i := 2) (v := v2) h2
 exact (((hb.other hne hf.1 0 v0).other hne h1 1 v1).other hne h2 2 v2).other hne h3 3 v3
theorem FmB.other4 {w : World} {b fb : Nat} {f0 : Fm} {y0 : Value} {f : Fm} {y : Value} (hb : FmB w b f0 y0) (hne : ¬ b = fb) (hf : FmB w fb f y) (v0 v1 v2 v3 : Value) : FmB ((((w.setCell ⟨fb, 0, none⟩ v0).setCell ⟨fb, 1, none⟩ v1).setCell ⟨fb, 2, none⟩ v2).setCell ⟨fb, 3, none⟩ v3) b f0 y0 := by
 have h1 := box_set (i := 0) (v := v0) hf.1
 have h2 := box_set (i := 1) (v := v1) h1
 have h3 := box_set (i := 2) (v := v2) h2
 exact (((hb.other hne hf.1 0 v0).other hne h1 1 v1).other hne h2 2 v2).other hne h3 3 v3
theorem qstepS {E : En} {β : Type} {fb : Nat} {x : Pm Va} {k : Va → Pm β} {s : Ps} {r : Rs β} {w1 w2 : World} {e : Ending} (hr : (x >>= k) s = r) (hn : r ≠ .out) (he : EndS E fb w1 s (x s) e w2) :
  (∃ v s2 y, k v s2 = r ∧ e = .returned (.bool (decide (s.at' < s2.at'))) ∧ s.at' ≤ s2.at' ∧ FmB w2 fb v.form y ∧ PW E w2 s2 ∧ KPb fb w1 w2) ∨ (r = .no ∧ (∃ n, e = .panicked (failV n)) ∧ Below E.X E.w0 w2 ∧ KPb fb w1 w2) := by
 change Pm.bind x k s = r at hr
 unfold Pm.bind at hr
 cases hx : x s with
 | out => rw [hx] at hr; exact absurd hr.symm hn
 | no => rw [hx] at hr he; exact .inr ⟨hr.symm, he.1, he.2.1, he.2.2⟩
 | ok v s2 =>
  rw [hx] at hr he
  obtain ⟨h1, h2, ⟨y, h3⟩, h4, h5⟩ := he
  exact .inl ⟨v, s2, y, hr, h1, h2, h3, h4, h5⟩
theorem formed {E : En} {β : Type} {f : Nat} {args : Array Value} {x : Pm Va} {k : Va → Pm β} {s : Ps} {r : Rs β} {w w1 : World} {Q : Ending → World → Prop} (h : Calls Tryz.prog f args w1 (EndQ E vaF w1 (x s))) (hr : (x >>= k) s = r) (hn : r ≠ .out) (hk : KP w w1)
  (h1 : ∀ (v : Va) (s2 : Ps) (ya : Option Addr) (yc : Nat) (w2 : World), k v s2 = r → PW E w2 s2 → KP w1 w2 → KP w w2 → DcV w2 (.slice ya v.form.params.length yc) v.form.params → v.form.name.length ≤ maxLen → Q (.returned (.agg #[.bool v.form.named, .string (str v.form.name), .int .i64 v.form.near, .slice ya v.form.params.length yc])) w2)
  (h2 : ∀ (z : Int) (w2 : World), r = .no → Below E.X E.w0 w2 → KP w w2 → Q (.panicked (failV z)) w2) : Calls Tryz.prog f args w1 Q := h.mono fun e w2 he => by
 rcases qstep hr hn hk he with ⟨v, s2, y, a1, -, rfl, ⟨y2, rfl, b1, b2⟩, a3, a4, a5⟩ | ⟨a1, ⟨z, rfl⟩, a2, a3⟩
 ·obtain ⟨ya, yc, rfl, -⟩ := id b1
  exact h1 v s2 ya yc w2 a1 a3 a4 a5 b1 b2
 ·exact h2 z w2 a1 a2 a3
theorem w_declarator {E : En} (hE : E.ok) {n : Nat} (ih : ∀ m, m ≤ n → Wk E m) (k : Nat) (s : Ps) (w : World) (hp : PW E w s) (hne : run E.L E.base (n + 1) (.declarator k) s ≠ .out) : Calls Tryz.prog 48 #[.pointer (some ⟨E.pb, 0, none⟩), .int .i64 k] w (EndQ E vaF w (run E.L E.base (n + 1) (.declarator k) s)) := by
 obtain ⟨r, hr⟩ : ∃ r, run E.L E.base (n + 1) (.declarator k) s = r := ⟨_, rfl⟩
 rw [hr] at hne ⊢
 rw [run] at hr
 have HN := Hh hne
 have HR0 := Hh hr
 have HP0 := Hh hp
 have HK0 := Hh (KP.refl w)
 have IH := Hh ih
 clear hne hr hp ih
 go_enter Tryz.func48, Tryz.ntmps48
 obtain ⟨K0, hK0⟩ : ∃ K0, bodyPost Tryz.prog Tryz.f48 (EndQ E vaF w r) = K0 := ⟨_, rfl⟩
 rw [hK0]
 have HB0 := Hh hK0
 clear hK0
 go_wp2_with fail
 obtain ⟨br, hbr⟩ : ∃ b, w.heap.size = b := ⟨_, rfl⟩
 try rw [hbr]
 have HBr0 := Hh (hbr ▸ FmB.new w)
 have HXr := Hh (show E.X ≤ br from hbr ▸ HP0.out.lift hE)
 have HPn := Hh (HP0.out.ext hE (below_alloc w (.cells #[.bool false, .string ⟨#[]⟩, .int .i64 0, .slice none 0 0] 106)))
 have HKn := Hh (KP.of_below (below_alloc w (.cells #[.bool false, .string ⟨#[]⟩, .int .i64 0, .slice none 0 0] 106)))
 clear HP0 HK0
 have HP0 := Hh HPn.out
 have HK0 := Hh HKn.out
 clear HPn HKn
 refine (wk_here hE _ _ HP0.out).mono ?_
 intro e w1 he
 rcases qstepR (x := here) HR0.out HN.out HK0.out he with ⟨v1, s1, hr1, -, rfl, hp1, hkk, hk1⟩ | ⟨hr1, ⟨z, rfl⟩, hb1, hk1⟩
 case' inr => rw [← HB0.out]; exact ⟨rfl, q_no hr1 hb1 hk1⟩
 have HR1 := Hh hr1
 have HP1 := Hh hp1
 have HK1 := Hh hk1
 have HBr1 := Hh (HBr0.out.kp hkk)
 clear he hr1 hp1 hkk hk1
 have HBn := Hh (HdB.new w1 v1)
 have HPn := Hh (HP1.out.ext hE (below_alloc w1 (.cells #[.int .i64 v1.1, .int .i64 v1.2] 77)))
 have HKn := Hh (HK1.out.trans (KP.of_below (below_alloc w1 (.cells #[.int .i64 v1.1, .int .i64 v1.2] 77))))
 have HBor1 := Hh HBr1.out
 have HXr := Hh (HBr1.out.kp (KP.of_below (below_alloc w1 (.cells #[.int .i64 v1.1, .int .i64 v1.2] 77))))
 clear HBr1
 have HBr1 := Hh HXr.out
 clear HXr
 have HPo1 := Hh HP1.out
 have HKo1 := Hh HK1.out
 clear HP1 HK1
 have HP1 := Hh HPn.out
 have HK1 := Hh HKn.out
 clear HPn HKn
 simp only [hdV]
 obtain ⟨bh, hbh⟩ : ∃ b, w1.heap.size = b := ⟨_, rfl⟩
 have HBh1 := Hh (hbh ▸ HBn.out)
 clear HBn
 go_wp2_with fail
 try rw [hbh]
 obtain ⟨bf, hbf⟩ : ∃ b, bh + 1 = b := ⟨_, rfl⟩
 try rw [hbf]
 obtain ⟨W2, hW2⟩ : ∃ W, W = (w1.alloc (.cells #[.int .i64 v1.1, .int .i64 v1.2] 77)).alloc (.cells #[.bool false, .string ⟨#[]⟩, .int .i64 0, .slice none 0 0] 106) := ⟨_, rfl⟩
 have hb2 := below_alloc (w1.alloc (.cells #[.int .i64 v1.1, .int .i64 v1.2] 77)) (.cells #[.bool false, .string ⟨#[]⟩, .int .i64 0, .slice none 0 0] 106)
 rw [← hW2] at hb2
 have HP2 := Hh (HP1.out.ext hE hb2)
 have HK2 := Hh (HK1.out.trans (KP.of_below hb2))
 have HBh2 := Hh (HBh1.out.kp (KP.of_below hb2))
 have HBr2 := Hh (HBr1.out.kp (KP.of_below hb2))
 have hfn := FmB.new (w1.alloc (.cells #[.int .i64 v1.1, .int .i64 v1.2] 77))
 rw [← hW2, show (w1.alloc (.cells #[.int .i64 v1.1, .int .i64 v1.2] 77)).heap.size = bf from by rw [← hbf, ← hbh]; simp] at hfn
 have HBf2 := Hh hfn
 have hle := HKo1.out.1
 have hbx := HP1.out.lift hE
 have HXF := Hh (show E.X ≤ bf from by have q := HPo1.out.lift hE; omega)
 have HWF := Hh (show w.heap.size ≤ bf from by omega)
 rw [← hW2]
 clear hW2 hb2 hfn hle hbx
 have HR2 := Hh HR1.out
 have HNEr := Hh (show ¬ br = bf from by have q := (Array.getElem?_eq_some_iff.1 HBor1.out.1).1; omega)
 have HNEh := Hh (show ¬ bh = bf from by omega)
 have hq := HR2.out
 obtain ⟨K, hqK, hKe⟩ := q_name hq
 clear HR2 hq
 have HR2 := Hh hqK
 have HKe := Hh hKe
 clear hqK hKe
 go_loopg [7] n (fun gf q7 wr => ∃ (s' : Ps) (st : Bool), q7 = .bool st ∧ gf ≤ n ∧ (run E.L E.base gf (.starsR st) >>= K) s' = r ∧ PW E wr s' ∧ KP w wr ∧ FmB wr br ⟨false, [], 0, []⟩ (.slice none 0 0) ∧ HdB wr bh v1 ∧ FmB wr bf ⟨false, [], 0, []⟩ (.slice none 0 0))
 case atStart => exact ⟨_, _, rfl, Nat.le_refl _, HR2.out, HP2.out, HK2.out, HBr2.out, HBh2.out, HBf2.out⟩
 case round =>
  obtain ⟨s3, st, rfl, hgn3, hr3, hp3, hk3, hhr3, hhh3, hhf3⟩ := hrel
  cases gk with
  | zero => exact absurd (q_0 hr3) HN.out
  | succ g3 =>
   rw [run] at hr3
   have HR3 := Hh hr3
   have HP3 := Hh hp3
   have HK3 := Hh hk3
   have HBr3 := Hh hhr3
   have HBh3 := Hh hhh3
   have HBf3 := Hh hhf3
   clear hr3 hp3 hk3 hhr3 hhh3 hhf3
   with_reducible replace HR3 := Hh (q_assoc HR3.out)
   go_wp2_with fail
   refine (wk_took hE [42] _ _ HP3.out).mono ?_
   intro e w4 he
   rcases qstepR (x := took E.L [42]) HR3.out HN.out HK3.out he with ⟨v4, s4, hr4, -, rfl, hp4, hkk, hk4⟩ | ⟨hr4, ⟨z, rfl⟩, hb4, hk4⟩
   case' inr => rw [← HB0.out]; exact ⟨rfl, q_no hr4 hb4 hk4⟩
   have HR4 := Hh hr4
   have HP4 := Hh hp4
   have HK4 := Hh hk4
   have HBr4 := Hh (HBr3.out.kp hkk)
   have HBh4 := Hh (HBh3.out.kp hkk)
   have HBf4 := Hh (HBf3.out.kp hkk)
   clear he hr4 hp4 hkk hk4
   obtain ⟨bb4, hbb4⟩ : ∃ bb, v4 = bb := ⟨_, rfl⟩
   rw [hbb4] at HR4 ⊢
   clear hbb4
   cases bb4
   ·replace HR4 := Hh (q_iffK HR4.out)
    with_reducible replace HR4 := Hh (q_pb HR4.out)
    have hq := HR4.out
    rw [HKe.out] at hq
    clear HR4
    have HR4 := Hh hq
    clear hq
    clear HKe
    by_cases hk2 : k = 2
    focus
     subst hk2
     have hq := HR4.out
     replace hq := qone (x := peek E.L 0) hq rfl
     clear HR4
     have HR4 := Hh hq
     clear hq
     have hq := HR4.out
     replace hq := qone hq rfl
     clear HR4
     have HR4 := Hh hq
     clear hq
     replace HR4 := Hh (q_neg HR4.out (by simp []))
     obtain ⟨B5, hB⟩ : ∃ B, signS E.L s4 0 [40] = B := ⟨_, rfl⟩
     have hq := HR4.out
     rw [hB] at hq
     have HR5 := Hh hq
     clear hq
     have SG := Hh (by have h := wk_sign hE 0 [40] s4 _ (by omega) HP4.out; rw [show sign E.L 0 [40] s4 = .ok (signS E.L s4 0 [40]) s4 from rfl, hB] at h; exact h : Calls Tryz.prog 47 #[.pointer (some ⟨E.pb, 0, none⟩), .int .i64 0, .string (str [40])] _ (EndR E .bool _ (.ok B5 s4)))
     clear hB
     cases B5
     focus
      try clear HR3
      go_wp2_with fail
      refine SG.out.mono ?_
      rintro e w5 ⟨rfl, hp5, hkk⟩
      clear SG
      have HP5 := Hh hp5
      have HK5 := Hh (HK4.out.trans hkk)
      have HBr5 := Hh (HBr4.out.kp hkk)
      have HBh5 := Hh (HBh4.out.kp hkk)
      have HBf5 := Hh (HBf4.out.kp hkk)
      clear hp5 hkk
      replace HR5 := Hh (q_neg HR5.out (by simp []))
      replace HR5 := Hh (q_neg HR5.out (by simp []))
      with_reducible replace HR5 := Hh (q_pb HR5.out)
      dsimp only at HR5
      go_wp2_with fail
      have hq := HR5.out
      replace hq := qone hq rfl
      clear HR5
      have HR5 := Hh hq
      clear hq
      have hq := HR5.out
      try simp only [form_fo, bool_bo] at hq
      clear HR5
      have HR5 := Hh hq
      clear hq
      have HBfQ := HBf5
      have HBhQ := HBh5
      have HBrQ := HBr5
      have HKQ := HK5
      have HPQ := HP5
      have HRQ := HR5
      refine ?A1
     rotate_left 1
     focus
      try clear HR3
      go_wp2_with fail
      refine SG.out.mono ?_
      rintro e w5 ⟨rfl, hp5, hkk⟩
      clear SG
      have HP5 := Hh hp5
      have HK5 := Hh (HK4.out.trans hkk)
      have HBr5 := Hh (HBr4.out.kp hkk)
      have HBh5 := Hh (HBh4.out.kp hkk)
      have HBf5 := Hh (HBf4.out.kp hkk)
      clear hp5 hkk
      obtain ⟨B11, hB⟩ : ∃ B, (signS E.L s4 1 [41] || bSpecS E.L E.base s4 1) = B := ⟨_, rfl⟩
      have hq := HR5.out
      rw [hB] at hq
      have HR11 := Hh hq
      clear hq
      have SG := Hh (by have h := wk_sufA hE s4 _ HP5.out; rw [show sufA E.L E.base s4 = B11 from hB] at h; exact h : Calls Tryz.prog 84 #[.pointer (some ⟨E.pb, 0, none⟩)] _ (EndR E .bool _ (.ok B11 s4)))
      clear hB
      cases B11
      focus
       try clear HR4
       go_wp2_with fail
       refine SG.out.mono ?_
       rintro e w11 ⟨rfl, hp11, hkk⟩
       clear SG
       have HP11 := Hh hp11
       have HK11 := Hh (HK5.out.trans hkk)
       have HBr11 := Hh (HBr5.out.kp hkk)
       have HBh11 := Hh (HBh5.out.kp hkk)
       have HBf11 := Hh (HBf5.out.kp hkk)
       clear hp11 hkk
       replace HR11 := Hh (q_pos HR11.out (by simp []))
       with_reducible replace HR11 := Hh (q_assoc HR11.out)
       obtain ⟨hle12, hr12⟩ := q_step HR11.out HN.out
       obtain ⟨c1, f1, -⟩ := HP11.out.at
       have hpb := HP11.out.lt
       obtain ⟨q121, q122⟩ := HP11.out.on hE hle12
       have hLn := hE.len
       obtain ⟨a12, hat12⟩ : ∃ a, Ps.at' s4 = a := ⟨_, rfl⟩
       rw [hat12] at c1 hle12 hr12 q121 q122
       have hi : a12 < 100000 := by omega
       obtain ⟨s12, hs12⟩ : ∃ t : Ps, (⟨a12 + 1, s4.done, s4.nm⟩ : Ps) = t := ⟨_, rfl⟩
       rw [hs12] at hr12 q121
       clear hs12
       have HR12 := Hh hr12
       have HP12 := Hh q121
       have HK12 := Hh (HK11.out.trans q122)
       have HBr12 := Hh (HBr11.out.kp q122)
       have HBh12 := Hh (HBh11.out.kp q122)
       have HBf12 := Hh (HBf11.out.kp q122)
       have HAT12 := Hh hat12
       clear q121 q122 hr12 hle12 hLn hat12
       with_reducible replace HR12 := Hh (q_assoc HR12.out)
       go_wp2_with fail
       try clear c1 f1 hpb hi
       refine formed (x := run E.L E.base n (.declarator 2)) ((IH.out n (Nat.le_refl _)).f_declarator 2 _ _ HP12.out (qne HR12.out HN.out)) HR12.out HN.out HK12.out ?_ ?_
       case' refine_2 => intro z w13 hr13 hb13 hk13; rw [← HB0.out]; exact ⟨rfl, q_no hr13 hb13 hk13⟩
       intro v13 s13 ya13 yc13 w13 hr13 hp13 hkk hk13 hdc13 hnl13
       have HR13 := Hh hr13
       have HP13 := Hh hp13
       have HK13 := Hh hk13
       have HDC := Hh hdc13
       have HNL := Hh hnl13
       have HBr13 := Hh (HBr12.out.kp hkk)
       have HBh13 := Hh (HBh12.out.kp hkk)
       have HBf13 := Hh (HBf12.out.kp hkk)
       clear hr13 hp13 hkk hk13 hdc13 hnl13
       with_reducible replace HR13 := Hh (q_assoc HR13.out)
       obtain ⟨f0, f1, f2, f3⟩ := HBf13.out.cells
       have z0f := HBf13.out.frozen 0
       have z1f := HBf13.out.frozen 1
       have z2f := HBf13.out.frozen 2
       have z3f := HBf13.out.frozen 3
       go_wp2_with fail
       try clear f0 f1 f2 f3 z0f z1f z2f z3f
       have hnf := HBf13.out.whole HDC.out HNL.out
       have HP14 := Hh (HP13.out.store4 hE HBf13.out HXF.out (.bool v13.form.named) (.string (str v13.form.name)) (.int .i64 v13.form.near) (.slice ya13 v13.form.params.length yc13))
       have HK14 := Hh (HK13.out.store4 HWF.out (.bool v13.form.named) (.string (str v13.form.name)) (.int .i64 v13.form.near) (.slice ya13 v13.form.params.length yc13))
       have HBr14 := Hh (HBr13.out.other4 HNEr.out HBf13.out (.bool v13.form.named) (.string (str v13.form.name)) (.int .i64 v13.form.near) (.slice ya13 v13.form.params.length yc13))
       have HBh14 := Hh (HBh13.out.other4 HNEh.out HBf13.out (.bool v13.form.named) (.string (str v13.form.name)) (.int .i64 v13.form.near) (.slice ya13 v13.form.params.length yc13))
       have HBf14 := Hh hnf
       clear hnf
       have HR14 := Hh HR13.out
       refine (wk_need hE [41] _ _ HP14.out).mono ?_
       intro e w15 he
       rcases qstepR (x := need E.L [41]) HR14.out HN.out HK14.out he with ⟨v15, s15, hr15, -, rfl, hp15, hkk, hk15⟩ | ⟨hr15, ⟨z, rfl⟩, hb15, hk15⟩
       case' inr => rw [← HB0.out]; exact ⟨rfl, q_no hr15 hb15 hk15⟩
       have HR15 := Hh hr15
       have HP15 := Hh hp15
       have HK15 := Hh hk15
       have HBr15 := Hh (HBr14.out.kp hkk)
       have HBh15 := Hh (HBh14.out.kp hkk)
       have HBf15 := Hh (HBf14.out.kp hkk)
       clear he hr15 hp15 hkk hk15
       go_wp2_with fail
       with_reducible replace HR15 := Hh (q_pb HR15.out)
       dsimp only at HR15
       have hq := HR15.out
       replace hq := qone hq rfl
       clear HR15
       have HR15 := Hh hq
       clear hq
       have hq := HR15.out
       try simp only [form_fo, bool_bo] at hq
       clear HR15
       have HR15 := Hh hq
       clear hq
       have HBfQ := HBf15
       have HBhQ := HBh15
       have HBrQ := HBr15
       have HKQ := HK15
       have HPQ := HP15
       have HRQ := HR15
       obtain ⟨so, rfl⟩ : ∃ q : Ps, q = s15 := ⟨_, rfl⟩
       refine ?B1
      rotate_left 1
      focus
       try clear HR4
       go_wp2_with fail
       refine SG.out.mono ?_
       rintro e w11 ⟨rfl, hp11, hkk⟩
       clear SG
       have HP11 := Hh hp11
       have HK11 := Hh (HK5.out.trans hkk)
       have HBr11 := Hh (HBr5.out.kp hkk)
       have HBh11 := Hh (HBh5.out.kp hkk)
       have HBf11 := Hh (HBf5.out.kp hkk)
       clear hp11 hkk
       have hq := HR11.out
       simp only [Bool.not_true, Bool.and_false, Bool.or_false] at hq
       clear HR11
       have HR11 := Hh hq
       clear hq
       replace HR11 := Hh (q_neg HR11.out (by simp []))
       replace HR11 := Hh (q_neg HR11.out (by simp []))
       with_reducible replace HR11 := Hh (q_pb HR11.out)
       dsimp only at HR11
       go_wp2_with fail
       have hq := HR11.out
       replace hq := qone hq rfl
       clear HR11
       have HR11 := Hh hq
       clear hq
       have hq := HR11.out
       try simp only [form_fo, bool_bo] at hq
       clear HR11
       have HR11 := Hh hq
       clear hq
       have HBfQ := HBf11
       have HBhQ := HBh11
       have HBrQ := HBr11
       have HKQ := HK11
       have HPQ := HP11
       have HRQ := HR11
       refine ?A2
    rotate_left 3
    focus
     by_cases hk0 : k = 0
     focus
      subst hk0
      obtain ⟨T, hT⟩ : ∃ T, peekS E.L s4 0 = T := ⟨_, rfl⟩
      have pk := wk_peek hE 0 _ _ (by omega) HP4.out
      rw [hT] at pk
      have hq := qone (x := peek E.L 0) HR4.out rfl
      rw [hT] at hq
      clear hT
      obtain ⟨c26, t26⟩ := T
      unfold ctV at pk
      dsimp only at pk hq
      obtain ⟨x26, hxs⟩ : ∃ x : ByteArray, str t26 = x := ⟨_, rfl⟩
      obtain ⟨z26, hzs⟩ : ∃ z : Int, (c26 : Int) = z := ⟨_, rfl⟩
      rw [hxs, hzs] at pk
      have HX26 := Hh hxs
      have HZ26 := Hh hzs
      have HR26 := Hh hq
      have PK := Hh pk
      clear hxs hzs hq pk
      go_wp2_with fail
      refine PK.out.mono ?_
      rintro e w26 ⟨rfl, hbl⟩
      have HBL := Hh hbl
      clear hbl PK
      have HP26 := Hh (HP4.out.ext hE HBL.out)
      have HK26 := Hh (HK4.out.trans (KP.of_below HBL.out))
      have HBr26 := Hh (HBr4.out.kp (KP.of_below HBL.out))
      have HBh26 := Hh (HBh4.out.kp (KP.of_below HBL.out))
      have HBf26 := Hh (HBf4.out.kp (KP.of_below HBL.out))
      clear HBL
      have hF : ∀ (z : Int) (x : ByteArray) (W : World), (Instr.field 54 (.agg #[.int .i64 z, .string x]) 0).run Tryz.prog W = .ok (.int .i64 z) W := fun z x W => by kernel_rfl
      by_cases hc262 : c26 = 2
      focus
       have fc262 : (z26 == 2) = true := by rw [← HZ26.out, hc262]; rfl
       have fn262 : (z26 != 2) = false := by rw [← HZ26.out, hc262]; rfl
       have hq := HR26.out
       replace hq := qone hq rfl
       clear HR26
       have HR26 := Hh hq
       clear hq
       replace HR26 := Hh (q_pos HR26.out (by simp [hc262]))
       with_reducible replace HR26 := Hh (q_assoc HR26.out)
       obtain ⟨f0, f1, f2, f3⟩ := HBf26.out.cells
       have z0f := HBf26.out.frozen 0
       go_wp2_with fail
       have hnf := HBf26.out.nmd true
       have HP27 := Hh ((HP26.out.store hE (HBf26.out.1) HXF.out 0 (.bool true)))
       have HK27 := Hh ((HK26.out.store HWF.out 0 (.bool true)))
       have HBr27 := Hh ((HBr26.out.other HNEr.out (HBf26.out.1) 0 (.bool true)))
       have HBh27 := Hh ((HBh26.out.other HNEh.out (HBf26.out.1) 0 (.bool true)))
       have HBf27 := Hh hnf
       clear hnf
       have HR27 := Hh HR26.out
       refine (wk_name hE _ _ HP27.out).mono ?_
       intro e w28 he
       rcases qstepR (x := name' E.L) HR27.out HN.out HK27.out he with ⟨v28, s28, hr28, hxe28, rfl, hp28, hkk, hk28⟩ | ⟨hr28, ⟨z, rfl⟩, hb28, hk28⟩
       case' inr => rw [← HB0.out]; exact ⟨rfl, q_no hr28 hb28 hk28⟩
       have HR28 := Hh hr28
       have HP28 := Hh hp28
       have HK28 := Hh hk28
       have HBr28 := Hh (HBr27.out.kp hkk)
       have HBh28 := Hh (HBh27.out.kp hkk)
       have HBf28 := Hh (HBf27.out.kp hkk)
       clear he hr28 hp28 hkk hk28
       have HLn28 := Hh (name_len hE hxe28)
       clear hxe28
       simp only [stV]
       obtain ⟨f0, f1, f2, f3⟩ := HBf28.out.cells
       have z1f := HBf28.out.frozen 1
       go_wp2_with fail
       try clear f0 f1 f2 f3 z1f
       have hnf := HBf28.out.nme v28 HLn28.out
       have HP29 := Hh ((HP28.out.store hE (HBf28.out.1) HXF.out 1 (.string (str v28))))
       have HK29 := Hh ((HK28.out.store HWF.out 1 (.string (str v28))))
       have HBr29 := Hh ((HBr28.out.other HNEr.out (HBf28.out.1) 1 (.string (str v28))))
       have HBh29 := Hh ((HBh28.out.other HNEh.out (HBf28.out.1) 1 (.string (str v28))))
       have HBf29 := Hh hnf
       clear hnf
       have HR29 := Hh HR28.out
       with_reducible replace HR29 := Hh (q_pb HR29.out)
       dsimp only at HR29
       have hq := HR29.out
       replace hq := qone hq rfl
       clear HR29
       have HR29 := Hh hq
       clear hq
       have hq := HR29.out
       try simp only [form_fo, bool_bo] at hq
       clear HR29
       have HR29 := Hh hq
       clear hq
       have HBfQ := HBf29
       have HBhQ := HBh29
       have HBrQ := HBr29
       have HKQ := HK29
       have HPQ := HP29
       have HRQ := HR29
       obtain ⟨so, rfl⟩ : ∃ q : Ps, q = s28 := ⟨_, rfl⟩
       refine ?B2
      rotate_left 1
      focus
       have fc262 : (z26 == 2) = false := by rw [← HZ26.out, beq_eq_false_iff_ne]; omega
       have fn262 : (z26 != 2) = true := by rw [← HZ26.out, bne_iff_ne]; omega
       have hq := HR26.out
       replace hq := qone hq rfl
       clear HR26
       have HR26 := Hh hq
       clear hq
       replace HR26 := Hh (q_neg HR26.out (by simp [hc262]))
       obtain ⟨B35, hB⟩ : ∃ B, signS E.L s4 0 [40] = B := ⟨_, rfl⟩
       have hq := HR26.out
       rw [hB] at hq
       have HR35 := Hh hq
       clear hq
       have SG := Hh (by have h := wk_sign hE 0 [40] s4 _ (by omega) HP26.out; rw [show sign E.L 0 [40] s4 = .ok (signS E.L s4 0 [40]) s4 from rfl, hB] at h; exact h : Calls Tryz.prog 47 #[.pointer (some ⟨E.pb, 0, none⟩), .int .i64 0, .string (str [40])] _ (EndR E .bool _ (.ok B35 s4)))
       clear hB
       cases B35
       ·try clear HR4
        go_wp2_with fail
        refine SG.out.mono ?_
        rintro e w35 ⟨rfl, hp35, hkk⟩
        clear SG
        have HP35 := Hh hp35
        have HK35 := Hh (HK26.out.trans hkk)
        have HBr35 := Hh (HBr26.out.kp hkk)
        have HBh35 := Hh (HBh26.out.kp hkk)
        have HBf35 := Hh (HBf26.out.kp hkk)
        clear hp35 hkk
        replace HR35 := Hh (q_neg HR35.out (by simp [hc262]))
        go_wp2_with fail
        refine (wk_fail (α := Va) hE (fun _ => .tuple #[]) _ _ HP35.out).mono ?_
        rintro e wf ⟨⟨z, rfl⟩, hbf, hkf⟩
        rw [← HB0.out]; exact ⟨rfl, q_no (show r = .no from HR35.out.symm) hbf (HK35.out.trans hkf)⟩
       focus
        try clear HR4
        go_wp2_with fail
        refine SG.out.mono ?_
        rintro e w35 ⟨rfl, hp35, hkk⟩
        clear SG
        have HP35 := Hh hp35
        have HK35 := Hh (HK26.out.trans hkk)
        have HBr35 := Hh (HBr26.out.kp hkk)
        have HBh35 := Hh (HBh26.out.kp hkk)
        have HBf35 := Hh (HBf26.out.kp hkk)
        clear hp35 hkk
        replace HR35 := Hh (q_pos HR35.out (by simp [hc262]))
        with_reducible replace HR35 := Hh (q_assoc HR35.out)
        obtain ⟨hle36, hr36⟩ := q_step HR35.out HN.out
        obtain ⟨c1, f1, -⟩ := HP35.out.at
        have hpb := HP35.out.lt
        obtain ⟨q361, q362⟩ := HP35.out.on hE hle36
        have hLn := hE.len
        obtain ⟨a36, hat36⟩ : ∃ a, Ps.at' s4 = a := ⟨_, rfl⟩
        rw [hat36] at c1 hle36 hr36 q361 q362
        have hi : a36 < 100000 := by omega
        obtain ⟨s36, hs36⟩ : ∃ t : Ps, (⟨a36 + 1, s4.done, s4.nm⟩ : Ps) = t := ⟨_, rfl⟩
        rw [hs36] at hr36 q361
        clear hs36
        have HR36 := Hh hr36
        have HP36 := Hh q361
        have HK36 := Hh (HK35.out.trans q362)
        have HBr36 := Hh (HBr35.out.kp q362)
        have HBh36 := Hh (HBh35.out.kp q362)
        have HBf36 := Hh (HBf35.out.kp q362)
        have HAT36 := Hh hat36
        clear q361 q362 hr36 hle36 hLn hat36
        with_reducible replace HR36 := Hh (q_assoc HR36.out)
        go_wp2_with fail
        try clear c1 f1 hpb hi
        refine formed (x := run E.L E.base n (.declarator 0)) ((IH.out n (Nat.le_refl _)).f_declarator 0 _ _ HP36.out (qne HR36.out HN.out)) HR36.out HN.out HK36.out ?_ ?_
        case' refine_2 => intro z w37 hr37 hb37 hk37; rw [← HB0.out]; exact ⟨rfl, q_no hr37 hb37 hk37⟩
        intro v37 s37 ya37 yc37 w37 hr37 hp37 hkk hk37 hdc37 hnl37
        have HR37 := Hh hr37
        have HP37 := Hh hp37
        have HK37 := Hh hk37
        have HDC := Hh hdc37
        have HNL := Hh hnl37
        have HBr37 := Hh (HBr36.out.kp hkk)
        have HBh37 := Hh (HBh36.out.kp hkk)
        have HBf37 := Hh (HBf36.out.kp hkk)
        clear hr37 hp37 hkk hk37 hdc37 hnl37
        with_reducible replace HR37 := Hh (q_assoc HR37.out)
        obtain ⟨f0, f1, f2, f3⟩ := HBf37.out.cells
        have z0f := HBf37.out.frozen 0
        have z1f := HBf37.out.frozen 1
        have z2f := HBf37.out.frozen 2
        have z3f := HBf37.out.frozen 3
        go_wp2_with fail
        try clear f0 f1 f2 f3 z0f z1f z2f z3f
        have hnf := HBf37.out.whole HDC.out HNL.out
        have HP38 := Hh (HP37.out.store4 hE HBf37.out HXF.out (.bool v37.form.named) (.string (str v37.form.name)) (.int .i64 v37.form.near) (.slice ya37 v37.form.params.length yc37))
        have HK38 := Hh (HK37.out.store4 HWF.out (.bool v37.form.named) (.string (str v37.form.name)) (.int .i64 v37.form.near) (.slice ya37 v37.form.params.length yc37))
        have HBr38 := Hh (HBr37.out.other4 HNEr.out HBf37.out (.bool v37.form.named) (.string (str v37.form.name)) (.int .i64 v37.form.near) (.slice ya37 v37.form.params.length yc37))
        have HBh38 := Hh (HBh37.out.other4 HNEh.out HBf37.out (.bool v37.form.named) (.string (str v37.form.name)) (.int .i64 v37.form.near) (.slice ya37 v37.form.params.length yc37))
        have HBf38 := Hh hnf
        clear hnf
        have HR38 := Hh HR37.out
        refine (wk_need hE [41] _ _ HP38.out).mono ?_
        intro e w39 he
        rcases qstepR (x := need E.L [41]) HR38.out HN.out HK38.out he with ⟨v39, s39, hr39, -, rfl, hp39, hkk, hk39⟩ | ⟨hr39, ⟨z, rfl⟩, hb39, hk39⟩
        case' inr => rw [← HB0.out]; exact ⟨rfl, q_no hr39 hb39 hk39⟩
        have HR39 := Hh hr39
        have HP39 := Hh hp39
        have HK39 := Hh hk39
        have HBr39 := Hh (HBr38.out.kp hkk)
        have HBh39 := Hh (HBh38.out.kp hkk)
        have HBf39 := Hh (HBf38.out.kp hkk)
        clear he hr39 hp39 hkk hk39
        go_wp2_with fail
        with_reducible replace HR39 := Hh (q_pb HR39.out)
        dsimp only at HR39
        have hq := HR39.out
        replace hq := qone hq rfl
        clear HR39
        have HR39 := Hh hq
        clear hq
        have hq := HR39.out
        try simp only [form_fo, bool_bo] at hq
        clear HR39
        have HR39 := Hh hq
        clear hq
        have HBfQ := HBf39
        have HBhQ := HBh39
        have HBrQ := HBr39
        have HKQ := HK39
        have HPQ := HP39
        have HRQ := HR39
        obtain ⟨so, rfl⟩ : ∃ q : Ps, q = s39 := ⟨_, rfl⟩
        refine ?B3
     rotate_left 2
     focus
      have kn2 : ((k : Int) != 2) = true := by rw [bne_iff_ne]; omega
      have ke0 : ((k : Int) == 0) = false := by rw [beq_eq_false_iff_ne]; omega
      obtain ⟨T, hT⟩ : ∃ T, peekS E.L s4 0 = T := ⟨_, rfl⟩
      have pk := wk_peek hE 0 _ _ (by omega) HP4.out
      rw [hT] at pk
      have hq := qone (x := peek E.L 0) HR4.out rfl
      rw [hT] at hq
      clear hT
      obtain ⟨c45, t45⟩ := T
      unfold ctV at pk
      dsimp only at pk hq
      obtain ⟨x45, hxs⟩ : ∃ x : ByteArray, str t45 = x := ⟨_, rfl⟩
      obtain ⟨z45, hzs⟩ : ∃ z : Int, (c45 : Int) = z := ⟨_, rfl⟩
      rw [hxs, hzs] at pk
      have HX45 := Hh hxs
      have HZ45 := Hh hzs
      have HR45 := Hh hq
      have PK := Hh pk
      clear hxs hzs hq pk
      go_wp2_with fail
      refine PK.out.mono ?_
      rintro e w45 ⟨rfl, hbl⟩
      have HBL := Hh hbl
      clear hbl PK
      have HP45 := Hh (HP4.out.ext hE HBL.out)
      have HK45 := Hh (HK4.out.trans (KP.of_below HBL.out))
      have HBr45 := Hh (HBr4.out.kp (KP.of_below HBL.out))
      have HBh45 := Hh (HBh4.out.kp (KP.of_below HBL.out))
      have HBf45 := Hh (HBf4.out.kp (KP.of_below HBL.out))
      clear HBL
      have hF : ∀ (z : Int) (x : ByteArray) (W : World), (Instr.field 54 (.agg #[.int .i64 z, .string x]) 0).run Tryz.prog W = .ok (.int .i64 z) W := fun z x W => by kernel_rfl
      by_cases hc452 : c45 = 2
      focus
       have fc452 : (z45 == 2) = true := by rw [← HZ45.out, hc452]; rfl
       have fn452 : (z45 != 2) = false := by rw [← HZ45.out, hc452]; rfl
       have hq := HR45.out
       replace hq := qone hq rfl
       clear HR45
       have HR45 := Hh hq
       clear hq
       replace HR45 := Hh (q_pos HR45.out (by simp [hk2, hk0, hc452]))
       with_reducible replace HR45 := Hh (q_assoc HR45.out)
       obtain ⟨f0, f1, f2, f3⟩ := HBf45.out.cells
       have z0f := HBf45.out.frozen 0
       go_wp2_with fail
       have hnf := HBf45.out.nmd true
       have HP46 := Hh ((HP45.out.store hE (HBf45.out.1) HXF.out 0 (.bool true)))
       have HK46 := Hh ((HK45.out.store HWF.out 0 (.bool true)))
       have HBr46 := Hh ((HBr45.out.other HNEr.out (HBf45.out.1) 0 (.bool true)))
       have HBh46 := Hh ((HBh45.out.other HNEh.out (HBf45.out.1) 0 (.bool true)))
       have HBf46 := Hh hnf
       clear hnf
       have HR46 := Hh HR45.out
       refine (wk_name hE _ _ HP46.out).mono ?_
       intro e w47 he
       rcases qstepR (x := name' E.L) HR46.out HN.out HK46.out he with ⟨v47, s47, hr47, hxe47, rfl, hp47, hkk, hk47⟩ | ⟨hr47, ⟨z, rfl⟩, hb47, hk47⟩
       case' inr => rw [← HB0.out]; exact ⟨rfl, q_no hr47 hb47 hk47⟩
       have HR47 := Hh hr47
       have HP47 := Hh hp47
       have HK47 := Hh hk47
       have HBr47 := Hh (HBr46.out.kp hkk)
       have HBh47 := Hh (HBh46.out.kp hkk)
       have HBf47 := Hh (HBf46.out.kp hkk)
       clear he hr47 hp47 hkk hk47
       have HLn47 := Hh (name_len hE hxe47)
       clear hxe47
       simp only [stV]
       obtain ⟨f0, f1, f2, f3⟩ := HBf47.out.cells
       have z1f := HBf47.out.frozen 1
       go_wp2_with fail
       try clear f0 f1 f2 f3 z1f
       have hnf := HBf47.out.nme v47 HLn47.out
       have HP48 := Hh ((HP47.out.store hE (HBf47.out.1) HXF.out 1 (.string (str v47))))
       have HK48 := Hh ((HK47.out.store HWF.out 1 (.string (str v47))))
       have HBr48 := Hh ((HBr47.out.other HNEr.out (HBf47.out.1) 1 (.string (str v47))))
       have HBh48 := Hh ((HBh47.out.other HNEh.out (HBf47.out.1) 1 (.string (str v47))))
       have HBf48 := Hh hnf
       clear hnf
       have HR48 := Hh HR47.out
       with_reducible replace HR48 := Hh (q_pb HR48.out)
       dsimp only at HR48
       have hq := HR48.out
       replace hq := qone hq rfl
       clear HR48
       have HR48 := Hh hq
       clear hq
       have hq := HR48.out
       try simp only [form_fo, bool_bo] at hq
       clear HR48
       have HR48 := Hh hq
       clear hq
       have HBfQ := HBf48
       have HBhQ := HBh48
       have HBrQ := HBr48
       have HKQ := HK48
       have HPQ := HP48
       have HRQ := HR48
       obtain ⟨so, rfl⟩ : ∃ q : Ps, q = s47 := ⟨_, rfl⟩
       refine ?B4
      rotate_left 1
      focus
       have fc452 : (z45 == 2) = false := by rw [← HZ45.out, beq_eq_false_iff_ne]; omega
       have fn452 : (z45 != 2) = true := by rw [← HZ45.out, bne_iff_ne]; omega
       have hq := HR45.out
       replace hq := qone hq rfl
       clear HR45
       have HR45 := Hh hq
       clear hq
       replace HR45 := Hh (q_neg HR45.out (by simp [hk2, hk0, hc452]))
       obtain ⟨B54, hB⟩ : ∃ B, signS E.L s4 0 [40] = B := ⟨_, rfl⟩
       have hq := HR45.out
       rw [hB] at hq
       have HR54 := Hh hq
       clear hq
       have SG := Hh (by have h := wk_sign hE 0 [40] s4 _ (by omega) HP45.out; rw [show sign E.L 0 [40] s4 = .ok (signS E.L s4 0 [40]) s4 from rfl, hB] at h; exact h : Calls Tryz.prog 47 #[.pointer (some ⟨E.pb, 0, none⟩), .int .i64 0, .string (str [40])] _ (EndR E .bool _ (.ok B54 s4)))
       clear hB
       cases B54
       focus
        try clear HR4
        go_wp2_with fail
        refine SG.out.mono ?_
        rintro e w54 ⟨rfl, hp54, hkk⟩
        clear SG
        have HP54 := Hh hp54
        have HK54 := Hh (HK45.out.trans hkk)
        have HBr54 := Hh (HBr45.out.kp hkk)
        have HBh54 := Hh (HBh45.out.kp hkk)
        have HBf54 := Hh (HBf45.out.kp hkk)
        clear hp54 hkk
        replace HR54 := Hh (q_neg HR54.out (by simp [hk2, hk0, hc452]))
        replace HR54 := Hh (q_neg HR54.out (by simp [hk2, hk0, hc452]))
        with_reducible replace HR54 := Hh (q_pb HR54.out)
        dsimp only at HR54
        go_wp2_with fail
        have hq := HR54.out
        replace hq := qone hq rfl
        clear HR54
        have HR54 := Hh hq
        clear hq
        have hq := HR54.out
        try simp only [form_fo, bool_bo] at hq
        clear HR54
        have HR54 := Hh hq
        clear hq
        have HBfQ := HBf54
        have HBhQ := HBh54
        have HBrQ := HBr54
        have HKQ := HK54
        have HPQ := HP54
        have HRQ := HR54
        refine ?A3
       rotate_left 1
       focus
        try clear HR4
        go_wp2_with fail
        refine SG.out.mono ?_
        rintro e w54 ⟨rfl, hp54, hkk⟩
        clear SG
        have HP54 := Hh hp54
        have HK54 := Hh (HK45.out.trans hkk)
        have HBr54 := Hh (HBr45.out.kp hkk)
        have HBh54 := Hh (HBh45.out.kp hkk)
        have HBf54 := Hh (HBf45.out.kp hkk)
        clear hp54 hkk
        obtain ⟨B60, hB⟩ : ∃ B, (signS E.L s4 1 [41] || bSpecS E.L E.base s4 1) = B := ⟨_, rfl⟩
        have hq := HR54.out
        rw [hB] at hq
        have HR60 := Hh hq
        clear hq
        have SG := Hh (by have h := wk_sufA hE s4 _ HP54.out; rw [show sufA E.L E.base s4 = B60 from hB] at h; exact h : Calls Tryz.prog 84 #[.pointer (some ⟨E.pb, 0, none⟩)] _ (EndR E .bool _ (.ok B60 s4)))
        clear hB
        cases B60
        focus
         try clear HR45
         go_wp2_with fail
         refine SG.out.mono ?_
         rintro e w60 ⟨rfl, hp60, hkk⟩
         clear SG
         have HP60 := Hh hp60
         have HK60 := Hh (HK54.out.trans hkk)
         have HBr60 := Hh (HBr54.out.kp hkk)
         have HBh60 := Hh (HBh54.out.kp hkk)
         have HBf60 := Hh (HBf54.out.kp hkk)
         clear hp60 hkk
         replace HR60 := Hh (q_pos HR60.out (by simp [hk2, hk0, hc452]))
         with_reducible replace HR60 := Hh (q_assoc HR60.out)
         obtain ⟨hle61, hr61⟩ := q_step HR60.out HN.out
         obtain ⟨c1, f1, -⟩ := HP60.out.at
         have hpb := HP60.out.lt
         obtain ⟨q611, q612⟩ := HP60.out.on hE hle61
         have hLn := hE.len
         obtain ⟨a61, hat61⟩ : ∃ a, Ps.at' s4 = a := ⟨_, rfl⟩
         rw [hat61] at c1 hle61 hr61 q611 q612
         have hi : a61 < 100000 := by omega
         obtain ⟨s61, hs61⟩ : ∃ t : Ps, (⟨a61 + 1, s4.done, s4.nm⟩ : Ps) = t := ⟨_, rfl⟩
         rw [hs61] at hr61 q611
         clear hs61
         have HR61 := Hh hr61
         have HP61 := Hh q611
         have HK61 := Hh (HK60.out.trans q612)
         have HBr61 := Hh (HBr60.out.kp q612)
         have HBh61 := Hh (HBh60.out.kp q612)
         have HBf61 := Hh (HBf60.out.kp q612)
         have HAT61 := Hh hat61
         clear q611 q612 hr61 hle61 hLn hat61
         with_reducible replace HR61 := Hh (q_assoc HR61.out)
         go_wp2_with fail
         try clear c1 f1 hpb hi
         refine formed (x := run E.L E.base n (.declarator k)) ((IH.out n (Nat.le_refl _)).f_declarator k _ _ HP61.out (qne HR61.out HN.out)) HR61.out HN.out HK61.out ?_ ?_
         case' refine_2 => intro z w62 hr62 hb62 hk62; rw [← HB0.out]; exact ⟨rfl, q_no hr62 hb62 hk62⟩
         intro v62 s62 ya62 yc62 w62 hr62 hp62 hkk hk62 hdc62 hnl62
         have HR62 := Hh hr62
         have HP62 := Hh hp62
         have HK62 := Hh hk62
         have HDC := Hh hdc62
         have HNL := Hh hnl62
         have HBr62 := Hh (HBr61.out.kp hkk)
         have HBh62 := Hh (HBh61.out.kp hkk)
         have HBf62 := Hh (HBf61.out.kp hkk)
         clear hr62 hp62 hkk hk62 hdc62 hnl62
         with_reducible replace HR62 := Hh (q_assoc HR62.out)
         obtain ⟨f0, f1, f2, f3⟩ := HBf62.out.cells
         have z0f := HBf62.out.frozen 0
         have z1f := HBf62.out.frozen 1
         have z2f := HBf62.out.frozen 2
         have z3f := HBf62.out.frozen 3
         go_wp2_with fail
         try clear f0 f1 f2 f3 z0f z1f z2f z3f
         have hnf := HBf62.out.whole HDC.out HNL.out
         have HP63 := Hh (HP62.out.store4 hE HBf62.out HXF.out (.bool v62.form.named) (.string (str v62.form.name)) (.int .i64 v62.form.near) (.slice ya62 v62.form.params.length yc62))
         have HK63 := Hh (HK62.out.store4 HWF.out (.bool v62.form.named) (.string (str v62.form.name)) (.int .i64 v62.form.near) (.slice ya62 v62.form.params.length yc62))
         have HBr63 := Hh (HBr62.out.other4 HNEr.out HBf62.out (.bool v62.form.named) (.string (str v62.form.name)) (.int .i64 v62.form.near) (.slice ya62 v62.form.params.length yc62))
         have HBh63 := Hh (HBh62.out.other4 HNEh.out HBf62.out (.bool v62.form.named) (.string (str v62.form.name)) (.int .i64 v62.form.near) (.slice ya62 v62.form.params.length yc62))
         have HBf63 := Hh hnf
         clear hnf
         have HR63 := Hh HR62.out
         refine (wk_need hE [41] _ _ HP63.out).mono ?_
         intro e w64 he
         rcases qstepR (x := need E.L [41]) HR63.out HN.out HK63.out he with ⟨v64, s64, hr64, -, rfl, hp64, hkk, hk64⟩ | ⟨hr64, ⟨z, rfl⟩, hb64, hk64⟩
         case' inr => rw [← HB0.out]; exact ⟨rfl, q_no hr64 hb64 hk64⟩
         have HR64 := Hh hr64
         have HP64 := Hh hp64
         have HK64 := Hh hk64
         have HBr64 := Hh (HBr63.out.kp hkk)
         have HBh64 := Hh (HBh63.out.kp hkk)
         have HBf64 := Hh (HBf63.out.kp hkk)
         clear he hr64 hp64 hkk hk64
         go_wp2_with fail
         with_reducible replace HR64 := Hh (q_pb HR64.out)
         dsimp only at HR64
         have hq := HR64.out
         replace hq := qone hq rfl
         clear HR64
         have HR64 := Hh hq
         clear hq
         have hq := HR64.out
         try simp only [form_fo, bool_bo] at hq
         clear HR64
         have HR64 := Hh hq
         clear hq
         have HBfQ := HBf64
         have HBhQ := HBh64
         have HBrQ := HBr64
         have HKQ := HK64
         have HPQ := HP64
         have HRQ := HR64
         obtain ⟨so, rfl⟩ : ∃ q : Ps, q = s64 := ⟨_, rfl⟩
         refine ?B5
        rotate_left 1
        focus
         try clear HR45
         go_wp2_with fail
         refine SG.out.mono ?_
         rintro e w60 ⟨rfl, hp60, hkk⟩
         clear SG
         have HP60 := Hh hp60
         have HK60 := Hh (HK54.out.trans hkk)
         have HBr60 := Hh (HBr54.out.kp hkk)
         have HBh60 := Hh (HBh54.out.kp hkk)
         have HBf60 := Hh (HBf54.out.kp hkk)
         clear hp60 hkk
         have hq := HR60.out
         simp only [Bool.not_true, Bool.and_false, Bool.or_false] at hq
         clear HR60
         have HR60 := Hh hq
         clear hq
         replace HR60 := Hh (q_neg HR60.out (by simp [hk2, hk0, hc452]))
         replace HR60 := Hh (q_neg HR60.out (by simp [hk2, hk0, hc452]))
         with_reducible replace HR60 := Hh (q_pb HR60.out)
         dsimp only at HR60
         go_wp2_with fail
         have hq := HR60.out
         replace hq := qone hq rfl
         clear HR60
         have HR60 := Hh hq
         clear hq
         have hq := HR60.out
         try simp only [form_fo, bool_bo] at hq
         clear HR60
         have HR60 := Hh hq
         clear hq
         have HBfQ := HBf60
         have HBhQ := HBh60
         have HBrQ := HBr60
         have HKQ := HK60
         have HPQ := HP60
         have HRQ := HR60
         refine ?A4
    case A1 | A2 | A3 | A4 =>
     refine (w_suffixes hE (fun m hm => IH.out m hm) _ false bf _ _ _ HXF.out HBfQ.out HPQ.out (qne HRQ.out HN.out)).mono ?_
     intro e w6 he
     rcases qstepS HRQ.out HN.out he with ⟨v6, s6, y6, hr6, rfl, hle6, hf6, hp6, hkb6⟩ | ⟨hr6, ⟨z, rfl⟩, hb6, hkb6⟩
     case' inr => rw [← HB0.out]; exact ⟨rfl, q_no hr6 hb6 (KPb.kp HKQ.out HWF.out hkb6)⟩
     have HR6 := Hh hr6
     have HP6 := Hh hp6
     have HK6 := Hh (KPb.kp HKQ.out HWF.out hkb6)
     have HBf6 := Hh hf6
     have HLE := Hh hle6
     have HBr6 := Hh (HBrQ.out.kpb HNEr.out hkb6)
     have HBh6 := Hh (HBhQ.out.kpb HNEh.out hkb6)
     clear he hr6 hp6 hkb6 hf6 hle6
     have hq := HR6.out
     replace hq := qone hq rfl
     clear HR6
     have HR6 := Hh hq
     clear hq
     obtain ⟨an, han⟩ : ∃ b, decide (s4.at' < s6.at') = b := ⟨_, rfl⟩
     rw [han]
     have HAN := Hh han
     clear han
     cases st
     ·cases an
      ·replace HR6 := Hh (q_pos HR6.out (by have q := of_decide_eq_false HAN.out; have q2 := HLE.out; exact ⟨by trivial, by trivial, by omega⟩))
       go_wp2_with fail
       refine (wk_fail (α := Va) hE (fun _ => .tuple #[]) _ _ HP6.out).mono ?_
       rintro e wf ⟨⟨z, rfl⟩, hbf, hkf⟩
       rw [← HB0.out]; exact ⟨rfl, q_no (show r = .no from HR6.out.symm) hbf (HK6.out.trans hkf)⟩
      ·replace HR6 := Hh (q_neg HR6.out (fun h => by have q := of_decide_eq_true HAN.out; have e := h.2.2; omega))
       obtain ⟨d0, d1⟩ := HBh6.out.cells
       have hne1 : ¬ bf = bh := fun q => HNEh.out q.symm
       go_wp2_with fail
       have hq := HR6.out
       rw [show Fm.ptr false (v6.form) = v6.form from rfl] at hq
       try (with_reducible replace hq := q_assoc hq)
       clear HR6
       have HR6 := Hh hq
       clear hq
       refine (wk_node hE 14 v1 _ _ HP6.out (qne HR6.out HN.out)).mono ?_
       intro e w7 he
       rcases qstepR (x := node E.L 14 v1) HR6.out HN.out HK6.out he with ⟨v7, s7, hr7, -, rfl, hp7, hkk, hk7⟩ | ⟨hr7, ⟨z, rfl⟩, hb7, hk7⟩
       case' inr => rw [← HB0.out]; exact ⟨rfl, q_no hr7 hb7 hk7⟩
       try dsimp only at hr7
       have HR7 := Hh hr7
       have HP7 := Hh hp7
       have HK7 := Hh hk7
       have HBr7 := Hh (HBr6.out.kp hkk)
       have HBh7 := Hh (HBh6.out.kp hkk)
       have HBf7 := Hh (HBf6.out.kp hkk)
       clear he hr7 hp7 hkk hk7
       have hq := HR7.out
       try (with_reducible replace hq := q_assoc hq)
       clear HR7
       have HR7 := Hh hq
       clear hq
       try clear d0 d1
       obtain ⟨f0, f1, f2, f3⟩ := HBf7.out.cells
       obtain ⟨r0, r1, r2, r3⟩ := HBr7.out.cells
       have zr0 := HBr7.out.frozen 0
       have zr1 := HBr7.out.frozen 1
       have zr2 := HBr7.out.frozen 2
       have zr3 := HBr7.out.frozen 3
       have HDF := Hh HBf7.out.2
       obtain ⟨ya, yc, hye, -⟩ := HBf7.out.2.1
       rw [hye] at f3
       have HYE := Hh hye
       clear hye
       go_wp2_with fail
       have hdf := HDF.out
       rw [HYE.out] at hdf
       have hw := HBr7.out.whole (g := v6.form) hdf.1 hdf.2
       have hpr := HP7.out.store4 hE HBr7.out HXr.out (.bool (v6.form).named) (.string (str (v6.form).name)) (.int .i64 (v6.form).near) (.slice ya (v6.form).params.length yc)
       have hkr := HK7.out.store4 (Nat.le_of_eq hbr) (.bool (v6.form).named) (.string (str (v6.form).name)) (.int .i64 (v6.form).near) (.slice ya (v6.form).params.length yc)
       have hqr := q_pure HR7.out
       have HW := Hh hw
       have HPR := Hh hpr
       have HKR := Hh hkr
       have HQR := Hh hqr
       clear hw hpr hkr hqr hdf
       rw [← HB0.out]
       refine bodyPost_ret (v := .agg #[.bool (v6.form).named, .string (str (v6.form).name), .int .i64 (v6.form).near, .slice ya (v6.form).params.length yc]) ?_ rfl ?_
       ·simp [results, Tryz.results48, go_sem, r0, r1, r2, r3]
       ·exact q_ok HQR.out ⟨_, rfl, HW.out.2.1, HW.out.2.2⟩ HPR.out HKR.out
     ·replace HR6 := Hh (q_neg HR6.out (fun h => by cases h.2.1))
      obtain ⟨d0, d1⟩ := HBh6.out.cells
      have hne1 : ¬ bf = bh := fun q => HNEh.out q.symm
      obtain ⟨zn, hzn⟩ : ∃ z : Int, ((v6.form).near : Int) = z := ⟨_, rfl⟩
      by_cases hn0 : (v6.form).near = 0
      ·obtain ⟨f0, f1, f2, f3⟩ := HBf6.out.cells
       have z2f := HBf6.out.frozen 2
       rw [hzn] at f2
       have e0 : (zn == 0) = true := by rw [← hzn, hn0]; rfl
       have HZN := Hh hzn
       clear hzn
       go_wp2_with fail
       try clear f0 f1 f2 f3 z2f
       have hnf := HBf6.out.near 1
       have HP8 := Hh ((HP6.out.store hE (HBf6.out.1) HXF.out 2 (.int .i64 1)))
       have HK8 := Hh ((HK6.out.store HWF.out 2 (.int .i64 1)))
       have HBr8 := Hh ((HBr6.out.other HNEr.out (HBf6.out.1) 2 (.int .i64 1)))
       have HBh8 := Hh ((HBh6.out.other HNEh.out (HBf6.out.1) 2 (.int .i64 1)))
       have HBf8 := Hh hnf
       clear hnf
       have HR8 := Hh HR6.out
       have hq := HR8.out
       rw [show Fm.ptr true (v6.form) = { v6.form with near := 1 } from by unfold Fm.ptr; rw [hn0]; rfl] at hq
       try (with_reducible replace hq := q_assoc hq)
       clear HR8
       have HR8 := Hh hq
       clear hq
       refine (wk_node hE 14 v1 _ _ HP8.out (qne HR8.out HN.out)).mono ?_
       intro e w9 he
       rcases qstepR (x := node E.L 14 v1) HR8.out HN.out HK8.out he with ⟨v9, s9, hr9, -, rfl, hp9, hkk, hk9⟩ | ⟨hr9, ⟨z, rfl⟩, hb9, hk9⟩
       case' inr => rw [← HB0.out]; exact ⟨rfl, q_no hr9 hb9 hk9⟩
       try dsimp only at hr9
       have HR9 := Hh hr9
       have HP9 := Hh hp9
       have HK9 := Hh hk9
       have HBr9 := Hh (HBr8.out.kp hkk)
       have HBh9 := Hh (HBh8.out.kp hkk)
       have HBf9 := Hh (HBf8.out.kp hkk)
       clear he hr9 hp9 hkk hk9
       have hq := HR9.out
       try (with_reducible replace hq := q_assoc hq)
       clear HR9
       have HR9 := Hh hq
       clear hq
       try clear d0 d1
       obtain ⟨f0, f1, f2, f3⟩ := HBf9.out.cells
       obtain ⟨r0, r1, r2, r3⟩ := HBr9.out.cells
       have zr0 := HBr9.out.frozen 0
       have zr1 := HBr9.out.frozen 1
       have zr2 := HBr9.out.frozen 2
       have zr3 := HBr9.out.frozen 3
       have HDF := Hh HBf9.out.2
       obtain ⟨ya, yc, hye, -⟩ := HBf9.out.2.1
       rw [hye] at f3
       have HYE := Hh hye
       clear hye
       go_wp2_with fail
       have hdf := HDF.out
       rw [HYE.out] at hdf
       have hw := HBr9.out.whole (g := { v6.form with near := 1 }) hdf.1 hdf.2
       have hpr := HP9.out.store4 hE HBr9.out HXr.out (.bool ({ v6.form with near := 1 }).named) (.string (str ({ v6.form with near := 1 }).name)) (.int .i64 ({ v6.form with near := 1 }).near) (.slice ya ({ v6.form with near := 1 }).params.length yc)
       have hkr := HK9.out.store4 (Nat.le_of_eq hbr) (.bool ({ v6.form with near := 1 }).named) (.string (str ({ v6.form with near := 1 }).name)) (.int .i64 ({ v6.form with near := 1 }).near) (.slice ya ({ v6.form with near := 1 }).params.length yc)
       have hqr := q_pure HR9.out
       have HW := Hh hw
       have HPR := Hh hpr
       have HKR := Hh hkr
       have HQR := Hh hqr
       clear hw hpr hkr hqr hdf
       rw [← HB0.out]
       refine bodyPost_ret (v := .agg #[.bool ({ v6.form with near := 1 }).named, .string (str ({ v6.form with near := 1 }).name), .int .i64 ({ v6.form with near := 1 }).near, .slice ya ({ v6.form with near := 1 }).params.length yc]) ?_ rfl ?_
       ·simp [results, Tryz.results48, go_sem, r0, r1, r2, r3]
       ·exact q_ok HQR.out ⟨_, rfl, HW.out.2.1, HW.out.2.2⟩ HPR.out HKR.out
      ·obtain ⟨f0, f1, f2, f3⟩ := HBf6.out.cells
       have z2f := HBf6.out.frozen 2
       rw [hzn] at f2
       have e0 : (zn == 0) = false := by rw [beq_eq_false_iff_ne, ← hzn]; omega
       have HZN := Hh hzn
       clear hzn
       go_wp2_with fail
       try clear f0 f1 f2 f3 z2f
       have hq := HR6.out
       rw [show Fm.ptr true (v6.form) = v6.form from by unfold Fm.ptr; rw [show ((v6.form).near == 0) = false from by rw [beq_eq_false_iff_ne]; exact hn0]; rfl] at hq
       try (with_reducible replace hq := q_assoc hq)
       clear HR6
       have HR6 := Hh hq
       clear hq
       refine (wk_node hE 14 v1 _ _ HP6.out (qne HR6.out HN.out)).mono ?_
       intro e w10 he
       rcases qstepR (x := node E.L 14 v1) HR6.out HN.out HK6.out he with ⟨v10, s10, hr10, -, rfl, hp10, hkk, hk10⟩ | ⟨hr10, ⟨z, rfl⟩, hb10, hk10⟩
       case' inr => rw [← HB0.out]; exact ⟨rfl, q_no hr10 hb10 hk10⟩
       try dsimp only at hr10
       have HR10 := Hh hr10
       have HP10 := Hh hp10
       have HK10 := Hh hk10
       have HBr10 := Hh (HBr6.out.kp hkk)
       have HBh10 := Hh (HBh6.out.kp hkk)
       have HBf10 := Hh (HBf6.out.kp hkk)
       clear he hr10 hp10 hkk hk10
       have hq := HR10.out
       try (with_reducible replace hq := q_assoc hq)
       clear HR10
       have HR10 := Hh hq
       clear hq
       try clear d0 d1
       obtain ⟨f0, f1, f2, f3⟩ := HBf10.out.cells
       obtain ⟨r0, r1, r2, r3⟩ := HBr10.out.cells
       have zr0 := HBr10.out.frozen 0
       have zr1 := HBr10.out.frozen 1
       have zr2 := HBr10.out.frozen 2
       have zr3 := HBr10.out.frozen 3
       have HDF := Hh HBf10.out.2
       obtain ⟨ya, yc, hye, -⟩ := HBf10.out.2.1
       rw [hye] at f3
       have HYE := Hh hye
       clear hye
       go_wp2_with fail
       have hdf := HDF.out
       rw [HYE.out] at hdf
       have hw := HBr10.out.whole (g := v6.form) hdf.1 hdf.2
       have hpr := HP10.out.store4 hE HBr10.out HXr.out (.bool (v6.form).named) (.string (str (v6.form).name)) (.int .i64 (v6.form).near) (.slice ya (v6.form).params.length yc)
       have hkr := HK10.out.store4 (Nat.le_of_eq hbr) (.bool (v6.form).named) (.string (str (v6.form).name)) (.int .i64 (v6.form).near) (.slice ya (v6.form).params.length yc)
       have hqr := q_pure HR10.out
       have HW := Hh hw
       have HPR := Hh hpr
       have HKR := Hh hkr
       have HQR := Hh hqr
       clear hw hpr hkr hqr hdf
       rw [← HB0.out]
       refine bodyPost_ret (v := .agg #[.bool (v6.form).named, .string (str (v6.form).name), .int .i64 (v6.form).near, .slice ya (v6.form).params.length yc]) ?_ rfl ?_
       ·simp [results, Tryz.results48, go_sem, r0, r1, r2, r3]
       ·exact q_ok HQR.out ⟨_, rfl, HW.out.2.1, HW.out.2.2⟩ HPR.out HKR.out
    case B1 | B2 | B3 | B4 | B5 =>
     refine (w_suffixes hE (fun m hm => IH.out m hm) _ false bf _ _ _ HXF.out HBfQ.out HPQ.out (qne HRQ.out HN.out)).mono ?_
     intro e w16 he
     rcases qstepS HRQ.out HN.out he with ⟨v16, s16, y16, hr16, rfl, hle16, hf16, hp16, hkb16⟩ | ⟨hr16, ⟨z, rfl⟩, hb16, hkb16⟩
     case' inr => rw [← HB0.out]; exact ⟨rfl, q_no hr16 hb16 (KPb.kp HKQ.out HWF.out hkb16)⟩
     have HR16 := Hh hr16
     have HP16 := Hh hp16
     have HK16 := Hh (KPb.kp HKQ.out HWF.out hkb16)
     have HBf16 := Hh hf16
     have HLE := Hh hle16
     have HBr16 := Hh (HBrQ.out.kpb HNEr.out hkb16)
     have HBh16 := Hh (HBhQ.out.kpb HNEh.out hkb16)
     clear he hr16 hp16 hkb16 hf16 hle16
     have hq := HR16.out
     replace hq := qone hq rfl
     clear HR16
     have HR16 := Hh hq
     clear hq
     obtain ⟨an, han⟩ : ∃ b, decide (so.at' < s16.at') = b := ⟨_, rfl⟩
     rw [han]
     have HAN := Hh han
     clear han
     replace HR16 := Hh (q_neg HR16.out (fun h => by cases h.1))
     cases st
     ·obtain ⟨d0, d1⟩ := HBh16.out.cells
      have hne1 : ¬ bf = bh := fun q => HNEh.out q.symm
      go_wp2_with fail
      have hq := HR16.out
      rw [show Fm.ptr false (v16.form) = v16.form from rfl] at hq
      try (with_reducible replace hq := q_assoc hq)
      clear HR16
      have HR16 := Hh hq
      clear hq
      refine (wk_node hE 14 v1 _ _ HP16.out (qne HR16.out HN.out)).mono ?_
      intro e w17 he
      rcases qstepR (x := node E.L 14 v1) HR16.out HN.out HK16.out he with ⟨v17, s17, hr17, -, rfl, hp17, hkk, hk17⟩ | ⟨hr17, ⟨z, rfl⟩, hb17, hk17⟩
      case' inr => rw [← HB0.out]; exact ⟨rfl, q_no hr17 hb17 hk17⟩
      try dsimp only at hr17
      have HR17 := Hh hr17
      have HP17 := Hh hp17
      have HK17 := Hh hk17
      have HBr17 := Hh (HBr16.out.kp hkk)
      have HBh17 := Hh (HBh16.out.kp hkk)
      have HBf17 := Hh (HBf16.out.kp hkk)
      clear he hr17 hp17 hkk hk17
      have hq := HR17.out
      try (with_reducible replace hq := q_assoc hq)
      clear HR17
      have HR17 := Hh hq
      clear hq
      try clear d0 d1
      obtain ⟨f0, f1, f2, f3⟩ := HBf17.out.cells
      obtain ⟨r0, r1, r2, r3⟩ := HBr17.out.cells
      have zr0 := HBr17.out.frozen 0
      have zr1 := HBr17.out.frozen 1
      have zr2 := HBr17.out.frozen 2
      have zr3 := HBr17.out.frozen 3
      have HDF := Hh HBf17.out.2
      obtain ⟨ya, yc, hye, -⟩ := HBf17.out.2.1
      rw [hye] at f3
      have HYE := Hh hye
      clear hye
      go_wp2_with fail
      have hdf := HDF.out
      rw [HYE.out] at hdf
      have hw := HBr17.out.whole (g := v16.form) hdf.1 hdf.2
      have hpr := HP17.out.store4 hE HBr17.out HXr.out (.bool (v16.form).named) (.string (str (v16.form).name)) (.int .i64 (v16.form).near) (.slice ya (v16.form).params.length yc)
      have hkr := HK17.out.store4 (Nat.le_of_eq hbr) (.bool (v16.form).named) (.string (str (v16.form).name)) (.int .i64 (v16.form).near) (.slice ya (v16.form).params.length yc)
      have hqr := q_pure HR17.out
      have HW := Hh hw
      have HPR := Hh hpr
      have HKR := Hh hkr
      have HQR := Hh hqr
      clear hw hpr hkr hqr hdf
      rw [← HB0.out]
      refine bodyPost_ret (v := .agg #[.bool (v16.form).named, .string (str (v16.form).name), .int .i64 (v16.form).near, .slice ya (v16.form).params.length yc]) ?_ rfl ?_
      ·simp [results, Tryz.results48, go_sem, r0, r1, r2, r3]
      ·exact q_ok HQR.out ⟨_, rfl, HW.out.2.1, HW.out.2.2⟩ HPR.out HKR.out
     ·obtain ⟨d0, d1⟩ := HBh16.out.cells
      have hne1 : ¬ bf = bh := fun q => HNEh.out q.symm
      obtain ⟨zn, hzn⟩ : ∃ z : Int, ((v16.form).near : Int) = z := ⟨_, rfl⟩
      by_cases hn0 : (v16.form).near = 0
      ·obtain ⟨f0, f1, f2, f3⟩ := HBf16.out.cells
       have z2f := HBf16.out.frozen 2
       rw [hzn] at f2
       have e0 : (zn == 0) = true := by rw [← hzn, hn0]; rfl
       have HZN := Hh hzn
       clear hzn
       go_wp2_with fail
       try clear f0 f1 f2 f3 z2f
       have hnf := HBf16.out.near 1
       have HP18 := Hh ((HP16.out.store hE (HBf16.out.1) HXF.out 2 (.int .i64 1)))
       have HK18 := Hh ((HK16.out.store HWF.out 2 (.int .i64 1)))
       have HBr18 := Hh ((HBr16.out.other HNEr.out (HBf16.out.1) 2 (.int .i64 1)))
       have HBh18 := Hh ((HBh16.out.other HNEh.out (HBf16.out.1) 2 (.int .i64 1)))
       have HBf18 := Hh hnf
       clear hnf
       have HR18 := Hh HR16.out
       have hq := HR18.out
       rw [show Fm.ptr true (v16.form) = { v16.form with near := 1 } from by unfold Fm.ptr; rw [hn0]; rfl] at hq
       try (with_reducible replace hq := q_assoc hq)
       clear HR18
       have HR18 := Hh hq
       clear hq
       refine (wk_node hE 14 v1 _ _ HP18.out (qne HR18.out HN.out)).mono ?_
       intro e w19 he
       rcases qstepR (x := node E.L 14 v1) HR18.out HN.out HK18.out he with ⟨v19, s19, hr19, -, rfl, hp19, hkk, hk19⟩ | ⟨hr19, ⟨z, rfl⟩, hb19, hk19⟩
       case' inr => rw [← HB0.out]; exact ⟨rfl, q_no hr19 hb19 hk19⟩
       try dsimp only at hr19
       have HR19 := Hh hr19
       have HP19 := Hh hp19
       have HK19 := Hh hk19
       have HBr19 := Hh (HBr18.out.kp hkk)
       have HBh19 := Hh (HBh18.out.kp hkk)
       have HBf19 := Hh (HBf18.out.kp hkk)
       clear he hr19 hp19 hkk hk19
       have hq := HR19.out
       try (with_reducible replace hq := q_assoc hq)
       clear HR19
       have HR19 := Hh hq
       clear hq
       try clear d0 d1
       obtain ⟨f0, f1, f2, f3⟩ := HBf19.out.cells
       obtain ⟨r0, r1, r2, r3⟩ := HBr19.out.cells
       have zr0 := HBr19.out.frozen 0
       have zr1 := HBr19.out.frozen 1
       have zr2 := HBr19.out.frozen 2
       have zr3 := HBr19.out.frozen 3
       have HDF := Hh HBf19.out.2
       obtain ⟨ya, yc, hye, -⟩ := HBf19.out.2.1
       rw [hye] at f3
       have HYE := Hh hye
       clear hye
       go_wp2_with fail
       have hdf := HDF.out
       rw [HYE.out] at hdf
       have hw := HBr19.out.whole (g := { v16.form with near := 1 }) hdf.1 hdf.2
       have hpr := HP19.out.store4 hE HBr19.out HXr.out (.bool ({ v16.form with near := 1 }).named) (.string (str ({ v16.form with near := 1 }).name)) (.int .i64 ({ v16.form with near := 1 }).near) (.slice ya ({ v16.form with near := 1 }).params.length yc)
       have hkr := HK19.out.store4 (Nat.le_of_eq hbr) (.bool ({ v16.form with near := 1 }).named) (.string (str ({ v16.form with near := 1 }).name)) (.int .i64 ({ v16.form with near := 1 }).near) (.slice ya ({ v16.form with near := 1 }).params.length yc)
       have hqr := q_pure HR19.out
       have HW := Hh hw
       have HPR := Hh hpr
       have HKR := Hh hkr
       have HQR := Hh hqr
       clear hw hpr hkr hqr hdf
       rw [← HB0.out]
       refine bodyPost_ret (v := .agg #[.bool ({ v16.form with near := 1 }).named, .string (str ({ v16.form with near := 1 }).name), .int .i64 ({ v16.form with near := 1 }).near, .slice ya ({ v16.form with near := 1 }).params.length yc]) ?_ rfl ?_
       ·simp [results, Tryz.results48, go_sem, r0, r1, r2, r3]
       ·exact q_ok HQR.out ⟨_, rfl, HW.out.2.1, HW.out.2.2⟩ HPR.out HKR.out
      ·obtain ⟨f0, f1, f2, f3⟩ := HBf16.out.cells
       have z2f := HBf16.out.frozen 2
       rw [hzn] at f2
       have e0 : (zn == 0) = false := by rw [beq_eq_false_iff_ne, ← hzn]; omega
       have HZN := Hh hzn
       clear hzn
       go_wp2_with fail
       try clear f0 f1 f2 f3 z2f
       have hq := HR16.out
       rw [show Fm.ptr true (v16.form) = v16.form from by unfold Fm.ptr; rw [show ((v16.form).near == 0) = false from by rw [beq_eq_false_iff_ne]; exact hn0]; rfl] at hq
       try (with_reducible replace hq := q_assoc hq)
       clear HR16
       have HR16 := Hh hq
       clear hq
       refine (wk_node hE 14 v1 _ _ HP16.out (qne HR16.out HN.out)).mono ?_
       intro e w20 he
       rcases qstepR (x := node E.L 14 v1) HR16.out HN.out HK16.out he with ⟨v20, s20, hr20, -, rfl, hp20, hkk, hk20⟩ | ⟨hr20, ⟨z, rfl⟩, hb20, hk20⟩
       case' inr => rw [← HB0.out]; exact ⟨rfl, q_no hr20 hb20 hk20⟩
       try dsimp only at hr20
       have HR20 := Hh hr20
       have HP20 := Hh hp20
       have HK20 := Hh hk20
       have HBr20 := Hh (HBr16.out.kp hkk)
       have HBh20 := Hh (HBh16.out.kp hkk)
       have HBf20 := Hh (HBf16.out.kp hkk)
       clear he hr20 hp20 hkk hk20
       have hq := HR20.out
       try (with_reducible replace hq := q_assoc hq)
       clear HR20
       have HR20 := Hh hq
       clear hq
       try clear d0 d1
       obtain ⟨f0, f1, f2, f3⟩ := HBf20.out.cells
       obtain ⟨r0, r1, r2, r3⟩ := HBr20.out.cells
       have zr0 := HBr20.out.frozen 0
       have zr1 := HBr20.out.frozen 1
       have zr2 := HBr20.out.frozen 2
       have zr3 := HBr20.out.frozen 3
       have HDF := Hh HBf20.out.2
       obtain ⟨ya, yc, hye, -⟩ := HBf20.out.2.1
       rw [hye] at f3
       have HYE := Hh hye
       clear hye
       go_wp2_with fail
       have hdf := HDF.out
       rw [HYE.out] at hdf
       have hw := HBr20.out.whole (g := v16.form) hdf.1 hdf.2
       have hpr := HP20.out.store4 hE HBr20.out HXr.out (.bool (v16.form).named) (.string (str (v16.form).name)) (.int .i64 (v16.form).near) (.slice ya (v16.form).params.length yc)
       have hkr := HK20.out.store4 (Nat.le_of_eq hbr) (.bool (v16.form).named) (.string (str (v16.form).name)) (.int .i64 (v16.form).near) (.slice ya (v16.form).params.length yc)
       have hqr := q_pure HR20.out
       have HW := Hh hw
       have HPR := Hh hpr
       have HKR := Hh hkr
       have HQR := Hh hqr
       clear hw hpr hkr hqr hdf
       rw [← HB0.out]
       refine bodyPost_ret (v := .agg #[.bool (v16.form).named, .string (str (v16.form).name), .int .i64 (v16.form).near, .slice ya (v16.form).params.length yc]) ?_ rfl ?_
       ·simp [results, Tryz.results48, go_sem, r0, r1, r2, r3]
       ·exact q_ok HQR.out ⟨_, rfl, HW.out.2.1, HW.out.2.2⟩ HPR.out HKR.out
   ·replace HR4 := Hh (q_iftK HR4.out)
    with_reducible replace HR4 := Hh (q_assoc HR4.out)
    go_wp2_with fail
    refine (wk_quals hE _ _ HP4.out).mono ?_
    intro e w75 he
    rcases qstepR (x := quals E.L) HR4.out HN.out HK4.out he with ⟨v75, s75, hr75, -, rfl, hp75, hkk, hk75⟩ | ⟨hr75, ⟨z, rfl⟩, hb75, hk75⟩
    case' inr => rw [← HB0.out]; exact ⟨rfl, q_no hr75 hb75 hk75⟩
    have HR75 := Hh hr75
    have HP75 := Hh hp75
    have HK75 := Hh hk75
    have HBr75 := Hh (HBr4.out.kp hkk)
    have HBh75 := Hh (HBh4.out.kp hkk)
    have HBf75 := Hh (HBf4.out.kp hkk)
    clear he hr75 hp75 hkk hk75
    go_wp2_with fail
    go_roundg g3
    case measure => omega
    case rel => exact ⟨_, true, rfl, by omega, HR75.out, HP75.out, HK75.out, HBr75.out, HBh75.out, HBf75.out⟩
end Go.Proofs.YtlboejdhmggjpaaGreat.Pp

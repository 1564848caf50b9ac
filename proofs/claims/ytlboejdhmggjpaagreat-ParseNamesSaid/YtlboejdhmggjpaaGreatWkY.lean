/- parse: names.close. -/
import Derived.Test.YtlboejdhmggjpaaGreatWkW
import Derived.Test.YtlboejdhmggjpaaGreatWkP
set_option linter.all false
namespace Go.Proofs.YtlboejdhmggjpaaGreat.Pp
set_option maxRecDepth 100000
set_option maxHeartbeats 16000000
open Go.RowKit Go.BigFrame Go.Proofs.YtlboejdhmggjpaaGreat

theorem row_block {w : World} {base e size n : Nat} {v : Value} {xs : List Value} (h : w.ownsRow base e size v n xs) (hn : 0 < n) : ∃ g c, v = .slice (some ⟨g, 0, none⟩) n c ∧ base ≤ g ∧ g < w.heap.size ∧ n ≤ c := by
 rcases h.2 with ⟨rfl, rfl⟩ | ⟨g, cap, cur, rfl, hb, hg, hnc, _⟩
 ·omega
 ·exact ⟨g, cap, rfl, hb, (Array.getElem?_eq_some_iff.1 hg).1, hnc⟩
theorem row_take {w : World} {base e size n m : Nat} {a : Option Addr} {c : Nat} {xs : List Value} (h : w.ownsRow base e size (.slice a n c) n xs) (hm : m ≤ n) : w.ownsRow base e size (.slice a m c) m (xs.take (m * size)) := by
 obtain ⟨h0, h⟩ := h
 refine ⟨by rw [List.length_take, h0]; exact Nat.min_eq_left (Nat.mul_le_mul_right _ hm), ?_⟩
 rcases h with ⟨h1, rfl⟩ | ⟨g, cap, cur, h1, hb, hg, h2, h3, h4, h5⟩
 ·cases h1
  exact .inl ⟨by rw [show m = 0 by omega], by omega⟩
 ·cases h1
  refine .inr ⟨g, _, cur, rfl, hb, hg, by omega, h3, h4, ?_⟩
  rw [← h5, List.take_take, Nat.min_eq_left (Nat.mul_le_mul_right _ hm)]
theorem chC_len : ∀ l : List (Bs × Bool), (chC l).length = l.length * 3
 | [] => rfl
 | p :: r => by simp only [chC, List.length_append, chC_len r, List.length_cons, List.length_nil]; omega
theorem chC_snoc (l : List (Bs × Bool)) (p : Bs × Bool) : chC (l ++ [p]).reverse = chC l.reverse ++ [.string (str p.1), .int .i64 (nwI (nowL l p.1)), .int .i64 (nwI (some p.2))] := by
 rw [List.reverse_append, List.reverse_singleton, List.singleton_append]; rfl
theorem chC_app : ∀ (d a : List (Bs × Bool)), ∃ t, chC (a ++ d).reverse = chC a.reverse ++ t
 | [], a => ⟨[], by rw [List.append_nil, List.append_nil]⟩
 | p :: d, a => by
  obtain ⟨t, ht⟩ := chC_app d (a ++ [p])
  refine ⟨[.string (str p.1), .int .i64 (nwI (nowL a p.1)), .int .i64 (nwI (some p.2))] ++ t, ?_⟩
  rw [show a ++ p :: d = (a ++ [p]) ++ d by simp, ht, chC_snoc, List.append_assoc]
theorem chC_take (l : List (Bs × Bool)) (k : Nat) (hk : k ≤ l.length) : (chC l.reverse).take (k * 3) = chC (l.take k).reverse := by
 obtain ⟨t, ht⟩ := chC_app (l.drop k) (l.take k)
 rw [List.take_append_drop] at ht
 rw [ht, List.take_left' (by rw [chC_len, List.length_reverse, List.length_take, Nat.min_eq_left hk])]
theorem chC_at (l : List (Bs × Bool)) (i : Nat) (hi : i < l.length) : ∀ j (v : Value), [Value.string (str l[i].1), .int .i64 (nwI (nowL (l.take i) l[i].1)), .int .i64 (nwI (some l[i].2))][j]? = some v → (chC l.reverse)[i * 3 + j]? = some v := by
 intro j v hv
 obtain ⟨t, ht⟩ := chC_app (l.drop (i + 1)) (l.take i ++ [l[i]])
 rw [show (l.take i ++ [l[i]]) ++ l.drop (i + 1) = l by rw [List.append_assoc, List.singleton_append, ← List.drop_eq_getElem_cons hi, List.take_append_drop], chC_snoc] at ht
 have hlen : (chC (l.take i).reverse).length = i * 3 := by rw [chC_len, List.length_reverse, List.length_take, Nat.min_eq_left (by omega)]
 rw [ht, List.append_assoc, List.getElem?_append_right (by omega), hlen, show i * 3 + j - i * 3 = j by omega, List.getElem?_append_left (by
  refine Nat.lt_of_not_le fun h => ?_
  rw [List.getElem?_eq_none h] at hv
  cases hv)]
 exact hv
structure ClP (E : En) (w : World) (s : Ps) (vd vc vb : Value) (mb : Nat) (chm : List (Bs × Bool)) (bL : List Nat) : Prop where
 bel : Below E.X E.w0 w
 box : w.heap[E.pb]? = some (.cells #[.slice E.la E.L.length E.lc, .int .i64 s.at', vd, E.sp, .map (some mb), vc, vb] 75 (0, 0))
 dn : w.ownsRow E.X 38 4 vd s.done.length (s.done.flatMap ndC)
 ch : w.ownsRow E.X 132 3 vc s.nm.ch.length (chC s.nm.ch.reverse)
 bl : w.ownsRow E.X 3 1 vb bL.length (bL.flatMap inC)
 mp : Nm w mb chm
 mx : E.X ≤ mb
 le : s.at' ≤ E.L.length
 tx : ∀ p ∈ s.nm.ch, p.1.length ≤ maxLen
 cb : s.nm.ch.length ≤ 2 * E.L.length + 1
 bb : bL.length ≤ 2 * E.L.length + 2
theorem ClP.ext {E : En} {w w' : World} {s : Ps} {vd vc vb : Value} {mb : Nat} {chm : List (Bs × Bool)} {bL : List Nat} (h : ClP E w s vd vc vb mb chm bL) (hE : E.ok) (hm : Below w.heap.size w w') : ClP E w' s vd vc vb mb chm bL where
 bel := h.bel.trans (hm.mono (by have := h.bel.size; rw [hE.X]; exact this))
 box := heap_below hm h.box (Array.getElem?_eq_some_iff.1 h.box).1
 dn := ownsRow_ext h.dn hm
 ch := ownsRow_ext h.ch hm
 bl := ownsRow_ext h.bl hm
 mp := h.mp.ext hm
 mx := h.mx
 le := h.le
 tx := h.tx
 cb := h.cb
 bb := h.bb
theorem ClP.popped {E : En} {w : World} {s : Ps} {vd vc : Value} {a : Option Addr} {n c mb : Nat} (h : PX E w s vd vc (.slice a n c) mb) (hE : E.ok) (hn : s.nm.bl.length = n) :
  ClP E (w.setCell ⟨E.pb, 6, none⟩ (.slice a (n - 1) c)) s vd vc (.slice a (n - 1) c) mb s.nm.ch s.nm.bl.dropLast ∧ KP w (w.setCell ⟨E.pb, 6, none⟩ (.slice a (n - 1) c)) := by
 refine ⟨{ bel := h.bel.setCell hE.pb _, box := ?_, dn := own_other h.box (by decide) h.dn, ch := own_other h.box (by decide) h.ch, bl := ?_, mp := h.mp.set h.box, mx := h.mx, le := h.le, tx := h.tx, cb := h.cb, bb := by have := h.bb; rw [List.length_dropLast]; omega }, KP.set h.box rfl⟩
 ·have := box_set (i := 6) (v := .slice a (n - 1) c) h.box; simpa using this
 ·have hb := h.bl
  rw [hn] at hb
  have := row_take hb (Nat.sub_le n 1)
  have e : (s.nm.bl.flatMap inC).take ((n - 1) * 1) = s.nm.bl.dropLast.flatMap inC := by
   rw [List.dropLast_eq_take, hn, Nat.mul_one]
   generalize s.nm.bl = l
   generalize n - 1 = q
   induction l generalizing q with
   | nil => simp
   | cons x l ih => cases q with
    | zero => simp
    | succ q => simp [inC] at ih ⊢; exact ih q
  rw [e] at this
  have hl : s.nm.bl.dropLast.length = n - 1 := by rw [List.length_dropLast, hn]
  rw [hl]
  exact own_other h.box (by decide) this
theorem ClP.turned {E : En} {w w' : World} {s : Ps} {vd vc vb : Value} {mb : Nat} {chm chm' : List (Bs × Bool)} {bL : List Nat} (h : ClP E w s vd vc vb mb chm bL) (hE : E.ok) (hg : w.grownBy w' (some mb)) (hm : Nm w' mb chm') : ClP E w' s vd vc vb mb chm' bL ∧ KP w w' := by
 have hst : ∀ (k : Nat) (cs : Array Value) (t : TypeId) (fz : Nat × Nat), w.heap[k]? = some (.cells cs t fz) → w'.heap[k]? = some (.cells cs t fz) := fun k cs t fz hk => by
  obtain ⟨n, D, ⟨es, c, hmm, _⟩, _⟩ := h.mp
  rw [hg.block k (Array.getElem?_eq_some_iff.1 hk).1 (fun q => by
   cases q
   rw [hmm] at hk
   cases hk)]
  exact hk
 have hXm := h.mx
 have hX : E.X ≤ w.heap.size := by have := h.bel.size; rw [hE.X]; exact this
 exact ⟨{ bel := h.bel.trans ⟨hg.os, hg.tape, hg.output, hg.size, fun k hk => hg.block k (by omega) (fun q => by cases q; omega)⟩, box := hst _ _ _ _ h.box, dn := ownsRow_of h.dn fun g cur hq => hst _ _ _ _ hq, ch := ownsRow_of h.ch fun g cur hq => hst _ _ _ _ hq, bl := ownsRow_of h.bl fun g cur hq => hst _ _ _ _ hq, mp := hm, mx := hXm, le := h.le, tx := h.tx, cb := h.cb, bb := h.bb }, ⟨hg.size, fun k cs t fz _ hk => hst _ _ _ _ hk, fun k x hk => by
  obtain ⟨n, D, ⟨es, c, hmm, _⟩, _⟩ := h.mp
  rw [hg.block k (Array.getElem?_eq_some_iff.1 hk).1 (fun q => by
   cases q
   rw [hmm] at hk
   cases hk)]
  exact hk⟩⟩
theorem ClP.done {E : En} {w : World} {s : Ps} {vd vb : Value} {a : Option Addr} {n c mb k : Nat} {bL : List Nat} (h : ClP E w s vd (.slice a n c) vb mb (s.nm.ch.take k) bL) (hE : E.ok) (hn : s.nm.ch.length = n) (hk : k ≤ n) :
  PX E (w.setCell ⟨E.pb, 5, none⟩ (.slice a k c)) { s with nm := ⟨s.nm.ch.take k, bL⟩ } vd (.slice a k c) vb mb ∧ KP w (w.setCell ⟨E.pb, 5, none⟩ (.slice a k c)) := by
 refine ⟨{ bel := h.bel.setCell hE.pb _, box := ?_, dn := own_other h.box (by decide) h.dn, ch := ?_, bl := own_other h.box (by decide) h.bl, mp := h.mp.set h.box, mx := h.mx, le := h.le, tx := fun p hp => h.tx p (List.mem_of_mem_take hp), cb := by have := h.cb; show (s.nm.ch.take k).length ≤ _; rw [List.length_take]; omega, bb := h.bb }, KP.set h.box rfl⟩
 ·have := box_set (i := 5) (v := .slice a k c) h.box; simpa using this
 ·have hb := h.ch
  rw [hn] at hb
  have := row_take hb hk
  rw [chC_take _ _ (by omega)] at this
  have hl : (s.nm.ch.take k).length = k := by rw [List.length_take]; omega
  show (w.setCell ⟨E.pb, 5, none⟩ (.slice a k c)).ownsRow E.X 132 3 (.slice a k c) (s.nm.ch.take k).length (chC (s.nm.ch.take k).reverse)
  rw [hl]
  exact own_other h.box (by decide) this
theorem wk_close {E : En} (hE : E.ok) (s : Ps) (w : World) (hp : PW E w s) (hne : close' s ≠ .out) : Calls Tryz.prog 88 #[.pointer (some ⟨E.pb, 3, none⟩)] w (EndR E unV w (close' s)) := by
 obtain ⟨k, hk1, hk2⟩ : ∃ k, s.nm.bl.getLast? = some k ∧ k ≤ s.nm.ch.length := by
  unfold close' at hne
  cases h : s.nm.bl.getLast? with
  | none => rw [h] at hne; exact absurd rfl hne
  | some k =>
   rw [h] at hne
   by_cases hc : k ≤ s.nm.ch.length
   ·exact ⟨k, rfl, hc⟩
   ·exact absurd (if_neg hc) hne
 have hr : close' s = .ok () { s with nm := ⟨s.nm.ch.take k, s.nm.bl.dropLast⟩ } := by
  unfold close'
  rw [hk1]
  simp only [hk2, if_true]
  unfold Ns.closed
  rw [hk1]
  rfl
 rw [hr]
 clear hne hr
 obtain ⟨vd, vc, vb, mb, hx⟩ := hp
 have hcl : s.nm.ch.length ≤ 1000000 := by have := hx.cb; have := hE.len; omega
 have hbl : s.nm.bl.length ≤ 1000000 := by have := hx.bb; have := hE.len; omega
 have hm0 : 0 < s.nm.bl.length := by
  cases h : s.nm.bl with
  | nil => rw [h] at hk1; cases hk1
  | cons a l => simp
 obtain ⟨gb, cb, rfl, hgX, hglt, hcb⟩ := row_block hx.bl hm0
 obtain ⟨ca, cc, rfl⟩ := row_shape hx.ch
 obtain ⟨m, hm⟩ : ∃ m, s.nm.bl.length = m := ⟨_, rfl⟩
 obtain ⟨n, hn⟩ : ∃ n, s.nm.ch.length = n := ⟨_, rfl⟩
 have hbx := hx.box
 have hblr := hx.bl
 rw [hm] at hbx hm0 hblr hbl hcb
 rw [hn] at hbx hk2 hcl
 have hkc : w.cell? ⟨gb, m - 1, none⟩ = some (.int .i64 k) := by
  rw [hblr.cellAt _ (by omega)]
  have hl := List.getLast?_eq_some_iff.1 hk1
  obtain ⟨ys, hys⟩ := hl
  have hyl : ys.length = m - 1 := by rw [← hm, hys]; simp
  rw [hys]
  rw [show (ys ++ [k]).flatMap inC = ys.flatMap inC ++ [.int .i64 k] by simp [inC]]
  have hfl : ∀ l : List Nat, (l.flatMap inC).length = l.length := fun l => by induction l with | nil => rfl | cons a l ih => simp [inC, ih]
  rw [List.getElem?_append_right (by rw [hfl]; omega), hfl, hyl, Nat.sub_self]
  rfl
 have c6 : w.cell? ⟨E.pb, 6, none⟩ = some (.slice (some ⟨gb, 0, none⟩) m cb) := by simp [World.cell?, hbx]
 have n1 : ((m : Int) - 1).toNat = m - 1 := by omega
 have n2 : (0 : Int) ≤ (m : Int) - 1 := by omega
 have n3 : ((m : Int) - 1) < (m : Int) := by omega
 have n4 : ((m : Int) - 1) ≤ (cb : Int) := by omega
 have HX := Hh hx
 have HBX := Hh hbx
 have HM := Hh hm
 have HNN := Hh hn
 have HK2 := Hh hk2
 have HK1 := Hh hk1
 clear hx hbx hblr hm hn hk1 hk2
 go_enter Tryz.func88, Tryz.ntmps88
 go_wp2_with fail
 go_quiet (fail)
 go_wp2_with fail
 obtain ⟨W1, hW1⟩ : ∃ W1, W1 = w.drewN nq := ⟨_, rfl⟩
 have hb1 : Below w.heap.size w W1 := by rw [hW1]; exact below_drewN _ _ _
 rw [← hW1]
 clear hW1
 have e6 : W1.cell? ⟨E.pb, 6, none⟩ = some (.slice (some ⟨gb, 0, none⟩) m cb) := by have q := heap_below hb1 HBX.out (Array.getElem?_eq_some_iff.1 HBX.out).1; simp [World.cell?, q]
 have f6 : W1.frozen? ⟨E.pb, 6, none⟩ = false := Lib.frozen_of_heap (heap_below hb1 HBX.out (Array.getElem?_eq_some_iff.1 HBX.out).1) 6
 refine wp_region_tail (C := fun w' => ∃ n, w' = W1.drewN n) 14 (by kernel_rfl) (by kernel_rfl) ⟨1, rfl⟩ ?_
 simp only [List.take_succ_cons, List.take_zero, List.drop_succ_cons, List.drop_zero]
 repeat (go_big_quiet_step (fail))
 refine wpQuiet_nil ?_
 rintro w' ⟨nr, rfl⟩
 obtain ⟨W2, hW2⟩ : ∃ W2, W2 = W1.drewN nr := ⟨_, rfl⟩
 have hb2 : Below w.heap.size w W2 := by rw [hW2]; exact hb1.trans ((below_drewN _ _ _))
 rw [← hW2]
 clear hW2
 have hx2 := HX.out.ext hE hb2
 rw [HM.out, HNN.out] at hx2
 have e62 : W2.cell? ⟨E.pb, 6, none⟩ = some (.slice (some ⟨gb, 0, none⟩) m cb) := hx2.cell.2.2.2.2.2.2
 have f62 : W2.frozen? ⟨E.pb, 6, none⟩ = false := Lib.frozen_of_heap hx2.box 6
 have e52 : W2.cell? ⟨E.pb, 5, none⟩ = some (.slice ca n cc) := hx2.cell.2.2.2.2.2.1
 obtain ⟨hcl2, hkp2⟩ := ClP.popped hx2 hE HM.out
 have HCL := Hh hcl2
 have HKP := Hh ((KP.of_below hb2).trans hkp2)
 clear hcl2 hkp2 hx2 hb1 hb2 e6 f6
 go_wp2_with fail
 go_loopg [3] n (fun g s3 wr => ∃ j : Nat, k ≤ j ∧ j ≤ n ∧ j ≤ k + g ∧ s3 = .int .i64 ((j : Int) - 1) ∧ ClP E wr s vd (.slice ca n cc) (.slice (some ⟨gb, 0, none⟩) (m - 1) cb) mb (s.nm.ch.take j) s.nm.bl.dropLast ∧ KP w wr)
 case atStart => exact ⟨n, HK2.out, Nat.le_refl _, by omega, by go_num, by rw [List.take_of_length_le (by rw [HNN.out]; exact Nat.le_refl _)]; exact HCL.out, HKP.out⟩
 case round =>
  obtain ⟨j, hj1, hj2, hj3, rfl, hcl3, hkp3⟩ := hrel
  have HC3 := Hh hcl3
  have HK3 := Hh hkp3
  have hbox := hcl3.box
  have c5 : wr.cell? ⟨E.pb, 5, none⟩ = some (.slice ca n cc) := by simp [World.cell?, hbox]
  have c4 : wr.cell? ⟨E.pb, 4, none⟩ = some (.map (some mb)) := by simp [World.cell?, hbox]
  by_cases hlt : k < j
  ·obtain ⟨i, rfl⟩ : ∃ i, j = i + 1 := ⟨j - 1, by omega⟩
   have hki : k ≤ i := by omega
   have hjn : i < s.nm.ch.length := by rw [HNN.out]; omega
   obtain ⟨q, hq⟩ : ∃ q, s.nm.ch[i]'hjn = q := ⟨_, rfl⟩
   have hrow := hcl3.ch
   rw [HNN.out] at hrow
   obtain ⟨gc, cc', hsl, hgc, hgl, hnc⟩ := row_block hrow (by omega)
   cases hsl
   have hat := chC_at s.nm.ch i hjn
   rw [hq] at hat
   have hin : i < n := by omega
   have a0 : wr.cell? ⟨gc, i * 3, none⟩ = some (.string (str q.1)) := by rw [hrow.cellAt _ (by omega)]; exact hat 0 _ rfl
   have a1 : wr.cell? ⟨gc, i * 3 + 1, none⟩ = some (.int .i64 (nwI (nowL (s.nm.ch.take i) q.1))) := by rw [hrow.cellAt _ (by omega)]; exact hat 1 _ rfl
   have a2 : wr.cell? ⟨gc, i * 3 + 2, none⟩ = some (.int .i64 (nwI (some q.2))) := by rw [hrow.cellAt _ (by omega)]; exact hat 2 _ rfl
   have hqm : q ∈ s.nm.ch := by rw [← hq]; exact List.getElem_mem hjn
   have hqx := hcl3.tx q hqm
   have htk : s.nm.ch.take (i + 1) = s.nm.ch.take i ++ [q] := by rw [List.take_add_one, List.getElem?_eq_getElem hjn, hq]; rfl
   obtain ⟨b2, hb2⟩ : ∃ b2, nwI (some q.2) = b2 := ⟨_, rfl⟩
   obtain ⟨st, hst⟩ : ∃ st : ByteArray, str q.1 = st := ⟨_, rfl⟩
   rw [hb2] at a2
   rw [hst] at a0
   have i1 : (k : Int) ≤ i := by omega
   have i2 : (i : Int) < n := by omega
   have i3 : (i : Int) < 1000000 ∨ True := .inr trivial
   have i4 : n ≤ 1000000 := hcl
   have HST := Hh hst
   have HQX := Hh hqx
   have HTK := Hh htk
   have HX0 := HC3.out.mx
   have hmne : ∀ y, nowL (s.nm.ch.take (i + 1)) y = if q.1 = y then some q.2 else nowL (s.nm.ch.take i) y := fun y => by rw [htk, nowL_snoc]
   have HMN := Hh hmne
   have h7 : i + 1 - 1 = i := rfl
   cases hN : nowL (s.nm.ch.take i) q.1 with
   | none =>
    rw [hN] at a1
    simp only [nwI] at a1
    have hcc : ∀ y, nowL (s.nm.ch.take i) y = if q.1 = y then none else nowL (s.nm.ch.take (i + 1)) y := fun y => by
     rw [hmne y]
     by_cases e : q.1 = y
     ·rw [if_pos e, ← e, hN]
     ·rw [if_neg e, if_neg e]
    have HCC := Hh hcc
    clear hcl3 hkp3 hbox hrow hat hq hqm hqx htk hst hmne hcc hN hb2 hlt hj1 i3 hgc
    go_wp2_with fail
    obtain ⟨W4, hW4⟩ : ∃ W4, W4 = wr.alloc (.cells #[.string st, .int .i64 0, .int .i64 b2] 132) := ⟨_, rfl⟩
    have hb4 : Below wr.heap.size wr W4 := by rw [hW4]; exact below_alloc _ _
    have hr4 : W4.heap[wr.heap.size]? = some (.cells #[.string st, .int .i64 0, .int .i64 b2] 132 (0, 0)) := by rw [hW4]; exact new_cells _ _ _
    rw [← hW4]
    clear hW4
    have HC4 := Hh (HC3.out.ext hE hb4)
    have HK4 := Hh (HK3.out.trans (KP.of_below hb4))
    obtain ⟨mm, hmm⟩ : ∃ mm, wr.heap.size = mm := ⟨_, rfl⟩
    rw [hmm] at hr4 ⊢
    have g4 : W4.cell? ⟨E.pb, 4, none⟩ = some (.map (some mb)) := by have q := HC4.out.box; simp [World.cell?, q]
    have gm : W4.cell? ⟨mm, 0, none⟩ = some (.string st) := by simp [World.cell?, hr4]
    have gm1 : W4.cell? ⟨mm, 1, none⟩ = some (.int .i64 0) := by simp [World.cell?, hr4]
    clear hb4 hr4 hmm c4 c5 a0 a1 a2
    refine wp_region_tail (C := fun w' => ∃ n, w' = W4.drewN n) 6 (by kernel_rfl) (by kernel_rfl) ⟨1, rfl⟩ ?_
    simp only [List.take_succ_cons, List.take_zero, List.drop_succ_cons, List.drop_zero]
    repeat (go_big_quiet_step (fail))
    refine wpQuiet_nil ?_
    rintro w' ⟨nt, rfl⟩
    have hc5 := HC4.out.ext hE (below_drewN _ _ nt)
    obtain ⟨w6, hrun, hm6, hg6⟩ := hc5.mp.drop (ch' := s.nm.ch.take i) q.1 HQX.out 0 HCC.out
    rw [HST.out] at hrun
    have HRUN := Hh hrun
    obtain ⟨hcl6, hk6⟩ := hc5.turned hE hg6 hm6
    have HC6 := Hh hcl6
    have HK6 := Hh ((HK4.out.trans (KP.of_below (below_drewN _ _ nt))).trans hk6)
    clear hc5 hm6 hg6 hcl6 hk6 HRUN
    go_wp2_with fail
    go_roundg (gk - 1)
    case measure => omega
    case rel => exact ⟨i, hki, by omega, by omega, by go_num, HC6.out, HK6.out⟩
   | some c =>
    rw [hN] at a1
    obtain ⟨Z, hZ⟩ : ∃ Z, nwI (some c) = Z := ⟨_, rfl⟩
    have hZ0 : (Z == 0) = false := by rw [← hZ]; cases c <;> rfl
    have HZ := Hh hZ
    rw [hZ] at a1
    have hcc : ∀ y, nowL (s.nm.ch.take i) y = if q.1 = y then some c else nowL (s.nm.ch.take (i + 1)) y := fun y => by
     rw [hmne y]
     by_cases e : q.1 = y
     ·rw [if_pos e, ← e, hN]
     ·rw [if_neg e, if_neg e]
    have HCC := Hh hcc
    clear hcl3 hkp3 hbox hrow hat hq hqm hqx htk hst hmne hcc hN hb2 hlt hj1 i3 hgc hZ
    go_wp2_with fail
    obtain ⟨W4, hW4⟩ : ∃ W4, W4 = wr.alloc (.cells #[.string st, .int .i64 Z, .int .i64 b2] 132) := ⟨_, rfl⟩
    have hb4 : Below wr.heap.size wr W4 := by rw [hW4]; exact below_alloc _ _
    have hr4 : W4.heap[wr.heap.size]? = some (.cells #[.string st, .int .i64 Z, .int .i64 b2] 132 (0, 0)) := by rw [hW4]; exact new_cells _ _ _
    rw [← hW4]
    clear hW4
    have HC4 := Hh (HC3.out.ext hE hb4)
    have HK4 := Hh (HK3.out.trans (KP.of_below hb4))
    obtain ⟨mm, hmm⟩ : ∃ mm, wr.heap.size = mm := ⟨_, rfl⟩
    rw [hmm] at hr4 ⊢
    have g4 : W4.cell? ⟨E.pb, 4, none⟩ = some (.map (some mb)) := by have q := HC4.out.box; simp [World.cell?, q]
    have gm : W4.cell? ⟨mm, 0, none⟩ = some (.string st) := by simp [World.cell?, hr4]
    have gm1 : W4.cell? ⟨mm, 1, none⟩ = some (.int .i64 Z) := by simp [World.cell?, hr4]
    clear hb4 hr4 hmm c4 c5 a0 a1 a2
    refine wp_region_tail (C := fun w' => ∃ n, w' = W4.drewN n) 8 (by kernel_rfl) (by kernel_rfl) ⟨1, rfl⟩ ?_
    simp only [List.take_succ_cons, List.take_zero, List.drop_succ_cons, List.drop_zero]
    repeat (go_big_quiet_step (fail))
    refine wpQuiet_nil ?_
    rintro w' ⟨nt, rfl⟩
    have hc5 := HC4.out.ext hE (below_drewN _ _ nt)
    obtain ⟨w6, hrun, hm6, hg6⟩ := hc5.mp.store (ch' := s.nm.ch.take i) q.1 c HQX.out (by rw [List.length_take]; omega) HCC.out
    rw [HZ.out] at hrun
    rw [HST.out] at hrun
    have HRUN := Hh hrun
    obtain ⟨hcl6, hk6⟩ := hc5.turned hE hg6 hm6
    have HC6 := Hh hcl6
    have HK6 := Hh ((HK4.out.trans (KP.of_below (below_drewN _ _ nt))).trans hk6)
    clear hc5 hm6 hg6 hcl6 hk6 HRUN
    go_wp2_with fail
    go_roundg (gk - 1)
    case measure => omega
    case rel => exact ⟨i, hki, by omega, by omega, by go_num, HC6.out, HK6.out⟩
  ·have hjk : j = k := by omega
   subst hjk
   have h1 : ¬ (j : Int) ≤ (j : Int) - 1 := by omega
   have f5 : wr.frozen? ⟨E.pb, 5, none⟩ = false := Lib.frozen_of_heap hbox 5
   have hrow := hcl3.ch
   rw [HNN.out] at hrow
   have hcap : n ≤ cc := by
    rcases hrow.2 with ⟨e, e0⟩ | ⟨g, cap, cur, e, _, _, q, _⟩
    ·omega
    ·cases e; exact q
   have i1 : (j : Int) ≤ cc := by omega
   have i2 : (0 : Int) ≤ j := by omega
   clear hcl3 hkp3 hbox hrow hj1 hj3 hlt
   go_wp2_with fail
   obtain ⟨q1, q2⟩ := HC3.out.done hE HNN.out hj2
   exact ⟨rfl, .tuple #[], by simp [results, Tryz.results88, go_sem], rfl, ⟨_, _, _, _, q1⟩, HK3.out.trans q2⟩
end Go.Proofs.YtlboejdhmggjpaaGreat.Pp

/- WkY -/
namespace Go.Proofs.YtlboejdhmggjpaaGreat.Pp
set_option maxRecDepth 100000
set_option maxHeartbeats 16000000
open Go.RowKit Go.BigFrame Go.Proofs.YtlboejdhmggjpaaGreat

theorem w_part {E : En} (hE : E.ok) {n : Nat} (ih : ∀ m, m ≤ n → Wk E m)  (s : Ps) (w : World) (hp : PW E w s) (hne : run E.L E.base (n + 1) (.part) s ≠ .out) : Calls Tryz.prog 197 #[.pointer (some ⟨E.pb, 0, none⟩)] w (EndQ E vaU w (run E.L E.base (n + 1) (.part) s)) := by
 obtain ⟨r, hr⟩ : ∃ r, run E.L E.base (n + 1) (.part) s = r := ⟨_, rfl⟩
 rw [hr] at hne ⊢
 rw [run] at hr
 have HN := Hh hne
 have HR0 := Hh hr
 have HP0 := Hh hp
 have HK0 := Hh (KP.refl w)
 have IH := Hh ih
 clear hne hr hp ih
 go_enter Tryz.func197, Tryz.ntmps197
 go_wp2_with fail
 refine mR (wk_open hE _ _ HP0.out (qne HR0.out HN.out)) HR0 HN HK0 (fun _ _ h => ⟨rfl, h⟩) ?_
 rintro v1 s1 w1 HR1 HP1 - HK1
 go_wp2_with fail
 refine mQ ((IH.out n (Nat.le_refl _)).f_statement  _ _ HP1.out (qne HR1.out HN.out)) HR1 HN HK1 (fun _ _ h => ⟨rfl, h⟩) ?_
 rintro v2 s2 y2 w2 HR2 rfl HP2 - HK2
 go_wp2_with fail
 refine mR (wk_close hE _ _ HP2.out (qne HR2.out HN.out)) HR2 HN HK2 (fun _ _ h => ⟨rfl, h⟩) ?_
 rintro v3 s3 w3 HR3 HP3 - HK3
 go_wp2_with fail
 exact ⟨rfl, .tuple #[], by simp [results, Tryz.results197, go_sem], q_ok (q_pure HR3.out) rfl HP3.out HK3.out⟩
theorem w_enumerator {E : En} (hE : E.ok) {n : Nat} (ih : ∀ m, m ≤ n → Wk E m)  (s : Ps) (w : World) (hp : PW E w s) (hne : run E.L E.base (n + 1) (.enumerator) s ≠ .out) : Calls Tryz.prog 122 #[.pointer (some ⟨E.pb, 0, none⟩)] w (EndQ E vaU w (run E.L E.base (n + 1) (.enumerator) s)) := by
 obtain ⟨r, hr⟩ : ∃ r, run E.L E.base (n + 1) (.enumerator) s = r := ⟨_, rfl⟩
 rw [hr] at hne ⊢
 rw [run] at hr
 have HN := Hh hne
 have HR0 := Hh hr
 have HP0 := Hh hp
 have HK0 := Hh (KP.refl w)
 have IH := Hh ih
 clear hne hr hp ih
 go_enter Tryz.func122, Tryz.ntmps122
 go_wp2_with fail
 refine mR (wk_here hE _ _ HP0.out) HR0 HN HK0 (fun _ _ h => ⟨rfl, h⟩) ?_
 rintro v1 s1 w1 HR1 HP1 - HK1
 have HBn := Hh (HdB.new w1 v1)
 have HPn := Hh (HP1.out.ext hE (below_alloc w1 (.cells #[.int .i64 v1.1, .int .i64 v1.2] 77)))
 have HKn := Hh (HK1.out.trans (KP.of_below (below_alloc w1 (.cells #[.int .i64 v1.1, .int .i64 v1.2] 77))))
 have HPo1 := Hh HP1.out
 have HKo1 := Hh HK1.out
 clear HP1 HK1
 have HP1 := Hh HPn.out
 have HK1 := Hh HKn.out
 clear HPn HKn
 simp only [hdV]
 obtain ⟨bh, hbh⟩ : ∃ b, w1.heap.size = b := ⟨_, rfl⟩
 have HBh1 := Hh (hbh ▸ HBn.out)
 clear HBn
 go_wp2_with fail
 try rw [hbh]
 refine (wk_name hE _ _ HP1.out).mono ?_
 intro e w2 he
 rcases qstepR (x := name' E.L) HR1.out HN.out HK1.out he with ⟨v2, s2, hr2, hxe2, rfl, hp2, hkk, hk2⟩ | ⟨hr2, ⟨z, rfl⟩, hb2, hk2⟩
 case' inr => exact ⟨rfl, q_no hr2 hb2 hk2⟩
 have HR2 := Hh hr2
 have HP2 := Hh hp2
 have HK2 := Hh hk2
 have HBh2 := Hh (HBh1.out.kp hkk)
 clear he hr2 hp2 hkk hk2
 have HLn2 := Hh (name_len hE hxe2)
 clear hxe2
 simp only [stV]
 go_wp2_with fail
 refine mR (wk_took hE [61] _ _ HP2.out) HR2 HN HK2 (fun _ _ h => ⟨rfl, h⟩) ?_
 rintro v3 s3 w3 HR3 HP3 hkk HK3
 have HBh3 := Hh (HBh2.out.kp hkk)
 clear hkk
 obtain ⟨bb3, hbb3⟩ : ∃ bb, v3 = bb := ⟨_, rfl⟩
 rw [hbb3] at HR3 ⊢
 clear hbb3
 cases bb3
 ·have HQ := Hh (q_iff HR3.out)
  clear HR3
  have HR3 := Hh HQ.out
  clear HQ
  obtain ⟨d0, d1⟩ := HBh3.out.cells
  go_wp2_with fail
  with_reducible replace HR3 := Hh (q_pb HR3.out)
  refine mR (wk_node hE 10 v1 _ _ HP3.out (qne HR3.out HN.out)) HR3 HN HK3 (fun _ _ h => ⟨rfl, h⟩) ?_
  rintro v4 s4 w4 HR4 HP4 hkk HK4
  have HBh4 := Hh (HBh3.out.kp hkk)
  clear hkk
  try clear d0 d1
  skip
  go_wp2_with fail
  refine mR (wk_declare hE v2 false _ _ HLn2.out HP4.out (qne HR4.out HN.out)) HR4 HN HK4 (fun _ _ h => ⟨rfl, h⟩) ?_
  rintro v5 s5 w5 HR5 HP5 hkk HK5
  have HBh5 := Hh (HBh4.out.kp hkk)
  clear hkk
  go_wp2_with fail
  exact ⟨rfl, .tuple #[], by simp [results, Tryz.results122, go_sem], q_ok (q_pure HR5.out) rfl HP5.out HK5.out⟩
 ·have HQ := Hh (q_ift HR3.out)
  clear HR3
  have HR3 := Hh HQ.out
  clear HQ
  go_wp2_with fail
  refine mQ ((IH.out n (Nat.le_refl _)).f_choice  _ _ HP3.out (qne HR3.out HN.out)) HR3 HN HK3 (fun _ _ h => ⟨rfl, h⟩) ?_
  rintro v6 s6 y6 w6 HR6 rfl HP6 hkk HK6
  have HBh6 := Hh (HBh3.out.kp hkk)
  clear hkk
  obtain ⟨d0, d1⟩ := HBh6.out.cells
  go_wp2_with fail
  refine mR (wk_node hE 10 v1 _ _ HP6.out (qne HR6.out HN.out)) HR6 HN HK6 (fun _ _ h => ⟨rfl, h⟩) ?_
  rintro v7 s7 w7 HR7 HP7 hkk HK7
  have HBh7 := Hh (HBh6.out.kp hkk)
  clear hkk
  try clear d0 d1
  skip
  go_wp2_with fail
  refine mR (wk_declare hE v2 false _ _ HLn2.out HP7.out (qne HR7.out HN.out)) HR7 HN HK7 (fun _ _ h => ⟨rfl, h⟩) ?_
  rintro v8 s8 w8 HR8 HP8 hkk HK8
  have HBh8 := Hh (HBh7.out.kp hkk)
  clear hkk
  go_wp2_with fail
  exact ⟨rfl, .tuple #[], by simp [results, Tryz.results122, go_sem], q_ok (q_pure HR8.out) rfl HP8.out HK8.out⟩
end Go.Proofs.YtlboejdhmggjpaaGreat.Pp

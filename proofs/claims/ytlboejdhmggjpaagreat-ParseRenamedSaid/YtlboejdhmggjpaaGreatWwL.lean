/- A list at a box, whose row is its own; what an append and a store leave. -/
import Derived.Test.YtlboejdhmggjpaaGreatWwK
import Derived.Maps.OwnIn
set_option linter.all false
namespace Go.Proofs.YtlboejdhmggjpaaGreat.Ww
open Go.Proofs.YtlboejdhmggjpaaGreat
open Go.RowKit Go.BigFrame Go.Shelf

theorem ownsRow_mod {w w' : World} {base e size : Nat} {v : Value} {n : Nat} {xs : List Value} {S : Nat → Prop} (h : w.ownsRow base e size v n xs) (hm : Mod S w w') (hs : ∀ k, v.ownBlock = some k → ¬ S k) : w'.ownsRow base e size v n xs := by
 refine ⟨h.1, ?_⟩
 rcases h.2 with hn | ⟨g, cap, cur, rfl, hb, hg, rest⟩
 ·exact .inl hn
 ·exact .inr ⟨g, cap, cur, rfl, hb, hm.keep hg (hs g rfl), rest⟩
theorem row_shape {w : World} {base e size : Nat} {v : Value} {n : Nat} {xs : List Value} (h : w.ownsRow base e size v n xs) : ∃ a cap, v = .slice a n cap := by
 rcases h.2 with ⟨rfl, rfl⟩ | ⟨g, cap, cur, rfl, _⟩
 ·exact ⟨none, 0, rfl⟩
 ·exact ⟨_, cap, rfl⟩
theorem row_cells {w : World} {base e size k : Nat} {v : Value} {n : Nat} {xs : List Value} (h : w.ownsRow base e size v n xs) (hk : v.ownBlock = some k) : base ≤ k ∧ ∃ cur, w.heap[k]? = some (.cells cur e (0, 0)) := by
 rcases h.2 with ⟨rfl, _⟩ | ⟨g, cap, cur, rfl, hb, hg, _⟩
 ·simp [Value.ownBlock] at hk
 ·simp only [Value.ownBlock, Option.some.injEq] at hk
  subst hk
  exact ⟨hb, cur, hg⟩
theorem not_nc {w : World} {k : Nat} {c : Array Value} {t : TypeId} {fz : Nat × Nat} (h : w.heap[k]? = some (.cells c t fz)) : ¬ nc w k := by
 rintro ⟨o, ho, hc⟩
 rw [h] at ho
 simp only [Option.some.injEq] at ho
 subst ho
 cases hc
theorem own_nc {w w' : World} {X e size n : Nat} {v : Value} {xs : List Value} {S : Nat → Prop} (h : w.ownsRow X e size v n xs) (hm : Mod (fun k => S k ∧ nc w k) w w') : w'.ownsRow X e size v n xs :=
 ownsRow_mod h hm (fun k hk hs => by obtain ⟨_, cur, hc⟩ := row_cells h hk; exact not_nc hc hs.2)
theorem own_base {w : World} {X Y e size n : Nat} {v : Value} {xs : List Value} (h : w.ownsRow X e size v n xs) (hY : Y ≤ X) : w.ownsRow Y e size v n xs := by
 refine ⟨h.1, ?_⟩
 rcases h.2 with hn | ⟨g, cap, cur, q1, q2, rest⟩
 ·exact .inl hn
 ·exact .inr ⟨g, cap, cur, q1, by omega, rest⟩
theorem own_put {w : World} {X e size n l : Nat} {v : Value} {xs : List Value} {o o' : Obj} (h : w.ownsRow X e size v n xs) (ho : w.heap[l]? = some o) (hc : o.isCells = false) : (w.putObj l o').ownsRow X e size v n xs :=
 ownsRow_mod (S := fun k => k = l) h ⟨rfl, rfl, rfl, by simp, fun k hk hn => World.putObj_heap_other (fun e => hn (by omega))⟩ (fun k hk e => by
  obtain ⟨_, cur, q⟩ := row_cells h hk
  subst e
  rw [ho] at q
  cases q
  cases hc)
section
variable {W W1 : World} {p X T e sz n m : Nat} {v v' : Value} {xs ys : List Value} {o : Obj}
theorem lb_mod (hown : W.ownsRow X e sz v n xs) (hgrow : (W.alloc o).grownBy W1 v.ownBlock) : Mod (fun k => v.ownBlock = some k) W W1 :=
 (Mod.of_below (below_alloc W o)).trans ((show Mod (fun k => v.ownBlock = some k) (W.alloc o) W1 from ⟨hgrow.os, hgrow.tape, hgrow.output, hgrow.size, fun k hk hn => hgrow.block k hk (fun e => hn e.symm)⟩))
theorem lb_ne (h1 : W.heap[p]? = some (.cells #[v] T (0, 0))) (hTe : T ≠ e) (hown : W.ownsRow X e sz v n xs) : ¬ v.ownBlock = some p := fun hk => by
 obtain ⟨_, cur, q⟩ := row_cells hown hk
 rw [h1] at q
 cases q
 exact hTe rfl
theorem lb_amid (h1 : W.heap[p]? = some (.cells #[v] T (0, 0))) (hTe : T ≠ e) (hown : W.ownsRow X e sz v n xs) (hgrow : (W.alloc o).grownBy W1 v.ownBlock) : W1.heap[p]? = some (.cells #[v] T (0, 0)) :=
 (lb_mod hown hgrow).keep h1 (lb_ne h1 hTe hown)
structure LbPush (W W2 : World) (p X T e sz k : Nat) (v v' : Value) (ys : List Value) : Prop where
 box : W2.heap[p]? = some (.cells #[v'] T (0, 0))
 row : W2.ownsRow X e sz v' k ys
 mod : Mod (fun k => k = p ∨ v.ownBlock = some k) W W2
 kf : ∀ B, KeepsFrom B W W2
 kt : ∀ Tk : TypeId → Bool, Tk T = false → Tk e = false → KT Tk W W2
 bel : ∀ B, B ≤ p → B ≤ X → Below B W W2
theorem lb_push (h1 : W.heap[p]? = some (.cells #[v] T (0, 0))) (hTe : T ≠ e) (hown : W.ownsRow X e sz v n xs) (hgrow : (W.alloc o).grownBy W1 v.ownBlock) (hown' : W1.ownsRow X e sz v' m ys) : LbPush W (W1.setCell ⟨p, 0, none⟩ v') p X T e sz m v v' ys := by
 have hm := lb_mod hown hgrow
 have hp1 := lb_amid h1 hTe hown hgrow
 have hset := heap_setCell_same W1 p 0 _ _ v' hp1
 have hms : Mod (fun k => k = p) W1 (W1.setCell ⟨p, 0, none⟩ v') := Mod.setCell (Mod.refl (fun k => k = p) W1) _ (.inr rfl) _
 have hmm : Mod (fun k => k = p ∨ v.ownBlock = some k) W (W1.setCell ⟨p, 0, none⟩ v') := (hm.mono (fun k _ hk => .inr hk)).trans (hms.mono (fun k _ hk => .inl hk))
 have hcl : ∀ k, (k = p ∨ v.ownBlock = some k) → ∃ c t, W.heap[k]? = some (.cells c t (0, 0)) ∧ (t = T ∨ t = e) := fun k hk => by
  rcases hk with rfl | hk
  ·exact ⟨_, _, h1, .inl rfl⟩
  ·obtain ⟨_, cur, q⟩ := row_cells hown hk
   exact ⟨_, _, q, .inr rfl⟩
 refine ⟨by simpa using hset, ?_, hmm, fun B => ⟨hmm.size, fun k o hk ho hc => hmm.keep ho (fun hk' => ?_)⟩, fun Tk hT he => ⟨hmm.size, fun k cs t fz ht hk => hmm.keep hk (fun hk' => ?_)⟩, fun B hB hX => hmm.below (Nat.le_trans hB (Nat.le_of_lt (Array.getElem?_eq_some_iff.1 h1).1)) (fun k hk => ?_)⟩
 ·refine ownsRow_mod hown' hms (fun k hk e' => ?_)
  subst e'
  obtain ⟨_, cur, q⟩ := row_cells hown' hk
  rw [hp1] at q
  cases q
  exact hTe rfl
 ·obtain ⟨c, t, q, _⟩ := hcl k hk'
  rw [ho] at q
  cases q
  cases hc
 ·obtain ⟨c, t', q, q2⟩ := hcl k hk'
  rw [hk] at q
  cases q
  rcases q2 with rfl | rfl
  ·rw [hT] at ht; cases ht
  ·rw [he] at ht; cases ht
 ·rcases hk with rfl | hk
  ·exact hB
  ·have := (row_cells hown hk).1; omega
end
theorem three_cells (w : World) (p q r : Value) (ty : TypeId) : ∀ j u, [p, q, r][j]? = some u → (w.alloc (.cells #[p, q, r] ty)).cell? ((⟨w.heap.size, 0, none⟩ : Addr).add j) = some u := by
 intro j u hj
 match j, hj with
 | 0, hj => simp at hj; subst hj; simp [Addr.add]
 | 1, hj => simp at hj; subst hj; simp [Addr.add]
 | 2, hj => simp at hj; subst hj; simp [Addr.add]
end Go.Proofs.YtlboejdhmggjpaaGreat.Ww

/- WwL -/
namespace Go.Proofs.YtlboejdhmggjpaaGreat.Ww
set_option maxRecDepth 100000
set_option maxHeartbeats 16000000
open Go.Proofs.YtlboejdhmggjpaaGreat
open Go.RowKit Go.BigFrame Go.Shelf
attribute [local go_sem] Oper.semAt_some

def chC (p : Pt) : List Value := [.int .u8 p.b.toNat, .int .i64 p.pos, .int .i64 p.len]
theorem info138 : (Tryz.prog.info? 138).map (fun i => (i.zero, i.size, i.bytes)) = some (some (.agg #[.int .u8 0, .int .i64 0, .int .i64 0]), 3, 24) := by kernel_rfl
def keepP (l : List Pt) : List Pt := l.filter fun p => !p.spl
theorem keepP_snoc (l : List Pt) (p : Pt) : keepP (l ++ [p]) = keepP l ++ (if p.spl then [] else [p]) := by
 unfold keepP; rw [List.filter_append]; cases h : p.spl <;> simp [h]
theorem prts_len (s : Bs) : ∀ (n i : Nat), s.length - i ≤ n → (prts s i).length ≤ s.length - i
 | 0, i, h => by rw [prts_ge (by omega)]; exact Nat.zero_le _
 | n + 1, i, h => by
  by_cases hi : i < s.length
  ·rw [prts_lt hi]
   have h1 := pt_pos s i
   have := prts_len s n (i + (ptAt s i).len) (by omega)
   simp; omega
  ·rw [prts_ge (by omega)]; exact Nat.zero_le _
def ChI (X p : Nat) (w : World) (pre : List Pt) (W : World) : Prop :=
 ∃ v, W.heap[p]? = some (.cells #[v] 133 (0, 0)) ∧ W.ownsRow X 138 3 v (keepP pre).length ((keepP pre).flatMap chC) ∧ Below X w W ∧ p < W.heap.size
def ChPost (s : ByteArray) (w : World) (e : Ending) (w' : World) : Prop :=
 Below w.heap.size w w' ∧ (if chk (dl s) = 0 then ∃ v, e = .returned (.tuple #[v, .int .i64 0]) ∧ w'.ownsRow w.heap.size 138 3 v (chars (dl s)).length ((chars (dl s)).flatMap chC) else e = .returned (.tuple #[.slice none 0 0, .int .i64 (chk (dl s))]))
theorem check_call (s : ByteArray) (w : World) (n : Nat) (hs : s.size ≤ 1000000000) (h : chk (dl s) = n) : Calls Tryz.prog 104 #[.string s] w fun e w' => e = .returned (.int .i64 n) ∧ Below w.heap.size w w' := h ▸ Ph.check s w hs
theorem Ph.charsF (s : ByteArray) (w : World) (hs : s.size ≤ 1000000000) : Calls Tryz.prog 67 #[.string s] w (ChPost s w) := by
 obtain ⟨c, hc⟩ : ∃ c, chk (dl s) = c := ⟨_, rfl⟩
 by_cases hc0 : c = 0
 ·subst hc0
  have hpost : ∀ e w', ChPost s w e w' ↔ Below w.heap.size w w' ∧ ∃ v, e = .returned (.tuple #[v, .int .i64 0]) ∧ w'.ownsRow w.heap.size 138 3 v (chars (dl s)).length ((chars (dl s)).flatMap chC) := fun e w' => by unfold ChPost; rw [if_pos hc]
  refine Calls.mono (R := fun e w' => Below w.heap.size w w' ∧ ∃ v, e = .returned (.tuple #[v, .int .i64 0]) ∧ w'.ownsRow w.heap.size 138 3 v (chars (dl s)).length ((chars (dl s)).flatMap chC)) ?_ (fun e w' h => (hpost e w').2 h)
  clear hpost
  have HC := Lib.hid hc
  obtain ⟨i0, hi, hz0, hz1, hz2⟩ := info_parts info138
  have HI := Lib.hid hi
  have HZ0 := Lib.hid hz0
  have HZ1 := Lib.hid hz1
  have HZ2 := Lib.hid hz2
  clear hc hi hz0 hz1 hz2
  have hpl := prts_len (dl s) (dl s).length 0 (by omega)
  rw [← size_dl] at hpl
  have HPL := Lib.hid hpl
  clear hpl
  refine (callsIn_wide (n := 5)).1 ?_
  refine callsIn_of_wp_marks Tryz.func67 rfl trivial ?_ rfl
  simp only [Tryz.ntmps67, List.size_toArray, List.length_cons, List.length_nil, Nat.reduceAdd, Nat.reduceSub, Array.replicate_succ, Array.replicate_zero, List.push_toArray, List.append_toArray, List.nil_append, List.cons_append]
  gi_wp2_with (fail)
  refine ⟨trivial, ?_⟩
  refine (callsIn_wide.2 (check_call s w 0 hs HC.out)).mono ?_
  rintro e w1 ⟨rfl, b1⟩
  gi_wp2_with (gi_at_make; refine wpListIn_make_own _ rfl _ _ 133 rfl w.heap.size 138 i0 (.agg #[.int .u8 0, .int .i64 0, .int .i64 0]) 3 Tryz.underlying133 HI.out HZ0.out HZ1.out .i64 .i64 s.size s.size rfl rfl rfl (by rw [HZ2.out]; omega) (by unfold maxLen; omega) b1.size ?_; intro W2 hown2 hgrow2)
  refine ⟨trivial, ?_⟩
  obtain ⟨W0, hW0⟩ : ∃ W0, W0 = (W2.alloc (.cells #[.slice (some ⟨w1.heap.size, 0, none⟩) 0 s.size] 133)).alloc (.cells #[.string s] 9) := ⟨_, rfl⟩
  have hs0 : W0.heap.size = W2.heap.size + 2 := by rw [hW0]; simp
  have hb2 : Below w.heap.size w W2 := b1.trans ((Below.refl _ w1).grown hgrow2 b1.size (fun k hk => by cases hk))
  have hb0 : Below w.heap.size w W0 := by rw [hW0]; exact (hb2.alloc hb2.size _).alloc (by have := hb2.size; simp; omega) _
  have e0 : W0.heap[W2.heap.size]? = some (.cells #[.slice (some ⟨w1.heap.size, 0, none⟩) 0 s.size] 133 (0, 0)) := by
   rw [hW0, Lib.alloc_old _ _ _ (by simp)]
   exact heap_alloc_new _ _
  have e1 : W0.heap[W2.heap.size + 1]? = some (.cells #[.string s] 9 (0, 0)) := by
   rw [hW0]
   have := heap_alloc_new (W2.alloc (.cells #[.slice (some ⟨w1.heap.size, 0, none⟩) 0 s.size] 133)) (.cells #[.string s] 9)
   simpa using this
  have hI0 : ChI w.heap.size W2.heap.size w [] W0 := ⟨_, e0, by rw [hW0]; exact (hown2.alloc _).alloc _, hb0, by omega⟩
  have hseq := Ph.seq 4 (W2.heap.size + 1) s W0 e1 hs
  have HSEQ := Lib.hid hseq
  have HS0 := Lib.hid hs0
  have HI0 := Lib.hid hI0
  have HW0 := Lib.hid hW0
  have HB2 := Lib.hid hb2.size
  clear hW0 hs0 hb0 hb2 e0 e1 hseq hI0 hown2 hgrow2 b1
  refine (callsIn_wide.2 (Ph.parts s _)).mono ?_
  rintro e w2 ⟨rfl, rfl⟩
  rw [← HW0.out]
  gi_wp2_with (fail)
  refine wpIn_rangeFunc_asg rfl (by omega) (gf := 138) (lb := #[.pointer (some ⟨W2.heap.size + 1, 0, none⟩)]) rfl trivial (enters_of Tryz.func138 (by kernel_rfl) rfl)
   HSEQ.out (fun k hk => hk.elim) (fun h k => h.trans k) (fun W l o o' hl hW ho _ => KT.putObj hW ho) (Below.refl _ _) (fun _ => rfl)
   (ChI w.heap.size W2.heap.size w) (fun _ _ _ => False)
   (fun t A B ⟨v, h1, h2, h3, h4⟩ hm => by
    have hs0 := HS0.out
    have hB2 := HB2.out
    have hm' : Mod (fun k => W0.heap.size ≤ k ∧ nc A k) A B := hm.mono (fun k _ hk => hk.elim (fun h => h.elim) id)
    exact ⟨v, hm'.keep h1 (fun hk => by have := hk.1; omega), own_nc h2 hm', h3.trans (hm'.below (by have := h3.size; omega) (fun k hk => by have := hk.1; omega)), Nat.lt_of_lt_of_le h4 hm.size⟩)
   (fun c t A B h _ => h)
   HI0.out
   (fun (p : Pt) a' W => ∃ b, W.heap[b]? = some (.cells #[.int .u8 p.b.toNat, .int .i64 p.pos, .int .i64 p.len, .bool p.spl] 175 (0, 0)) ∧
    a' = { tmps := #[.string s, undef, .slice none 0 0, .int .i64 0, .int .i64 0, .pointer (some ⟨W2.heap.size, 0, none⟩), .pointer (some ⟨b, 0, none⟩), .string s, .int .i64 0, .int .i64 0, .bool false, undef, .string s, .int .i64 s.size, .slice (some ⟨w1.heap.size, 0, none⟩) 0 s.size, .string s,
     .func (.func 138) #[] #[.pointer (some ⟨W2.heap.size + 1, 0, none⟩)], ptV p, undef, undef, undef, undef, undef, undef, undef, undef, undef], defers := [] })
   (fun h => KT.of_below h)
   (fun p a' W l o o' hl ho ⟨b, hb, ha⟩ => ⟨b, by
    rw [World.putObj_heap_other (fun e => by
     subst e
     rw [hl] at hb
     cases hb
     cases ho)]
    exact hb, ha⟩)
   ?assign ?body ?done ?stop
  case assign =>
   intro l z W K hK
   gi_wp2
   exact hK _ _ (below_alloc W _) ⟨W.heap.size, heap_alloc_new _ _, rfl⟩
  case body =>
   rintro l pre x a' W ⟨v, h1, h2, h3, h4⟩ ⟨r, hr⟩ ⟨b, hb, rfl⟩
   have hpl : (keepP pre).length < s.size := by
    have q := HPL.out
    have q2 := List.length_filter_le (fun p : Pt => !p.spl) pre
    rw [hr] at q
    simp at q
    unfold keepP
    omega
   have hsp := keepP_snoc pre x
   obtain ⟨xb, xp, xl, xs⟩ := x
   simp only at hb hsp
   have u0 : W.cell? ⟨b, 0, none⟩ = some (.int .u8 xb.toNat) := by simp [World.cell?, hb]
   have u1 : W.cell? ⟨b, 1, none⟩ = some (.int .i64 xp) := by simp [World.cell?, hb]
   have u2 : W.cell? ⟨b, 2, none⟩ = some (.int .i64 xl) := by simp [World.cell?, hb]
   have u3 : W.cell? ⟨b, 3, none⟩ = some (.bool xs) := by simp [World.cell?, hb]
   have c1 : W.cell? ⟨W2.heap.size, 0, none⟩ = some v := by simp [World.cell?, h1]
   obtain ⟨a0, cap0, rfl⟩ := row_shape h2
   have H1 := Lib.hid h1
   have H2 := Lib.hid h2
   have H3 := Lib.hid h3
   have HSP := Lib.hid hsp
   clear h1 h2 h3 hr hb hsp
   cases xs
   ·gi_wp2_with (gi_at_builtin; refine wpListIn_append_own _ rfl _ _ 133 rfl w.heap.size 138 i0 (.agg #[.int .u8 0, .int .i64 0, .int .i64 0]) 3 24 Tryz.underlying133 HI.out HZ0.out HZ1.out HZ2.out rfl (by decide) _ _ _ rfl (H2.out.alloc _) ⟨W.heap.size, 0, none⟩ 1 1 [.int .u8 xb.toNat, .int .i64 xp, .int .i64 xl] rfl rfl (three_cells _ _ _ _ 138) (fun u hu => by simp at hu; rcases hu with rfl | rfl | rfl <;> rfl) (by unfold maxLen; omega) (by omega) (by have := H3.out.size; simp; omega) ?_; intro v' W1 hown' hgrow _; have hd1 := lb_amid H1.out (by decide) H2.out hgrow; have HPU := Lib.hid (lb_push H1.out (by decide) H2.out hgrow hown'); obtain ⟨a', cap', hv'⟩ := row_shape hown'; subst hv'; have d1 : W1.cell? ⟨W2.heap.size, 0, none⟩ = some (.slice a0 (keepP pre).length cap0) := (by simp [World.cell?, hd1]); have g1 : W1.frozen? ⟨W2.heap.size, 0, none⟩ = false := Lib.frozen_of_heap hd1 0; clear hown' hgrow hd1)
    refine ⟨HPU.out.kf _, HPU.out.kt _ rfl rfl, _, HPU.out.box, ?_, H3.out.trans (HPU.out.bel _ HB2.out (Nat.le_refl _)), Nat.lt_of_lt_of_le h4 (HPU.out.kf 0).size⟩
    have := HPU.out.row
    rw [HSP.out, List.flatMap_append, List.length_append]
    simpa [chC] using this
   ·gi_wp2_with (fail)
    refine ⟨KeepsFrom.refl _ _, KT.refl _ _, _, H1.out, ?_, H3.out, h4⟩
    rw [HSP.out]
    simpa using H2.out
  case done =>
   rintro Dd zs W hD rfl ⟨v, h1, h2, h3, h4⟩ hK
   have c1 : W.cell? ⟨W2.heap.size, 0, none⟩ = some v := by simp [World.cell?, h1]
   obtain ⟨a, cap, rfl⟩ := row_shape h2
   have H2 := Lib.hid h2
   have H3 := Lib.hid h3
   have HK := Lib.hid hK
   clear h1 h2 h3 h4 hK
   gi_wp2_with (fail)
   refine ⟨by simp, .inl ⟨_, _, rfl, run_takeDeferred HK.out, ?_⟩⟩
   exact ⟨_, results_tmp2 rfl _ _ _, H3.out.trans (below_put (by have := HS0.out; have := HB2.out; omega) HK.out), _, rfl, own_put H2.out HK.out rfl⟩
  case stop =>
   rintro Dd c pre W hD _ h _
   exact h.elim
 ·have hpost : ∀ e w', ChPost s w e w' ↔ Below w.heap.size w w' ∧ e = .returned (.tuple #[.slice none 0 0, .int .i64 c]) := fun e w' => by unfold ChPost; rw [hc, if_neg hc0]
  refine Calls.mono (R := fun e w' => e = .returned (.tuple #[.slice none 0 0, .int .i64 c]) ∧ Below w.heap.size w w') ?_ (fun e w' h => (hpost e w').2 ⟨h.2, h.1⟩)
  have HC := Lib.hid hc
  have hc1 : ((c : Int) != 0) = true := by simpa using hc0
  clear hpost hc hc0
  go_enter Tryz.func67, Tryz.ntmps67
  go_wp2_with fail
  refine (check_call s w c hs HC.out).mono ?_
  rintro e w1 ⟨rfl, b1⟩
  have B1 := Lib.hid b1
  clear b1
  go_wp2_with fail
  go_ret2
  exact ⟨rfl, B1.out⟩
end Go.Proofs.YtlboejdhmggjpaaGreat.Ww

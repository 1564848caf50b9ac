/- A list at a box, whose row is its own; what an append and a store leave. -/
import Derived.Test.YtlboejdhmggjpaaGreatWwK
import Derived.Maps.OwnIn
import Derived.Test.YtlboejdhmggjpaaGreatMon
import Derived.Laws.MakeOwn
import Derived.Laws.OwnMore
import Derived.Laws.IdiomStrings
import Derived.Test.YtlboejdhmggjpaaGreatRfa
import Derived.Test.YtlboejdhmggjpaaGreatTal
set_option linter.all false
namespace Go.Proofs.YtlboejdhmggjpaaGreat.Ww
open Go.Proofs.YtlboejdhmggjpaaGreat
open Go.RowKit Go.BigFrame Go.Shelf

theorem ownsRow_mod {w w' : World} {base e size : Nat} {v : Value} {n : Nat} {xs : List Value} {S : Nat → Prop} (h : w.ownsRow base e size v n xs) (hm : Mod S w w') (hs : ∀ k, v.ownBlock = some k → ¬ S k) : w'.ownsRow base e size v n xs := by
 refine ⟨h.1, ?_⟩
 rcases h.2 with hn | ⟨g, cap, cur, rfl, hb, hg, rest⟩
 ·exact .inl hn
 ·exact .inr ⟨g, cap, cur, rfl, hb, hm.keep hg (hs g rfl), rest⟩
theorem row_shape {w : World} {base e size : Nat} {v : Value} {n : Nat} {xs : List Value} (h : w.ownsRow base e size v n xs) : ∃ a cap, v = .slice a n cap := by
 rcases h.2 with ⟨rfl, rfl⟩ | ⟨g, cap, cur, rfl, _⟩
 ·exact ⟨none, 0, rfl⟩
 ·exact ⟨_, cap, rfl⟩
theorem row_cells {w : World} {base e size k : Nat} {v : Value} {n : Nat} {xs : List Value} (h : w.ownsRow base e size v n xs) (hk : v.ownBlock = some k) : base ≤ k ∧ ∃ cur, w.heap[k]? = some (.cells cur e (0, 0)) := by
 rcases h.2 with ⟨rfl, _⟩ | ⟨g, cap, cur, rfl, hb, hg, _⟩
 ·simp [Value.ownBlock] at hk
 ·simp only [Value.ownBlock, Option.some.injEq] at hk
  subst hk
  exact ⟨hb, cur, hg⟩
theorem not_nc {w : World} {k : Nat} {c : Array Value} {t : TypeId} {fz : Nat × Nat} (h : w.heap[k]? = some (.cells c t fz)) : ¬ nc w k := by
 rintro ⟨o, ho, hc⟩
 rw [h] at ho
 simp only [Option.some.injEq] at ho
 subst ho
 cases hc
theorem own_nc {w w' : World} {X e size n : Nat} {v : Value} {xs : List Value} {S : Nat → Prop} (h : w.ownsRow X e size v n xs) (hm : Mod (fun k => S k ∧ nc w k) w w') : w'.ownsRow X e size v n xs :=
 ownsRow_mod h hm (fun k hk hs => by obtain ⟨_, cur, hc⟩ := row_cells h hk; exact not_nc hc hs.2)
theorem own_base {w : World} {X Y e size n : Nat} {v : Value} {xs : List Value} (h : w.ownsRow X e size v n xs) (hY : Y ≤ X) : w.ownsRow Y e size v n xs := by
 refine ⟨h.1, ?_⟩
 rcases h.2 with hn | ⟨g, cap, cur, q1, q2, rest⟩
 ·exact .inl hn
 ·exact .inr ⟨g, cap, cur, q1, by omega, rest⟩
theorem own_put {w : World} {X e size n l : Nat} {v : Value} {xs : List Value} {o o' : Obj} (h : w.ownsRow X e size v n xs) (ho : w.heap[l]? = some o) (hc : o.isCells = false) : (w.putObj l o').ownsRow X e size v n xs :=
 ownsRow_mod (S := fun k => k = l) h ⟨rfl, rfl, rfl, by simp, fun k hk hn => World.putObj_heap_other (fun e => hn (by omega))⟩ (fun k hk e => by
  obtain ⟨_, cur, q⟩ := row_cells h hk
  subst e
  rw [ho] at q
  cases q
  cases hc)
section
variable {W W1 : World} {p X T e sz n m : Nat} {v v' : Value} {xs ys : List Value} {o : Obj}
theorem lb_mod (hown : W.ownsRow X e sz v n xs) (hgrow : (W.alloc o).grownBy W1 v.ownBlock) : Mod (fun k => v.ownBlock = some k) W W1 :=
 (Mod.of_below (below_alloc W o)).trans ((show Mod (fun k => v.ownBlock = some k) (W.alloc o) W1 from ⟨hgrow.os, hgrow.tape, hgrow.output, hgrow.size, fun k hk hn => hgrow.block k hk (fun e => hn e.symm)⟩))
theorem lb_ne (h1 : W.heap[p]? = some (.cells #[v] T (0, 0))) (hTe : T ≠ e) (hown : W.ownsRow X e sz v n xs) : ¬ v.ownBlock = some p := fun hk => by
 obtain ⟨_, cur, q⟩ := row_cells hown hk
 rw [h1] at q
 cases q
 exact hTe rfl
theorem lb_amid (h1 : W.heap[p]? = some (.cells #[v] T (0, 0))) (hTe : T ≠ e) (hown : W.ownsRow X e sz v n xs) (hgrow : (W.alloc o).grownBy W1 v.ownBlock) : W1.heap[p]? = some (.cells #[v] T (0, 0)) :=
 (lb_mod hown hgrow).keep h1 (lb_ne h1 hTe hown)
structure LbPush (W W2 : World) (p X T e sz k : Nat) (v v' : Value) (ys : List Value) : Prop where
 box : W2.heap[p]? = some (.cells #[v'] T (0, 0))
 row : W2.ownsRow X e sz v' k ys
 mod : Mod (fun k => k = p ∨ v.ownBlock = some k) W W2
 kf : ∀ B, KeepsFrom B W W2
 kt : ∀ Tk : TypeId → Bool, Tk T = false → Tk e = false → KT Tk W W2
 bel : ∀ B, B ≤ p → B ≤ X → Below B W W2
theorem lb_push (h1 : W.heap[p]? = some (.cells #[v] T (0, 0))) (hTe : T ≠ e) (hown : W.ownsRow X e sz v n xs) (hgrow : (W.alloc o).grownBy W1 v.ownBlock) (hown' : W1.ownsRow X e sz v' m ys) : LbPush W (W1.setCell ⟨p, 0, none⟩ v') p X T e sz m v v' ys := by
 have hm := lb_mod hown hgrow
 have hp1 := lb_amid h1 hTe hown hgrow
 have hset := heap_setCell_same W1 p 0 _ _ v' hp1
 have hms : Mod (fun k => k = p) W1 (W1.setCell ⟨p, 0, none⟩ v') := Mod.setCell (Mod.refl (fun k => k = p) W1) _ (.inr rfl) _
 have hmm : Mod (fun k => k = p ∨ v.ownBlock = some k) W (W1.setCell ⟨p, 0, none⟩ v') := (hm.mono (fun k _ hk => .inr hk)).trans (hms.mono (fun k _ hk => .inl hk))
 have hcl : ∀ k, (k = p ∨ v.ownBlock = some k) → ∃ c t, W.heap[k]? = some (.cells c t (0, 0)) ∧ (t = T ∨ t = e) := fun k hk => by
  rcases hk with rfl | hk
  ·exact ⟨_, _, h1, .inl rfl⟩
  ·obtain ⟨_, cur, q⟩ := row_cells hown hk
   exact ⟨_, _, q, .inr rfl⟩
 refine ⟨by simpa using hset, ?_, hmm, fun B => ⟨hmm.size, fun k o hk ho hc => hmm.keep ho (fun hk' => ?_)⟩, fun Tk hT he => ⟨hmm.size, fun k cs t fz ht hk => hmm.keep hk (fun hk' => ?_)⟩, fun B hB hX => hmm.below (Nat.le_trans hB (Nat.le_of_lt (Array.getElem?_eq_some_iff.1 h1).1)) (fun k hk => ?_)⟩
 ·refine ownsRow_mod hown' hms (fun k hk e' => ?_)
  subst e'
  obtain ⟨_, cur, q⟩ := row_cells hown' hk
  rw [hp1] at q
  cases q
  exact hTe rfl
 ·obtain ⟨c, t, q, _⟩ := hcl k hk'
  rw [ho] at q
  cases q
  cases hc
 ·obtain ⟨c, t', q, q2⟩ := hcl k hk'
  rw [hk] at q
  cases q
  rcases q2 with rfl | rfl
  ·rw [hT] at ht; cases ht
  ·rw [he] at ht; cases ht
 ·rcases hk with rfl | hk
  ·exact hB
  ·have := (row_cells hown hk).1; omega
end
theorem three_cells (w : World) (p q r : Value) (ty : TypeId) : ∀ j u, [p, q, r][j]? = some u → (w.alloc (.cells #[p, q, r] ty)).cell? ((⟨w.heap.size, 0, none⟩ : Addr).add j) = some u := by
 intro j u hj
 match j, hj with
 | 0, hj => simp at hj; subst hj; simp [Addr.add]
 | 1, hj => simp at hj; subst hj; simp [Addr.add]
 | 2, hj => simp at hj; subst hj; simp [Addr.add]
end Go.Proofs.YtlboejdhmggjpaaGreat.Ww

/- WwL -/
namespace Go.Proofs.YtlboejdhmggjpaaGreat.Ww
set_option maxRecDepth 100000
set_option maxHeartbeats 16000000
open Go.Proofs.YtlboejdhmggjpaaGreat
open Go.RowKit Go.BigFrame Go.Shelf
attribute [local go_sem] Oper.semAt_some

def chC (p : Pt) : List Value := [.int .u8 p.b.toNat, .int .i64 p.pos, .int .i64 p.len]
theorem info138 : (Tryz.prog.info? 138).map (fun i => (i.zero, i.size, i.bytes)) = some (some (.agg #[.int .u8 0, .int .i64 0, .int .i64 0]), 3, 24) := by kernel_rfl
def keepP (l : List Pt) : List Pt := l.filter fun p => !p.spl
theorem keepP_snoc (l : List Pt) (p : Pt) : keepP (l ++ [p]) = keepP l ++ (if p.spl then [] else [p]) := by
 unfold keepP; rw [List.filter_append]; cases h : p.spl <;> simp [h]
theorem prts_len (s : Bs) : ∀ (n i : Nat), s.length - i ≤ n → (prts s i).length ≤ s.length - i
 | 0, i, h => by rw [prts_ge (by omega)]; exact Nat.zero_le _
 | n + 1, i, h => by
  by_cases hi : i < s.length
  ·rw [prts_lt hi]
   have h1 := pt_pos s i
   have := prts_len s n (i + (ptAt s i).len) (by omega)
   simp; omega
  ·rw [prts_ge (by omega)]; exact Nat.zero_le _
def ChI (X p : Nat) (w : World) (pre : List Pt) (W : World) : Prop :=
 ∃ v, W.heap[p]? = some (.cells #[v] 133 (0, 0)) ∧ W.ownsRow X 138 3 v (keepP pre).length ((keepP pre).flatMap chC) ∧ Below X w W ∧ p < W.heap.size
def ChPost (s : ByteArray) (w : World) (e : Ending) (w' : World) : Prop :=
 Below w.heap.size w w' ∧ (if chk (dl s) = 0 then ∃ v, e = .returned (.tuple #[v, .int .i64 0]) ∧ w'.ownsRow w.heap.size 138 3 v (chars (dl s)).length ((chars (dl s)).flatMap chC) else e = .returned (.tuple #[.slice none 0 0, .int .i64 (chk (dl s))]))
theorem check_call (s : ByteArray) (w : World) (n : Nat) (hs : s.size ≤ 1000000000) (h : chk (dl s) = n) : Calls Tryz.prog 104 #[.string s] w fun e w' => e = .returned (.int .i64 n) ∧ Below w.heap.size w w' := h ▸ Ph.check s w hs
theorem Ph.charsF (s : ByteArray) (w : World) (hs : s.size ≤ 1000000000) : Calls Tryz.prog 67 #[.string s] w (ChPost s w) := by
 obtain ⟨c, hc⟩ : ∃ c, chk (dl s) = c := ⟨_, rfl⟩
 by_cases hc0 : c = 0
 ·subst hc0
  have hpost : ∀ e w', ChPost s w e w' ↔ Below w.heap.size w w' ∧ ∃ v, e = .returned (.tuple #[v, .int .i64 0]) ∧ w'.ownsRow w.heap.size 138 3 v (chars (dl s)).length ((chars (dl s)).flatMap chC) := fun e w' => by unfold ChPost; rw [if_pos hc]
  refine Calls.mono (R := fun e w' => Below w.heap.size w w' ∧ ∃ v, e = .returned (.tuple #[v, .int .i64 0]) ∧ w'.ownsRow w.heap.size 138 3 v (chars (dl s)).length ((chars (dl s)).flatMap chC)) ?_ (fun e w' h => (hpost e w').2 h)
  clear hpost
  have HC := Lib.hid hc
  obtain ⟨i0, hi, hz0, hz1, hz2⟩ := info_parts info138
  have HI := Lib.hid hi
  have HZ0 := Lib.hid hz0
  have HZ1 := Lib.hid hz1
  have HZ2 := Lib.hid hz2
  clear hc hi hz0 hz1 hz2
  have hpl := prts_len (dl s) (dl s).length 0 (by omega)
  rw [← size_dl] at hpl
  have HPL := Lib.hid hpl
  clear hpl
  refine (callsIn_wide (n := 5)).1 ?_
  refine callsIn_of_wp_marks Tryz.func67 rfl trivial ?_ rfl
  simp only [Tryz.ntmps67, List.size_toArray, List.length_cons, List.length_nil, Nat.reduceAdd, Nat.reduceSub, Array.replicate_succ, Array.replicate_zero, List.push_toArray, List.append_toArray, List.nil_append, List.cons_append]
  gi_wp2_with (fail)
  refine ⟨trivial, ?_⟩
  refine (callsIn_wide.2 (check_call s w 0 hs HC.out)).mono ?_
  rintro e w1 ⟨rfl, b1⟩
  gi_wp2_with (gi_at_make; refine wpListIn_make_own _ rfl _ _ 133 rfl w.heap.size 138 i0 (.agg #[.int .u8 0, .int .i64 0, .int .i64 0]) 3 Tryz.underlying133 HI.out HZ0.out HZ1.out .i64 .i64 s.size s.size rfl rfl rfl (by rw [HZ2.out]; omega) (by unfold maxLen; omega) b1.size ?_; intro W2 hown2 hgrow2)
  refine ⟨trivial, ?_⟩
  obtain ⟨W0, hW0⟩ : ∃ W0, W0 = (W2.alloc (.cells #[.slice (some ⟨w1.heap.size, 0, none⟩) 0 s.size] 133)).alloc (.cells #[.string s] 9) := ⟨_, rfl⟩
  have hs0 : W0.heap.size = W2.heap.size + 2 := by rw [hW0]; simp
  have hb2 : Below w.heap.size w W2 := b1.trans ((Below.refl _ w1).grown hgrow2 b1.size (fun k hk => by cases hk))
  have hb0 : Below w.heap.size w W0 := by rw [hW0]; exact (hb2.alloc hb2.size _).alloc (by have := hb2.size; simp; omega) _
  have e0 : W0.heap[W2.heap.size]? = some (.cells #[.slice (some ⟨w1.heap.size, 0, none⟩) 0 s.size] 133 (0, 0)) := by
   rw [hW0, Lib.alloc_old _ _ _ (by simp)]
   exact heap_alloc_new _ _
  have e1 : W0.heap[W2.heap.size + 1]? = some (.cells #[.string s] 9 (0, 0)) := by
   rw [hW0]
   have := heap_alloc_new (W2.alloc (.cells #[.slice (some ⟨w1.heap.size, 0, none⟩) 0 s.size] 133)) (.cells #[.string s] 9)
   simpa using this
  have hI0 : ChI w.heap.size W2.heap.size w [] W0 := ⟨_, e0, by rw [hW0]; exact (hown2.alloc _).alloc _, hb0, by omega⟩
  have hseq := Ph.seq 4 (W2.heap.size + 1) s W0 e1 hs
  have HSEQ := Lib.hid hseq
  have HS0 := Lib.hid hs0
  have HI0 := Lib.hid hI0
  have HW0 := Lib.hid hW0
  have HB2 := Lib.hid hb2.size
  clear hW0 hs0 hb0 hb2 e0 e1 hseq hI0 hown2 hgrow2 b1
  refine (callsIn_wide.2 (Ph.parts s _)).mono ?_
  rintro e w2 ⟨rfl, rfl⟩
  rw [← HW0.out]
  gi_wp2_with (fail)
  refine wpIn_rangeFunc_asg rfl (by omega) (gf := 138) (lb := #[.pointer (some ⟨W2.heap.size + 1, 0, none⟩)]) rfl trivial (enters_of Tryz.func138 (by kernel_rfl) rfl)
   HSEQ.out (fun k hk => hk.elim) (fun h k => h.trans k) (fun W l o o' hl hW ho _ => KT.putObj hW ho) (Below.refl _ _) (fun _ => rfl)
   (ChI w.heap.size W2.heap.size w) (fun _ _ _ => False)
   (fun t A B ⟨v, h1, h2, h3, h4⟩ hm => by
    have hs0 := HS0.out
    have hB2 := HB2.out
    have hm' : Mod (fun k => W0.heap.size ≤ k ∧ nc A k) A B := hm.mono (fun k _ hk => hk.elim (fun h => h.elim) id)
    exact ⟨v, hm'.keep h1 (fun hk => by have := hk.1; omega), own_nc h2 hm', h3.trans (hm'.below (by have := h3.size; omega) (fun k hk => by have := hk.1; omega)), Nat.lt_of_lt_of_le h4 hm.size⟩)
   (fun c t A B h _ => h)
   HI0.out
   (fun (p : Pt) a' W => ∃ b, W.heap[b]? = some (.cells #[.int .u8 p.b.toNat, .int .i64 p.pos, .int .i64 p.len, .bool p.spl] 175 (0, 0)) ∧
    a' = { tmps := #[.string s, undef, .slice none 0 0, .int .i64 0, .int .i64 0, .pointer (some ⟨W2.heap.size, 0, none⟩), .pointer (some ⟨b, 0, none⟩), .string s, .int .i64 0, .int .i64 0, .bool false, undef, .string s, .int .i64 s.size, .slice (some ⟨w1.heap.size, 0, none⟩) 0 s.size, .string s,
     .func (.func 138) #[] #[.pointer (some ⟨W2.heap.size + 1, 0, none⟩)], ptV p, undef, undef, undef, undef, undef, undef, undef, undef, undef], defers := [] })
   (fun h => KT.of_below h)
   (fun p a' W l o o' hl ho ⟨b, hb, ha⟩ => ⟨b, by
    rw [World.putObj_heap_other (fun e => by
     subst e
     rw [hl] at hb
     cases hb
     cases ho)]
    exact hb, ha⟩)
   ?assign ?body ?done ?stop
  case assign =>
   intro l z W K hK
   gi_wp2
   exact hK _ _ (below_alloc W _) ⟨W.heap.size, heap_alloc_new _ _, rfl⟩
  case body =>
   rintro l pre x a' W ⟨v, h1, h2, h3, h4⟩ ⟨r, hr⟩ ⟨b, hb, rfl⟩
   have hpl : (keepP pre).length < s.size := by
    have q := HPL.out
    have q2 := List.length_filter_le (fun p : Pt => !p.spl) pre
    rw [hr] at q
    simp at q
    unfold keepP
    omega
   have hsp := keepP_snoc pre x
   obtain ⟨xb, xp, xl, xs⟩ := x
   simp only at hb hsp
   have u0 : W.cell? ⟨b, 0, none⟩ = some (.int .u8 xb.toNat) := by simp [World.cell?, hb]
   have u1 : W.cell? ⟨b, 1, none⟩ = some (.int .i64 xp) := by simp [World.cell?, hb]
   have u2 : W.cell? ⟨b, 2, none⟩ = some (.int .i64 xl) := by simp [World.cell?, hb]
   have u3 : W.cell? ⟨b, 3, none⟩ = some (.bool xs) := by simp [World.cell?, hb]
   have c1 : W.cell? ⟨W2.heap.size, 0, none⟩ = some v := by simp [World.cell?, h1]
   obtain ⟨a0, cap0, rfl⟩ := row_shape h2
   have H1 := Lib.hid h1
   have H2 := Lib.hid h2
   have H3 := Lib.hid h3
   have HSP := Lib.hid hsp
   clear h1 h2 h3 hr hb hsp
   cases xs
   ·gi_wp2_with (gi_at_builtin; refine wpListIn_append_own _ rfl _ _ 133 rfl w.heap.size 138 i0 (.agg #[.int .u8 0, .int .i64 0, .int .i64 0]) 3 24 Tryz.underlying133 HI.out HZ0.out HZ1.out HZ2.out rfl (by decide) _ _ _ rfl (H2.out.alloc _) ⟨W.heap.size, 0, none⟩ 1 1 [.int .u8 xb.toNat, .int .i64 xp, .int .i64 xl] rfl rfl (three_cells _ _ _ _ 138) (fun u hu => by simp at hu; rcases hu with rfl | rfl | rfl <;> rfl) (by unfold maxLen; omega) (by omega) (by have := H3.out.size; simp; omega) ?_; intro v' W1 hown' hgrow _; have hd1 := lb_amid H1.out (by decide) H2.out hgrow; have HPU := Lib.hid (lb_push H1.out (by decide) H2.out hgrow hown'); obtain ⟨a', cap', hv'⟩ := row_shape hown'; subst hv'; have d1 : W1.cell? ⟨W2.heap.size, 0, none⟩ = some (.slice a0 (keepP pre).length cap0) := (by simp [World.cell?, hd1]); have g1 : W1.frozen? ⟨W2.heap.size, 0, none⟩ = false := Lib.frozen_of_heap hd1 0; clear hown' hgrow hd1)
    refine ⟨HPU.out.kf _, HPU.out.kt _ rfl rfl, _, HPU.out.box, ?_, H3.out.trans (HPU.out.bel _ HB2.out (Nat.le_refl _)), Nat.lt_of_lt_of_le h4 (HPU.out.kf 0).size⟩
    have := HPU.out.row
    rw [HSP.out, List.flatMap_append, List.length_append]
    simpa [chC] using this
   ·gi_wp2_with (fail)
    refine ⟨KeepsFrom.refl _ _, KT.refl _ _, _, H1.out, ?_, H3.out, h4⟩
    rw [HSP.out]
    simpa using H2.out
  case done =>
   rintro Dd zs W hD rfl ⟨v, h1, h2, h3, h4⟩ hK
   have c1 : W.cell? ⟨W2.heap.size, 0, none⟩ = some v := by simp [World.cell?, h1]
   obtain ⟨a, cap, rfl⟩ := row_shape h2
   have H2 := Lib.hid h2
   have H3 := Lib.hid h3
   have HK := Lib.hid hK
   clear h1 h2 h3 h4 hK
   gi_wp2_with (fail)
   refine ⟨by simp, .inl ⟨_, _, rfl, run_takeDeferred HK.out, ?_⟩⟩
   exact ⟨_, results_tmp2 rfl _ _ _, H3.out.trans (below_put (by have := HS0.out; have := HB2.out; omega) HK.out), _, rfl, own_put H2.out HK.out rfl⟩
  case stop =>
   rintro Dd c pre W hD _ h _
   exact h.elim
 ·have hpost : ∀ e w', ChPost s w e w' ↔ Below w.heap.size w w' ∧ e = .returned (.tuple #[.slice none 0 0, .int .i64 c]) := fun e w' => by unfold ChPost; rw [hc, if_neg hc0]
  refine Calls.mono (R := fun e w' => e = .returned (.tuple #[.slice none 0 0, .int .i64 c]) ∧ Below w.heap.size w w') ?_ (fun e w' h => (hpost e w').2 ⟨h.2, h.1⟩)
  have HC := Lib.hid hc
  have hc1 : ((c : Int) != 0) = true := by simpa using hc0
  clear hpost hc hc0
  go_enter Tryz.func67, Tryz.ntmps67
  go_wp2_with fail
  refine (check_call s w c hs HC.out).mono ?_
  rintro e w1 ⟨rfl, b1⟩
  have B1 := Lib.hid b1
  clear b1
  go_wp2_with fail
  go_ret2
  exact ⟨rfl, B1.out⟩
end Go.Proofs.YtlboejdhmggjpaaGreat.Ww

/- WwM -/
namespace Go.Proofs.YtlboejdhmggjpaaGreat.Ww
set_option maxRecDepth 100000
set_option maxHeartbeats 16000000
open Go.Proofs.YtlboejdhmggjpaaGreat
open Go.RowKit Go.BigFrame Go.Shelf
attribute [local go_sem] Oper.semAt_some

structure It where
 k : Nat
 a : Nat
 b : Nat
 e : Nat
deriving DecidableEq
def its (t : Bs) (at' st : Nat) : List It :=
 match t with
 | [] => []
 | c :: r =>
  if isWhite c then its r (at' + 1) st
  else if (itm (c :: r) (st == 2)).2.2 ≠ 0 then [⟨0, 0, 0, (itm (c :: r) (st == 2)).2.2⟩]
  else
   let k := (itm (c :: r) (st == 2)).1
   let n := (itm (c :: r) (st == 2)).2.1
   ⟨k, at', at' + n, 0⟩ :: its (r.drop (n - 1)) (at' + n) (after st k ((c :: r).take n))
termination_by t.length
decreasing_by all_goals simp; try omega
theorem its_nil (at' st : Nat) : its [] at' st = [] := by rw [its]
theorem its_white {c : UInt8} {r : Bs} {at' st : Nat} (h : isWhite c = true) : its (c :: r) at' st = its r (at' + 1) st := by rw [its]; simp [h]
theorem its_err {c : UInt8} {r : Bs} {at' st : Nat} (h : isWhite c = false) (he : (itm (c :: r) (st == 2)).2.2 ≠ 0) : its (c :: r) at' st = [⟨0, 0, 0, (itm (c :: r) (st == 2)).2.2⟩] := by
 rw [its]; simp only [h, Bool.false_eq_true, if_false, if_pos he]
theorem its_tok {t : Bs} {c : UInt8} {r : Bs} {at' st : Nat} (ht : t = c :: r) (h : isWhite c = false) (he : (itm t (st == 2)).2.2 = 0) :
  its t at' st = ⟨(itm t (st == 2)).1, at', at' + (itm t (st == 2)).2.1, 0⟩ :: its (t.drop (itm t (st == 2)).2.1) (at' + (itm t (st == 2)).2.1) (after st (itm t (st == 2)).1 (t.take (itm t (st == 2)).2.1)) := by
 have hp := (itm_pos (hdr := st == 2) (show t ≠ [] by rw [ht]; simp) he).1
 subst ht
 rw [its]
 simp only [h, Bool.false_eq_true, if_false, he, ne_eq, not_true]
 congr 2
 obtain ⟨m, hm⟩ : ∃ m, (itm (c :: r) (st == 2)).2.1 = m + 1 := ⟨_, (Nat.succ_pred_eq_of_pos hp).symm⟩
 rw [hm]
 rfl
def itOf (k : Tk) : It := ⟨k.kind, k.lo, k.hi, 0⟩
theorem its_tks : ∀ (n : Nat) (t : Bs) (at' st : Nat) (sp : Bool), t.length ≤ n → its t at' st = (tks t at' st sp).1.map itOf ++ if (tks t at' st sp).2 = 0 then [] else [⟨0, 0, 0, (tks t at' st sp).2⟩]
 | n, [], at', st, sp, _ => by rw [its_nil, tks_nil]; rfl
 | 0, c :: r, at', st, sp, h => by simp at h
 | n + 1, c :: r, at', st, sp, h => by
  by_cases hw : isWhite c = true
  ·rw [its_white hw, tks_white hw]
   exact its_tks n r _ _ _ (by simp at h; omega)
  ·have hw : isWhite c = false := by simpa using hw
   by_cases he : (itm (c :: r) (st == 2)).2.2 = 0
   ·have hp := itm_pos (hdr := st == 2) (show c :: r ≠ [] by simp) he
    rw [its_tok rfl hw he, tks_tok rfl hw he]
    have ih := its_tks n ((c :: r).drop (itm (c :: r) (st == 2)).2.1) (at' + (itm (c :: r) (st == 2)).2.1) (after st (itm (c :: r) (st == 2)).1 ((c :: r).take (itm (c :: r) (st == 2)).2.1)) false (by rw [List.length_drop]; simp at h ⊢; omega)
    rw [ih]
    rfl
   ·rw [its_err hw he, tks_err hw he]
    simp [he]
def KM (T : TypeId → Bool) (a b : World) : Prop := KT T a b ∧ (Mx a → Mx b)
theorem KM.trans {T : TypeId → Bool} {a b c : World} (h : KM T a b) (k : KM T b c) : KM T a c := ⟨h.1.trans k.1, fun x => k.2 (h.2 x)⟩
theorem KM.of_below {T : TypeId → Bool} {w w' : World} (h : Below w.heap.size w w') : KM T w w' := ⟨KT.of_below h, fun x => x.of h x.pos⟩
theorem KM.refl (T : TypeId → Bool) (w : World) : KM T w w := ⟨KT.refl T w, id⟩
theorem KM.putObj {T : TypeId → Bool} {w : World} {l : Nat} {o o' : Obj} (ho : w.heap[l]? = some o) (hc : o.isCells = false) : KM T w (w.putObj l o') := ⟨KT.putObj ho hc, fun ⟨m, hm⟩ => by
 refine ⟨m, ?_⟩
 have h0 : l ≠ 0 := fun e => by
  subst e
  simp only [World.cell?, ho] at hm
  cases o <;> simp_all [Obj.isCells]
 simp only [World.cell?] at hm ⊢
 rw [World.putObj_heap_other (by omega)]
 exact hm⟩
theorem KM.of_push {W W2 : World} {p X T e sz k : Nat} {v v' : Value} {ys : List Value} {Tk : TypeId → Bool} (h : LbPush W W2 p X T e sz k v v' ys) (hT : Tk T = false) (he : Tk e = false) (hp : 1 ≤ p) (hX : 1 ≤ X) : KM Tk W W2 := ⟨h.kt Tk hT he, fun x => x.of (h.bel 1 hp hX) (by omega)⟩
theorem KM.set {T : TypeId → Bool} {w : World} {b t : Nat} {cs0 : Array Value} {fz : Nat × Nat} (hb : w.heap[b]? = some (.cells cs0 t fz)) (ht : T t = false) (h0 : 1 ≤ b) (i : Nat) (v : Value) : KM T w (w.setCell ⟨b, i, none⟩ v) :=
 ⟨(KT.refl T w).set hb ht i v, fun x => x.of (B := 1) ((Below.refl _ _).setCell (p := ⟨b, i, none⟩) h0 v) (by omega)⟩
theorem noGoto_normal {Q : Exit → Act → World → Prop} {a : Act} {w : World} (h : Q .normal a w) : Exit.noGoto Q .normal a w := h
theorem Sc.items (s : ByteArray) (w : World) : Calls Tryz.prog 68 #[.string s] w fun e w' => e = .returned (.func (.func 106) #[] #[.pointer (some ⟨w.heap.size, 0, none⟩)]) ∧ w' = w.alloc (.cells #[.string s] 9) := by
 go_enter Tryz.func68, Tryz.ntmps68
 go_wp2
 go_ret
 exact ⟨rfl, rfl⟩
def T966 (t : TypeId) : Bool := t == 9 || t == 143
theorem white_call (c : UInt8) (w : World) (b : Bool) (h : isWhite c = b) : Calls Tryz.prog 107 #[.int .u8 c.toNat] w fun e w' => e = .returned (.bool b) ∧ w' = w := h ▸ Sc.whiteF c w
theorem item_call (s : ByteArray) (i : Nat) (hdr : Bool) (w : World) (hi : i < s.size) (hs : s.size ≤ 1000000000) (hm : Mx w) (q : Nat × Nat × Nat) (h : itm ((dl s).drop i) hdr = q) : Calls Tryz.prog 108 #[.string s, .int .i64 i, .bool hdr] w fun e w' => e = .returned (.tuple (itmV i q)) ∧ Below w.heap.size w w' := h ▸ Sc.itemAt s i hdr w hi hs hm
theorem after_call (st k : Nat) (x : ByteArray) (w : World) (n : Nat) (h : after st k (dl x) = n) : Calls Tryz.prog 109 #[.int .i64 st, .int .i64 k, .string x] w fun e w' => e = .returned (.int .i64 n) ∧ w' = w := h ▸ Sc.afterF st k x w
theorem Sc.seq (n B : Nat) (s : ByteArray) (w : World) (h0 : w.heap[B]? = some (.cells #[.string s] 9 (0, 0))) (hs : s.size ≤ 1000000000) (hm : Mx w) :
  SeqG Fence.wide n Tryz.prog 106 #[.pointer (some ⟨B, 0, none⟩)] (fun x : It => #[itV x.k x.a x.b, .int .i64 x.e]) (KM T966) (fun pre x => ∃ r, its (dl s) 0 0 = pre ++ x :: r) (fun _ => False)
   (fun zs => zs = its (dl s) 0 0) (fun zs => ∃ r, its (dl s) 0 0 = zs ++ r) w := fun l J Jx W hW hJ hJx hY hj0 => by
 have g0 := heap_below hW h0 (Array.getElem?_eq_some_iff.1 h0).1
 have hmW := hm.of hW hm.pos
 have HMX := Lib.hid hmW
 have HJ := Lib.hid hJ
 have HY := Lib.hid hY
 have HJ0 := Lib.hid hj0
 have G0 := Lib.hid g0
 clear h0 hJ hJx g0 hY hj0 hm hmW
 refine callsIn_of_wp Tryz.func106 rfl trivial ?_ rfl
 simp only [Tryz.ntmps106, List.size_toArray, List.length_cons, List.length_nil, Nat.reduceAdd, Nat.reduceSub, Array.replicate_succ, Array.replicate_zero, List.push_toArray, List.append_toArray, List.nil_append, List.cons_append]
 gi_wp2_with (fail)
 refine wpIn_wide.2 (wp_scope_straight ((wpIn_wide (n := n)).1 ?_))
 gi_wp2_with (fail)
 refine wpIn_label ?_
 gi_wp2_with (fail)
 gi_loopw [3, 4] (fun s3 s4 wr => ∃ (pre : List It) (i st : Nat), its (dl s) 0 0 = pre ++ its ((dl s).drop i) i st ∧ i ≤ s.size ∧ s3 = .int .i64 st ∧ s4 = .int .i64 i ∧ wr.heap[B]? = some (.cells #[.string s] 9 (0, 0)) ∧ Mx wr ∧ J pre wr) (fun _ s4 _ => s.size - (intOf s4).toNat)
 case atStart => exact ⟨[], 0, 0, rfl, Nat.zero_le _, rfl, rfl, G0.out, HMX.out, HJ0.out⟩
 case round =>
  clear HJ0 G0 HMX
  obtain ⟨pre, i, st, hpre, hi, rfl, rfl, g0, hmx, hjp⟩ := hrel
  have c0 : wr.cell? ⟨B, 0, none⟩ = some (.string s) := by simp [World.cell?, g0]
  have G0 := Lib.hid g0
  have HJP := Lib.hid hjp
  have HMX := Lib.hid hmx
  clear g0 hjp hmx
  by_cases hlt : i < s.size
  ·have hlt' : (i : Int) < s.size := by omega
   rcases Bool.eq_false_or_eq_true (isWhite s[i]) with hw | hw
   ·rw [drop_at hlt, its_white hw] at hpre
    have HPRE := Lib.hid hpre
    have HW := Lib.hid hw
    clear hpre hw
    gi_wp2_with (fail)
    refine ⟨trivial, (fun hh => by cases hh), (callsIn_wide.2 (white_call _ _ true HW.out)).mono ?_⟩
    rintro e w2 ⟨rfl, rfl⟩
    gi_wp2_with (fail)
    go_roundw
    case rel => exact ⟨pre, i + 1, st, HPRE.out, by omega, rfl, by go_num, G0.out, HMX.out, HJP.out⟩
    case measure => simp [intOf]; omega
   ·obtain ⟨H, hH⟩ : ∃ H, (st == 2) = H := ⟨_, rfl⟩
    have hb : ((st : Int) == 2) = H := by rw [← hH, Bool.eq_iff_iff]; simp; omega
    obtain ⟨q, hq⟩ : ∃ q, itm ((dl s).drop i) H = q := ⟨_, rfl⟩
    have hne : (dl s).drop i ≠ [] := by rw [drop_at hlt]; simp
    have hx : ∃ (x : It) (r : List It), its ((dl s).drop i) i st = x :: r ∧ itmV i q = #[itV x.k x.a x.b, .int .i64 x.e] ∧ ((x.e ≠ 0 ∧ r = []) ∨ (x.e = 0 ∧ x.a = i ∧ i < x.b ∧ x.b ≤ s.size ∧ r = its ((dl s).drop x.b) x.b (after st x.k (((dl s).drop i).take (x.b - i))))) := by
     by_cases he : q.2.2 = 0
     ·have hp := itm_pos (hdr := H) hne (by rw [hq]; exact he)
      rw [hq, drop_len] at hp
      refine ⟨⟨q.1, i, i + q.2.1, 0⟩, _, its_tok (drop_at hlt) hw (by rw [hH, hq]; exact he) |>.trans (by rw [hH, hq]), by unfold itmV; rw [if_neg (by simpa using he)]; simp, .inr ⟨rfl, rfl, by simp only; omega, by simp only; omega, ?_⟩⟩
      simp only
      rw [List.drop_drop, show i + q.2.1 - i = q.2.1 by omega]
     ·refine ⟨⟨0, 0, 0, q.2.2⟩, [], ?_, by unfold itmV; rw [if_pos he], .inl ⟨he, rfl⟩⟩
      rw [drop_at hlt] at hq ⊢
      rw [its_err hw (by rw [hH, hq]; exact he), hH, hq]
    obtain ⟨⟨k, a, b, er⟩, r, hits, hiv, hcs⟩ := hx
    simp only at hiv hcs
    rw [hits] at hpre
    have HPRE := Lib.hid hpre
    have HW := Lib.hid hw
    have HQ := Lib.hid hq
    have HIV := Lib.hid hiv
    have HCS := Lib.hid hcs
    clear hpre hw hits hq hiv hcs hne hH
    gi_wp2_with (fail)
    refine ⟨trivial, (fun hh => by cases hh), (callsIn_wide.2 (white_call _ _ false HW.out)).mono ?_⟩
    rintro e w2 ⟨rfl, rfl⟩
    gi_wp2_with (fail)
    refine ⟨trivial, (fun hh => by cases hh), (callsIn_wide.2 (item_call s i H _ hlt hs HMX.out q HQ.out)).mono ?_⟩
    rintro e w3 ⟨rfl, b3⟩
    rw [HIV.out]
    have hjw := HJ.out pre w2 (w3.alloc (.cells #[.int .i64 k, .int .i64 a, .int .i64 b] 143)) HJP.out (Mod.of_below (b3.trans ((below_alloc w3 _).mono b3.size)))
    obtain ⟨fn1, tm1, as1, bo1, hyy1, hR1⟩ := HY.out pre ⟨k, a, b, er⟩ _ hjw ⟨_, HPRE.out⟩
    have B3 := Lib.hid b3
    clear b3 hjw
    gi_wp2_with (fail)
    refine ⟨(fun hh => by cases hh), hR1.mono ?_⟩
    rintro e W1 (⟨rfl, hJ1, hk1, hm1⟩ | ⟨rfl, hx1⟩)
    ·have g4 := hk1.2 w3.heap.size _ 143 (0, 0) rfl (heap_alloc_new _ _)
     have g0 := hk1.2 B _ 9 (0, 0) rfl (Lib.alloc_old w3 _ _ (by have := B3.out.size; have := (Array.getElem?_eq_some_iff.1 G0.out).1; omega) |>.trans (heap_below B3.out G0.out (Array.getElem?_eq_some_iff.1 G0.out).1))
     have hm2 : Mx W1 := hm1 ((HMX.out.of B3.out HMX.out.pos).of (below_alloc _ _) (by have := HMX.out.pos; have := B3.out.size; omega))
     have HJ1 := Lib.hid hJ1
     have GB := Lib.hid g0
     have HM2 := Lib.hid hm2
     have k0 : ∀ u : Ext W1, u.w.cell? ⟨w3.heap.size, 0, none⟩ = some (.int .i64 k) := fun u => u.cell (by simp [World.cell?, g4])
     have k1 : ∀ u : Ext W1, u.w.cell? ⟨w3.heap.size, 1, none⟩ = some (.int .i64 a) := fun u => u.cell (by simp [World.cell?, g4])
     have k2 : ∀ u : Ext W1, u.w.cell? ⟨w3.heap.size, 2, none⟩ = some (.int .i64 b) := fun u => u.cell (by simp [World.cell?, g4])
     have kb : ∀ u : Ext W1, u.w.cell? ⟨B, 0, none⟩ = some (.string s) := fun u => u.cell (by simp [World.cell?, g0])
     clear g4 g0 hk1 hm1 hm2 hJ1 hyy1 hR1
     rcases HCS.out with ⟨he, rfl⟩ | ⟨rfl, rfl, hab, hbs, rfl⟩
     ·have he' : ((er : Int) != 0) = true := by simpa using he
      clear he
      gi_wp2_with (fail)
      refine noGoto_normal ?_
      go_end0
      exact ⟨⟨_, rfl⟩, .inl ⟨_, HPRE.out.symm, HJ1.out⟩⟩
     ·have hab1 : (a : Int) ≤ b := by omega
      have hbs1 : (b : Int) ≤ s.size := by omega
      obtain ⟨A, hA⟩ : ∃ A, after st k (((dl s).drop a).take (b - a)) = A := ⟨_, rfl⟩
      have hA2 : after st k (dl (s.extract a b)) = A := by rw [ext_str, dl_str]; exact hA
      have HA := Lib.hid (fun u : World => after_call st k (s.extract a b) u A hA2)
      have HA1 := Lib.hid hA
      clear hA hA2
      gi_wp2_with (fail)
      refine (wpIn_wide (n := n)).2 ?_
      refine wp_region_quiet (C := fun w' => ∃ u : Ext W1, w' = u.w) (by kernel_rfl) (by kernel_rfl) (Ext.drew W1) ?_
      try dsimp only []
      repeat (go_big_quiet_step ((go_at_call 109; rename_i u; refine (HA.out u.w).mono ?_; rintro e w4 ⟨rfl, rfl⟩; exact ⟨rfl, u, rfl⟩)))
      refine wpQuiet_nil ?_
      rintro w' ⟨v1, rfl⟩
      have k2' := k2 v1
      gi_wp2_with (fail)
      go_roundw
      case rel =>
       refine ⟨pre ++ [⟨k, a, b, 0⟩], b, A, ?_, by omega, by go_num, by go_num, heap_below v1.below GB.out (Array.getElem?_eq_some_iff.1 GB.out).1, HM2.out.of v1.below HM2.out.pos, HJ.out _ _ _ HJ1.out (Mod.of_below v1.below)⟩
       rw [HPRE.out, List.append_assoc, HA1.out]; rfl
      case measure => simp [intOf]; omega
    ·have HX1 := Lib.hid hx1
     clear hx1 hyy1 hR1
     gi_wp2_with (fail)
     refine noGoto_normal ?_
     go_end0
     exact ⟨⟨_, rfl⟩, .inr ⟨_, ⟨r, by rw [HPRE.out, List.append_assoc]; rfl⟩, HX1.out⟩⟩
  ·obtain rfl : i = s.size := by omega
   rw [drop_end (Nat.le_refl _), its_nil, List.append_nil] at hpre
   have HP := Lib.hid hpre
   clear hpre
   gi_wp2_with (fail)
   refine noGoto_normal ?_
   go_end0
   exact ⟨⟨_, rfl⟩, .inl ⟨_, HP.out.symm, HJP.out⟩⟩
end Go.Proofs.YtlboejdhmggjpaaGreat.Ww

/- WwN -/
namespace Go.Proofs.YtlboejdhmggjpaaGreat.Ww
set_option maxRecDepth 100000
set_option maxHeartbeats 16000000
open Go.Proofs.YtlboejdhmggjpaaGreat
open Go.RowKit Go.BigFrame Go.Shelf
attribute [local go_sem] Oper.semAt_some

theorem info145 : (Tryz.prog.info? 145).map (fun i => (i.zero, i.size, i.bytes)) = some (some (.agg #[.int .i64 0, .string ⟨#[]⟩, .int .i64 0, .int .i64 0, .bool false]), 5, 48) := by kernel_rfl
theorem info5 : (Tryz.prog.info? 5).map (fun i => (i.zero, i.size, i.bytes)) = some (some (.int .u8 0), 1, 1) := by kernel_rfl
def tkC (t : Tk) : List Value := [.int .i64 t.kind, .string (str t.text), .int .i64 t.lo, .int .i64 t.hi, .bool t.space]
def ScPost (s : ByteArray) (w : World) (e : Ending) (w' : World) : Prop :=
 Below w.heap.size w w' ∧ (if (scanP (dl s)).1 = 0 then ∃ v, e = .returned (.tuple #[v, .int .i64 0]) ∧ w'.ownsRow w.heap.size 145 5 v (scanP (dl s)).2.length ((scanP (dl s)).2.flatMap tkC) else e = .returned (.tuple #[.slice none 0 0, .int .i64 (scanP (dl s)).1]))
theorem chars_call (s : ByteArray) (w : World) (hs : s.size ≤ 1000000000) (c : Nat) (h : chk (dl s) = c) : Calls Tryz.prog 67 #[.string s] w fun e w' => Below w.heap.size w w' ∧ (if c = 0 then ∃ v, e = .returned (.tuple #[v, .int .i64 0]) ∧ w'.ownsRow w.heap.size 138 3 v (chars (dl s)).length ((chars (dl s)).flatMap chC) else e = .returned (.tuple #[.slice none 0 0, .int .i64 c])) := h ▸ Ph.charsF s w hs
theorem heap_alloc_old' {W : World} {k : Nat} {o : Obj} (x : Obj) (h : W.heap[k]? = some o) : (W.alloc x).heap[k]? = some o := (Lib.alloc_old W x k (Array.getElem?_eq_some_iff.1 h).1).trans h
theorem cell_alloc' {W : World} {a : Addr} {v : Value} (o : Obj) (h : W.cell? a = some v) : (W.alloc o).cell? a = some v := ((below_alloc W o).cell (World.block_lt_of_cell? W a h)).trans h
theorem res_cells {W : World} {r T0 T1 : Nat} {a0 b0 : Value} (h0 : W.heap[r]? = some (.cells #[a0] T0 (0, 0))) (h1 : W.heap[r + 1]? = some (.cells #[b0] T1 (0, 0))) (a b : Value) :
  ((W.setCell ⟨r, 0, none⟩ a).setCell ⟨r + 1, 0, none⟩ b).cell? ⟨r, 0, none⟩ = some a ∧ ((W.setCell ⟨r, 0, none⟩ a).setCell ⟨r + 1, 0, none⟩ b).cell? ⟨r + 1, 0, none⟩ = some b ∧ Below r W ((W.setCell ⟨r, 0, none⟩ a).setCell ⟨r + 1, 0, none⟩ b) := by
 have g0 := heap_setCell_same W r 0 _ _ a h0
 have g1 : (W.setCell ⟨r, 0, none⟩ a).heap[r + 1]? = some (.cells #[b0] T1 (0, 0)) := by rw [Below.heap_setCell _ _ _ _ (by simp)]; exact h1
 have g2 := heap_setCell_same _ (r + 1) 0 _ _ b g1
 have g3 : ((W.setCell ⟨r, 0, none⟩ a).setCell ⟨r + 1, 0, none⟩ b).heap[r]? = _ := (Below.heap_setCell _ _ _ _ (by simp)).trans g0
 exact ⟨by simp [World.cell?, g3], by simp [World.cell?, g2], ((Below.refl _ _).setCell (p := ⟨r, 0, none⟩) (Nat.le_refl _) _).setCell (p := ⟨r + 1, 0, none⟩) (by simp) _⟩
theorem Sc.scanBad (s : ByteArray) (w : World) (hs : s.size ≤ 1000000000) (hc : chk (dl s) ≠ 0) : Calls Tryz.prog 42 #[.string s] w (ScPost s w) := by
 obtain ⟨c, hcc⟩ : ∃ c, chk (dl s) = c := ⟨_, rfl⟩
 rw [hcc] at hc
 have hsc : (scanP (dl s)).1 = c := by unfold scanP; rw [if_pos (by rw [hcc]; exact hc)]; exact hcc
 refine Calls.mono (R := fun e w' => e = .returned (.tuple #[.slice none 0 0, .int .i64 c]) ∧ Below w.heap.size w w') ?_ (fun e w' h => ⟨h.2, by rw [hsc, if_neg hc]; exact h.1⟩)
 have HC := Lib.hid hcc
 have hc1 : ((c : Int) != 0) = true := by simpa using hc
 have HCC := Lib.hid hc
 clear hcc hc hsc
 go_enter Tryz.func42, Tryz.ntmps42
 go_wp2_with fail
 refine (chars_call s _ hs c HC.out).mono ?_
 rintro e w1 ⟨b1, h1⟩
 rw [if_neg HCC.out] at h1
 subst h1
 have hb : Below w.heap.size w w1 := ((below_alloc w _).trans ((below_alloc _ _).mono (by simp))).trans (b1.mono (by simp; omega))
 have g0 : w1.heap[w.heap.size]? = some (.cells #[.slice none 0 0] 97 (0, 0)) := by
  rw [b1.block _ (by simp; omega), Below.heap_alloc _ _ _ (by simp)]
  exact heap_alloc_new _ _
 have g1 : w1.heap[w.heap.size + 1]? = some (.cells #[.int .i64 0] 25 (0, 0)) := by
  rw [b1.block _ (by simp)]
  have := heap_alloc_new (w.alloc (.cells #[.slice none 0 0] 97)) (.cells #[.int .i64 0] 25)
  simpa using this
 have c0 : w1.cell? ⟨w.heap.size, 0, none⟩ = some (.slice none 0 0) := by simp [World.cell?, g0]
 have c1 : w1.cell? ⟨w.heap.size + 1, 0, none⟩ = some (.int .i64 0) := by simp [World.cell?, g1]
 have f0 : w1.frozen? ⟨w.heap.size, 0, none⟩ = false := Lib.frozen_of_heap g0 0
 have f1 : w1.frozen? ⟨w.heap.size + 1, 0, none⟩ = false := Lib.frozen_of_heap g1 0
 have hl0 : w.heap.size < w1.heap.size := (Array.getElem?_eq_some_iff.1 g0).1
 have hl1 : w.heap.size + 1 < w1.heap.size := (Array.getElem?_eq_some_iff.1 g1).1
 have HRC := Lib.hid (res_cells g0 g1 (.slice none 0 0) (.int .i64 c))
 have HB := Lib.hid hb
 clear g0 g1 hb b1
 go_wp2_with fail
 obtain ⟨r0, r1, rb⟩ := HRC.out
 have r0 := cell_alloc' (.cells #[.slice none 0 0] 133) r0
 have r1 := cell_alloc' (.cells #[.slice none 0 0] 133) r1
 exact bodyPost_ret (v := .tuple #[.slice none 0 0, .int .i64 c]) (by simp [results, Tryz.results42, go_sem, r0, r1]) rfl ⟨rfl, (HB.out.trans rb).trans ((below_alloc _ _).mono (by simp; omega))⟩
end Go.Proofs.YtlboejdhmggjpaaGreat.Ww

/- WwP -/
namespace Go.Proofs.YtlboejdhmggjpaaGreat.Ww
open Go.Proofs.YtlboejdhmggjpaaGreat
open Go.RowKit Go.BigFrame Go.Shelf

def hiAt : Nat → List Tk → Nat → Nat
 | b, _, 0 => b
 | b, [], _ + 1 => b
 | _, x :: r, n + 1 => hiAt x.hi r n
theorem tok_at {l : Bs} : ∀ (T : List Tk) (b n : Nat) (h : n < T.length), Spaced b T → Lies l b T →
  T[n].space = decide (hiAt b T n < T[n].lo) ∧ T[n].lo < T[n].hi ∧ T[n].hi ≤ l.length ∧ T[n].text = (l.drop T[n].lo).take (T[n].hi - T[n].lo) ∧ hiAt b T (n + 1) = T[n].hi ∧ hiAt b T n ≤ T[n].lo
 | [], b, n, h, _, _ => by simp at h
 | x :: r, b, 0, h, hs, hl => by
  obtain ⟨h1, h2⟩ := hs
  obtain ⟨l1, l2, l3, l4, l5⟩ := hl
  exact ⟨h1, l2, l3, l4, by cases r <;> rfl, l1⟩
 | x :: r, b, n + 1, h, hs, hl => by
  exact tok_at r x.hi n (by simpa using h) hs.2 hl.2.2.2.2
theorem its_at {t : Bs} {pre : List It} {x : It} {r : List It} (h : its t 0 0 = pre ++ x :: r) {n : Nat} (hn : pre = ((tks t 0 0 false).1.take n).map itOf) (hnl : n ≤ (tks t 0 0 false).1.length) :
  (∃ h : n < (tks t 0 0 false).1.length, x = itOf (tks t 0 0 false).1[n]) ∨ (n = (tks t 0 0 false).1.length ∧ (tks t 0 0 false).2 ≠ 0 ∧ x = ⟨0, 0, 0, (tks t 0 0 false).2⟩) := by
 rw [its_tks _ t 0 0 false (Nat.le_refl _)] at h
 generalize (tks t 0 0 false).1 = T at *
 generalize (tks t 0 0 false).2 = E at *
 have hpl : pre.length = n := by rw [hn]; simp; omega
 have hx : (T.map itOf ++ if E = 0 then [] else [(⟨0, 0, 0, E⟩ : It)])[n]? = some x := by rw [h, List.getElem?_append_right (by omega), hpl]; simp
 by_cases hlt : n < T.length
 ·rw [List.getElem?_append_left (by simpa using hlt)] at hx
  rw [List.getElem?_map, List.getElem?_eq_getElem hlt] at hx
  exact .inl ⟨hlt, by simpa using hx.symm⟩
 ·obtain rfl : n = T.length := by omega
  rw [List.getElem?_append_right (by simp)] at hx
  by_cases hE : E = 0
  ·rw [if_pos hE] at hx; simp at hx
  ·rw [if_neg hE] at hx
   exact .inr ⟨rfl, hE, by simpa using hx.symm⟩
theorem its_all {t : Bs} {zs : List It} (h : zs = its t 0 0) {n : Nat} (hn : zs = ((tks t 0 0 false).1.take n).map itOf) (hnl : n ≤ (tks t 0 0 false).1.length) : n = (tks t 0 0 false).1.length ∧ (tks t 0 0 false).2 = 0 := by
 rw [its_tks _ t 0 0 false (Nat.le_refl _), hn] at h
 generalize (tks t 0 0 false).1 = T at *
 generalize (tks t 0 0 false).2 = E at *
 have hl := congrArg List.length h
 by_cases hE : E = 0
 ·refine ⟨?_, hE⟩
  rw [if_pos hE] at hl
  simp at hl; omega
 ·rw [if_neg hE] at hl
  simp at hl; omega
theorem own_kt {w w' : World} {X e size n : Nat} {v : Value} {xs : List Value} {T : TypeId → Bool} (h : w.ownsRow X e size v n xs) (hk : KT T w w') (hT : T e = true) : w'.ownsRow X e size v n xs := by
 refine ⟨h.1, ?_⟩
 rcases h.2 with hn | ⟨g, cap, cur, q1, q2, hg, rest⟩
 ·exact .inl hn
 ·exact .inr ⟨g, cap, cur, q1, q2, hk.2 g cur e (0, 0) hT hg, rest⟩
theorem own_set {w : World} {X e size n b t : Nat} {v : Value} {xs : List Value} {c : Array Value} {fz : Nat × Nat} (h : w.ownsRow X e size v n xs) (hb : w.heap[b]? = some (.cells c t fz)) (ht : t ≠ e) (i : Nat) (u : Value) : (w.setCell ⟨b, i, none⟩ u).ownsRow X e size v n xs :=
 ownsRow_mod h (Mod.setCell (Mod.refl (fun k => k = b) w) ⟨b, i, none⟩ (.inr rfl) u) (fun k hk e' => by
  subst e'
  obtain ⟨_, cur, q⟩ := row_cells h hk
  rw [hb] at q
  cases q
  exact ht rfl)
theorem KT.of_nc {T : TypeId → Bool} {a b : World} {S : Nat → Prop} (hm : Mod (fun k => S k ∧ nc a k) a b) : KT T a b := ⟨hm.size, fun k cs t fz _ hk => hm.keep hk (fun hs => not_nc hk hs.2)⟩
def Tk4 (t : TypeId) : Bool := t == 9 || t == 133 || t == 138 || t == 143
def SnI (w W0 : World) (T : List Tk) (Q : List Pt) (bt bh : Nat) (pre : List It) (W : World) : Prop :=
 ∃ n v, n ≤ T.length ∧ pre = (T.take n).map itOf ∧ W.heap[bt]? = some (.cells #[v] 97 (0, 0)) ∧ W.ownsRow w.heap.size 145 5 v n (((T.take n).map (place Q)).flatMap tkC) ∧ W.heap[bh]? = some (.cells #[.int .i64 (hiAt 0 T n)] 3 (0, 0)) ∧
  KT Tk4 W0 W ∧ W.heap[w.heap.size]? = some (.cells #[.slice none 0 0] 97 (0, 0)) ∧ W.heap[w.heap.size + 1]? = some (.cells #[.int .i64 0] 25 (0, 0)) ∧ Below w.heap.size w W
def SnX (w : World) (E : Nat) (c : Code) (pre : List It) (W : World) : Prop :=
 c = .ret ∧ E ≠ 0 ∧ W.heap[w.heap.size]? = some (.cells #[.slice none 0 0] 97 (0, 0)) ∧ W.heap[w.heap.size + 1]? = some (.cells #[.int .i64 E] 25 (0, 0)) ∧ Below w.heap.size w W
theorem lb_push0 {W W1 : World} {p X T e sz n m : Nat} {v v' : Value} {xs ys : List Value} (h1 : W.heap[p]? = some (.cells #[v] T (0, 0))) (hTe : T ≠ e) (hown : W.ownsRow X e sz v n xs) (hgrow : W.grownBy W1 v.ownBlock) (hown' : W1.ownsRow X e sz v' m ys) :
  W1.heap[p]? = some (.cells #[v] T (0, 0)) ∧ LbPush W (W1.setCell ⟨p, 0, none⟩ v') p X T e sz m v v' ys := by
 have hm : Mod (fun k => v.ownBlock = some k) W W1 := ⟨hgrow.os, hgrow.tape, hgrow.output, hgrow.size, fun k hk hn => hgrow.block k hk (fun e => hn e.symm)⟩
 have hp1 := hm.keep h1 (lb_ne h1 hTe hown)
 refine ⟨hp1, ?_⟩
 have hset := heap_setCell_same W1 p 0 _ _ v' hp1
 have hms : Mod (fun k => k = p) W1 (W1.setCell ⟨p, 0, none⟩ v') := Mod.setCell (Mod.refl (fun k => k = p) W1) _ (.inr rfl) _
 have hmm : Mod (fun k => k = p ∨ v.ownBlock = some k) W (W1.setCell ⟨p, 0, none⟩ v') := (hm.mono (fun k _ hk => .inr hk)).trans (hms.mono (fun k _ hk => .inl hk))
 have hcl : ∀ k, (k = p ∨ v.ownBlock = some k) → ∃ c t, W.heap[k]? = some (.cells c t (0, 0)) ∧ (t = T ∨ t = e) := fun k hk => by
  rcases hk with rfl | hk
  ·exact ⟨_, _, h1, .inl rfl⟩
  ·obtain ⟨_, cur, q⟩ := row_cells hown hk
   exact ⟨_, _, q, .inr rfl⟩
 refine ⟨by simpa using hset, own_set hown' hp1 hTe 0 v', hmm, fun B => ⟨hmm.size, fun k o hk ho hc => hmm.keep ho (fun hk' => ?_)⟩, fun Tk hT he => ⟨hmm.size, fun k cs t fz ht hk => hmm.keep hk (fun hk' => ?_)⟩, fun B hB hX => hmm.below (Nat.le_trans hB (Nat.le_of_lt (Array.getElem?_eq_some_iff.1 h1).1)) (fun k hk => ?_)⟩
 ·obtain ⟨c, t, q, _⟩ := hcl k hk'
  rw [ho] at q
  cases q
  cases hc
 ·obtain ⟨c, t', q, q2⟩ := hcl k hk'
  rw [hk] at q
  cases q
  rcases q2 with rfl | rfl
  ·rw [hT] at ht; cases ht
  ·rw [he] at ht; cases ht
 ·rcases hk with rfl | hk
  ·exact hB
  ·have := (row_cells hown hk).1; omega
theorem LbPush.keep {W W2 : World} {p X T e sz m n k : Nat} {v v' : Value} {xs ys : List Value} {c : Array Value} {t : TypeId} (h : LbPush W W2 p X T e sz m v v' ys) (hown : W.ownsRow X e sz v n xs) (hk : W.heap[k]? = some (.cells c t (0, 0))) (hp : k ≠ p) (ht : t ≠ e) : W2.heap[k]? = some (.cells c t (0, 0)) :=
 h.mod.keep hk (fun hh => by
  rcases hh with hh | hh
  ·exact hp hh
  ·obtain ⟨_, cur, q⟩ := row_cells hown hh
   rw [hk] at q
   cases q
   exact ht rfl)
theorem lies_len {l : Bs} : ∀ (T : List Tk) (b : Nat), b ≤ l.length → Lies l b T → b + T.length ≤ l.length
 | [], b, hb, _ => by simpa using hb
 | x :: r, b, hb, h => by
  have := lies_len r x.hi h.2.2.1 h.2.2.2.2
  have h1 := h.1
  have h2 := h.2.1
  simp; omega
def frS (vals : List Value) (k : Nat) (O : Obj) (mk : Nat → Value) (i : Nat) (v : Value) (w : World) : Prop :=
 match Nat.beq i k with
 | true => ∃ g, v = mk g ∧ w.heap[g]? = some O
 | false => v = vals.getD i undef
theorem frS_mono (vals : List Value) (k : Nat) (O : Obj) (mk : Nat → Value) : ∀ i v w w', Below w.heap.size w w' → frS vals k O mk i v w → frS vals k O mk i v w' := fun i v w w' hb h => by
 unfold frS at *
 split at h
 ·obtain ⟨g, h1, h2⟩ := h
  exact ⟨g, h1, heap_below hb h2 (Array.getElem?_eq_some_iff.1 h2).1⟩
 ·exact h
theorem cell_put {W : World} {l : Nat} {o o' : Obj} (ho : W.heap[l]? = some o) (hc : o.isCells = false) {b i : Nat} {v : Value} (h : W.cell? ⟨b, i, none⟩ = some v) : (W.putObj l o').cell? ⟨b, i, none⟩ = some v := by
 have hb : b ≠ l := fun e => by
  subst e
  simp only [World.cell?, ho] at h
  cases o <;> simp_all [Obj.isCells]
 simp only [World.cell?] at h ⊢
 rw [World.putObj_heap_other hb]
 exact h
theorem scanP_of {s : Bs} (hc : chk s = 0) : scanP s = if (tks (logic s) 0 0 false).2 ≠ 0 then ((tks (logic s) 0 0 false).2, []) else (0, (tks (logic s) 0 0 false).1.map (place (chars s))) := by
 unfold scanP
 rw [if_neg (by rw [hc]; simp)]
end Go.Proofs.YtlboejdhmggjpaaGreat.Ww

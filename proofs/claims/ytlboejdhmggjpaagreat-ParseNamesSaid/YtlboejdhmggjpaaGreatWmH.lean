/- parse: body. -/
import Derived.Test.YtlboejdhmggjpaaGreatWmD
import Derived.Test.YtlboejdhmggjpaaGreatRfa
import Derived.RangeFuncNested
import Derived.RangeFuncBound
import Derived.RangeFuncCalls
import Derived.RangeFuncLeaves
import Derived.RangeFuncBox
import Derived.Shelf.Abstract
import Derived.OwnWalkIn
import Derived.TacticsInMore
import Derived.LoopNIn
import Derived.LoopIn
set_option linter.all false
namespace Go.Proofs.YtlboejdhmggjpaaGreat.Pp
set_option maxRecDepth 100000
set_option maxHeartbeats 16000000
open Go.RowKit Go.BigFrame Go.Proofs.YtlboejdhmggjpaaGreat

theorem dc_at : ∀ (p : List (Bs × Bool)) (i : Nat) (hi : i < p.length) (j : Nat), j < 2 → (p.flatMap dcC)[i * 2 + j]? = (dcC p[i])[j]?
 | [], i, hi, _, _ => absurd hi (Nat.not_lt_zero i)
 | q :: r, 0, _, j, hj => by
  rw [List.flatMap_cons, Nat.zero_mul, Nat.zero_add]
  exact List.getElem?_append_left (show j < 2 from hj)
 | q :: r, i + 1, hi, j, hj => by
  rw [List.flatMap_cons, List.getElem?_append_right (show (dcC q).length ≤ (i + 1) * 2 + j from (by show 2 ≤ _; omega))]
  rw [show (i + 1) * 2 + j - (dcC q).length = i * 2 + j from (by show (i + 1) * 2 + j - 2 = _; omega)]
  exact dc_at r i (by simpa using hi) j hj
theorem DcV.at {w : World} {ya : Option Addr} {yc : Nat} {p : List (Bs × Bool)} (h : DcV w (.slice ya p.length yc) p) {i : Nat} (hi : i < p.length) : ∃ b, ya = some ⟨b, 0, none⟩ ∧ w.cell? ⟨b, i * 2, none⟩ = some (.string (str p[i].1)) ∧ w.cell? ⟨b, i * 2 + 1, none⟩ = some (.bool p[i].2) ∧ b < w.heap.size := by
 obtain ⟨a, c, h1, h0, h2⟩ := h
 cases h1
 rcases h2 with h2 | ⟨b, cur, h3, h4, h5⟩
 ·rw [h2] at hi; cases hi
 ·refine ⟨b, h3, ?_, ?_, (Array.getElem?_eq_some_iff.1 h4).1⟩
  ·have e := dc_at p i hi 0 (by omega)
   rw [← h5, List.getElem?_take_of_lt (by omega)] at e
   simp only [World.cell?, h4, Nat.add_zero] at e ⊢
   simpa [dcC] using e
  ·have e := dc_at p i hi 1 (by omega)
   rw [← h5, List.getElem?_take_of_lt (by omega)] at e
   simp only [World.cell?, h4] at e ⊢
   simpa [dcC] using e
theorem w_body {E : En} (hE : E.ok) {n : Nat} (ih : ∀ m, m ≤ n → Wk E m) (p : List (Bs × Bool)) (y : Value) (s : Ps) (w : World) (hd : DcV w y p) (hp : PW E w s) (hne : run E.L E.base (n + 1) (.body p) s ≠ .out) : Calls Tryz.prog 50 #[.pointer (some ⟨E.pb, 0, none⟩), y] w (EndQ E vaU w (run E.L E.base (n + 1) (.body p) s)) := by
 obtain ⟨r, hr⟩ : ∃ r, run E.L E.base (n + 1) (.body p) s = r := ⟨_, rfl⟩
 rw [hr] at hne ⊢
 rw [run] at hr
 obtain ⟨ya, yc, rfl, hb, -⟩ := id hd
 have hpl := hb.1
 have HD0 := Hh hd
 have HN := Hh hne
 have HR0 := Hh hr
 have HP0 := Hh hp
 have IH := Hh ih
 clear hne hr hp ih hd hb
 obtain ⟨m, hm⟩ : ∃ m, p.length = m := ⟨_, rfl⟩
 rw [hm] at hpl ⊢
 go_enter Tryz.func50, Tryz.ntmps50
 go_wp2_with fail
 refine (wk_open hE _ _ HP0.out (qne HR0.out HN.out)).mono ?_
 intro e w1 he
 rcases qstepR (x := open' E.L) HR0.out HN.out (KP.refl w) he with ⟨v1, s1, hr1, -, rfl, hp1, hkk, hk1⟩ | ⟨hr1, ⟨z, rfl⟩, hb1, hk1⟩
 case' inr => exact ⟨rfl, q_no hr1 hb1 hk1⟩
 obtain ⟨K, hqK, hKe⟩ := q_name hr1
 have HR1 := Hh hqK
 have HKe := Hh hKe
 have HP1 := Hh hp1
 have HK1 := Hh hk1
 have HD1 := Hh (HD0.out.kp hkk)
 clear he hr1 hp1 hkk hk1 hqK hKe
 go_wp2_with fail
 go_loopg [5, 12] m (fun gf q5 q12 wr => ∃ (s' : Ps) (i : Nat), q12 = .int .i64 i ∧ i + gf = m ∧ (declareAll E.L (p.drop i) >>= K) s' = r ∧ PW E wr s' ∧ KP w wr ∧ DcV wr (.slice ya p.length yc) p)
 case atStart => exact ⟨s1, 0, rfl, by omega, HR1.out, HP1.out, HK1.out, HD1.out⟩
 case round =>
  obtain ⟨s2, i, rfl, hig, hr2, hp2, hk2, hd2⟩ := hrel
  cases gk with
  | zero =>
   have hi : decide (i < m) = false := decide_eq_false (by omega)
   have hq : K () s2 = r := by
    rw [List.drop_of_length_le (by omega)] at hr2
    exact hr2
   rw [HKe.out] at hq
   have HR2 := Hh hq
   have HP2 := Hh hp2
   have HK2 := Hh hk2
   clear hr2 hp2 hk2 hd2 hq HKe HR1 HR0
   go_wp2_with fail
   refine mQ ((IH.out n (Nat.le_refl _)).f_items _ _ HP2.out (qne HR2.out HN.out)) HR2 HN HK2 (fun _ _ h => ⟨rfl, h⟩) ?_
   rintro v3 s3 y3 w3 HR3 rfl HP3 - HK3
   go_wp2_with fail
   refine mR (wk_close hE _ _ HP3.out (qne HR3.out HN.out)) HR3 HN HK3 (fun _ _ h => ⟨rfl, h⟩) ?_
   rintro v4 s4 w4 HR4 HP4 - HK4
   go_wp2_with fail
   exact ⟨rfl, .tuple #[], by simp [results, Tryz.results50, go_sem], q_ok (q_pure HR4.out) rfl HP4.out HK4.out⟩
  | succ g =>
   have hi0 : i < p.length := by omega
   have hi : i < m := by omega
   obtain ⟨b, rfl, d0, d1, hbl⟩ := hd2.at hi0
   obtain ⟨q, hq⟩ : ∃ q, p[i] = q := ⟨_, rfl⟩
   rw [hq] at d0 d1
   have hqx : q.1.length ≤ maxLen := by obtain ⟨_, _, _, h0, _⟩ := hd2; rw [← hq]; exact h0.2 _ (List.getElem_mem hi0)
   rw [List.drop_eq_getElem_cons hi0, hq] at hr2
   have hr2 : ((declare E.L q.1 q.2 >>= fun _ => declareAll E.L (p.drop (i + 1))) >>= K) s2 = r := hr2
   have hr2 := q_assoc hr2
   obtain ⟨st, hst⟩ : ∃ st : ByteArray, str q.1 = st := ⟨_, rfl⟩
   rw [hst] at d0
   have HST := Hh hst
   have HQX := Hh hqx
   have HR2 := Hh hr2
   have HP2 := Hh hp2
   have HK2 := Hh hk2
   have HD2 := Hh hd2
   clear hr2 hp2 hk2 hd2 hst hqx hq HKe HR1 HR0 hi0
   go_wp2_with fail
   obtain ⟨bq, hbq⟩ : ∃ b, wr.heap.size = b := ⟨_, rfl⟩
   obtain ⟨W4, hW4⟩ : ∃ W4, W4 = wr.alloc (.cells #[.string st, .bool q.2] 95) := ⟨_, rfl⟩
   have hb4 : Below wr.heap.size wr W4 := by rw [hW4]; exact below_alloc _ _
   have hr4 : W4.heap[wr.heap.size]? = some (.cells #[.string st, .bool q.2] 95 (0, 0)) := by rw [hW4]; exact new_cells _ _ _
   rw [← hW4]
   clear hW4
   rw [hbq] at hr4
   try rw [hbq]
   have HP4 := Hh (HP2.out.ext hE hb4)
   have HK4 := Hh (HK2.out.trans (KP.of_below hb4))
   have HD4 := Hh (HD2.out.kp (KP.of_below hb4))
   have g0 : ∀ u : Ext W4, u.w.cell? ⟨bq, 0, none⟩ = some (.string st) := fun u => u.cell (by simp [World.cell?, hr4])
   have g1 : ∀ u : Ext W4, u.w.cell? ⟨bq, 1, none⟩ = some (.bool q.2) := fun u => u.cell (by simp [World.cell?, hr4])
   clear hb4 hr4 d0 d1 hbl
   refine wp_region_tail (C := fun w' => ∃ u : Ext W4, w' = u.w) 4 (by kernel_rfl) (by kernel_rfl) (Ext.drew W4) ?_
   simp only [List.take_succ_cons, List.take_zero, List.drop_succ_cons, List.drop_zero]
   repeat (go_big_quiet_step (fail))
   refine wpQuiet_nil ?_
   rintro w' ⟨u, rfl⟩
   obtain ⟨w5, hw⟩ : ∃ w', w' = u.w := ⟨_, rfl⟩
   have hbe := u.below
   rw [← hw] at hbe ⊢
   have HP5 := Hh (HP4.out.ext hE hbe)
   have HK5 := Hh (HK4.out.trans (KP.of_below hbe))
   have HD5 := Hh (HD4.out.kp (KP.of_below hbe))
   clear hw hbe g0 g1
   clear u
   go_wp2_with fail
   rw [← HST.out]
   refine mR (wk_declare hE q.1 q.2 _ _ HQX.out HP5.out (qne HR2.out HN.out)) HR2 HN HK5 (fun _ _ h => ⟨rfl, h⟩) ?_
   rintro v6 s6 w6 HR6 HP6 hkk HK6
   have HD6 := Hh (HD5.out.kp hkk)
   clear hkk
   go_wp2_with fail
   go_roundg g
   case measure => omega
   case rel => exact ⟨s6, i + 1, by go_num, by omega, HR6.out, HP6.out, HK6.out, HD6.out⟩
end Go.Proofs.YtlboejdhmggjpaaGreat.Pp

/- WmF -/
namespace Go.Proofs.YtlboejdhmggjpaaGreat.Pp
set_option maxRecDepth 100000
set_option maxHeartbeats 16000000
open Go.RowKit Go.BigFrame Go.Shelf Go.Proofs.YtlboejdhmggjpaaGreat
attribute [local go_sem] Oper.semAt_some

def K132 (w w' : World) : Prop := w.heap.size ≤ w'.heap.size ∧ ∀ (k : Nat) (cs : Array Value) (fz : Nat × Nat), w.heap[k]? = some (.cells cs 132 fz) → w'.heap[k]? = some (.cells cs 132 fz)
theorem K132.refl (w : World) : K132 w w := ⟨Nat.le_refl _, fun _ _ _ h => h⟩
theorem K132.trans {a b c : World} (h : K132 a b) (k : K132 b c) : K132 a c := ⟨Nat.le_trans h.1 k.1, fun i cs fz hi => k.2 i cs fz (h.2 i cs fz hi)⟩
theorem K132.of_below {w w' : World} (h : Below w.heap.size w w') : K132 w w' := ⟨h.size, fun k cs fz hk => heap_below h hk (Array.getElem?_eq_some_iff.1 hk).1⟩
theorem K132.putObj {w : World} {l : Nat} {o o' : Obj} (ho : w.heap[l]? = some o) (hc : o.isCells = false) : K132 w (w.putObj l o') := ⟨by simp, fun k cs fz hk => by
 rw [World.putObj_heap_other (fun e => by
  subst e
  rw [ho] at hk
  cases hk
  cases hc)]
 exact hk⟩
theorem wk_declaredF (E : En) (w : World) : Calls Tryz.prog 40 #[.pointer (some ⟨E.pb, 3, none⟩)] w fun e w' => e = .returned (.func (.func 66) #[] #[.pointer (some ⟨w.heap.size, 0, none⟩)]) ∧ w' = w.alloc (.cells #[.pointer (some ⟨E.pb, 3, none⟩)] 129) := by
 go_enter Tryz.func40, Tryz.ntmps40
 go_wp2
 go_ret
 exact ⟨rfl, rfl⟩
theorem nwI_type (b : Bool) : (nwI (some b) == 1) = b := by cases b <;> rfl
theorem Dc.seq (n B : Nat) {E : En} (hE : E.ok) (s : Ps) (w : World) (hp : PW E w s) (h0 : w.heap[B]? = some (.cells #[.pointer (some ⟨E.pb, 3, none⟩)] 129 (0, 0))) (hk : s.nm.bl.getLast?.getD 0 ≤ s.nm.ch.length) :
  SeqG Fence.wide n Tryz.prog 66 #[.pointer (some ⟨B, 0, none⟩)] (fun p : Bs × Bool => #[.agg #[.string (str p.1), .bool p.2]]) K132 (fun pre x => ∃ r, s.nm.declared = pre ++ x :: r) (fun _ => False)
   (fun zs => zs = s.nm.declared) (fun _ => True) w := fun l J Jx W hW hJ hJx hY hj0 => by
 have hpW := hp.ext hE hW
 obtain ⟨vd, vc, vb, mb, h⟩ := hpW
 have g0 := heap_below hW h0 (Array.getElem?_eq_some_iff.1 h0).1
 have cB : W.cell? ⟨B, 0, none⟩ = some (.pointer (some ⟨E.pb, 3, none⟩)) := by simp [World.cell?, g0]
 obtain ⟨-, -, -, -, -, c5, c6⟩ := h.cell
 have hrc := h.ch
 have hrb := h.bl
 have hcb := h.cb
 have hbb := h.bb
 have hLn := hE.len
 obtain ⟨ca, cc, rfl⟩ := row_shape hrc
 obtain ⟨ba, bc, rfl⟩ := row_shape hrb
 have hdl : s.nm.declared = s.nm.ch.drop (s.nm.bl.getLast?.getD 0) := rfl
 obtain ⟨N, hN⟩ : ∃ N, s.nm.ch.length = N := ⟨_, rfl⟩
 obtain ⟨M, hM⟩ : ∃ M, s.nm.bl.length = M := ⟨_, rfl⟩
 obtain ⟨K, hK⟩ : ∃ K, s.nm.bl.getLast?.getD 0 = K := ⟨_, rfl⟩
 rw [hK] at hk hdl
 rw [hN] at hk hrc c5 hcb
 rw [hM] at c6 hrb hbb
 have hNK : s.nm.declared.length = N - K := by rw [hdl, List.length_drop, hN]
 obtain ⟨a', hif⟩ : ∃ a', (if cc = K then ca else ca.map (fun q => q.add (K * 3))) = a' := ⟨_, rfl⟩
 have hcap : N ≤ cc := by
  rcases Nat.eq_zero_or_pos N with e | e
  ·omega
  ·obtain ⟨_, _, he, _, _, hx⟩ := row_block hrc e
   cases he
   exact hx
 have hadr : ∀ i, i < N - K → ∃ gc, ca = some ⟨gc, 0, none⟩ ∧ a' = some ⟨gc, K * 3, none⟩ := fun i hi => by
  obtain ⟨gc, c', he, _, _, hx⟩ := row_block hrc (by omega)
  cases he
  refine ⟨gc, rfl, ?_⟩
  rw [← hif, if_neg (by omega)]
  simp [Addr.add] <;> omega
 have hN0 : N ≤ 1000000 := by omega
 have hM0 : M ≤ 1000000 := by omega
 have HJ := Hh hJ
 have HY := Hh hY
 have HJ0 := Hh hj0
 have HRC := Hh hrc
 have HADR := Hh hadr
 have HDL := Hh hdl
 have HNK := Hh hNK
 have HN := Hh hN
 have HGW := Hh (Nat.le_refl W.heap.size)
 clear h0 hJ hJx g0 hY hj0 hp h hcb hbb hLn hadr hdl hNK hrc
 rcases Nat.eq_zero_or_pos M with hM1 | hM1
 ·subst hM1
  have hK0 : K = 0 := by rw [← hK, List.length_eq_zero_iff.1 hM]; rfl
  subst hK0
  clear hK hM hrb hN
  refine callsIn_of_wp Tryz.func66 rfl trivial ?_ rfl
  simp only [Tryz.ntmps66, List.size_toArray, List.length_cons, List.length_nil, Nat.reduceAdd, Nat.reduceSub, Array.replicate_succ, Array.replicate_zero, List.push_toArray, List.append_toArray, List.nil_append, List.cons_append]
  gi_wp2_with (fail)
  gi_loopw [5, 31] (fun s5 s31 wr => ∃ i : Nat, i ≤ N - 0 ∧ s31 = .int .i64 i ∧ K132 W wr ∧ J (s.nm.declared.take i) wr) (fun s5 s31 _ => (N - 0) - (intOf s31).toNat)
  case atStart => exact ⟨0, Nat.zero_le _, rfl, K132.refl W, by rw [List.take_zero]; exact HJ0.out⟩
  case round =>
   obtain ⟨i, hi, rfl, hkr, hjr⟩ := hrel
   by_cases hlt : i < N - 0
   ·have hlt2 : decide (i < N - 0) = true := decide_eq_true hlt
    obtain ⟨gc, hca, ha⟩ := HADR.out i hlt
    have hjn : 0 + i < s.nm.ch.length := by rw [HN.out]; omega
    obtain ⟨q, hq⟩ : ∃ q, s.nm.ch[0 + i]'hjn = q := ⟨_, rfl⟩
    have hrow : wr.ownsRow E.X 132 3 (.slice ca N cc) N (chC s.nm.ch.reverse) := ownsRow_of HRC.out (fun g cur hg => hkr.2 g cur (0, 0) hg)
    rw [hca] at hrow
    have hat := chC_at s.nm.ch (0 + i) hjn
    rw [hq] at hat
    have a0 : wr.cell? ⟨gc, i * 3, none⟩ = some (.string (str q.1)) := by rw [show i * 3 = (0 + i) * 3 from by omega, hrow.cellAt _ (by omega)]; exact hat 0 _ rfl
    have a1 : wr.cell? ⟨gc, i * 3 + 1, none⟩ = some (.int .i64 (nwI (nowL (s.nm.ch.take (0 + i)) q.1))) := by rw [show i * 3 = (0 + i) * 3 from by omega, hrow.cellAt _ (by omega)]; exact hat 1 _ rfl
    have a2 : wr.cell? ⟨gc, i * 3 + 2, none⟩ = some (.int .i64 (nwI (some q.2))) := by rw [show i * 3 = (0 + i) * 3 from by omega, hrow.cellAt _ (by omega)]; exact hat 2 _ rfl
    obtain ⟨z1, hz1⟩ : ∃ z1, nwI (nowL (s.nm.ch.take (0 + i)) q.1) = z1 := ⟨_, rfl⟩
    obtain ⟨z2, hz2⟩ : ∃ z2, nwI (some q.2) = z2 := ⟨_, rfl⟩
    obtain ⟨st, hst⟩ : ∃ st : ByteArray, str q.1 = st := ⟨_, rfl⟩
    obtain ⟨bq, hbq⟩ : ∃ b, q.2 = b := ⟨_, rfl⟩
    have hzq : (z2 == 1) = bq := by rw [← hz2, ← hbq]; exact nwI_type _
    rw [hz1] at a1
    rw [hz2] at a2
    rw [hst] at a0
    have hpre : s.nm.declared = s.nm.declared.take i ++ q :: s.nm.declared.drop (i + 1) := by
     have hdi : i < s.nm.declared.length := by rw [HNK.out]; exact hlt
     have hqd : s.nm.declared[i] = q := by simp only [HDL.out]; rw [List.getElem_drop]; exact hq
     rw [← hqd, ← List.drop_eq_getElem_cons hdi, List.take_append_drop]
    have htk : s.nm.declared.take (i + 1) = s.nm.declared.take i ++ [q] := by
     have hdi : i < s.nm.declared.length := by rw [HNK.out]; exact hlt
     have hqd : s.nm.declared[i] = q := by simp only [HDL.out]; rw [List.getElem_drop]; exact hq
     rw [List.take_add_one, List.getElem?_eq_getElem hdi, hqd]; rfl
    have hjw := HJ.out (s.nm.declared.take i) wr (wr.alloc (.cells #[.string st, .int .i64 z1, .int .i64 z2] 132)) hjr (Mod.of_below (below_alloc wr _))
    obtain ⟨fn1, tm1, as1, bo1, hyy1, hR1⟩ := HY.out (s.nm.declared.take i) q _ hjw ⟨_, hpre⟩
    simp only [hst, hbq] at hyy1 hR1
    have HTK := Hh htk
    have HKR := Hh hkr
    clear hkr hjr hrow hat hq hpre htk hjw hz1 hz2 hst hbq hjn ha
    subst hca
    gi_wp2_with (fail)
    refine ⟨(fun hh => by cases hh), hR1.mono ?_⟩
    rintro e W1 (⟨rfl, hJ1, hk1⟩ | ⟨rfl, hx1⟩)
    ·have HJ1 := Hh hJ1
     have HK1 := Hh ((HKR.out.trans (K132.of_below (below_alloc wr _))).trans hk1)
     clear hJ1 hk1 hyy1 hR1
     gi_wp2_with (fail)
     go_roundw
     case rel => exact ⟨i + 1, by omega, by go_num, HK1.out, by rw [HTK.out]; exact HJ1.out⟩
     case measure => simp [intOf]; omega
    ·have HX1 := Hh hx1
     clear hx1 hyy1 hR1
     gi_wp2_with (fail)
     refine bodyPost_ret (results_none rfl _ _ _) rfl ?_
     exact ⟨⟨_, rfl⟩, .inr ⟨_, trivial, HX1.out⟩⟩
   ·have hlt2 : decide (i < N - 0) = false := decide_eq_false hlt
    have hjr2 : J s.nm.declared wr := by rw [List.take_of_length_le (by rw [HNK.out]; omega)] at hjr; exact hjr
    have HJR := Hh hjr2
    clear hjr hjr2 hkr
    gi_wp2_with (fail)
    go_end0
    exact ⟨⟨_, rfl⟩, .inl ⟨_, rfl, HJR.out⟩⟩
 ·obtain ⟨m, rfl⟩ : ∃ m, M = m + 1 := ⟨M - 1, by omega⟩
  obtain ⟨gb, _, hbe, _, _, hx⟩ := row_block hrb (by omega)
  cases hbe
  have hbv : W.cell? ⟨gb, m, none⟩ = some (.int .i64 K) := by
   have e := hrb.cellAt m (by omega)
   try rw [Nat.mul_one] at e
   rw [e]
   have hne : s.nm.bl ≠ [] := by intro q; rw [q] at hM; cases hM
   have e2 : s.nm.bl.flatMap inC = (s.nm.bl.dropLast).flatMap inC ++ [.int .i64 K] := by
    conv => lhs; rw [← List.dropLast_concat_getLast hne]
    rw [List.flatMap_append]
    rw [List.getLast?_eq_some_getLast hne, Option.getD_some] at hK
    rw [hK]
    rfl
   rw [e2, List.getElem?_append_right (by rw [flat_len 1 inC (fun _ => rfl)]; simp [hM]), flat_len 1 inC (fun _ => rfl)]
   simp [hM]
  have hx2 : m + 1 ≤ bc := hx
  clear hK hM hrb hN hx hM1
  have d1 : ((m : Int) + 1 - 1) = m := by omega
  have BV := Hh hbv
  refine callsIn_of_wp Tryz.func66 rfl trivial ?_ rfl
  simp only [Tryz.ntmps66, List.size_toArray, List.length_cons, List.length_nil, Nat.reduceAdd, Nat.reduceSub, Array.replicate_succ, Array.replicate_zero, List.push_toArray, List.append_toArray, List.nil_append, List.cons_append]
  gi_wp2_with (fail)
  have u1 : ∀ u : Ext W, u.w.cell? ⟨B, 0, none⟩ = some (.pointer (some ⟨E.pb, 3, none⟩)) := fun u => u.cell cB
  have u6 : ∀ u : Ext W, u.w.cell? ⟨E.pb, 6, none⟩ = some (.slice (some ⟨gb, 0, none⟩) (m + 1) bc) := fun u => u.cell c6
  have ub : ∀ u : Ext W, u.w.cell? ⟨gb, m, none⟩ = some (.int .i64 K) := fun u => u.cell hbv
  refine wpIn_wide.2 ?_
  refine wp_region_quiet (C := fun w' => ∃ u : Ext W, w' = u.w) (by kernel_rfl) (by kernel_rfl) (Ext.drew W) ?_
  dsimp only []
  repeat (go_big_quiet_step (fail))
  refine wpQuiet_nil ?_
  rintro w' ⟨u, rfl⟩
  have v1 := u.cell cB
  have v5 := u.cell c5
  have hj1 := HJ.out [] W u.w HJ0.out (Mod.of_below u.below)
  have hkb := K132.of_below u.below
  have HJ1 := Hh hj1
  have HKB := Hh hkb
  clear hj1 hkb u1 u6 ub cB c5 c6 hbv d1
  gi_wp2_with (fail)
  gi_loopw [5, 31] (fun s5 s31 wr => ∃ i : Nat, i ≤ N - K ∧ s31 = .int .i64 i ∧ K132 W wr ∧ J (s.nm.declared.take i) wr) (fun s5 s31 _ => (N - K) - (intOf s31).toNat)
  case atStart => exact ⟨0, Nat.zero_le _, rfl, HKB.out, by rw [List.take_zero]; exact HJ1.out⟩
  case round =>
   obtain ⟨i, hi, rfl, hkr, hjr⟩ := hrel
   by_cases hlt : i < N - K
   ·have hlt2 : decide (i < N - K) = true := decide_eq_true hlt
    obtain ⟨gc, hca, ha⟩ := HADR.out i hlt
    have hjn : K + i < s.nm.ch.length := by rw [HN.out]; omega
    obtain ⟨q, hq⟩ : ∃ q, s.nm.ch[K + i]'hjn = q := ⟨_, rfl⟩
    have hrow : wr.ownsRow E.X 132 3 (.slice ca N cc) N (chC s.nm.ch.reverse) := ownsRow_of HRC.out (fun g cur hg => hkr.2 g cur (0, 0) hg)
    rw [hca] at hrow
    have hat := chC_at s.nm.ch (K + i) hjn
    rw [hq] at hat
    have a0 : wr.cell? ⟨gc, K * 3 + i * 3, none⟩ = some (.string (str q.1)) := by rw [show K * 3 + i * 3 = (K + i) * 3 from by omega, hrow.cellAt _ (by omega)]; exact hat 0 _ rfl
    have a1 : wr.cell? ⟨gc, K * 3 + i * 3 + 1, none⟩ = some (.int .i64 (nwI (nowL (s.nm.ch.take (K + i)) q.1))) := by rw [show K * 3 + i * 3 = (K + i) * 3 from by omega, hrow.cellAt _ (by omega)]; exact hat 1 _ rfl
    have a2 : wr.cell? ⟨gc, K * 3 + i * 3 + 2, none⟩ = some (.int .i64 (nwI (some q.2))) := by rw [show K * 3 + i * 3 = (K + i) * 3 from by omega, hrow.cellAt _ (by omega)]; exact hat 2 _ rfl
    obtain ⟨z1, hz1⟩ : ∃ z1, nwI (nowL (s.nm.ch.take (K + i)) q.1) = z1 := ⟨_, rfl⟩
    obtain ⟨z2, hz2⟩ : ∃ z2, nwI (some q.2) = z2 := ⟨_, rfl⟩
    obtain ⟨st, hst⟩ : ∃ st : ByteArray, str q.1 = st := ⟨_, rfl⟩
    obtain ⟨bq, hbq⟩ : ∃ b, q.2 = b := ⟨_, rfl⟩
    have hzq : (z2 == 1) = bq := by rw [← hz2, ← hbq]; exact nwI_type _
    rw [hz1] at a1
    rw [hz2] at a2
    rw [hst] at a0
    have hpre : s.nm.declared = s.nm.declared.take i ++ q :: s.nm.declared.drop (i + 1) := by
     have hdi : i < s.nm.declared.length := by rw [HNK.out]; exact hlt
     have hqd : s.nm.declared[i] = q := by simp only [HDL.out]; rw [List.getElem_drop]; exact hq
     rw [← hqd, ← List.drop_eq_getElem_cons hdi, List.take_append_drop]
    have htk : s.nm.declared.take (i + 1) = s.nm.declared.take i ++ [q] := by
     have hdi : i < s.nm.declared.length := by rw [HNK.out]; exact hlt
     have hqd : s.nm.declared[i] = q := by simp only [HDL.out]; rw [List.getElem_drop]; exact hq
     rw [List.take_add_one, List.getElem?_eq_getElem hdi, hqd]; rfl
    have hjw := HJ.out (s.nm.declared.take i) wr (wr.alloc (.cells #[.string st, .int .i64 z1, .int .i64 z2] 132)) hjr (Mod.of_below (below_alloc wr _))
    obtain ⟨fn1, tm1, as1, bo1, hyy1, hR1⟩ := HY.out (s.nm.declared.take i) q _ hjw ⟨_, hpre⟩
    simp only [hst, hbq] at hyy1 hR1
    have HTK := Hh htk
    have HKR := Hh hkr
    clear hkr hjr hrow hat hq hpre htk hjw hz1 hz2 hst hbq hjn hca
    subst ha
    gi_wp2_with (fail)
    refine ⟨(fun hh => by cases hh), hR1.mono ?_⟩
    rintro e W1 (⟨rfl, hJ1, hk1⟩ | ⟨rfl, hx1⟩)
    ·have HJ1 := Hh hJ1
     have HK1 := Hh ((HKR.out.trans (K132.of_below (below_alloc wr _))).trans hk1)
     clear hJ1 hk1 hyy1 hR1
     gi_wp2_with (fail)
     go_roundw
     case rel => exact ⟨i + 1, by omega, by go_num, HK1.out, by rw [HTK.out]; exact HJ1.out⟩
     case measure => simp [intOf]; omega
    ·have HX1 := Hh hx1
     clear hx1 hyy1 hR1
     gi_wp2_with (fail)
     refine bodyPost_ret (results_none rfl _ _ _) rfl ?_
     exact ⟨⟨_, rfl⟩, .inr ⟨_, trivial, HX1.out⟩⟩
   ·have hlt2 : decide (i < N - K) = false := decide_eq_false hlt
    have hjr2 : J s.nm.declared wr := by rw [List.take_of_length_le (by rw [HNK.out]; omega)] at hjr; exact hjr
    have HJR := Hh hjr2
    clear hjr hjr2 hkr
    gi_wp2_with (fail)
    go_end0
    exact ⟨⟨_, rfl⟩, .inl ⟨_, rfl, HJR.out⟩⟩
end Go.Proofs.YtlboejdhmggjpaaGreat.Pp

/- WmH -/
namespace Go.Proofs.YtlboejdhmggjpaaGreat.Pp
open Go.RowKit Go.BigFrame Go.Shelf Go.Proofs.YtlboejdhmggjpaaGreat

def KT (T : TypeId → Bool) (w w' : World) : Prop := w.heap.size ≤ w'.heap.size ∧ ∀ (k : Nat) (cs : Array Value) (t : TypeId) (fz : Nat × Nat), T t = true → w.heap[k]? = some (.cells cs t fz) → w'.heap[k]? = some (.cells cs t fz)
theorem KT.refl (T : TypeId → Bool) (w : World) : KT T w w := ⟨Nat.le_refl _, fun _ _ _ _ _ h => h⟩
theorem KT.trans {T : TypeId → Bool} {a b c : World} (h : KT T a b) (k : KT T b c) : KT T a c := ⟨Nat.le_trans h.1 k.1, fun i cs t fz ht hi => k.2 i cs t fz ht (h.2 i cs t fz ht hi)⟩
theorem KT.of_below {T : TypeId → Bool} {w w' : World} (h : Below w.heap.size w w') : KT T w w' := ⟨h.size, fun k cs t fz _ hk => heap_below h hk (Array.getElem?_eq_some_iff.1 hk).1⟩
theorem KT.putObj {T : TypeId → Bool} {w : World} {l : Nat} {o o' : Obj} (ho : w.heap[l]? = some o) (hc : o.isCells = false) : KT T w (w.putObj l o') := ⟨by simp, fun k cs t fz _ hk => by
 rw [World.putObj_heap_other (fun e => by
  subst e
  rw [ho] at hk
  cases hk
  cases hc)]
 exact hk⟩
theorem KT.set {T : TypeId → Bool} {a w : World} {b t : Nat} {cs0 : Array Value} {fz : Nat × Nat} (h : KT T a w) (hb : w.heap[b]? = some (.cells cs0 t fz)) (ht : T t = false) (i : Nat) (v : Value) : KT T a (w.setCell ⟨b, i, none⟩ v) :=
 ⟨by simpa using h.1, fun k cs t' fz' ht' hk => by
  have h1 := h.2 k cs t' fz' ht' hk
  rw [Below.heap_setCell _ _ _ _ (fun e => by
   have e : k = b := e
   subst e
   rw [hb] at h1
   cases h1
   rw [ht] at ht'
   cases ht')]
  exact h1⟩
theorem KT.alloc {T : TypeId → Bool} {a w : World} (h : KT T a w) (o : Obj) : KT T a (w.alloc o) := h.trans (KT.of_below (below_alloc w o))

theorem ownsRow_mod {w w' : World} {base e size : Nat} {v : Value} {n : Nat} {xs : List Value} {S : Nat → Prop} (h : w.ownsRow base e size v n xs) (hm : Mod S w w') (hs : ∀ k, v.ownBlock = some k → ¬ S k) : w'.ownsRow base e size v n xs := by
 refine ⟨h.1, ?_⟩
 rcases h.2 with hn | ⟨g, cap, cur, rfl, hb, hg, rest⟩
 ·exact .inl hn
 ·exact .inr ⟨g, cap, cur, rfl, hb, hm.keep hg (hs g rfl), rest⟩
theorem not_nc {w : World} {k : Nat} {c : Array Value} {t : TypeId} {fz : Nat × Nat} (h : w.heap[k]? = some (.cells c t fz)) : ¬ nc w k := by
 rintro ⟨o, ho, hc⟩
 rw [h] at ho
 simp only [Option.some.injEq] at ho
 subst ho
 cases hc
theorem own_nc {w w' : World} {X e size n : Nat} {v : Value} {xs : List Value} {S : Nat → Prop} (h : w.ownsRow X e size v n xs) (hm : Mod (fun k => S k ∧ nc w k) w w') : w'.ownsRow X e size v n xs :=
 ownsRow_mod h hm (fun k hk hs => by obtain ⟨_, cur, hc⟩ := row_cells h hk; exact not_nc hc hs.2)
theorem own_base {w : World} {X Y e size n : Nat} {v : Value} {xs : List Value} (h : w.ownsRow X e size v n xs) (hY : Y ≤ X) : w.ownsRow Y e size v n xs := by
 refine ⟨h.1, ?_⟩
 rcases h.2 with hn | ⟨g, cap, cur, q1, q2, rest⟩
 ·exact .inl hn
 ·exact .inr ⟨g, cap, cur, q1, by omega, rest⟩
theorem own_put {w : World} {X e size n l : Nat} {v : Value} {xs : List Value} {o o' : Obj} (h : w.ownsRow X e size v n xs) (ho : w.heap[l]? = some o) (hc : o.isCells = false) : (w.putObj l o').ownsRow X e size v n xs :=
 ownsRow_mod (S := fun k => k = l) h ⟨rfl, rfl, rfl, by simp, fun k hk hn => World.putObj_heap_other (fun e => hn (by omega))⟩ (fun k hk e => by
  obtain ⟨_, cur, q⟩ := row_cells h hk
  subst e
  rw [ho] at q
  cases q
  cases hc)
section
variable {W W1 : World} {p X T e sz n m : Nat} {v v' : Value} {xs ys : List Value} {o : Obj}
theorem lb_mod (hown : W.ownsRow X e sz v n xs) (hgrow : (W.alloc o).grownBy W1 v.ownBlock) : Mod (fun k => v.ownBlock = some k) W W1 :=
 (Mod.of_below (below_alloc W o)).trans ((show Mod (fun k => v.ownBlock = some k) (W.alloc o) W1 from ⟨hgrow.os, hgrow.tape, hgrow.output, hgrow.size, fun k hk hn => hgrow.block k hk (fun e => hn e.symm)⟩))
theorem lb_ne (h1 : W.heap[p]? = some (.cells #[v] T (0, 0))) (hTe : T ≠ e) (hown : W.ownsRow X e sz v n xs) : ¬ v.ownBlock = some p := fun hk => by
 obtain ⟨_, cur, q⟩ := row_cells hown hk
 rw [h1] at q
 cases q
 exact hTe rfl
theorem lb_amid (h1 : W.heap[p]? = some (.cells #[v] T (0, 0))) (hTe : T ≠ e) (hown : W.ownsRow X e sz v n xs) (hgrow : (W.alloc o).grownBy W1 v.ownBlock) : W1.heap[p]? = some (.cells #[v] T (0, 0)) :=
 (lb_mod hown hgrow).keep h1 (lb_ne h1 hTe hown)
structure LbPush (W W2 : World) (p X T e sz k : Nat) (v v' : Value) (ys : List Value) : Prop where
 box : W2.heap[p]? = some (.cells #[v'] T (0, 0))
 row : W2.ownsRow X e sz v' k ys
 mod : Mod (fun k => k = p ∨ v.ownBlock = some k) W W2
 kf : ∀ B, KeepsFrom B W W2
 kt : ∀ Tk : TypeId → Bool, Tk T = false → Tk e = false → KT Tk W W2
 bel : ∀ B, B ≤ p → B ≤ X → Below B W W2
theorem lb_push (h1 : W.heap[p]? = some (.cells #[v] T (0, 0))) (hTe : T ≠ e) (hown : W.ownsRow X e sz v n xs) (hgrow : (W.alloc o).grownBy W1 v.ownBlock) (hown' : W1.ownsRow X e sz v' m ys) : LbPush W (W1.setCell ⟨p, 0, none⟩ v') p X T e sz m v v' ys := by
 have hm := lb_mod hown hgrow
 have hp1 := lb_amid h1 hTe hown hgrow
 have hset := heap_setCell_same W1 p 0 _ _ v' hp1
 have hms : Mod (fun k => k = p) W1 (W1.setCell ⟨p, 0, none⟩ v') := Mod.setCell (Mod.refl (fun k => k = p) W1) _ (.inr rfl) _
 have hmm : Mod (fun k => k = p ∨ v.ownBlock = some k) W (W1.setCell ⟨p, 0, none⟩ v') := (hm.mono (fun k _ hk => .inr hk)).trans (hms.mono (fun k _ hk => .inl hk))
 have hcl : ∀ k, (k = p ∨ v.ownBlock = some k) → ∃ c t, W.heap[k]? = some (.cells c t (0, 0)) ∧ (t = T ∨ t = e) := fun k hk => by
  rcases hk with rfl | hk
  ·exact ⟨_, _, h1, .inl rfl⟩
  ·obtain ⟨_, cur, q⟩ := row_cells hown hk
   exact ⟨_, _, q, .inr rfl⟩
 refine ⟨by simpa using hset, ?_, hmm, fun B => ⟨hmm.size, fun k o hk ho hc => hmm.keep ho (fun hk' => ?_)⟩, fun Tk hT he => ⟨hmm.size, fun k cs t fz ht hk => hmm.keep hk (fun hk' => ?_)⟩, fun B hB hX => hmm.below (Nat.le_trans hB (Nat.le_of_lt (Array.getElem?_eq_some_iff.1 h1).1)) (fun k hk => ?_)⟩
 ·refine ownsRow_mod hown' hms (fun k hk e' => ?_)
  subst e'
  obtain ⟨_, cur, q⟩ := row_cells hown' hk
  rw [hp1] at q
  cases q
  exact hTe rfl
 ·obtain ⟨c, t, q, _⟩ := hcl k hk'
  rw [ho] at q
  cases q
  cases hc
 ·obtain ⟨c, t', q, q2⟩ := hcl k hk'
  rw [hk] at q
  cases q
  rcases q2 with rfl | rfl
  ·rw [hT] at ht; cases ht
  ·rw [he] at ht; cases ht
 ·rcases hk with rfl | hk
  ·exact hB
  ·have := (row_cells hown hk).1; omega
end
theorem three_cells (w : World) (p q r : Value) (ty : TypeId) : ∀ j u, [p, q, r][j]? = some u → (w.alloc (.cells #[p, q, r] ty)).cell? ((⟨w.heap.size, 0, none⟩ : Addr).add j) = some u := by
 intro j u hj
 match j, hj with
 | 0, hj => simp at hj; subst hj; simp [Addr.add]
 | 1, hj => simp at hj; subst hj; simp [Addr.add]
 | 2, hj => simp at hj; subst hj; simp [Addr.add]
theorem two_cells (w : World) (p q : Value) (ty : TypeId) : ∀ j u, [p, q][j]? = some u → (w.alloc (.cells #[p, q] ty)).cell? ((⟨w.heap.size, 0, none⟩ : Addr).add j) = some u := by
 intro j u hj
 match j, hj with
 | 0, hj => simp at hj; subst hj; simp [Addr.add]
 | 1, hj => simp at hj; subst hj; simp [Addr.add]
def Bs1 (p : Nat) (V W : World) : Prop := Mod (fun k => k = p ∨ V.heap.size ≤ k) V W
theorem Bs1.heap {p : Nat} {V W : World} (h : Bs1 p V W) {k : Nat} {o : Obj} (ho : V.heap[k]? = some o) (hk : ¬ k = p) : W.heap[k]? = some o := h.keep ho (fun e => by
 have := (Array.getElem?_eq_some_iff.1 ho).1
 rcases e with e | e
 ·exact hk e
 ·omega)
theorem Bs1.step {p : Nat} {V W W2 : World} {S : Nat → Prop} (h : Bs1 p V W) (k : Mod S W W2) (hS : ∀ k, S k → k = p ∨ V.heap.size ≤ k) : Bs1 p V W2 := Mod.trans h (k.mono fun k _ hk => hS k hk)
theorem PW.bs1 {E : En} {V W : World} {s : Ps} {p : Nat} {v : Value} (h : PW E V s) (hE : E.ok) (hp : V.heap[p]? = some (.cells #[v] 104 (0, 0))) (hX : E.X ≤ p) (hb : Bs1 p V W) : PW E W s := by
 obtain ⟨vd, vc, vb, mb, h⟩ := h
 have hc : ∀ (g : Nat) (cur : Array Value) (e : TypeId), ¬ e = 104 → V.heap[g]? = some (.cells cur e (0, 0)) → W.heap[g]? = some (.cells cur e (0, 0)) := fun g cur e he hg => hb.heap hg (fun q => by
  subst q
  rw [hp] at hg
  cases hg
  exact he rfl)
 have hXV : E.X ≤ V.heap.size := h.lift hE
 refine ⟨vd, vc, vb, mb, { bel := h.bel.trans (hb.below hXV (fun k hk => by rcases hk with rfl | hk <;> omega)), box := hc _ _ _ (by decide) h.box, dn := ownsRow_of h.dn fun g cur hg => hc g cur 38 (by decide) hg, ch := ownsRow_of h.ch fun g cur hg => hc g cur 132 (by decide) hg, bl := ownsRow_of h.bl fun g cur hg => hc g cur 3 (by decide) hg, mp := ?_, mx := h.mx, le := h.le, tx := h.tx, cb := h.cb, bb := h.bb }⟩
 obtain ⟨n, D, h1, h2⟩ := h.mp
 exact ⟨n, D, ownsMap_of h1 fun es c hg => hb.heap hg (fun q => by subst q; rw [hp] at hg; cases hg), h2⟩
theorem KP.bs1 {a V W : World} {p : Nat} (h : KP a V) (ha : a.heap.size ≤ p) (hb : Bs1 p V W) : KP a W := ⟨Nat.le_trans h.1 hb.size, fun k cs t fz ht hk => hb.heap (h.2 k cs t fz ht hk) (by have := (Array.getElem?_eq_some_iff.1 hk).1; omega), fun k x hk => hb.heap (h.3 k x hk) (by have := (Array.getElem?_eq_some_iff.1 hk).1; omega)⟩
theorem HdB.bs1 {V W : World} {p b : Nat} {h : Nat × Nat} (hh : HdB V b h) (hn : ¬ b = p) (hb : Bs1 p V W) : HdB W b h := hb.heap hh hn
theorem PW.put {E : En} {W : World} {s : Ps} {D : Nat} {x : Option (List Deferred)} (o' : Obj) (h : PW E W s) (hE : E.ok) (hD : W.heap[D]? = some (.deferred x)) (hX : E.X ≤ D) : PW E (W.putObj D o') s := by
 obtain ⟨vd, vc, vb, mb, h⟩ := h
 have hc : ∀ (g : Nat) (o : Obj), (∀ y, ¬ o = .deferred y) → W.heap[g]? = some o → (W.putObj D o').heap[g]? = some o := fun g o ho hg => by
  rw [World.putObj_heap_other (fun e => by
   subst e
   rw [hD] at hg
   cases hg
   exact ho _ rfl)]
  exact hg
 have hcc : ∀ (g : Nat) (cur : Array Value) (e : TypeId), W.heap[g]? = some (.cells cur e (0, 0)) → (W.putObj D o').heap[g]? = some (.cells cur e (0, 0)) := fun g cur e hg => hc g _ (fun y q => by cases q) hg
 refine ⟨vd, vc, vb, mb, { bel := h.bel.trans ?_, box := hcc _ _ _ h.box, dn := ownsRow_of h.dn fun g cur hg => hcc g cur 38 hg, ch := ownsRow_of h.ch fun g cur hg => hcc g cur 132 hg, bl := ownsRow_of h.bl fun g cur hg => hcc g cur 3 hg, mp := ?_, mx := h.mx, le := h.le, tx := h.tx, cb := h.cb, bb := h.bb }⟩
 ·exact ⟨rfl, rfl, rfl, by simp, fun k hk => World.putObj_heap_other (by omega)⟩
 ·obtain ⟨n, Dt, h1, h2⟩ := h.mp
  exact ⟨n, Dt, ownsMap_of h1 fun es c hg => hc _ _ (fun y q => by cases q) hg, h2⟩
theorem KP.put {a W : World} {D : Nat} (o' : Obj) (h : KP a W) (hD : a.heap.size ≤ D) : KP a (W.putObj D o') := ⟨by simpa using h.1, fun k cs t fz ht hk => by
 have hl := (Array.getElem?_eq_some_iff.1 hk).1
 rw [World.putObj_heap_other (by omega)]
 exact h.2 k cs t fz ht hk, fun k x hk => by
 have hl := (Array.getElem?_eq_some_iff.1 hk).1
 rw [World.putObj_heap_other (by omega)]
 exact h.3 k x hk⟩
theorem DcV.put {W : World} {y : Value} {p : List (Bs × Bool)} {D : Nat} {x : Option (List Deferred)} (o' : Obj) (h : DcV W y p) (hD : W.heap[D]? = some (.deferred x)) : DcV (W.putObj D o') y p := by
 obtain ⟨a, c, h1, h0, h2⟩ := h
 refine ⟨a, c, h1, h0, ?_⟩
 rcases h2 with h2 | ⟨b, cur, h3, h4, h5⟩
 ·exact .inl h2
 ·exact .inr ⟨b, cur, h3, by rw [World.putObj_heap_other (fun q => by subst q; rw [hD] at h4; cases h4)]; exact h4, h5⟩
theorem DcV.row {W : World} {v : Value} {X : Nat} {p : List (Bs × Bool)} (h : W.ownsRow X 95 2 v p.length (p.flatMap dcC)) (hn : p.length ≤ 1000000) (hl : ∀ q ∈ p, q.1.length ≤ maxLen) : DcV W v p := by
 rcases h.2 with ⟨rfl, hz⟩ | ⟨g, cap, cur, rfl, hb, hg, rest⟩
 ·exact ⟨none, 0, by rw [hz], ⟨hn, hl⟩, .inl (List.length_eq_zero_iff.1 hz)⟩
 ·refine ⟨_, cap, rfl, ⟨hn, hl⟩, .inr ⟨g, cur, rfl, hg, ?_⟩⟩
  exact rest.2.2.2
theorem PW.decl {E : En} {w : World} {s : Ps} (h : PW E w s) (hE : E.ok) : s.nm.declared.length ≤ 1000000 ∧ ∀ q ∈ s.nm.declared, q.1.length ≤ maxLen := by
 obtain ⟨vd, vc, vb, mb, h⟩ := h
 have h1 := h.cb
 have h2 := hE.len
 refine ⟨?_, fun q hq => h.tx q (List.mem_of_mem_drop hq)⟩
 unfold Ns.declared
 rw [List.length_drop]
 omega
def LbI (V : World) (bL : Nat) (pre : List (Bs × Bool)) (W : World) : Prop := ∃ v, W.heap[bL]? = some (.cells #[v] 104 (0, 0)) ∧ W.ownsRow V.heap.size 95 2 v pre.length (pre.flatMap dcC) ∧ Bs1 bL V W
theorem LbI.mod {V A B : World} {bL : Nat} {pre : List (Bs × Bool)} (h : LbI V bL pre A) (hb : bL < V.heap.size) (hm : Mod (fun k => False ∨ (V.heap.size ≤ k ∧ nc A k)) A B) : LbI V bL pre B := by
 obtain ⟨v, h1, h2, h3⟩ := h
 have hm' : Mod (fun k => V.heap.size ≤ k ∧ nc A k) A B := hm.mono (fun k _ hk => hk.elim (fun h => h.elim) id)
 exact ⟨v, hm'.keep h1 (fun hk => by have := hk.1; omega), own_nc h2 hm', h3.step hm' (fun k hk => .inr hk.1)⟩
theorem LbI.push {V W W2 : World} {bL : Nat} {pre : List (Bs × Bool)} {x : Bs × Bool} {v v' : Value} (h2 : W.ownsRow V.heap.size 95 2 v pre.length (pre.flatMap dcC)) (h3 : Bs1 bL V W) (hp : LbPush W W2 bL V.heap.size 104 95 2 (pre.length + 1) v v' (pre.flatMap dcC ++ dcC x)) : LbI V bL (pre ++ [x]) W2 := by
 refine ⟨v', hp.box, ?_, h3.step hp.mod (fun k hk => ?_)⟩
 ·have := hp.row
  simpa using this
 ·rcases hk with hk | hk
  ·exact .inl hk
  ·exact .inr (row_cells h2 hk).1
theorem K132.kt {w w' : World} (h : KT (fun t => t == 132) w w') : K132 w w' := ⟨h.1, fun k cs fz hk => h.2 k cs 132 fz rfl hk⟩
theorem close_ok {s : Ps} (h : close' s ≠ .out) : ∃ s', close' s = .ok () s' := by
 unfold close' at h ⊢
 split
 ·split
  ·exact ⟨_, rfl⟩
  ·rename_i h1 h2; exact absurd (by rw [h1]; exact if_neg h2) h
 ·rename_i h1; exact absurd (by rw [h1]) h
theorem node_ok {l : List Ct} {k : Nat} {hh : Nat × Nat} {s : Ps} (h : node l k hh s ≠ .out) : ∃ s', node l k hh s = .ok () s' := by
 unfold node at h ⊢
 split
 ·exact ⟨_, rfl⟩
 ·rename_i h1; exact absurd (if_neg h1) h
theorem info95 : (Tryz.prog.info? 95).map (fun i => (i.zero, i.size, i.bytes)) = some (some (.agg #[.string ⟨#[]⟩, .bool false]), 2, 24) := by kernel_rfl
theorem frame_named {c : Code} {Q : Exit → Act → World → Prop} {T : Array Value} {w : World} (h : ∀ T', T = T' → c.wp Tryz.prog Q { tmps := T', defers := [] } w) : c.wp Tryz.prog Q { tmps := T, defers := [] } w := h T rfl
end Go.Proofs.YtlboejdhmggjpaaGreat.Pp

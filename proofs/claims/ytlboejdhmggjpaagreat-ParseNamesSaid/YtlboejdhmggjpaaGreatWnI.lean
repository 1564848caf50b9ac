/- parse: the unit (Parse's closure). -/
import Derived.Test.YtlboejdhmggjpaaGreatWnB
import Derived.Test.YtlboejdhmggjpaaGreatWmH
import Derived.Test.YtlboejdhmggjpaaGreatRfa
import Derived.Test.YtlboejdhmggjpaaGreatPkB
import Derived.Test.YtlboejdhmggjpaaGreatWsA
import Derived.RangeFuncNested
import Derived.RangeFuncBound
import Derived.RangeFuncCalls
import Derived.RangeFuncLeaves
import Derived.RangeFuncBox
import Derived.Shelf.Abstract
import Derived.OwnWalkIn
import Derived.TacticsInMore
import Derived.LoopNIn
import Derived.LoopIn
set_option linter.all false
namespace Go.Proofs.YtlboejdhmggjpaaGreat.Pp
set_option maxRecDepth 100000
set_option maxHeartbeats 16000000
open Go.RowKit Go.BigFrame Go.Proofs.YtlboejdhmggjpaaGreat

theorem w_unit {E : En} (hE : E.ok) (n B : Nat) (s : Ps) (w : World) (hs : s.at' = 0 ∧ s.done = []) (hB : w.heap[B]? = some (.cells #[.pointer (some ⟨E.pb, 0, none⟩)] 68 (0, 0))) (hp : PW E w s) (hne : run E.L E.base n .unit s ≠ .out) : Calls Tryz.prog 31 #[.pointer (some ⟨B, 0, none⟩)] w (EndQ E vaU w (run E.L E.base n .unit s)) := by
 obtain ⟨r, hr⟩ : ∃ r, run E.L E.base n .unit s = r := ⟨_, rfl⟩
 rw [hr] at hne ⊢
 have hhd : here s = .ok (0, 0) s := by show Rs.ok (s.at', s.done.length) s = _; rw [hs.1, hs.2]; rfl
 have h0 := wk_here hE s w hp
 rw [hhd] at h0
 have HN := Hh hne
 have HR0 := Hh hr
 have HB0 := Hh hB
 have H0 := Hh h0
 have cB : w.cell? ⟨B, 0, none⟩ = some (.pointer (some ⟨E.pb, 0, none⟩)) := by simp [World.cell?, hB]
 have HIH := Hh (fun m => walk hE m)
 obtain ⟨NL, hNL⟩ : ∃ NL, E.L.length = NL := ⟨_, rfl⟩
 have HNL := Hh hNL
 clear hne hr hB hp h0 hhd hs hNL
 go_enter Tryz.func31, Tryz.ntmps31
 go_wp2_with fail
 refine H0.out.mono ?_
 rintro e w1 ⟨rfl, hp1, hk1⟩
 obtain ⟨b1, hb1⟩ : ∃ b, w1.heap.size = b := ⟨_, rfl⟩
 have HP1 := Hh (hp1.ext hE (below_alloc w1 (.cells #[.int .i64 0, .int .i64 0] 77)))
 have HK1 := Hh (hk1.trans (KP.of_below (below_alloc w1 (.cells #[.int .i64 0, .int .i64 0] 77))))
 have HH1 := Hh (hb1 ▸ HdB.new w1 (0, 0))
 have hB1 := (hk1.trans (KP.of_below (below_alloc w1 (.cells #[.int .i64 0, .int .i64 0] 77)))).2 _ _ 68 _ rfl HB0.out
 have HB1 := Hh hB1
 clear hp1 hk1 cB hB1
 simp only [hdV]
 go_wp2_with fail
 go_loopg [] n (fun k wr => ∃ s', k ≤ n ∧ run E.L E.base k .unit s' = r ∧ PW E wr s' ∧ KP w wr ∧ HdB wr b1 (0, 0) ∧ wr.heap[B]? = some (.cells #[.pointer (some ⟨E.pb, 0, none⟩)] 68 (0, 0)))
 case atStart => exact ⟨s, Nat.le_refl _, HR0.out, HP1.out, HK1.out, HH1.out, HB1.out⟩
 case round =>
  obtain ⟨s', hgn, hr3, hp3, hk3, hh3, hb3⟩ := hrel
  cases gk with
  | zero => rw [run0] at hr3; exact absurd hr3.symm HN.out
  | succ g =>
   rw [run] at hr3
   have hr4 := qone (x := get') (v := s') (s2 := s') hr3 rfl
   have HP3 := Hh hp3
   have HK3 := Hh hk3
   have HH3 := Hh hh3
   have HB3 := Hh hb3
   have cB : wr.cell? ⟨B, 0, none⟩ = some (.pointer (some ⟨E.pb, 0, none⟩)) := by simp [World.cell?, hb3]
   obtain ⟨vd, vc, vb, mb, hx⟩ := hp3
   obtain ⟨c0, c1, -, -, -, -, -⟩ := hx.cell
   have hle := hx.le
   rw [HNL.out] at c0 hle
   obtain ⟨a, ha⟩ : ∃ a, s'.at' = a := ⟨_, rfl⟩
   rw [ha] at c1 hle
   rcases Nat.lt_or_ge a NL with hlt | hge
   ·have hr5 := q_pos hr4 (by rw [ha, HNL.out]; exact hlt)
    have hl2 : decide (a < NL) = true := decide_eq_true hlt
    have HR5 := Hh hr5
    clear hr3 hr4 hr5 hk3 hh3 hb3 hx hle hlt
    go_wp2_with fail
    go_quiet (fail)
    go_wp2_with fail
    have hpq := HP3.out.ext hE (below_drewN wr.heap.size wr nq)
    have hkq := KP.of_below (below_drewN wr.heap.size wr nq)
    refine ((HIH.out g).f_external _ _ hpq (qne HR5.out HN.out)).mono ?_
    intro e w5 he
    rcases qstep (x := run E.L E.base g .external) HR5.out HN.out (HK3.out.trans hkq) he with ⟨v5, s5, y5, hr6, -, rfl, rfl, hp5, hkk, hk5⟩ | ⟨hr6, ⟨z, rfl⟩, hb5, hk5⟩
    case' inr => exact ⟨rfl, q_no hr6 hb5 hk5⟩
    have HR6 := Hh hr6
    have HP5 := Hh hp5
    have HK5 := Hh hk5
    have HH5 := Hh (HH3.out.kp (hkq.trans hkk))
    have HB5 := Hh ((hkq.trans hkk).2 _ _ 68 _ rfl HB3.out)
    clear he hr6 hp5 hkk hk5 hpq hkq c0 c1 cB
    go_wp2_with fail
    go_roundg g
    case measure => omega
    case rel => exact ⟨s5, by omega, HR6.out, HP5.out, HK5.out, HH5.out, HB5.out⟩
   ·have hr5 := q_neg hr4 (by rw [ha, HNL.out]; omega)
    have hl2 : decide (a < NL) = false := decide_eq_false (by omega)
    have HR5 := Hh hr5
    clear hr3 hr4 hr5 hk3 hh3 hb3 hx hle hge
    obtain ⟨d0, d1⟩ := HH3.out.cells
    go_wp2_with fail
    go_quiet (fail)
    have hpq := HP3.out.ext hE (below_drewN wr.heap.size wr nq)
    have hkq := HK3.out.trans (KP.of_below (below_drewN wr.heap.size wr nq))
    have HPQ := Hh hpq
    have HKQ := Hh hkq
    clear hpq hkq
    go_wp2_with fail
    refine (wk_node hE 1 (0, 0) _ _ HPQ.out (qne HR5.out HN.out)).mono ?_
    intro e w6 he
    rcases qstepR (x := node E.L 1 (0, 0)) HR5.out HN.out HKQ.out he with ⟨v6, s6, hr6, -, rfl, hp6, hkk, hk6⟩ | ⟨hr6, ⟨z, rfl⟩, hb6, hk6⟩
    case' inr => exact ⟨rfl, q_no hr6 hb6 hk6⟩
    have HR6 := Hh (q_pure hr6)
    have HP6 := Hh hp6
    have HK6 := Hh hk6
    clear he hr6 hp6 hkk hk6 c0 c1 cB d0 d1
    go_wp2_with fail
    exact ⟨rfl, .tuple #[], by simp [results, Tryz.results31, go_sem], q_ok HR6.out rfl HP6.out HK6.out⟩
end Go.Proofs.YtlboejdhmggjpaaGreat.Pp

/- WnE -/
namespace Go.Proofs.YtlboejdhmggjpaaGreat.Pp
set_option maxRecDepth 100000
set_option maxHeartbeats 16000000
open Go.RowKit Go.BigFrame Go.Shelf Go.Proofs.YtlboejdhmggjpaaGreat
attribute [local go_sem] Oper.semAt_some

structure K3 (w w' : World) : Prop where
  size : w.heap.size ≤ w'.heap.size
  cells : ∀ (k : Nat) (cs : Array Value) (t : TypeId) (fz : Nat × Nat), t ≠ 3 → w.heap[k]? = some (.cells cs t fz) → w'.heap[k]? = some (.cells cs t fz)
theorem K3.refl (w : World) : K3 w w := ⟨Nat.le_refl _, fun _ _ _ _ _ h => h⟩
theorem K3.trans {a b c : World} (h : K3 a b) (k : K3 b c) : K3 a c := ⟨Nat.le_trans h.1 k.1, fun i cs t fz ht hi => k.2 i cs t fz ht (h.2 i cs t fz ht hi)⟩
theorem K3.of_below {w w' : World} (h : Below w.heap.size w w') : K3 w w' := ⟨h.size, fun k cs t fz _ hk => heap_below h hk (Array.getElem?_eq_some_iff.1 hk).1⟩
theorem K3.putObj {w : World} {l : Nat} {o o' : Obj} (ho : w.heap[l]? = some o) (hc : o.isCells = false) : K3 w (w.putObj l o') := ⟨by simp, fun k cs t fz _ hk => by
  rw [World.putObj_heap_other (fun e => by
    subst e
    rw [ho] at hk
    cases hk
    cases hc)]
  exact hk⟩
def KOk (W : List Nd) : Nat → Nat → Nat → Prop
  | 0, left, _ => left = 0
  | n + 1, left, k => left = 0 ∨ (left ≤ k + 1 ∧ k < W.length ∧ 1 ≤ (W.getD k n0).sz ∧ (W.getD k n0).sz ≤ left ∧ KOk W n (left - (W.getD k n0).sz) (k - (W.getD k n0).sz))
theorem kidL_zero (W : List Nd) (n k : Nat) : kidL W n 0 k = [] := by cases n <;> rfl
theorem KOk.step {W : List Nd} {n left k : Nat} (h : KOk W n left k) (hl : 0 < left) : ∃ m, n = m + 1 ∧ left ≤ k + 1 ∧ k < W.length ∧ 1 ≤ (W.getD k n0).sz ∧ (W.getD k n0).sz ≤ left ∧ KOk W m (left - (W.getD k n0).sz) (k - (W.getD k n0).sz) ∧ kidL W n left k = k :: kidL W m (left - (W.getD k n0).sz) (k - (W.getD k n0).sz) := by
  cases n with
  | zero => exact absurd h (Nat.pos_iff_ne_zero.1 hl)
  | succ m =>
    rcases h with h | ⟨h1, h2, h3, h4, h5⟩
    · omega
    · exact ⟨m, rfl, h1, h2, h3, h4, h5, by conv => lhs; unfold kidL
                                            rw [if_neg (by omega)]⟩
theorem nd_cell {w : World} {X g lc : Nat} {W : List Nd} (h : w.ownsRow X 38 4 (.slice (some ⟨g, 0, none⟩) W.length lc) W.length (W.flatMap ndC)) {i : Nat} (hi : i < W.length) :
    w.cell? ⟨g, i * 4, none⟩ = some (.int .i64 (W.getD i n0).k) ∧ w.cell? ⟨g, i * 4 + 1, none⟩ = some (.int .i64 (W.getD i n0).lo) ∧ w.cell? ⟨g, i * 4 + 2, none⟩ = some (.int .i64 (W.getD i n0).hi) ∧ w.cell? ⟨g, i * 4 + 3, none⟩ = some (.int .i64 (W.getD i n0).sz) := by
  have hg : ∀ j (hj : j < 4), (W.flatMap ndC)[i * 4 + j]? = (ndC (W.getD i n0))[j]? := fun j hj => by
    have e := flat_set 4 ndC (fun _ => rfl) W i (W.getD i n0) hi
    have e2 : W.set i (W.getD i n0) = W := by
      rw [List.getD_eq_getElem?_getD, List.getElem?_eq_getElem hi]
      exact List.set_getElem_self hi
    rw [e2] at e
    have hl : (W.flatMap ndC).length = W.length * 4 := flat_len 4 ndC (fun _ => rfl) W
    rw [← e, List.append_assoc, List.getElem?_append_right (by rw [List.length_take]; omega), List.length_take, hl, Nat.min_eq_left (by omega), show i * 4 + j - i * 4 = j by omega, List.getElem?_append_left (by show j < 4; exact hj)]
  refine ⟨?_, ?_, ?_, ?_⟩
  · rw [h.cellAt _ (by omega)]; exact hg 0 (by omega)
  · rw [h.cellAt _ (by omega)]; exact hg 1 (by omega)
  · rw [h.cellAt _ (by omega)]; exact hg 2 (by omega)
  · rw [h.cellAt _ (by omega)]; exact hg 3 (by omega)
theorem Kd.seq (n B1 B2 X g lc i lf : Nat) (L : List Nd) (w : World) (hX : X ≤ w.heap.size) (h1 : w.heap[B1]? = some (.cells #[.slice (some ⟨g, 0, none⟩) L.length lc] 24 (0, 0))) (h2 : w.heap[B2]? = some (.cells #[.int .i64 i] 3 (0, 0)))
    (hrow : w.ownsRow X 38 4 (.slice (some ⟨g, 0, none⟩) L.length lc) L.length (L.flatMap ndC)) (hi : i < L.length) (hlen : L.length ≤ 1000000) (hsz : (L.getD i n0).sz = lf + 1) (hlf : lf ≤ 1000000) (hko : KOk L lf lf (i - 1)) (hi0 : 0 < lf → 0 < i) :
    SeqG Fence.wide n Tryz.prog 91 #[.pointer (some ⟨B1, 0, none⟩), .pointer (some ⟨B2, 0, none⟩)] (fun k : Nat => #[.int .i64 k]) K3 (fun pre x => ∃ r, kidL L lf lf (i - 1) = pre ++ x :: r) (fun _ => False)
      (fun zs => zs = kidL L lf lf (i - 1)) (fun _ => True) w := fun l J Jx W hW hJ hJx hY hj0 => by
  have g1 := heap_below hW h1 (Array.getElem?_eq_some_iff.1 h1).1
  have g2 := heap_below hW h2 (Array.getElem?_eq_some_iff.1 h2).1
  have hrowW := ownsRow_ext hrow hW
  have c1 : W.cell? ⟨B1, 0, none⟩ = some (.slice (some ⟨g, 0, none⟩) L.length lc) := by simp [World.cell?, g1]
  have c2 : W.cell? ⟨B2, 0, none⟩ = some (.int .i64 i) := by simp [World.cell?, g2]
  obtain ⟨-, -, -, d3⟩ := nd_cell hrowW hi
  rw [hsz] at d3
  obtain ⟨N, hN⟩ : ∃ N, L.length = N := ⟨_, rfl⟩
  rw [hN] at c1 hlen
  have hiN : i < N := by rw [← hN]; exact hi
  have HJ := Hh hJ
  have HY := Hh hY
  have HJ0 := Hh hj0
  have HRC := Hh hrowW
  have HG1 := Hh g1
  have HN := Hh hN
  have HKO := Hh hko
  have HI0 := Hh hi0
  have d1 : ((lf : Int) + 1 - 1) = lf := by omega
  have hz1 : Int.toNat (i : Int) = i := by omega
  clear h1 h2 hJ hJx g1 g2 hY hj0 hko hrow hrowW hsz hN hi hi0
  refine callsIn_of_wp Tryz.func91 rfl trivial ?_ rfl
  simp only [Tryz.ntmps91, List.size_toArray, List.length_cons, List.length_nil, Nat.reduceAdd, Nat.reduceSub, Array.replicate_succ, Array.replicate_zero, List.push_toArray, List.append_toArray, List.nil_append, List.cons_append]
  gi_wp2_with (fail)
  gi_loopw [4, 5] (fun s4 s5 wr => ∃ (pre : List Nat) (m left k : Nat) (z : Int), s4 = .int .i64 left ∧ s5 = .int .i64 z ∧ (0 < left → z = k) ∧ left ≤ lf ∧ -1 ≤ z ∧ z ≤ N ∧ kidL L lf lf (i - 1) = pre ++ kidL L m left k ∧ KOk L m left k ∧ K3 W wr ∧ J pre wr) (fun s4 s5 _ => (intOf s4).toNat)
  case atStart => exact ⟨[], lf, lf, i - 1, _, by go_num, by go_num, fun h => by have := HI0.out h; go_num, Nat.le_refl _, by go_num, by go_num, rfl, HKO.out, K3.refl W, HJ0.out⟩
  case round =>
    obtain ⟨pre, m, left, k, z, rfl, rfl, hz, hll, hzl, hzN, hkd, hkk, hkr, hjr⟩ := hrel
    rcases Nat.eq_zero_or_pos left with h0 | h0
    · subst h0
      rw [kidL_zero, List.append_nil] at hkd
      have HJR := Hh hjr
      have HKD := Hh hkd
      clear hjr hkd hkk hkr hz
      gi_wp2_with (fail)
      go_end0
      exact ⟨⟨_, rfl⟩, .inl ⟨_, HKD.out.symm, HJR.out⟩⟩
    · obtain ⟨m', rfl, q1, q2, q3, q4, q5, q6⟩ := hkk.step h0
      have hzk := hz h0
      subst hzk
      rw [q6] at hkd
      have hrow : wr.ownsRow X 38 4 (.slice (some ⟨g, 0, none⟩) L.length lc) L.length (L.flatMap ndC) := ownsRow_of HRC.out (fun g cur hg => hkr.cells g cur 38 (0, 0) (by decide) hg)
      have e1 := hkr.cells _ _ 24 _ (by decide) HG1.out
      have a1 : wr.cell? ⟨B1, 0, none⟩ = some (.slice (some ⟨g, 0, none⟩) N lc) := by simp [World.cell?, e1, HN.out]
      obtain ⟨-, -, -, a3⟩ := nd_cell hrow q2
      obtain ⟨sz, hs⟩ : ∃ sz, (L.getD k n0).sz = sz := ⟨_, rfl⟩
      rw [hs] at a3 q3 q4 q5 hkd
      rw [HN.out] at q2
      have hgt : decide (0 < left) = true := decide_eq_true h0
      have hw1 : (left : Int) - sz = ((left - sz : Nat) : Int) := by omega
      have hw2 : IntKind.i64.wrap ((k : Int) - sz) = (k : Int) - sz := by go_arith
      obtain ⟨fn1, tm1, as1, bo1, hyy1, hR1⟩ := HY.out pre k _ hjr ⟨_, hkd⟩
      have HKD := Hh hkd
      have HKR := Hh hkr
      have HQ5 := Hh q5
      clear hkd hkr hjr hrow e1 q5 hs q6 hkk hz
      gi_wp2_with (fail)
      refine ⟨(fun hh => by cases hh), hR1.mono ?_⟩
      rintro e W1 (⟨rfl, hJ1, hk1⟩ | ⟨rfl, hx1⟩)
      · have HJ1 := Hh hJ1
        have HK1 := Hh (HKR.out.trans hk1)
        clear hJ1 hk1 hyy1 hR1
        gi_wp2_with (fail)
        go_roundw
        case rel => exact ⟨pre ++ [k], m', left - sz, k - sz, (k : Int) - sz, by go_num, by go_num, fun h => by omega, by omega, by omega, by omega, by rw [HKD.out, List.append_assoc]; rfl, HQ5.out, HK1.out, HJ1.out⟩
        case measure => simp [intOf]; omega
      · have HX1 := Hh hx1
        clear hx1 hyy1 hR1
        gi_wp2_with (fail)
        refine bodyPost_ret (results_none rfl _ _ _) rfl ?_
        exact ⟨⟨_, rfl⟩, .inr ⟨_, trivial, HX1.out⟩⟩
end Go.Proofs.YtlboejdhmggjpaaGreat.Pp

/- WnI -/
namespace Go.Proofs.YtlboejdhmggjpaaGreat.Pp
open Go.RowKit Go.BigFrame Go.Shelf Go.Proofs.YtlboejdhmggjpaaGreat
set_option linter.unusedVariables false
attribute [local go_sem] Oper.semAt_some

/-- Cells between two places stay. -/
structure KR (lo hi : Nat) (w w' : World) : Prop where
  size : w.heap.size ≤ w'.heap.size
  cells : ∀ (k : Nat) (cs : Array Value) (t : TypeId) (fz : Nat × Nat), lo ≤ k → k < hi → w.heap[k]? = some (.cells cs t fz) → w'.heap[k]? = some (.cells cs t fz)
theorem KR.refl (lo hi : Nat) (w : World) : KR lo hi w w := ⟨Nat.le_refl _, fun _ _ _ _ _ _ h => h⟩
theorem KR.trans {lo hi : Nat} {a b c : World} (h : KR lo hi a b) (k : KR lo hi b c) : KR lo hi a c := ⟨Nat.le_trans h.1 k.1, fun i cs t fz h1 h2 hi => k.2 i cs t fz h1 h2 (h.2 i cs t fz h1 h2 hi)⟩
theorem KR.of_below {lo hi : Nat} {w w' : World} (h : Below w.heap.size w w') : KR lo hi w w' := ⟨h.size, fun k cs t fz _ _ hk => heap_below h hk (Array.getElem?_eq_some_iff.1 hk).1⟩
theorem KR.putObj {lo hi : Nat} {w : World} {l : Nat} {o o' : Obj} (ho : w.heap[l]? = some o) (hc : o.isCells = false) : KR lo hi w (w.putObj l o') := ⟨by simp, fun k cs t fz _ _ hk => by
  rw [World.putObj_heap_other (fun e => by
    subst e
    rw [ho] at hk
    cases hk
    cases hc)]
  exact hk⟩
theorem ownsRow_in {w w' : World} {base e size : Nat} {v : Value} {n : Nat} {xs : List Value} (h : w.ownsRow base e size v n xs) (hk : ∀ (g : Nat) (cur : Array Value), v.ownBlock = some g → w.heap[g]? = some (Obj.cells cur e (0, 0)) → w'.heap[g]? = some (Obj.cells cur e (0, 0))) : w'.ownsRow base e size v n xs := by
  refine ⟨h.1, ?_⟩
  rcases h.2 with hn | ⟨g, cap, cur, rfl, hb, hg, rest⟩
  · exact .inl hn
  · exact .inr ⟨g, cap, cur, rfl, hb, hk g cur rfl hg, rest⟩
set_option maxRecDepth 100000 in
set_option maxHeartbeats 8000000 in
theorem Dc.seqR (n B : Nat) {E : En} (hE : E.ok) (s : Ps) (w : World) (hp : PW E w s) (h0 : w.heap[B]? = some (.cells #[.pointer (some ⟨E.pb, 3, none⟩)] 129 (0, 0))) (hk : s.nm.bl.getLast?.getD 0 ≤ s.nm.ch.length) :
    SeqM Fence.wide n Tryz.prog 66 #[.pointer (some ⟨B, 0, none⟩)] (fun p : Bs × Bool => #[.agg #[.string (str p.1), .bool p.2]])  (KR E.X w.heap.size) (fun pre x => ∃ r, s.nm.declared = pre ++ x :: r) (fun _ => False)
      (fun zs => zs = s.nm.declared) (fun _ => True) w := fun l J Jx W hW hJ hJx hY hj0 => by
  obtain ⟨vd, vc, vb, mb, hx0⟩ := hp
  have h := hx0.ext hE hW
  have hgb := hx0.ch.lt
  have g0 := heap_below hW h0 (Array.getElem?_eq_some_iff.1 h0).1
  have cB : W.cell? ⟨B, 0, none⟩ = some (.pointer (some ⟨E.pb, 3, none⟩)) := by simp [World.cell?, g0]
  obtain ⟨-, -, -, -, -, c5, c6⟩ := h.cell
  have hrc := h.ch
  have hrb := h.bl
  have hcb := h.cb
  have hbb := h.bb
  have hLn := hE.len
  obtain ⟨ca, cc, rfl⟩ := row_shape hrc
  obtain ⟨ba, bc, rfl⟩ := row_shape hrb
  have hdl : s.nm.declared = s.nm.ch.drop (s.nm.bl.getLast?.getD 0) := rfl
  obtain ⟨N, hN⟩ : ∃ N, s.nm.ch.length = N := ⟨_, rfl⟩
  obtain ⟨M, hM⟩ : ∃ M, s.nm.bl.length = M := ⟨_, rfl⟩
  obtain ⟨K, hK⟩ : ∃ K, s.nm.bl.getLast?.getD 0 = K := ⟨_, rfl⟩
  rw [hK] at hk hdl
  rw [hN] at hk hrc c5 hcb hgb
  rw [hM] at c6 hrb hbb
  have hNK : s.nm.declared.length = N - K := by rw [hdl, List.length_drop, hN]
  obtain ⟨a', hif⟩ : ∃ a', (if cc = K then ca else ca.map (fun q => q.add (K * 3))) = a' := ⟨_, rfl⟩
  have hcap : N ≤ cc := by
    rcases Nat.eq_zero_or_pos N with e | e
    · omega
    · obtain ⟨_, _, he, _, _, hx⟩ := row_block hrc e
      cases he
      exact hx
  have hadr : ∀ i, i < N - K → ∃ gc, ca = some ⟨gc, 0, none⟩ ∧ a' = some ⟨gc, K * 3, none⟩ := fun i hi => by
    obtain ⟨gc, c', he, _, _, hx⟩ := row_block hrc (by omega)
    cases he
    refine ⟨gc, rfl, ?_⟩
    rw [← hif, if_neg (by omega)]
    simp [Addr.add] <;> omega
  have hN0 : N ≤ 1000000 := by omega
  have hM0 : M ≤ 1000000 := by omega
  have HJ := Lib.hid hJ
  have HY := Lib.hid hY
  have HJ0 := Lib.hid hj0
  have HGB := Lib.hid hgb
  have HRC := Lib.hid hrc
  have HADR := Lib.hid hadr
  have HDL := Lib.hid hdl
  have HNK := Lib.hid hNK
  have HN := Lib.hid hN
  have HGW := Lib.hid (Nat.le_refl W.heap.size)
  clear h0 hJ hJx g0 hY hj0 hx0 hgb h hcb hbb hLn hadr hdl hNK hrc
  rcases Nat.eq_zero_or_pos M with hM1 | hM1
  · subst hM1
    have hK0 : K = 0 := by rw [← hK, List.length_eq_zero_iff.1 hM]; rfl
    subst hK0
    clear hK hM hrb hN
    refine callsIn_of_wp Tryz.func66 rfl trivial ?_ rfl
    simp only [Tryz.ntmps66, List.size_toArray, List.length_cons, List.length_nil, Nat.reduceAdd, Nat.reduceSub, Array.replicate_succ, Array.replicate_zero, List.push_toArray, List.append_toArray, List.nil_append, List.cons_append]
    gi_wp2_with (fail)
    gi_loopw [5, 31] (fun s5 s31 wr => ∃ i : Nat, i ≤ N - 0 ∧ s31 = .int .i64 i ∧ KR E.X w.heap.size W wr ∧ J (s.nm.declared.take i) wr) (fun s5 s31 _ => (N - 0) - (intOf s31).toNat)
    case atStart => exact ⟨0, Nat.zero_le _, rfl, KR.refl _ _ W, by rw [List.take_zero]; exact HJ0.out⟩
    case round =>
      obtain ⟨i, hi, rfl, hkr, hjr⟩ := hrel
      by_cases hlt : i < N - 0
      · have hlt2 : decide (i < N - 0) = true := decide_eq_true hlt
        obtain ⟨gc, hca, ha⟩ := HADR.out i hlt
        have hjn : 0 + i < s.nm.ch.length := by rw [HN.out]; omega
        obtain ⟨q, hq⟩ : ∃ q, s.nm.ch[0 + i]'hjn = q := ⟨_, rfl⟩
        have hrow : wr.ownsRow E.X 132 3 (.slice ca N cc) N (chC s.nm.ch.reverse) := ownsRow_in HRC.out (fun g cur hb hg => hkr.2 g cur 132 (0, 0) (HGB.out g hb).1 (HGB.out g hb).2 hg)
        rw [hca] at hrow
        have hat := chC_at s.nm.ch (0 + i) hjn
        rw [hq] at hat
        have a0 : wr.cell? ⟨gc, i * 3, none⟩ = some (.string (str q.1)) := by rw [show i * 3 = (0 + i) * 3 from by omega, hrow.cellAt _ (by omega)]; exact hat 0 _ rfl
        have a1 : wr.cell? ⟨gc, i * 3 + 1, none⟩ = some (.int .i64 (nwI (nowL (s.nm.ch.take (0 + i)) q.1))) := by rw [show i * 3 = (0 + i) * 3 from by omega, hrow.cellAt _ (by omega)]; exact hat 1 _ rfl
        have a2 : wr.cell? ⟨gc, i * 3 + 2, none⟩ = some (.int .i64 (nwI (some q.2))) := by rw [show i * 3 = (0 + i) * 3 from by omega, hrow.cellAt _ (by omega)]; exact hat 2 _ rfl
        obtain ⟨z1, hz1⟩ : ∃ z1, nwI (nowL (s.nm.ch.take (0 + i)) q.1) = z1 := ⟨_, rfl⟩
        obtain ⟨z2, hz2⟩ : ∃ z2, nwI (some q.2) = z2 := ⟨_, rfl⟩
        obtain ⟨st, hst⟩ : ∃ st : ByteArray, str q.1 = st := ⟨_, rfl⟩
        obtain ⟨bq, hbq⟩ : ∃ b, q.2 = b := ⟨_, rfl⟩
        have hzq : (z2 == 1) = bq := by rw [← hz2, ← hbq]; exact nwI_type _
        rw [hz1] at a1
        rw [hz2] at a2
        rw [hst] at a0
        have hpre : s.nm.declared = s.nm.declared.take i ++ q :: s.nm.declared.drop (i + 1) := by
          have hdi : i < s.nm.declared.length := by rw [HNK.out]; exact hlt
          have hqd : s.nm.declared[i] = q := by simp only [HDL.out]; rw [List.getElem_drop]; exact hq
          rw [← hqd, ← List.drop_eq_getElem_cons hdi, List.take_append_drop]
        have htk : s.nm.declared.take (i + 1) = s.nm.declared.take i ++ [q] := by
          have hdi : i < s.nm.declared.length := by rw [HNK.out]; exact hlt
          have hqd : s.nm.declared[i] = q := by simp only [HDL.out]; rw [List.getElem_drop]; exact hq
          rw [List.take_add_one, List.getElem?_eq_getElem hdi, hqd]; rfl
        have hjw := HJ.out (s.nm.declared.take i) wr (wr.alloc (.cells #[.string st, .int .i64 z1, .int .i64 z2] 132)) hjr (Mod.of_below (below_alloc wr _))
        obtain ⟨fn1, tm1, as1, bo1, hyy1, hR1⟩ := HY.out (s.nm.declared.take i) q _ hjw ⟨_, hpre⟩
        simp only [hst, hbq] at hyy1 hR1
        have HTK := Lib.hid htk
        have HKR := Lib.hid hkr
        clear hkr hjr hrow hat hq hpre htk hjw hz1 hz2 hst hbq hjn ha
        subst hca
        gi_wp2_with (fail)
        refine ⟨(fun hh => by cases hh), hR1.mono ?_⟩
        rintro e W1 (⟨rfl, hJ1, hk1⟩ | ⟨rfl, hx1⟩)
        · have HJ1 := Lib.hid hJ1
          have HK1 := Lib.hid ((HKR.out.trans (KR.of_below (below_alloc wr _))).trans hk1)
          clear hJ1 hk1 hyy1 hR1
          gi_wp2_with (fail)
          go_roundw
          case rel => exact ⟨i + 1, by omega, by go_num, HK1.out, by rw [HTK.out]; exact HJ1.out⟩
          case measure => simp [intOf]; omega
        · have HX1 := Lib.hid hx1
          clear hx1 hyy1 hR1
          gi_wp2_with (fail)
          refine bodyPost_ret (results_none rfl _ _ _) rfl ?_
          exact ⟨⟨_, rfl⟩, .inr ⟨_, trivial, HX1.out⟩⟩
      · have hlt2 : decide (i < N - 0) = false := decide_eq_false hlt
        have hjr2 : J s.nm.declared wr := by rw [List.take_of_length_le (by rw [HNK.out]; omega)] at hjr; exact hjr
        have HJR := Lib.hid hjr2
        clear hjr hjr2 hkr
        gi_wp2_with (fail)
        go_end0
        exact ⟨⟨_, rfl⟩, .inl ⟨_, rfl, HJR.out⟩⟩
  · obtain ⟨m, rfl⟩ : ∃ m, M = m + 1 := ⟨M - 1, by omega⟩
    obtain ⟨gb, _, hbe, _, _, hx⟩ := row_block hrb (by omega)
    cases hbe
    have hbv : W.cell? ⟨gb, m, none⟩ = some (.int .i64 K) := by
      have e := hrb.cellAt m (by omega)
      try rw [Nat.mul_one] at e
      rw [e]
      have hne : s.nm.bl ≠ [] := by intro q; rw [q] at hM; cases hM
      have e2 : s.nm.bl.flatMap inC = (s.nm.bl.dropLast).flatMap inC ++ [.int .i64 K] := by
        conv => lhs; rw [← List.dropLast_concat_getLast hne]
        rw [List.flatMap_append]
        rw [List.getLast?_eq_some_getLast hne, Option.getD_some] at hK
        rw [hK]
        rfl
      rw [e2, List.getElem?_append_right (by rw [flat_len 1 inC (fun _ => rfl)]; simp [hM]), flat_len 1 inC (fun _ => rfl)]
      simp [hM]
    have hx2 : m + 1 ≤ bc := hx
    clear hK hM hrb hN hx hM1
    have d1 : ((m : Int) + 1 - 1) = m := by omega
    have BV := Lib.hid hbv
    refine callsIn_of_wp Tryz.func66 rfl trivial ?_ rfl
    simp only [Tryz.ntmps66, List.size_toArray, List.length_cons, List.length_nil, Nat.reduceAdd, Nat.reduceSub, Array.replicate_succ, Array.replicate_zero, List.push_toArray, List.append_toArray, List.nil_append, List.cons_append]
    gi_wp2_with (fail)
    have u1 : ∀ u : Ext W, u.w.cell? ⟨B, 0, none⟩ = some (.pointer (some ⟨E.pb, 3, none⟩)) := fun u => u.cell cB
    have u6 : ∀ u : Ext W, u.w.cell? ⟨E.pb, 6, none⟩ = some (.slice (some ⟨gb, 0, none⟩) (m + 1) bc) := fun u => u.cell c6
    have ub : ∀ u : Ext W, u.w.cell? ⟨gb, m, none⟩ = some (.int .i64 K) := fun u => u.cell hbv
    refine wpIn_wide.2 ?_
    refine wp_region_quiet (C := fun w' => ∃ u : Ext W, w' = u.w) (by kernel_rfl) (by kernel_rfl) (Ext.drew W) ?_
    dsimp only []
    repeat (go_big_quiet_step (fail))
    refine wpQuiet_nil ?_
    rintro w' ⟨u, rfl⟩
    have v1 := u.cell cB
    have v5 := u.cell c5
    have hj1 := HJ.out [] W u.w HJ0.out (Mod.of_below u.below)
    have hkb := KR.of_below (lo := E.X) (hi := w.heap.size) u.below
    have HJ1 := Lib.hid hj1
    have HKB := Lib.hid hkb
    clear hj1 hkb u1 u6 ub cB c5 c6 hbv d1
    gi_wp2_with (fail)
    gi_loopw [5, 31] (fun s5 s31 wr => ∃ i : Nat, i ≤ N - K ∧ s31 = .int .i64 i ∧ KR E.X w.heap.size W wr ∧ J (s.nm.declared.take i) wr) (fun s5 s31 _ => (N - K) - (intOf s31).toNat)
    case atStart => exact ⟨0, Nat.zero_le _, rfl, HKB.out, by rw [List.take_zero]; exact HJ1.out⟩
    case round =>
      obtain ⟨i, hi, rfl, hkr, hjr⟩ := hrel
      by_cases hlt : i < N - K
      · have hlt2 : decide (i < N - K) = true := decide_eq_true hlt
        obtain ⟨gc, hca, ha⟩ := HADR.out i hlt
        have hjn : K + i < s.nm.ch.length := by rw [HN.out]; omega
        obtain ⟨q, hq⟩ : ∃ q, s.nm.ch[K + i]'hjn = q := ⟨_, rfl⟩
        have hrow : wr.ownsRow E.X 132 3 (.slice ca N cc) N (chC s.nm.ch.reverse) := ownsRow_in HRC.out (fun g cur hb hg => hkr.2 g cur 132 (0, 0) (HGB.out g hb).1 (HGB.out g hb).2 hg)
        rw [hca] at hrow
        have hat := chC_at s.nm.ch (K + i) hjn
        rw [hq] at hat
        have a0 : wr.cell? ⟨gc, K * 3 + i * 3, none⟩ = some (.string (str q.1)) := by rw [show K * 3 + i * 3 = (K + i) * 3 from by omega, hrow.cellAt _ (by omega)]; exact hat 0 _ rfl
        have a1 : wr.cell? ⟨gc, K * 3 + i * 3 + 1, none⟩ = some (.int .i64 (nwI (nowL (s.nm.ch.take (K + i)) q.1))) := by rw [show K * 3 + i * 3 = (K + i) * 3 from by omega, hrow.cellAt _ (by omega)]; exact hat 1 _ rfl
        have a2 : wr.cell? ⟨gc, K * 3 + i * 3 + 2, none⟩ = some (.int .i64 (nwI (some q.2))) := by rw [show K * 3 + i * 3 = (K + i) * 3 from by omega, hrow.cellAt _ (by omega)]; exact hat 2 _ rfl
        obtain ⟨z1, hz1⟩ : ∃ z1, nwI (nowL (s.nm.ch.take (K + i)) q.1) = z1 := ⟨_, rfl⟩
        obtain ⟨z2, hz2⟩ : ∃ z2, nwI (some q.2) = z2 := ⟨_, rfl⟩
        obtain ⟨st, hst⟩ : ∃ st : ByteArray, str q.1 = st := ⟨_, rfl⟩
        obtain ⟨bq, hbq⟩ : ∃ b, q.2 = b := ⟨_, rfl⟩
        have hzq : (z2 == 1) = bq := by rw [← hz2, ← hbq]; exact nwI_type _
        rw [hz1] at a1
        rw [hz2] at a2
        rw [hst] at a0
        have hpre : s.nm.declared = s.nm.declared.take i ++ q :: s.nm.declared.drop (i + 1) := by
          have hdi : i < s.nm.declared.length := by rw [HNK.out]; exact hlt
          have hqd : s.nm.declared[i] = q := by simp only [HDL.out]; rw [List.getElem_drop]; exact hq
          rw [← hqd, ← List.drop_eq_getElem_cons hdi, List.take_append_drop]
        have htk : s.nm.declared.take (i + 1) = s.nm.declared.take i ++ [q] := by
          have hdi : i < s.nm.declared.length := by rw [HNK.out]; exact hlt
          have hqd : s.nm.declared[i] = q := by simp only [HDL.out]; rw [List.getElem_drop]; exact hq
          rw [List.take_add_one, List.getElem?_eq_getElem hdi, hqd]; rfl
        have hjw := HJ.out (s.nm.declared.take i) wr (wr.alloc (.cells #[.string st, .int .i64 z1, .int .i64 z2] 132)) hjr (Mod.of_below (below_alloc wr _))
        obtain ⟨fn1, tm1, as1, bo1, hyy1, hR1⟩ := HY.out (s.nm.declared.take i) q _ hjw ⟨_, hpre⟩
        simp only [hst, hbq] at hyy1 hR1
        have HTK := Lib.hid htk
        have HKR := Lib.hid hkr
        clear hkr hjr hrow hat hq hpre htk hjw hz1 hz2 hst hbq hjn hca
        subst ha
        gi_wp2_with (fail)
        refine ⟨(fun hh => by cases hh), hR1.mono ?_⟩
        rintro e W1 (⟨rfl, hJ1, hk1⟩ | ⟨rfl, hx1⟩)
        · have HJ1 := Lib.hid hJ1
          have HK1 := Lib.hid ((HKR.out.trans (KR.of_below (below_alloc wr _))).trans hk1)
          clear hJ1 hk1 hyy1 hR1
          gi_wp2_with (fail)
          go_roundw
          case rel => exact ⟨i + 1, by omega, by go_num, HK1.out, by rw [HTK.out]; exact HJ1.out⟩
          case measure => simp [intOf]; omega
        · have HX1 := Lib.hid hx1
          clear hx1 hyy1 hR1
          gi_wp2_with (fail)
          refine bodyPost_ret (results_none rfl _ _ _) rfl ?_
          exact ⟨⟨_, rfl⟩, .inr ⟨_, trivial, HX1.out⟩⟩
      · have hlt2 : decide (i < N - K) = false := decide_eq_false hlt
        have hjr2 : J s.nm.declared wr := by rw [List.take_of_length_le (by rw [HNK.out]; omega)] at hjr; exact hjr
        have HJR := Lib.hid hjr2
        clear hjr hjr2 hkr
        gi_wp2_with (fail)
        go_end0
        exact ⟨⟨_, rfl⟩, .inl ⟨_, rfl, HJR.out⟩⟩
end Go.Proofs.YtlboejdhmggjpaaGreat.Pp

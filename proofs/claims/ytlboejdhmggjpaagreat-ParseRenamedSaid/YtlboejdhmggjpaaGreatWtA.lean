/- parse: the unit (Parse's closure). -/
import Derived.Test.YtlboejdhmggjpaaGreatWnB
import Derived.Test.YtlboejdhmggjpaaGreatWmH
import Derived.Test.YtlboejdhmggjpaaGreatRfa
import Derived.Test.YtlboejdhmggjpaaGreatPkB
import Derived.Test.YtlboejdhmggjpaaGreatWkG
set_option linter.all false
namespace Go.Proofs.YtlboejdhmggjpaaGreat.Pp
set_option maxRecDepth 100000
set_option maxHeartbeats 16000000
open Go.RowKit Go.BigFrame Go.Proofs.YtlboejdhmggjpaaGreat

theorem w_unit {E : En} (hE : E.ok) (n B : Nat) (s : Ps) (w : World) (hs : s.at' = 0 ∧ s.done = []) (hB : w.heap[B]? = some (.cells #[.pointer (some ⟨E.pb, 0, none⟩)] 68 (0, 0))) (hp : PW E w s) (hne : run E.L E.base n .unit s ≠ .out) : Calls Tryz.prog 31 #[.pointer (some ⟨B, 0, none⟩)] w (EndQ E vaU w (run E.L E.base n .unit s)) := by
 obtain ⟨r, hr⟩ : ∃ r, run E.L E.base n .unit s = r := ⟨_, rfl⟩
 rw [hr] at hne ⊢
 have hhd : here s = .ok (0, 0) s := by show Rs.ok (s.at', s.done.length) s = _; rw [hs.1, hs.2]; rfl
 have h0 := wk_here hE s w hp
 rw [hhd] at h0
 have HN := Hh hne
 have HR0 := Hh hr
 have HB0 := Hh hB
 have H0 := Hh h0
 have cB : w.cell? ⟨B, 0, none⟩ = some (.pointer (some ⟨E.pb, 0, none⟩)) := by simp [World.cell?, hB]
 have HIH := Hh (fun m => walk hE m)
 obtain ⟨NL, hNL⟩ : ∃ NL, E.L.length = NL := ⟨_, rfl⟩
 have HNL := Hh hNL
 clear hne hr hB hp h0 hhd hs hNL
 go_enter Tryz.func31, Tryz.ntmps31
 go_wp2_with fail
 refine H0.out.mono ?_
 rintro e w1 ⟨rfl, hp1, hk1⟩
 obtain ⟨b1, hb1⟩ : ∃ b, w1.heap.size = b := ⟨_, rfl⟩
 have HP1 := Hh (hp1.ext hE (below_alloc w1 (.cells #[.int .i64 0, .int .i64 0] 77)))
 have HK1 := Hh (hk1.trans (KP.of_below (below_alloc w1 (.cells #[.int .i64 0, .int .i64 0] 77))))
 have HH1 := Hh (hb1 ▸ HdB.new w1 (0, 0))
 have hB1 := (hk1.trans (KP.of_below (below_alloc w1 (.cells #[.int .i64 0, .int .i64 0] 77)))).2 _ _ 68 _ rfl HB0.out
 have HB1 := Hh hB1
 clear hp1 hk1 cB hB1
 simp only [hdV]
 go_wp2_with fail
 go_loopg [] n (fun k wr => ∃ s', k ≤ n ∧ run E.L E.base k .unit s' = r ∧ PW E wr s' ∧ KP w wr ∧ HdB wr b1 (0, 0) ∧ wr.heap[B]? = some (.cells #[.pointer (some ⟨E.pb, 0, none⟩)] 68 (0, 0)))
 case atStart => exact ⟨s, Nat.le_refl _, HR0.out, HP1.out, HK1.out, HH1.out, HB1.out⟩
 case round =>
  obtain ⟨s', hgn, hr3, hp3, hk3, hh3, hb3⟩ := hrel
  cases gk with
  | zero => rw [run0] at hr3; exact absurd hr3.symm HN.out
  | succ g =>
   rw [run] at hr3
   have hr4 := qone (x := get') (v := s') (s2 := s') hr3 rfl
   have HP3 := Hh hp3
   have HK3 := Hh hk3
   have HH3 := Hh hh3
   have HB3 := Hh hb3
   have cB : wr.cell? ⟨B, 0, none⟩ = some (.pointer (some ⟨E.pb, 0, none⟩)) := by simp [World.cell?, hb3]
   obtain ⟨vd, vc, vb, mb, hx⟩ := hp3
   obtain ⟨c0, c1, -, -, -, -, -⟩ := hx.cell
   have hle := hx.le
   rw [HNL.out] at c0 hle
   obtain ⟨a, ha⟩ : ∃ a, s'.at' = a := ⟨_, rfl⟩
   rw [ha] at c1 hle
   rcases Nat.lt_or_ge a NL with hlt | hge
   ·have hr5 := q_pos hr4 (by rw [ha, HNL.out]; exact hlt)
    have hl2 : decide (a < NL) = true := decide_eq_true hlt
    have HR5 := Hh hr5
    clear hr3 hr4 hr5 hk3 hh3 hb3 hx hle hlt
    go_wp2_with fail
    go_quiet (fail)
    go_wp2_with fail
    have hpq := HP3.out.ext hE (below_drewN wr.heap.size wr nq)
    have hkq := KP.of_below (below_drewN wr.heap.size wr nq)
    refine ((HIH.out g).f_external _ _ hpq (qne HR5.out HN.out)).mono ?_
    intro e w5 he
    rcases qstep (x := run E.L E.base g .external) HR5.out HN.out (HK3.out.trans hkq) he with ⟨v5, s5, y5, hr6, -, rfl, rfl, hp5, hkk, hk5⟩ | ⟨hr6, ⟨z, rfl⟩, hb5, hk5⟩
    case' inr => exact ⟨rfl, q_no hr6 hb5 hk5⟩
    have HR6 := Hh hr6
    have HP5 := Hh hp5
    have HK5 := Hh hk5
    have HH5 := Hh (HH3.out.kp (hkq.trans hkk))
    have HB5 := Hh ((hkq.trans hkk).2 _ _ 68 _ rfl HB3.out)
    clear he hr6 hp5 hkk hk5 hpq hkq c0 c1 cB
    go_wp2_with fail
    go_roundg g
    case measure => omega
    case rel => exact ⟨s5, by omega, HR6.out, HP5.out, HK5.out, HH5.out, HB5.out⟩
   ·have hr5 := q_neg hr4 (by rw [ha, HNL.out]; omega)
    have hl2 : decide (a < NL) = false := decide_eq_false (by omega)
    have HR5 := Hh hr5
    clear hr3 hr4 hr5 hk3 hh3 hb3 hx hle hge
    obtain ⟨d0, d1⟩ := HH3.out.cells
    go_wp2_with fail
    go_quiet (fail)
    have hpq := HP3.out.ext hE (below_drewN wr.heap.size wr nq)
    have hkq := HK3.out.trans (KP.of_below (below_drewN wr.heap.size wr nq))
    have HPQ := Hh hpq
    have HKQ := Hh hkq
    clear hpq hkq
    go_wp2_with fail
    refine (wk_node hE 1 (0, 0) _ _ HPQ.out (qne HR5.out HN.out)).mono ?_
    intro e w6 he
    rcases qstepR (x := node E.L 1 (0, 0)) HR5.out HN.out HKQ.out he with ⟨v6, s6, hr6, -, rfl, hp6, hkk, hk6⟩ | ⟨hr6, ⟨z, rfl⟩, hb6, hk6⟩
    case' inr => exact ⟨rfl, q_no hr6 hb6 hk6⟩
    have HR6 := Hh (q_pure hr6)
    have HP6 := Hh hp6
    have HK6 := Hh hk6
    clear he hr6 hp6 hkk hk6 c0 c1 cB d0 d1
    go_wp2_with fail
    exact ⟨rfl, .tuple #[], by simp [results, Tryz.results31, go_sem], q_ok HR6.out rfl HP6.out HK6.out⟩
end Go.Proofs.YtlboejdhmggjpaaGreat.Pp

/- WnE -/
namespace Go.Proofs.YtlboejdhmggjpaaGreat.Pp
set_option maxRecDepth 100000
set_option maxHeartbeats 16000000
open Go.RowKit Go.BigFrame Go.Shelf Go.Proofs.YtlboejdhmggjpaaGreat
attribute [local go_sem] Oper.semAt_some

structure K3 (w w' : World) : Prop where
  size : w.heap.size ≤ w'.heap.size
  cells : ∀ (k : Nat) (cs : Array Value) (t : TypeId) (fz : Nat × Nat), t ≠ 3 → w.heap[k]? = some (.cells cs t fz) → w'.heap[k]? = some (.cells cs t fz)
theorem K3.refl (w : World) : K3 w w := ⟨Nat.le_refl _, fun _ _ _ _ _ h => h⟩
theorem K3.trans {a b c : World} (h : K3 a b) (k : K3 b c) : K3 a c := ⟨Nat.le_trans h.1 k.1, fun i cs t fz ht hi => k.2 i cs t fz ht (h.2 i cs t fz ht hi)⟩
theorem K3.of_below {w w' : World} (h : Below w.heap.size w w') : K3 w w' := ⟨h.size, fun k cs t fz _ hk => heap_below h hk (Array.getElem?_eq_some_iff.1 hk).1⟩
theorem K3.putObj {w : World} {l : Nat} {o o' : Obj} (ho : w.heap[l]? = some o) (hc : o.isCells = false) : K3 w (w.putObj l o') := ⟨by simp, fun k cs t fz _ hk => by
  rw [World.putObj_heap_other (fun e => by
    subst e
    rw [ho] at hk
    cases hk
    cases hc)]
  exact hk⟩
def KOk (W : List Nd) : Nat → Nat → Nat → Prop
  | 0, left, _ => left = 0
  | n + 1, left, k => left = 0 ∨ (left ≤ k + 1 ∧ k < W.length ∧ 1 ≤ (W.getD k n0).sz ∧ (W.getD k n0).sz ≤ left ∧ KOk W n (left - (W.getD k n0).sz) (k - (W.getD k n0).sz))
theorem kidL_zero (W : List Nd) (n k : Nat) : kidL W n 0 k = [] := by cases n <;> rfl
theorem KOk.step {W : List Nd} {n left k : Nat} (h : KOk W n left k) (hl : 0 < left) : ∃ m, n = m + 1 ∧ left ≤ k + 1 ∧ k < W.length ∧ 1 ≤ (W.getD k n0).sz ∧ (W.getD k n0).sz ≤ left ∧ KOk W m (left - (W.getD k n0).sz) (k - (W.getD k n0).sz) ∧ kidL W n left k = k :: kidL W m (left - (W.getD k n0).sz) (k - (W.getD k n0).sz) := by
  cases n with
  | zero => exact absurd h (Nat.pos_iff_ne_zero.1 hl)
  | succ m =>
    rcases h with h | ⟨h1, h2, h3, h4, h5⟩
    · omega
    · exact ⟨m, rfl, h1, h2, h3, h4, h5, by conv => lhs; unfold kidL
                                            rw [if_neg (by omega)]⟩
theorem nd_cell {w : World} {X g lc : Nat} {W : List Nd} (h : w.ownsRow X 38 4 (.slice (some ⟨g, 0, none⟩) W.length lc) W.length (W.flatMap ndC)) {i : Nat} (hi : i < W.length) :
    w.cell? ⟨g, i * 4, none⟩ = some (.int .i64 (W.getD i n0).k) ∧ w.cell? ⟨g, i * 4 + 1, none⟩ = some (.int .i64 (W.getD i n0).lo) ∧ w.cell? ⟨g, i * 4 + 2, none⟩ = some (.int .i64 (W.getD i n0).hi) ∧ w.cell? ⟨g, i * 4 + 3, none⟩ = some (.int .i64 (W.getD i n0).sz) := by
  have hg : ∀ j (hj : j < 4), (W.flatMap ndC)[i * 4 + j]? = (ndC (W.getD i n0))[j]? := fun j hj => by
    have e := flat_set 4 ndC (fun _ => rfl) W i (W.getD i n0) hi
    have e2 : W.set i (W.getD i n0) = W := by
      rw [List.getD_eq_getElem?_getD, List.getElem?_eq_getElem hi]
      exact List.set_getElem_self hi
    rw [e2] at e
    have hl : (W.flatMap ndC).length = W.length * 4 := flat_len 4 ndC (fun _ => rfl) W
    rw [← e, List.append_assoc, List.getElem?_append_right (by rw [List.length_take]; omega), List.length_take, hl, Nat.min_eq_left (by omega), show i * 4 + j - i * 4 = j by omega, List.getElem?_append_left (by show j < 4; exact hj)]
  refine ⟨?_, ?_, ?_, ?_⟩
  · rw [h.cellAt _ (by omega)]; exact hg 0 (by omega)
  · rw [h.cellAt _ (by omega)]; exact hg 1 (by omega)
  · rw [h.cellAt _ (by omega)]; exact hg 2 (by omega)
  · rw [h.cellAt _ (by omega)]; exact hg 3 (by omega)
theorem Kd.seq (n B1 B2 X g lc i lf : Nat) (L : List Nd) (w : World) (hX : X ≤ w.heap.size) (h1 : w.heap[B1]? = some (.cells #[.slice (some ⟨g, 0, none⟩) L.length lc] 24 (0, 0))) (h2 : w.heap[B2]? = some (.cells #[.int .i64 i] 3 (0, 0)))
    (hrow : w.ownsRow X 38 4 (.slice (some ⟨g, 0, none⟩) L.length lc) L.length (L.flatMap ndC)) (hi : i < L.length) (hlen : L.length ≤ 1000000) (hsz : (L.getD i n0).sz = lf + 1) (hlf : lf ≤ 1000000) (hko : KOk L lf lf (i - 1)) (hi0 : 0 < lf → 0 < i) :
    SeqG Fence.wide n Tryz.prog 91 #[.pointer (some ⟨B1, 0, none⟩), .pointer (some ⟨B2, 0, none⟩)] (fun k : Nat => #[.int .i64 k]) K3 (fun pre x => ∃ r, kidL L lf lf (i - 1) = pre ++ x :: r) (fun _ => False)
      (fun zs => zs = kidL L lf lf (i - 1)) (fun _ => True) w := fun l J Jx W hW hJ hJx hY hj0 => by
  have g1 := heap_below hW h1 (Array.getElem?_eq_some_iff.1 h1).1
  have g2 := heap_below hW h2 (Array.getElem?_eq_some_iff.1 h2).1
  have hrowW := ownsRow_ext hrow hW
  have c1 : W.cell? ⟨B1, 0, none⟩ = some (.slice (some ⟨g, 0, none⟩) L.length lc) := by simp [World.cell?, g1]
  have c2 : W.cell? ⟨B2, 0, none⟩ = some (.int .i64 i) := by simp [World.cell?, g2]
  obtain ⟨-, -, -, d3⟩ := nd_cell hrowW hi
  rw [hsz] at d3
  obtain ⟨N, hN⟩ : ∃ N, L.length = N := ⟨_, rfl⟩
  rw [hN] at c1 hlen
  have hiN : i < N := by rw [← hN]; exact hi
  have HJ := Hh hJ
  have HY := Hh hY
  have HJ0 := Hh hj0
  have HRC := Hh hrowW
  have HG1 := Hh g1
  have HN := Hh hN
  have HKO := Hh hko
  have HI0 := Hh hi0
  have d1 : ((lf : Int) + 1 - 1) = lf := by omega
  have hz1 : Int.toNat (i : Int) = i := by omega
  clear h1 h2 hJ hJx g1 g2 hY hj0 hko hrow hrowW hsz hN hi hi0
  refine callsIn_of_wp Tryz.func91 rfl trivial ?_ rfl
  simp only [Tryz.ntmps91, List.size_toArray, List.length_cons, List.length_nil, Nat.reduceAdd, Nat.reduceSub, Array.replicate_succ, Array.replicate_zero, List.push_toArray, List.append_toArray, List.nil_append, List.cons_append]
  gi_wp2_with (fail)
  gi_loopw [4, 5] (fun s4 s5 wr => ∃ (pre : List Nat) (m left k : Nat) (z : Int), s4 = .int .i64 left ∧ s5 = .int .i64 z ∧ (0 < left → z = k) ∧ left ≤ lf ∧ -1 ≤ z ∧ z ≤ N ∧ kidL L lf lf (i - 1) = pre ++ kidL L m left k ∧ KOk L m left k ∧ K3 W wr ∧ J pre wr) (fun s4 s5 _ => (intOf s4).toNat)
  case atStart => exact ⟨[], lf, lf, i - 1, _, by go_num, by go_num, fun h => by have := HI0.out h; go_num, Nat.le_refl _, by go_num, by go_num, rfl, HKO.out, K3.refl W, HJ0.out⟩
  case round =>
    obtain ⟨pre, m, left, k, z, rfl, rfl, hz, hll, hzl, hzN, hkd, hkk, hkr, hjr⟩ := hrel
    rcases Nat.eq_zero_or_pos left with h0 | h0
    · subst h0
      rw [kidL_zero, List.append_nil] at hkd
      have HJR := Hh hjr
      have HKD := Hh hkd
      clear hjr hkd hkk hkr hz
      gi_wp2_with (fail)
      go_end0
      exact ⟨⟨_, rfl⟩, .inl ⟨_, HKD.out.symm, HJR.out⟩⟩
    · obtain ⟨m', rfl, q1, q2, q3, q4, q5, q6⟩ := hkk.step h0
      have hzk := hz h0
      subst hzk
      rw [q6] at hkd
      have hrow : wr.ownsRow X 38 4 (.slice (some ⟨g, 0, none⟩) L.length lc) L.length (L.flatMap ndC) := ownsRow_of HRC.out (fun g cur hg => hkr.cells g cur 38 (0, 0) (by decide) hg)
      have e1 := hkr.cells _ _ 24 _ (by decide) HG1.out
      have a1 : wr.cell? ⟨B1, 0, none⟩ = some (.slice (some ⟨g, 0, none⟩) N lc) := by simp [World.cell?, e1, HN.out]
      obtain ⟨-, -, -, a3⟩ := nd_cell hrow q2
      obtain ⟨sz, hs⟩ : ∃ sz, (L.getD k n0).sz = sz := ⟨_, rfl⟩
      rw [hs] at a3 q3 q4 q5 hkd
      rw [HN.out] at q2
      have hgt : decide (0 < left) = true := decide_eq_true h0
      have hw1 : (left : Int) - sz = ((left - sz : Nat) : Int) := by omega
      have hw2 : IntKind.i64.wrap ((k : Int) - sz) = (k : Int) - sz := by go_arith
      obtain ⟨fn1, tm1, as1, bo1, hyy1, hR1⟩ := HY.out pre k _ hjr ⟨_, hkd⟩
      have HKD := Hh hkd
      have HKR := Hh hkr
      have HQ5 := Hh q5
      clear hkd hkr hjr hrow e1 q5 hs q6 hkk hz
      gi_wp2_with (fail)
      refine ⟨(fun hh => by cases hh), hR1.mono ?_⟩
      rintro e W1 (⟨rfl, hJ1, hk1⟩ | ⟨rfl, hx1⟩)
      · have HJ1 := Hh hJ1
        have HK1 := Hh (HKR.out.trans hk1)
        clear hJ1 hk1 hyy1 hR1
        gi_wp2_with (fail)
        go_roundw
        case rel => exact ⟨pre ++ [k], m', left - sz, k - sz, (k : Int) - sz, by go_num, by go_num, fun h => by omega, by omega, by omega, by omega, by rw [HKD.out, List.append_assoc]; rfl, HQ5.out, HK1.out, HJ1.out⟩
        case measure => simp [intOf]; omega
      · have HX1 := Hh hx1
        clear hx1 hyy1 hR1
        gi_wp2_with (fail)
        refine bodyPost_ret (results_none rfl _ _ _) rfl ?_
        exact ⟨⟨_, rfl⟩, .inr ⟨_, trivial, HX1.out⟩⟩
end Go.Proofs.YtlboejdhmggjpaaGreat.Pp

/- WtA -/
namespace Go.Proofs.YtlboejdhmggjpaaGreat.Ct
set_option maxRecDepth 100000
set_option maxHeartbeats 16000000
open Go.RowKit Go.BigFrame Go.Proofs.YtlboejdhmggjpaaGreat Go.Proofs.YtlboejdhmggjpaaGreat.Pp

def kws : List Bs := [[97, 117, 116, 111], [98, 114, 101, 97, 107], [99, 97, 115, 101], [99, 104, 97, 114], [99, 111, 110, 115, 116], [99, 111, 110, 116, 105, 110, 117, 101], [100, 101, 102, 97, 117, 108, 116], [100, 111], [100, 111, 117, 98, 108, 101], [101, 108, 115, 101], [101, 110, 117, 109], [101, 120, 116, 101, 114, 110], [102, 108, 111, 97, 116], [102, 111, 114], [103, 111, 116, 111], [105, 102], [105, 110, 108, 105, 110, 101], [105, 110, 116], [108, 111, 110, 103], [114, 101, 103, 105, 115, 116, 101, 114], [114, 101, 115, 116, 114, 105, 99, 116], [114, 101, 116, 117, 114, 110], [115, 104, 111, 114, 116], [115, 105, 103, 110, 101, 100], [115, 105, 122, 101, 111, 102], [115, 116, 97, 116, 105, 99], [115, 116, 114, 117, 99, 116], [115, 119, 105, 116, 99, 104], [116, 121, 112, 101, 100, 101, 102], [117, 110, 105, 111, 110], [117, 110, 115, 105, 103, 110, 101, 100], [118, 111, 105, 100], [118, 111, 108, 97, 116, 105, 108, 101], [119, 104, 105, 108, 101], [95, 65, 108, 105, 103, 110, 97, 115], [95, 65, 108, 105, 103, 110, 111, 102], [95, 65, 116, 111, 109, 105, 99], [95, 66, 111, 111, 108], [95, 67, 111, 109, 112, 108, 101, 120], [95, 71, 101, 110, 101, 114, 105, 99], [95, 73, 109, 97, 103, 105, 110, 97, 114, 121], [95, 78, 111, 114, 101, 116, 117, 114, 110], [95, 83, 116, 97, 116, 105, 99, 95, 97, 115, 115, 101, 114, 116], [95, 84, 104, 114, 101, 97, 100, 95, 108, 111, 99, 97, 108]]
def isKw (t : Bs) : Bool := kws.contains t
theorem str_eqb (t l : Bs) : ((str t).toList == l) = (t == l) := by
 by_cases h : t = l
 ·rw [str_is h, beq_iff_eq.2 h]
 ·rw [str_no h, beq_eq_false_iff_ne.2 h]
def canon (t : Bs) : Bs :=
 if t = [60, 58] then [91] else if t = [58, 62] then [93] else if t = [60, 37] then [123] else if t = [37, 62] then [125] else if t = [37, 58] then [35] else if t = [37, 58, 37, 58] then [35, 35] else t
theorem keywordF (t : Bs) (w : World) : Calls Tryz.prog 110 #[.string (str t)] w fun e w' => e = .returned (.bool (isKw t)) ∧ w' = w := by
 obtain ⟨b0, h0⟩ : ∃ b, ((str t).toList == [97, 117, 116, 111]) = b := ⟨_, rfl⟩
 obtain ⟨b1, h1⟩ : ∃ b, ((str t).toList == [98, 114, 101, 97, 107]) = b := ⟨_, rfl⟩
 obtain ⟨b2, h2⟩ : ∃ b, ((str t).toList == [99, 97, 115, 101]) = b := ⟨_, rfl⟩
 obtain ⟨b3, h3⟩ : ∃ b, ((str t).toList == [99, 104, 97, 114]) = b := ⟨_, rfl⟩
 obtain ⟨b4, h4⟩ : ∃ b, ((str t).toList == [99, 111, 110, 115, 116]) = b := ⟨_, rfl⟩
 obtain ⟨b5, h5⟩ : ∃ b, ((str t).toList == [99, 111, 110, 116, 105, 110, 117, 101]) = b := ⟨_, rfl⟩
 obtain ⟨b6, h6⟩ : ∃ b, ((str t).toList == [100, 101, 102, 97, 117, 108, 116]) = b := ⟨_, rfl⟩
 obtain ⟨b7, h7⟩ : ∃ b, ((str t).toList == [100, 111]) = b := ⟨_, rfl⟩
 obtain ⟨b8, h8⟩ : ∃ b, ((str t).toList == [100, 111, 117, 98, 108, 101]) = b := ⟨_, rfl⟩
 obtain ⟨b9, h9⟩ : ∃ b, ((str t).toList == [101, 108, 115, 101]) = b := ⟨_, rfl⟩
 obtain ⟨b10, h10⟩ : ∃ b, ((str t).toList == [101, 110, 117, 109]) = b := ⟨_, rfl⟩
 obtain ⟨b11, h11⟩ : ∃ b, ((str t).toList == [101, 120, 116, 101, 114, 110]) = b := ⟨_, rfl⟩
 obtain ⟨b12, h12⟩ : ∃ b, ((str t).toList == [102, 108, 111, 97, 116]) = b := ⟨_, rfl⟩
 obtain ⟨b13, h13⟩ : ∃ b, ((str t).toList == [102, 111, 114]) = b := ⟨_, rfl⟩
 obtain ⟨b14, h14⟩ : ∃ b, ((str t).toList == [103, 111, 116, 111]) = b := ⟨_, rfl⟩
 obtain ⟨b15, h15⟩ : ∃ b, ((str t).toList == [105, 102]) = b := ⟨_, rfl⟩
 obtain ⟨b16, h16⟩ : ∃ b, ((str t).toList == [105, 110, 108, 105, 110, 101]) = b := ⟨_, rfl⟩
 obtain ⟨b17, h17⟩ : ∃ b, ((str t).toList == [105, 110, 116]) = b := ⟨_, rfl⟩
 obtain ⟨b18, h18⟩ : ∃ b, ((str t).toList == [108, 111, 110, 103]) = b := ⟨_, rfl⟩
 obtain ⟨b19, h19⟩ : ∃ b, ((str t).toList == [114, 101, 103, 105, 115, 116, 101, 114]) = b := ⟨_, rfl⟩
 obtain ⟨b20, h20⟩ : ∃ b, ((str t).toList == [114, 101, 115, 116, 114, 105, 99, 116]) = b := ⟨_, rfl⟩
 obtain ⟨b21, h21⟩ : ∃ b, ((str t).toList == [114, 101, 116, 117, 114, 110]) = b := ⟨_, rfl⟩
 obtain ⟨b22, h22⟩ : ∃ b, ((str t).toList == [115, 104, 111, 114, 116]) = b := ⟨_, rfl⟩
 obtain ⟨b23, h23⟩ : ∃ b, ((str t).toList == [115, 105, 103, 110, 101, 100]) = b := ⟨_, rfl⟩
 obtain ⟨b24, h24⟩ : ∃ b, ((str t).toList == [115, 105, 122, 101, 111, 102]) = b := ⟨_, rfl⟩
 obtain ⟨b25, h25⟩ : ∃ b, ((str t).toList == [115, 116, 97, 116, 105, 99]) = b := ⟨_, rfl⟩
 obtain ⟨b26, h26⟩ : ∃ b, ((str t).toList == [115, 116, 114, 117, 99, 116]) = b := ⟨_, rfl⟩
 obtain ⟨b27, h27⟩ : ∃ b, ((str t).toList == [115, 119, 105, 116, 99, 104]) = b := ⟨_, rfl⟩
 obtain ⟨b28, h28⟩ : ∃ b, ((str t).toList == [116, 121, 112, 101, 100, 101, 102]) = b := ⟨_, rfl⟩
 obtain ⟨b29, h29⟩ : ∃ b, ((str t).toList == [117, 110, 105, 111, 110]) = b := ⟨_, rfl⟩
 obtain ⟨b30, h30⟩ : ∃ b, ((str t).toList == [117, 110, 115, 105, 103, 110, 101, 100]) = b := ⟨_, rfl⟩
 obtain ⟨b31, h31⟩ : ∃ b, ((str t).toList == [118, 111, 105, 100]) = b := ⟨_, rfl⟩
 obtain ⟨b32, h32⟩ : ∃ b, ((str t).toList == [118, 111, 108, 97, 116, 105, 108, 101]) = b := ⟨_, rfl⟩
 obtain ⟨b33, h33⟩ : ∃ b, ((str t).toList == [119, 104, 105, 108, 101]) = b := ⟨_, rfl⟩
 obtain ⟨b34, h34⟩ : ∃ b, ((str t).toList == [95, 65, 108, 105, 103, 110, 97, 115]) = b := ⟨_, rfl⟩
 obtain ⟨b35, h35⟩ : ∃ b, ((str t).toList == [95, 65, 108, 105, 103, 110, 111, 102]) = b := ⟨_, rfl⟩
 obtain ⟨b36, h36⟩ : ∃ b, ((str t).toList == [95, 65, 116, 111, 109, 105, 99]) = b := ⟨_, rfl⟩
 obtain ⟨b37, h37⟩ : ∃ b, ((str t).toList == [95, 66, 111, 111, 108]) = b := ⟨_, rfl⟩
 obtain ⟨b38, h38⟩ : ∃ b, ((str t).toList == [95, 67, 111, 109, 112, 108, 101, 120]) = b := ⟨_, rfl⟩
 obtain ⟨b39, h39⟩ : ∃ b, ((str t).toList == [95, 71, 101, 110, 101, 114, 105, 99]) = b := ⟨_, rfl⟩
 obtain ⟨b40, h40⟩ : ∃ b, ((str t).toList == [95, 73, 109, 97, 103, 105, 110, 97, 114, 121]) = b := ⟨_, rfl⟩
 obtain ⟨b41, h41⟩ : ∃ b, ((str t).toList == [95, 78, 111, 114, 101, 116, 117, 114, 110]) = b := ⟨_, rfl⟩
 obtain ⟨b42, h42⟩ : ∃ b, ((str t).toList == [95, 83, 116, 97, 116, 105, 99, 95, 97, 115, 115, 101, 114, 116]) = b := ⟨_, rfl⟩
 obtain ⟨b43, h43⟩ : ∃ b, ((str t).toList == [95, 84, 104, 114, 101, 97, 100, 95, 108, 111, 99, 97, 108]) = b := ⟨_, rfl⟩
 have hk : isKw t = (b0 || b1 || b2 || b3 || b4 || b5 || b6 || b7 || b8 || b9 || b10 || b11 || b12 || b13 || b14 || b15 || b16 || b17 || b18 || b19 || b20 || b21 || b22 || b23 || b24 || b25 || b26 || b27 || b28 || b29 || b30 || b31 || b32 || b33 || b34 || b35 || b36 || b37 || b38 || b39 || b40 || b41 || b42 || b43) := by
  rw [← h0, ← h1, ← h2, ← h3, ← h4, ← h5, ← h6, ← h7, ← h8, ← h9, ← h10, ← h11, ← h12, ← h13, ← h14, ← h15, ← h16, ← h17, ← h18, ← h19, ← h20, ← h21, ← h22, ← h23, ← h24, ← h25, ← h26, ← h27, ← h28, ← h29, ← h30, ← h31, ← h32, ← h33, ← h34, ← h35, ← h36, ← h37, ← h38, ← h39, ← h40, ← h41, ← h42, ← h43]
  simp only [str_eqb, isKw, kws, List.contains_cons, List.contains_nil, Bool.or_false, Bool.or_assoc]
 obtain ⟨st, hst⟩ : ∃ st : ByteArray, str t = st := ⟨_, rfl⟩
 rw [hk, hst]
 simp only [hst] at h0 h1 h2 h3 h4 h5 h6 h7 h8 h9 h10 h11 h12 h13 h14 h15 h16 h17 h18 h19 h20 h21 h22 h23 h24 h25 h26 h27 h28 h29 h30 h31 h32 h33 h34 h35 h36 h37 h38 h39 h40 h41 h42 h43
 clear hk hst
 go_enter Tryz.func110, Tryz.ntmps110
 go_wp2_with fail
 all_goals (go_ret; exact ⟨by simp_all, rfl⟩)
theorem canonF (t : Bs) (w : World) : Calls Tryz.prog 115 #[.string (str t)] w fun e w' => e = .returned (.string (str (canon t))) ∧ w' = w := by
 unfold canon
 by_cases h0 : t = [60, 58]
 ·rw [if_pos h0]
  have q0 := str_is h0
  obtain ⟨st, hst⟩ : ∃ st : ByteArray, str t = st := ⟨_, rfl⟩
  rw [hst] at q0
  rw [hst]
  clear hst h0
  go_enter Tryz.func115, Tryz.ntmps115
  go_wp2_with fail
  go_ret
  exact ⟨rfl, rfl⟩
 by_cases h1 : t = [58, 62]
 ·rw [if_neg h0, if_pos h1]
  have q0 := str_no h0
  have q1 := str_is h1
  obtain ⟨st, hst⟩ : ∃ st : ByteArray, str t = st := ⟨_, rfl⟩
  rw [hst] at q0 q1
  rw [hst]
  clear hst h0 h1
  go_enter Tryz.func115, Tryz.ntmps115
  go_wp2_with fail
  go_ret
  exact ⟨rfl, rfl⟩
 by_cases h2 : t = [60, 37]
 ·rw [if_neg h0, if_neg h1, if_pos h2]
  have q0 := str_no h0
  have q1 := str_no h1
  have q2 := str_is h2
  obtain ⟨st, hst⟩ : ∃ st : ByteArray, str t = st := ⟨_, rfl⟩
  rw [hst] at q0 q1 q2
  rw [hst]
  clear hst h0 h1 h2
  go_enter Tryz.func115, Tryz.ntmps115
  go_wp2_with fail
  go_ret
  exact ⟨rfl, rfl⟩
 by_cases h3 : t = [37, 62]
 ·rw [if_neg h0, if_neg h1, if_neg h2, if_pos h3]
  have q0 := str_no h0
  have q1 := str_no h1
  have q2 := str_no h2
  have q3 := str_is h3
  obtain ⟨st, hst⟩ : ∃ st : ByteArray, str t = st := ⟨_, rfl⟩
  rw [hst] at q0 q1 q2 q3
  rw [hst]
  clear hst h0 h1 h2 h3
  go_enter Tryz.func115, Tryz.ntmps115
  go_wp2_with fail
  go_ret
  exact ⟨rfl, rfl⟩
 by_cases h4 : t = [37, 58]
 ·rw [if_neg h0, if_neg h1, if_neg h2, if_neg h3, if_pos h4]
  have q0 := str_no h0
  have q1 := str_no h1
  have q2 := str_no h2
  have q3 := str_no h3
  have q4 := str_is h4
  obtain ⟨st, hst⟩ : ∃ st : ByteArray, str t = st := ⟨_, rfl⟩
  rw [hst] at q0 q1 q2 q3 q4
  rw [hst]
  clear hst h0 h1 h2 h3 h4
  go_enter Tryz.func115, Tryz.ntmps115
  go_wp2_with fail
  go_ret
  exact ⟨rfl, rfl⟩
 by_cases h5 : t = [37, 58, 37, 58]
 ·rw [if_neg h0, if_neg h1, if_neg h2, if_neg h3, if_neg h4, if_pos h5]
  have q0 := str_no h0
  have q1 := str_no h1
  have q2 := str_no h2
  have q3 := str_no h3
  have q4 := str_no h4
  have q5 := str_is h5
  obtain ⟨st, hst⟩ : ∃ st : ByteArray, str t = st := ⟨_, rfl⟩
  rw [hst] at q0 q1 q2 q3 q4 q5
  rw [hst]
  clear hst h0 h1 h2 h3 h4 h5
  go_enter Tryz.func115, Tryz.ntmps115
  go_wp2_with fail
  go_ret
  exact ⟨rfl, rfl⟩
 rw [if_neg h0, if_neg h1, if_neg h2, if_neg h3, if_neg h4, if_neg h5]
 have q0 := str_no h0
 have q1 := str_no h1
 have q2 := str_no h2
 have q3 := str_no h3
 have q4 := str_no h4
 have q5 := str_no h5
 obtain ⟨st, hst⟩ : ∃ st : ByteArray, str t = st := ⟨_, rfl⟩
 rw [hst] at q0 q1 q2 q3 q4 q5
 rw [hst]
 clear hst h0 h1 h2 h3 h4 h5
 go_enter Tryz.func115, Tryz.ntmps115
 go_wp2_with fail
 go_ret
 exact ⟨rfl, rfl⟩
end Go.Proofs.YtlboejdhmggjpaaGreat.Ct

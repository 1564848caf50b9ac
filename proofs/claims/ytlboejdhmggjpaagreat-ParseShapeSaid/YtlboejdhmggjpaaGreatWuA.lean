/- The law ParseShape. -/
import Derived.Test.YtlboejdhmggjpaaGreatWtE
set_option linter.all false
namespace Go.Proofs.YtlboejdhmggjpaaGreat.Pp
set_option maxRecDepth 100000
set_option maxHeartbeats 16000000
open Go.RowKit Go.BigFrame Go.Proofs.YtlboejdhmggjpaaGreat

theorem parseP_some {L : List Ct} {base : Bs → Bool} {P : List Nd} (h : parseP L base = some P) : ∃ v s, run L base (fu L) .unit s0 = .ok v s ∧ P = aheadP s.done := by
 unfold parseP at h
 cases hr : run L base (fu L) .unit s0 with
 | ok v s => rw [hr] at h; exact ⟨v, s, rfl, (Option.some.inj h).symm⟩
 | no => rw [hr] at h; cases h
 | out => rw [hr] at h; cases h
theorem unit_tree {L : List Ct} {base : Bs → Bool} {P : List Nd} (h : parseP L base = some P) : Fp 0 L.length P ∧ P.length ≤ 4 * L.length + 1 ∧ ∃ R, P = ⟨1, 0, L.length, P.length⟩ :: R := by
 obtain ⟨v, s, hr, rfl⟩ := parseP_some h
 obtain ⟨ht, hat, K, hK⟩ := (unit_good L base).2 v s hr
 obtain ⟨-, h1, h2, h3, k, K', e1, R, hR⟩ := ht.ahead
 rw [hat] at h2 e1 hR
 refine ⟨h2, by rw [h3]; exact ht.len, R, ?_⟩
 have e2 : K = K' ∧ k = 1 := by
  rw [hK] at e1
  obtain ⟨a, b⟩ := List.append_inj' e1 rfl
  simp only [List.cons.injEq, Nd.mk.injEq, and_true, true_and] at b
  exact ⟨a, b.1.symm⟩
 have e3 : (aheadP s.done).length = K'.length + 1 := by rw [h3, e1]; simp
 conv => lhs; rw [hR]
 rw [e2.2, e3]
theorem nd_neq (a b c d : Int) (w : World) : (binOp .neq 38 (.agg #[.int .i64 a, .int .i64 b, .int .i64 c, .int .i64 d]) (.agg #[.int .i64 a, .int .i64 b, .int .i64 c, .int .i64 d])).run Tryz.prog w = .ok (.bool false) w := by
 simp [go_sem]
theorem Fp.inv {a b : Nat} {L : List Nd} (h : Fp a b L) : L = [] ∨ ∃ lo hi k K R, L = ⟨k, lo, hi, K.length + 1⟩ :: (K ++ R) ∧ a ≤ lo ∧ lo ≤ hi ∧ hi ≤ b ∧ Fp hi b R := by
 cases h with
 | nil h => exact .inl rfl
 | cons h2 h3 h4 h5 => exact .inr ⟨_, _, _, _, _, rfl, h2, h3.le, h5.le, h5⟩
theorem law_shape (L : List Ct) (la : Option Addr) (lc : Nat) (w : World) (hm : Ww.Mx w) (hrow : RowAt 2 ctC w la L) (htx : ∀ t ∈ L, t.t.length ≤ maxLen) (hbig : L.length ≤ 9223372036854775807) :
  Calls Tryz.prog 5 #[.slice la L.length lc] w fun e w' => e = .returned (.bool true) ∧ Below w.heap.size w w' := by
 obtain ⟨n, hn⟩ : ∃ n, L.length = n := ⟨_, rfl⟩
 have HM := Hh hm
 have HROW := Hh hrow
 have HTX := Hh htx
 have HN := Hh hn
 rw [hn] at hbig ⊢
 clear hm hrow htx hn
 have NE := nd_neq
 go_enter Tryz.func5, Tryz.ntmps5
 go_wp2_with fail
 refine (wk_alive w HM.out).mono ?_
 rintro e w1 ⟨rfl, hb1⟩
 have HB1 := Hh hb1
 clear hb1
 by_cases h3 : 3000 < n
 ·have h3d : decide ((3000 : Int) < n) = true := decide_eq_true (by omega)
  go_wp2_with fail
  go_ret
  exact ⟨rfl, HB1.out⟩
 have h3d : decide ((3000 : Int) < n) = false := decide_eq_false (by omega)
 have hp := wk_Parse L la lc w1 (HROW.out.below HB1.out (Nat.le_refl _) HB1.out.size) (by rw [HN.out]; omega) HTX.out
 rw [HN.out] at hp
 have HP := Hh hp
 clear hp
 go_wp2_with fail
 refine HP.out.mono ?_
 rintro e w2 ⟨v, z, rfl, hb2, ⟨-, rfl, rfl⟩ | ⟨-, -, rfl, rfl⟩ | ⟨P, -, hpp, rfl, hown⟩⟩
 ·have HB2 := Hh (HB1.out.trans (hb2.mono HB1.out.size))
  clear hb2
  go_wp2_with fail
  go_ret
  exact ⟨rfl, HB2.out⟩
 ·have HB2 := Hh (HB1.out.trans (hb2.mono HB1.out.size))
  clear hb2
  go_wp2_with fail
  go_ret
  exact ⟨rfl, HB2.out⟩
 have HB2 := Hh (HB1.out.trans (hb2.mono HB1.out.size))
 obtain ⟨hfp, hpl, R0, hP0⟩ := unit_tree hpp
 obtain ⟨g, gc, rfl, hg1, hg2, hg3⟩ := row_block hown (by rw [hP0]; simp)
 obtain ⟨N, hN⟩ : ∃ N, P.length = N := ⟨_, rfl⟩
 have q0 := nd_cell hown (i := 0) (by rw [hP0]; simp)
 have hr0 : P.getD 0 n0 = ⟨1, 0, n, N⟩ := by rw [hP0, ← hN, ← HN.out]; rfl
 rw [hr0] at q0
 obtain ⟨c0, c1, c2, c3⟩ := q0
 have hpos : 0 < N := by rw [← hN, hP0]; simp
 have hNb : N ≤ 12001 := by rw [← hN]; have := HN.out; omega
 simp only [Nat.zero_mul, Nat.zero_add] at c0 c1 c2 c3
 have HFP := Hh hfp
 have HOWN := Hh hown
 have HNN := Hh hN
 have hz0 : ((0 : Nat) : Int) = 0 := rfl
 have hz1 : ((1 : Nat) : Int) = 1 := rfl
 rw [hz0] at c1
 rw [hz1] at c0
 have hbt : Tryz.prog.built 38 [(0, Value.int .i64 1), (2, Value.int .i64 n), (3, Value.int .i64 N)] = some #[.int .i64 1, .int .i64 0, .int .i64 n, .int .i64 N] := by kernel_rfl
 rw [hN]
 have hN0 : ((N : Int) == 0) = false := by rw [beq_eq_false_iff_ne]; omega
 clear hb2 hfp hpl hP0 hown hg1 hg2 hg3 hN hr0 hpp hz0 hz1 HP
 go_wp2_with (first | (refine wpList_build rfl 38 _ rfl (by simp [Act.eval, hbt]) ?_) | fail)
 clear c0 c1 c2 c3 hbt NE
 go_loopw [6] (fun s6 wr => ∃ i : Nat, s6 = .int .i64 i ∧ i ≤ N ∧ Below w2.heap.size w2 wr) (fun s6 _ => N - (intOf s6).toNat)
 case atStart => exact ⟨0, rfl, Nat.zero_le _, Below.refl _ _⟩
 case round =>
  obtain ⟨i, rfl, hi, hb⟩ := hrel
  have HBR := Hh hb
  by_cases hlt : i < N
  ·have hiP : i < P.length := by rw [HNN.out]; exact hlt
   have hlt2 : decide (i < N) = true := decide_eq_true hlt
   obtain ⟨X, r, K, R, hPe, hX, hrs, hfr, hk1, hk58⟩ := HFP.out.at' i hiP
   have hri : P.getD i n0 = r := getD_mid P i hPe hX.symm
   have hrow := ownsRow_ext HOWN.out hb
   rw [HNN.out] at hrow
   have hnc := nd_cell (W := P) (by rw [HNN.out]; exact hrow) hiP
   rw [hri] at hnc
   obtain ⟨a0, a1, a2, a3⟩ := hnc
   obtain ⟨rk, rlo, rhi, rsz⟩ := r
   simp only at a0 a1 a2 a3 hrs hfr hk1 hk58
   have hNsz : N = i + 1 + K.length + R.length := by rw [← HNN.out, hPe]; simp [hX]; omega
   have hfl := hfr.le
   have HPE := Hh hPe
   have HX := Hh hX
   have HFR := Hh hfr
   have HRS := Hh hrs
   have HROW := Hh hrow
   have HNZ := Hh hNsz
   have HFL := Hh hfl
   have hsb : i + rsz ≤ N := by omega
   clear hPe hX hri hrow hfr hb hrs hNsz hfl
   have hki : decide ((rk : Int) < 1) = false := decide_eq_false (by omega)
   have hki2 : decide ((58 : Int) < rk) = false := decide_eq_false (by omega)
   go_wp2_with fail
   rename World => wx
   go_loopw [7, 8] (fun s7 s8 wr => ∃ (d rest : List Nd) (at' k : Nat), s7 = .int .i64 at' ∧ s8 = .int .i64 k ∧ K = d ++ rest ∧ k = i + 1 + d.length ∧ Fp at' rhi rest ∧ Below w2.heap.size w2 wr) (fun _ s8 _ => N - (intOf s8).toNat)
   case atStart => exact ⟨[], K, rlo, i + 1, rfl, by go_num, rfl, rfl, HFR.out, HBR.out⟩
   case round =>
    obtain ⟨d, rest, at', k, rfl, rfl, hK, hk, hfr, hb⟩ := hrel
    have HB3 := Hh hb
    have hrow := ownsRow_ext HOWN.out hb
    rw [HNN.out] at hrow
    have hnci := nd_cell (W := P) (by rw [HNN.out]; exact hrow) hiP
    have hri : P.getD i n0 = ⟨rk, rlo, rhi, rsz⟩ := getD_mid P i HPE.out HX.out.symm
    rw [hri] at hnci
    obtain ⟨b0, b1, b2, b3⟩ := hnci
    simp only at b0 b1 b2 b3
    rcases hfr.inv with rfl | ⟨lo, hi', kk, M, R', rfl, h1, h2, h4, h5⟩
    ·have hks : k = i + rsz := by rw [HRS.out, hk, hK]; simp; omega
     have hc1 : decide ((k : Int) < (i : Int) + rsz) = false := decide_eq_false (by omega)
     have hne : ((k : Int) != (i : Int) + rsz) = false := by
      rw [bne_eq_false_iff_eq]; omega
     have HKS := Hh hks
     clear hK hk hfr hb hrow hri hks
     go_wp2_with fail
     exact ⟨⟨i + 1, by go_num, by omega, HB3.out⟩, by simp [intOf]; omega⟩
    ·have hkN : k + M.length + 1 ≤ i + rsz := by rw [HRS.out, hk, hK]; simp; omega
     have hkP : k < P.length := by rw [HNN.out]; omega
     have hck : P.getD k n0 = ⟨kk, lo, hi', M.length + 1⟩ := getD_mid (A := X ++ ⟨rk, rlo, rhi, rsz⟩ :: d) (B := (M ++ R') ++ R) P k (by rw [HPE.out, hK]; simp [List.append_assoc]) (by rw [hk]; simp [HX.out]; omega)
     have hnck := nd_cell (W := P) (by rw [HNN.out]; exact hrow) hkP
     rw [hck] at hnck
     obtain ⟨e0, e1, e2, e3⟩ := hnck
     simp only at e0 e1 e2 e3
     obtain ⟨sz, hsz⟩ : ∃ sz, M.length + 1 = sz := ⟨_, rfl⟩
     rw [hsz] at e3
     have hkN2 : k + sz ≤ i + rsz := by omega
     have hszp : 1 ≤ sz := by omega
     have hc1 : decide ((k : Int) < (i : Int) + rsz) = true := decide_eq_true (by omega)
     have hc2 : decide (k < N) = true := decide_eq_true (by omega)
     have hc3 : decide (lo < at') = false := decide_eq_false (by omega)
     have hc4 : decide (rhi < hi') = false := decide_eq_false (by omega)
     have hc5 : decide (hi' < lo) = false := decide_eq_false (by omega)
     have hc6 : decide ((sz : Int) < 1) = false := decide_eq_false (by omega)
     have HNEW := Hh (show ∃ d2, K = d2 ++ R' ∧ k + sz = i + 1 + d2.length from ⟨d ++ ⟨kk, lo, hi', M.length + 1⟩ :: M, by rw [hK]; simp [List.append_assoc], by rw [hk]; simp; omega⟩)
     have HF5 := Hh h5
     clear hK hk hfr hb hrow hri hck hsz hkN h1 h2 h4 h5 hkP
     go_wp2_with fail
     go_quiet (fail)
     have hbq : Below w2.heap.size w2 (wr.drewN nq) := HB3.out.trans (below_drewN _ _ _)
     have HBQ := Hh hbq
     clear hbq
     go_wp2_with fail
     go_roundw
     case rel =>
      obtain ⟨d2, hd1, hd2⟩ := HNEW.out
      exact ⟨d2, R', hi', k + sz, rfl, by go_num, hd1, hd2, HF5.out, HBQ.out⟩
     case measure => simp [intOf]; omega
  ·have hlt2 : decide (i < N) = false := decide_eq_false hlt
   clear hb
   go_wp2_with fail
   go_ret
   exact ⟨rfl, HB2.out.trans (HBR.out.mono HB2.out.size)⟩
end Go.Proofs.YtlboejdhmggjpaaGreat.Pp

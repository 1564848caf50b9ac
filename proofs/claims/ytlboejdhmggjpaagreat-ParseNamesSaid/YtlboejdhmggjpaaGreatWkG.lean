/- parse: names.isType, spec. -/
import Derived.Test.YtlboejdhmggjpaaGreatWkF
set_option linter.all false
namespace Go.Proofs.YtlboejdhmggjpaaGreat.Pp
set_option maxRecDepth 100000
set_option maxHeartbeats 16000000
open Go.RowKit Go.BigFrame Go.Proofs.YtlboejdhmggjpaaGreat

theorem wk_isType {E : En} (hE : E.ok) (x : Bs) (s : Ps) (w : World) (hx : x.length ≤ maxLen) (h : PW E w s) : Calls Tryz.prog 74 #[.pointer (some ⟨E.pb, 3, none⟩), .string (str x)] w fun e w' => e = .returned (.bool (s.nm.isType E.base x)) ∧ Below w.heap.size w w' := by
 have hb := h.bel
 obtain ⟨vd, vc, vb, mb, h⟩ := h
 have hq : s.nm.isType E.base x = (nowL s.nm.ch x).getD (E.base x) := rfl
 rw [hq]
 have hl := h.mp.look x hx
 obtain ⟨-, -, -, c3, c4, -, -⟩ := h.cell
 have IST := Hh (hE.ist w x hb hx)
 obtain ⟨N, hN⟩ : ∃ N, nowL s.nm.ch x = N := ⟨_, rfl⟩
 rw [hN] at hl ⊢
 clear hN hq h hb hx
 obtain ⟨sp, hsp⟩ : ∃ sp, E.sp = sp := ⟨_, rfl⟩
 rw [hsp] at c3 IST
 rcases N with _ | ⟨_ | _⟩
 ·simp only [nwI] at hl
  go_enter Tryz.func74, Tryz.ntmps74
  go_wp2_with fail
  refine IST.out.mono ?_
  rintro e w1 ⟨rfl, hb1⟩
  have HB := Hh hb1
  clear hb1
  go_wp2_with fail
  refine bodyPost_ret (v := .bool (E.base x)) (by simp [results, Tryz.results74, go_sem]) rfl ⟨rfl, HB.out⟩
 ·simp only [nwI] at hl
  go_enter Tryz.func74, Tryz.ntmps74
  go_wp2_with fail
  refine bodyPost_ret (v := .bool false) (by simp [results, Tryz.results74, go_sem]) rfl ⟨rfl, Below.refl _ _⟩
 ·simp only [nwI] at hl
  go_enter Tryz.func74, Tryz.ntmps74
  go_wp2_with fail
  refine bodyPost_ret (v := .bool true) (by simp [results, Tryz.results74, go_sem]) rfl ⟨rfl, Below.refl _ _⟩
theorem str_def (l : Bs) : str l = ⟨l.toArray⟩ := rfl
theorem str_is {t l : Bs} (h : t = l) : ((str t).toList == l) = true := by
 subst h
 rw [beq_iff_eq, ByteArray.toList_eq]
 exact str_data t
theorem str_no {t l : Bs} (h : ¬ t = l) : ((str t).toList == l) = false := by
 rw [beq_eq_false_iff_ne, ByteArray.toList_eq]
 intro e
 exact h ((str_data t).symm.trans e)
theorem str_eqb (t l : Bs) : ((str t).toList == l) = (t == l) := by
 by_cases h : t = l
 ·rw [str_is h, beq_iff_eq.2 h]
 ·rw [str_no h, beq_eq_false_iff_ne.2 h]
theorem str_isb {t l : Bs} {b : Bool} (h : ((str t).toList == l) = b) : (t = l) = (b = true) := by rw [← h, str_eqb, beq_iff_eq]
def spB (b0 b1 b2 b3 b4 b5 b6 b7 b8 b9 b10 b11 b12 b13 b14 b15 b16 b17 b18 b19 b20 b21 b22 b23 b24 b25 b26 : Bool) : Nat := if b0 = true ∨ b1 = true ∨ b2 = true ∨ b3 = true ∨ b4 = true ∨ b5 = true ∨ b6 = true ∨ b7 = true then 1 else if b8 = true then 2 else if b9 = true ∨ b10 = true ∨ b11 = true then 3 else if b12 = true then 4 else if b13 = true ∨ b14 = true ∨ b15 = true ∨ b16 = true ∨ b17 = true ∨ b18 = true ∨ b19 = true ∨ b20 = true ∨ b21 = true ∨ b22 = true ∨ b23 = true then 5 else if b24 = true ∨ b25 = true then 6 else if b26 = true then 7 else 0
theorem wk_spec (t : Bs) (w : World) : Calls Tryz.prog 75 #[.string (str t)] w fun e w' => e = .returned (.int .i64 (spec t)) ∧ w' = w := by
 obtain ⟨b0, h0⟩ : ∃ b, ((str t).toList == [116, 121, 112, 101, 100, 101, 102]) = b := ⟨_, rfl⟩
 obtain ⟨b1, h1⟩ : ∃ b, ((str t).toList == [101, 120, 116, 101, 114, 110]) = b := ⟨_, rfl⟩
 obtain ⟨b2, h2⟩ : ∃ b, ((str t).toList == [115, 116, 97, 116, 105, 99]) = b := ⟨_, rfl⟩
 obtain ⟨b3, h3⟩ : ∃ b, ((str t).toList == [95, 84, 104, 114, 101, 97, 100, 95, 108, 111, 99, 97, 108]) = b := ⟨_, rfl⟩
 obtain ⟨b4, h4⟩ : ∃ b, ((str t).toList == [97, 117, 116, 111]) = b := ⟨_, rfl⟩
 obtain ⟨b5, h5⟩ : ∃ b, ((str t).toList == [114, 101, 103, 105, 115, 116, 101, 114]) = b := ⟨_, rfl⟩
 obtain ⟨b6, h6⟩ : ∃ b, ((str t).toList == [105, 110, 108, 105, 110, 101]) = b := ⟨_, rfl⟩
 obtain ⟨b7, h7⟩ : ∃ b, ((str t).toList == [95, 78, 111, 114, 101, 116, 117, 114, 110]) = b := ⟨_, rfl⟩
 obtain ⟨b8, h8⟩ : ∃ b, ((str t).toList == [95, 65, 108, 105, 103, 110, 97, 115]) = b := ⟨_, rfl⟩
 obtain ⟨b9, h9⟩ : ∃ b, ((str t).toList == [99, 111, 110, 115, 116]) = b := ⟨_, rfl⟩
 obtain ⟨b10, h10⟩ : ∃ b, ((str t).toList == [114, 101, 115, 116, 114, 105, 99, 116]) = b := ⟨_, rfl⟩
 obtain ⟨b11, h11⟩ : ∃ b, ((str t).toList == [118, 111, 108, 97, 116, 105, 108, 101]) = b := ⟨_, rfl⟩
 obtain ⟨b12, h12⟩ : ∃ b, ((str t).toList == [95, 65, 116, 111, 109, 105, 99]) = b := ⟨_, rfl⟩
 obtain ⟨b13, h13⟩ : ∃ b, ((str t).toList == [118, 111, 105, 100]) = b := ⟨_, rfl⟩
 obtain ⟨b14, h14⟩ : ∃ b, ((str t).toList == [99, 104, 97, 114]) = b := ⟨_, rfl⟩
 obtain ⟨b15, h15⟩ : ∃ b, ((str t).toList == [115, 104, 111, 114, 116]) = b := ⟨_, rfl⟩
 obtain ⟨b16, h16⟩ : ∃ b, ((str t).toList == [105, 110, 116]) = b := ⟨_, rfl⟩
 obtain ⟨b17, h17⟩ : ∃ b, ((str t).toList == [108, 111, 110, 103]) = b := ⟨_, rfl⟩
 obtain ⟨b18, h18⟩ : ∃ b, ((str t).toList == [102, 108, 111, 97, 116]) = b := ⟨_, rfl⟩
 obtain ⟨b19, h19⟩ : ∃ b, ((str t).toList == [100, 111, 117, 98, 108, 101]) = b := ⟨_, rfl⟩
 obtain ⟨b20, h20⟩ : ∃ b, ((str t).toList == [115, 105, 103, 110, 101, 100]) = b := ⟨_, rfl⟩
 obtain ⟨b21, h21⟩ : ∃ b, ((str t).toList == [117, 110, 115, 105, 103, 110, 101, 100]) = b := ⟨_, rfl⟩
 obtain ⟨b22, h22⟩ : ∃ b, ((str t).toList == [95, 66, 111, 111, 108]) = b := ⟨_, rfl⟩
 obtain ⟨b23, h23⟩ : ∃ b, ((str t).toList == [95, 67, 111, 109, 112, 108, 101, 120]) = b := ⟨_, rfl⟩
 obtain ⟨b24, h24⟩ : ∃ b, ((str t).toList == [115, 116, 114, 117, 99, 116]) = b := ⟨_, rfl⟩
 obtain ⟨b25, h25⟩ : ∃ b, ((str t).toList == [117, 110, 105, 111, 110]) = b := ⟨_, rfl⟩
 obtain ⟨b26, h26⟩ : ∃ b, ((str t).toList == [101, 110, 117, 109]) = b := ⟨_, rfl⟩
 have hk : spec t = spB b0 b1 b2 b3 b4 b5 b6 b7 b8 b9 b10 b11 b12 b13 b14 b15 b16 b17 b18 b19 b20 b21 b22 b23 b24 b25 b26 := by
  unfold spec spB
  simp only [List.mem_cons, List.not_mem_nil, or_false, str_isb h0, str_isb h1, str_isb h2, str_isb h3, str_isb h4, str_isb h5, str_isb h6, str_isb h7, str_isb h8, str_isb h9, str_isb h10, str_isb h11, str_isb h12, str_isb h13, str_isb h14, str_isb h15, str_isb h16, str_isb h17, str_isb h18, str_isb h19, str_isb h20, str_isb h21, str_isb h22, str_isb h23, str_isb h24, str_isb h25, str_isb h26]
 obtain ⟨st, hst⟩ : ∃ st : ByteArray, str t = st := ⟨_, rfl⟩
 rw [hk, hst]
 simp only [hst] at h0 h1 h2 h3 h4 h5 h6 h7 h8 h9 h10 h11 h12 h13 h14 h15 h16 h17 h18 h19 h20 h21 h22 h23 h24 h25 h26
 clear hk hst
 cases b0; cases b1; cases b2; cases b3; cases b4; cases b5; cases b6; cases b7; cases b8; cases b9; cases b10; cases b11; cases b12; cases b13; cases b14; cases b15; cases b16; cases b17; cases b18; cases b19; cases b20; cases b21; cases b22; cases b23; cases b24; cases b25; cases b26
 all_goals
  go_enter Tryz.func75, Tryz.ntmps75
  go_wp2_with fail
  go_ret
  exact ⟨by simp [spB], rfl⟩
end Go.Proofs.YtlboejdhmggjpaaGreat.Pp

/- parse: level, assigns. -/
import Derived.Test.YtlboejdhmggjpaaGreatWkJ
set_option linter.all false
namespace Go.Proofs.YtlboejdhmggjpaaGreat.Pp
set_option maxRecDepth 100000
set_option maxHeartbeats 16000000
open Go.RowKit Go.BigFrame Go.Proofs.YtlboejdhmggjpaaGreat

theorem wk_level {E : En} (hE : E.ok) (s : Ps) (w : World) (h : PW E w s) : Calls Tryz.prog 156 #[.pointer (some ⟨E.pb, 0, none⟩)] w (EndR E inV w (level E.L s)) := by
 obtain ⟨T, hT⟩ : ∃ T, peekS E.L s 0 = T := ⟨_, rfl⟩
 have pk := wk_peek hE 0 s w (by omega) h
 have hr : level E.L s = .ok (if T.c = 7 then lvl T.t else 0) s := by show Rs.ok _ s = _; rw [hT]
 rw [hr]
 rw [hT] at pk
 unfold ctV at pk
 have H := Hh h
 obtain ⟨b0, h0⟩ : ∃ b, ((str T.t).toList == [124, 124]) = b := ⟨_, rfl⟩
 obtain ⟨b1, h1⟩ : ∃ b, ((str T.t).toList == [38, 38]) = b := ⟨_, rfl⟩
 obtain ⟨b2, h2⟩ : ∃ b, ((str T.t).toList == [124]) = b := ⟨_, rfl⟩
 obtain ⟨b3, h3⟩ : ∃ b, ((str T.t).toList == [94]) = b := ⟨_, rfl⟩
 obtain ⟨b4, h4⟩ : ∃ b, ((str T.t).toList == [38]) = b := ⟨_, rfl⟩
 obtain ⟨b5, h5⟩ : ∃ b, ((str T.t).toList == [61, 61]) = b := ⟨_, rfl⟩
 obtain ⟨b6, h6⟩ : ∃ b, ((str T.t).toList == [33, 61]) = b := ⟨_, rfl⟩
 obtain ⟨b7, h7⟩ : ∃ b, ((str T.t).toList == [60]) = b := ⟨_, rfl⟩
 obtain ⟨b8, h8⟩ : ∃ b, ((str T.t).toList == [62]) = b := ⟨_, rfl⟩
 obtain ⟨b9, h9⟩ : ∃ b, ((str T.t).toList == [60, 61]) = b := ⟨_, rfl⟩
 obtain ⟨b10, h10⟩ : ∃ b, ((str T.t).toList == [62, 61]) = b := ⟨_, rfl⟩
 obtain ⟨b11, h11⟩ : ∃ b, ((str T.t).toList == [60, 60]) = b := ⟨_, rfl⟩
 obtain ⟨b12, h12⟩ : ∃ b, ((str T.t).toList == [62, 62]) = b := ⟨_, rfl⟩
 obtain ⟨b13, h13⟩ : ∃ b, ((str T.t).toList == [43]) = b := ⟨_, rfl⟩
 obtain ⟨b14, h14⟩ : ∃ b, ((str T.t).toList == [45]) = b := ⟨_, rfl⟩
 obtain ⟨b15, h15⟩ : ∃ b, ((str T.t).toList == [42]) = b := ⟨_, rfl⟩
 obtain ⟨b16, h16⟩ : ∃ b, ((str T.t).toList == [47]) = b := ⟨_, rfl⟩
 obtain ⟨b17, h17⟩ : ∃ b, ((str T.t).toList == [37]) = b := ⟨_, rfl⟩
 have hk : lvl T.t = if b0 = true then 36 else if b1 = true then 37 else if b2 = true then 38 else if b3 = true then 39 else if b4 = true then 40 else if b5 = true ∨ b6 = true then 41 else if b7 = true ∨ b8 = true ∨ b9 = true ∨ b10 = true then 42 else if b11 = true ∨ b12 = true then 43 else if b13 = true ∨ b14 = true then 44 else if b15 = true ∨ b16 = true ∨ b17 = true then 45 else 0 := by
  unfold lvl
  simp only [List.mem_cons, List.not_mem_nil, or_false, str_isb h0, str_isb h1, str_isb h2, str_isb h3, str_isb h4, str_isb h5, str_isb h6, str_isb h7, str_isb h8, str_isb h9, str_isb h10, str_isb h11, str_isb h12, str_isb h13, str_isb h14, str_isb h15, str_isb h16, str_isb h17]
 obtain ⟨v, hv⟩ : ∃ v, lvl T.t = v := ⟨_, rfl⟩
 obtain ⟨st, hst⟩ : ∃ st : ByteArray, str T.t = st := ⟨_, rfl⟩
 rw [hst] at pk
 rw [hv] at hk ⊢
 simp only [hst] at h0 h1 h2 h3 h4 h5 h6 h7 h8 h9 h10 h11 h12 h13 h14 h15 h16 h17
 have HKK := Hh hk
 have PK := Hh pk
 clear hv hst pk h hr hT hk
 by_cases h1 : T.c = 7
 ·go_enter Tryz.func156, Tryz.ntmps156
  go_wp2_with fail
  refine PK.out.mono ?_
  rintro e w1 ⟨rfl, hb1⟩
  have HB := Hh hb1
  clear hb1
  go_wp2_with fail
  all_goals (have hk := HKK.out; go_ret; exact ⟨by unfold inV; simp_all, (EndR.pure (val := inV) (v := (if T.c = 7 then v else 0)) hE H.out (HB.out.trans ((below_alloc _ _).mono HB.out.size))).2⟩)
 ·clear HKK
  have h1' : ((T.c : Int) != 7) = true := by rw [bne_iff_ne]; omega
  have hz : (if T.c = 7 then v else 0) = 0 := by rw [if_neg h1]
  rw [hz]
  clear hz
  go_enter Tryz.func156, Tryz.ntmps156
  go_wp2_with fail
  refine PK.out.mono ?_
  rintro e w1 ⟨rfl, hb1⟩
  have HB := Hh hb1
  clear hb1
  go_wp2_with fail
  refine bodyPost_ret (v := .int .i64 0) (by simp [results, Tryz.results156, go_sem]) rfl ?_
  exact EndR.pure (val := inV) (v := 0) hE H.out (HB.out.trans ((below_alloc _ _).mono HB.out.size))
theorem wk_assigns {E : En} (hE : E.ok) (s : Ps) (w : World) (h : PW E w s) : Calls Tryz.prog 163 #[.pointer (some ⟨E.pb, 0, none⟩)] w (EndR E .bool w (assigns E.L s)) := by
 obtain ⟨T, hT⟩ : ∃ T, peekS E.L s 0 = T := ⟨_, rfl⟩
 have pk := wk_peek hE 0 s w (by omega) h
 have hr : assigns E.L s = .ok (T.c == 7 && asg T.t) s := by show Rs.ok _ s = _; rw [hT]
 rw [hr]
 rw [hT] at pk
 unfold ctV at pk
 have H := Hh h
 obtain ⟨b0, h0⟩ : ∃ b, ((str T.t).toList == [61]) = b := ⟨_, rfl⟩
 obtain ⟨b1, h1⟩ : ∃ b, ((str T.t).toList == [42, 61]) = b := ⟨_, rfl⟩
 obtain ⟨b2, h2⟩ : ∃ b, ((str T.t).toList == [47, 61]) = b := ⟨_, rfl⟩
 obtain ⟨b3, h3⟩ : ∃ b, ((str T.t).toList == [37, 61]) = b := ⟨_, rfl⟩
 obtain ⟨b4, h4⟩ : ∃ b, ((str T.t).toList == [43, 61]) = b := ⟨_, rfl⟩
 obtain ⟨b5, h5⟩ : ∃ b, ((str T.t).toList == [45, 61]) = b := ⟨_, rfl⟩
 obtain ⟨b6, h6⟩ : ∃ b, ((str T.t).toList == [60, 60, 61]) = b := ⟨_, rfl⟩
 obtain ⟨b7, h7⟩ : ∃ b, ((str T.t).toList == [62, 62, 61]) = b := ⟨_, rfl⟩
 obtain ⟨b8, h8⟩ : ∃ b, ((str T.t).toList == [38, 61]) = b := ⟨_, rfl⟩
 obtain ⟨b9, h9⟩ : ∃ b, ((str T.t).toList == [94, 61]) = b := ⟨_, rfl⟩
 obtain ⟨b10, h10⟩ : ∃ b, ((str T.t).toList == [124, 61]) = b := ⟨_, rfl⟩
 have hk : asg T.t = (b0 || b1 || b2 || b3 || b4 || b5 || b6 || b7 || b8 || b9 || b10) := by
  rw [Bool.eq_iff_iff]
  unfold asg
  simp only [decide_eq_true_eq, List.mem_cons, List.not_mem_nil, or_false, Bool.or_eq_true, or_assoc, str_isb h0, str_isb h1, str_isb h2, str_isb h3, str_isb h4, str_isb h5, str_isb h6, str_isb h7, str_isb h8, str_isb h9, str_isb h10]
 obtain ⟨v, hv⟩ : ∃ v, asg T.t = v := ⟨_, rfl⟩
 obtain ⟨st, hst⟩ : ∃ st : ByteArray, str T.t = st := ⟨_, rfl⟩
 rw [hst] at pk
 rw [hv] at hk ⊢
 simp only [hst] at h0 h1 h2 h3 h4 h5 h6 h7 h8 h9 h10
 have HKK := Hh hk
 have PK := Hh pk
 clear hv hst pk h hr hT hk
 by_cases h1 : T.c = 7
 ·go_enter Tryz.func163, Tryz.ntmps163
  go_wp2_with fail
  refine PK.out.mono ?_
  rintro e w1 ⟨rfl, hb1⟩
  have HB := Hh hb1
  clear hb1
  go_wp2_with fail
  all_goals (have hk := HKK.out; go_ret; exact ⟨by simp_all, (EndR.pure (val := .bool) (v := (T.c == 7 && v)) hE H.out (HB.out.trans ((below_alloc _ _).mono HB.out.size))).2⟩)
 ·clear HKK
  have h1' : ((T.c : Int) != 7) = true := by rw [bne_iff_ne]; omega
  have hz : (T.c == 7 && v) = false := by rw [show (T.c == 7) = false from beq_eq_false_iff_ne.mpr h1]; rfl
  rw [hz]
  clear hz
  go_enter Tryz.func163, Tryz.ntmps163
  go_wp2_with fail
  refine PK.out.mono ?_
  rintro e w1 ⟨rfl, hb1⟩
  have HB := Hh hb1
  clear hb1
  go_wp2_with fail
  refine bodyPost_ret (v := .bool false) (by simp [results, Tryz.results163, go_sem]) rfl ?_
  exact EndR.pure (val := .bool) (v := false) hE H.out (HB.out.trans ((below_alloc _ _).mono HB.out.size))
end Go.Proofs.YtlboejdhmggjpaaGreat.Pp

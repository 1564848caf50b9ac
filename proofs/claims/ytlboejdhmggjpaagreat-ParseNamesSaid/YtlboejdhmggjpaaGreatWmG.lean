/- parse: params. -/
import Derived.Test.YtlboejdhmggjpaaGreatWmH
set_option linter.all false
namespace Go.Proofs.YtlboejdhmggjpaaGreat.Pp
set_option maxRecDepth 100000
set_option maxHeartbeats 16000000
open Go.RowKit Go.BigFrame Go.Proofs.YtlboejdhmggjpaaGreat
attribute [local go_sem] Oper.semAt_some

theorem close_le {s : Ps} (h : close' s ≠ .out) : s.nm.bl.getLast?.getD 0 ≤ s.nm.ch.length := by
 unfold close' at h
 cases e : s.nm.bl.getLast? with
 | none => exact Nat.zero_le _
 | some k =>
  rw [e] at h
  by_cases hk : k ≤ s.nm.ch.length
  ·exact hk
  ·exact absurd (if_neg hk) h
theorem w_params {E : En} (hE : E.ok) {n : Nat} (ih : ∀ m, m ≤ n → Wk E m)  (s : Ps) (w : World) (hp : PW E w s) (hne : run E.L E.base (n + 1) (.params) s ≠ .out) : Calls Tryz.prog 125 #[.pointer (some ⟨E.pb, 0, none⟩)] w (EndQ E vaP w (run E.L E.base (n + 1) (.params) s)) := by
 obtain ⟨r, hr⟩ : ∃ r, run E.L E.base (n + 1) (.params) s = r := ⟨_, rfl⟩
 rw [hr] at hne ⊢
 rw [run] at hr
 have HN := Hh hne
 have HR0 := Hh hr
 have HP0 := Hh hp
 have HK0 := Hh (KP.refl w)
 have IH := Hh ih
 clear hne hr hp ih
 refine (callsIn_wide (n := 5)).1 ?_
 refine callsIn_of_wp_marks Tryz.func125 rfl trivial ?_ rfl
 simp only [Tryz.ntmps125, List.size_toArray, List.length_cons, List.length_nil, Nat.reduceAdd, Nat.reduceSub, Array.replicate_succ, Array.replicate_zero, List.push_toArray, List.append_toArray, List.nil_append, List.cons_append]
 refine wpIn_wide.2 ?_
 go_wp2_with fail
 refine mR (wk_here hE _ _ HP0.out) HR0 HN HK0 (fun _ _ h => h) ?_
 rintro v1 s1 w1 HR1 HP1 - HK1
 try dsimp only at HR1
 have hq := HR1.out
 try (with_reducible replace hq := q_assoc hq)
 clear HR1
 have HR1 := Hh hq
 clear hq
 have HBn := Hh (HdB.new w1 v1)
 have HPn := Hh (HP1.out.ext hE (below_alloc w1 (.cells #[.int .i64 v1.1, .int .i64 v1.2] 77)))
 have HKn := Hh (HK1.out.trans (KP.of_below (below_alloc w1 (.cells #[.int .i64 v1.1, .int .i64 v1.2] 77))))
 have HPo1 := Hh HP1.out
 have HKo1 := Hh HK1.out
 clear HP1 HK1
 have HP1 := Hh HPn.out
 have HK1 := Hh HKn.out
 clear HPn HKn
 simp only [hdV]
 obtain ⟨bh, hbh⟩ : ∃ b, w1.heap.size = b := ⟨_, rfl⟩
 have HBh1 := Hh (hbh ▸ HBn.out)
 clear HBn
 go_wp2_with fail
 try rw [hbh]
 refine mR (wk_need hE [40] _ _ HP1.out) HR1 HN HK1 (fun _ _ h => h) ?_
 rintro v2 s2 w2 HR2 HP2 hkk HK2
 try dsimp only at HR2
 have HBh2 := Hh (HBh1.out.kp hkk)
 clear hkk
 have hq := HR2.out
 try (with_reducible replace hq := q_assoc hq)
 clear HR2
 have HR2 := Hh hq
 clear hq
 go_wp2_with fail
 refine mR (wk_open hE _ _ HP2.out (qne HR2.out HN.out)) HR2 HN HK2 (fun _ _ h => h) ?_
 rintro v3 s3 w3 HR3 HP3 hkk HK3
 try dsimp only at HR3
 have HBh3 := Hh (HBh2.out.kp hkk)
 clear hkk
 have hq := HR3.out
 try (with_reducible replace hq := q_assoc hq)
 clear HR3
 have HR3 := Hh hq
 clear hq
 go_wp2_with fail
 refine mR (wk_took hE [41] _ _ HP3.out) HR3 HN HK3 (fun _ _ h => h) ?_
 rintro v4 s4 w4 HR4 HP4 hkk HK4
 try dsimp only at HR4
 have HBh4 := Hh (HBh3.out.kp hkk)
 clear hkk
 have hq := HR4.out
 try (with_reducible replace hq := q_assoc hq)
 clear HR4
 have HR4 := Hh hq
 clear hq
 obtain ⟨bb4, hbb4⟩ : ∃ bb, v4 = bb := ⟨_, rfl⟩
 rw [hbb4] at HR4 ⊢
 clear hbb4
 cases bb4
 ·have hq := HR4.out
  first | replace hq := q_iffK hq | replace hq := q_iff hq
  try (with_reducible replace hq := q_assoc hq)
  clear HR4
  have HR4 := Hh hq
  clear hq
  go_wp2_with fail
  refine mQ ((IH.out n (Nat.le_refl _)).f_param  _ _ HP4.out (qne HR4.out HN.out)) HR4 HN HK4 (fun _ _ h => h) ?_
  rintro v5 s5 y5 w5 HR5 rfl HP5 hkk HK5
  try dsimp only at HR5
  have HBh5 := Hh (HBh4.out.kp hkk)
  clear hkk
  have hq := HR5.out
  try (with_reducible replace hq := q_assoc hq)
  clear HR5
  have HR5 := Hh hq
  clear hq
  go_wp2_with fail
  go_loopg [] n (fun k wr => ∃ s', k ≤ n ∧ (run E.L E.base k (.paramsR) >>= fun _ => (do need E.L [41]; pure Va.un) >>= fun _ => (do let s ← get'; close'; node E.L 16 v1; pure (Va.pa s.nm.declared))) s' = r ∧ PW E wr s' ∧ KP w wr ∧ HdB wr bh v1)
  case atStart => exact ⟨_, Nat.le_refl _, HR5.out, HP5.out, HK5.out, HBh5.out⟩
  case round =>
   obtain ⟨s6, hgn6, hr6, hp6, hk6, hhh6⟩ := hrel
   cases gk with
   | zero => exact absurd (q_0 hr6) HN.out
   | succ g6 =>
    rw [run] at hr6
    have HR6 := Hh hr6
    have HP6 := Hh hp6
    have HK6 := Hh hk6
    have HBh6 := Hh hhh6
    clear hr6 hp6 hk6 hhh6
    have hq := HR6.out
    try (with_reducible replace hq := q_assoc hq)
    clear HR6
    have HR6 := Hh hq
    clear hq
    go_wp2_with fail
    refine mR (wk_took hE [44] _ _ HP6.out) HR6 HN HK6 (fun _ _ h => h) ?_
    rintro v7 s7 w7 HR7 HP7 hkk HK7
    try dsimp only at HR7
    have HBh7 := Hh (HBh6.out.kp hkk)
    clear hkk
    have hq := HR7.out
    try (with_reducible replace hq := q_assoc hq)
    clear HR7
    have HR7 := Hh hq
    clear hq
    obtain ⟨bb7, hbb7⟩ : ∃ bb, v7 = bb := ⟨_, rfl⟩
    rw [hbb7] at HR7 ⊢
    clear hbb7
    cases bb7
    focus
     have hq := HR7.out
     first | replace hq := q_iffK hq | replace hq := q_iff hq
     try (with_reducible replace hq := q_assoc hq)
     clear HR7
     have HR7 := Hh hq
     clear hq
     go_wp2_with fail
     have hq := HR7.out
     try (with_reducible replace hq := q_pb hq)
     try dsimp only at hq
     try (with_reducible replace hq := q_assoc hq)
     clear HR7
     have HR7 := Hh hq
     clear hq
     refine mR (wk_need hE [41] _ _ HP7.out) HR7 HN HK7 (fun _ _ h => h) ?_
     rintro v8 s8 w8 HR8 HP8 hkk HK8
     try dsimp only at HR8
     have HBh8 := Hh (HBh7.out.kp hkk)
     refine ?S1a
    rotate_left 1
    focus
     have hq := HR7.out
     first | replace hq := q_iftK hq | replace hq := q_ift hq
     try (with_reducible replace hq := q_assoc hq)
     clear HR7
     have HR7 := Hh hq
     clear hq
     go_wp2_with fail
     refine mR (wk_took hE [46, 46, 46] _ _ HP7.out) HR7 HN HK7 (fun _ _ h => h) ?_
     rintro v9 s9 w9 HR9 HP9 hkk HK9
     try dsimp only at HR9
     have HBh9 := Hh (HBh7.out.kp hkk)
     clear hkk
     have hq := HR9.out
     try (with_reducible replace hq := q_assoc hq)
     clear HR9
     have HR9 := Hh hq
     clear hq
     obtain ⟨bb9, hbb9⟩ : ∃ bb, v9 = bb := ⟨_, rfl⟩
     rw [hbb9] at HR9 ⊢
     clear hbb9
     cases bb9
     ·have hq := HR9.out
      first | replace hq := q_iffK hq | replace hq := q_iff hq
      try (with_reducible replace hq := q_assoc hq)
      clear HR9
      have HR9 := Hh hq
      clear hq
      go_wp2_with fail
      refine mQ ((IH.out g6 (by omega)).f_param  _ _ HP9.out (qne HR9.out HN.out)) HR9 HN HK9 (fun _ _ h => h) ?_
      rintro v10 s10 y10 w10 HR10 rfl HP10 hkk HK10
      try dsimp only at HR10
      have HBh10 := Hh (HBh9.out.kp hkk)
      clear hkk
      have hq := HR10.out
      try (with_reducible replace hq := q_assoc hq)
      clear HR10
      have HR10 := Hh hq
      clear hq
      go_wp2_with fail
      go_roundg g6
      case measure => omega
      case rel => exact ⟨_, by omega, HR10.out, HP10.out, HK10.out, HBh10.out⟩
     focus
      have hq := HR9.out
      first | replace hq := q_iftK hq | replace hq := q_ift hq
      try (with_reducible replace hq := q_assoc hq)
      clear HR9
      have HR9 := Hh hq
      clear hq
      go_wp2_with fail
      have hq := HR9.out
      try (with_reducible replace hq := q_pb hq)
      try dsimp only at hq
      try (with_reducible replace hq := q_assoc hq)
      clear HR9
      have HR9 := Hh hq
      clear hq
      refine mR (wk_need hE [41] _ _ HP9.out) HR9 HN HK9 (fun _ _ h => h) ?_
      rintro v11 s11 w11 HR11 HP11 hkk HK11
      try dsimp only at HR11
      have HBh11 := Hh (HBh9.out.kp hkk)
      have HR8 := HR11
      obtain ⟨w8, rfl⟩ : ∃ q, q = w11 := ⟨_, rfl⟩
      have HP8 := HP11
      have HK8 := HK11
      have HBh8 := HBh11
      obtain ⟨s8, rfl⟩ : ∃ q, q = s11 := ⟨_, rfl⟩
      refine ?S1b
    case S1a | S1b =>
     clear hkk
     have hq := HR8.out
     try (with_reducible replace hq := q_assoc hq)
     clear HR8
     have HR8 := Hh hq
     clear hq
     go_wp2_with fail
     have hq := HR8.out
     try (with_reducible replace hq := q_pb hq)
     try dsimp only at hq
     try (with_reducible replace hq := q_assoc hq)
     clear HR8
     have HR8 := Hh hq
     clear hq
     have hq := HR8.out
     replace hq := qone hq rfl
     try dsimp only at hq
     try (with_reducible replace hq := q_assoc hq)
     clear HR8
     have HR8 := Hh hq
     clear hq
     have hk0 := close_le (qne HR8.out HN.out)
     refine (wk_declaredF E _).mono ?_
     rintro e we ⟨rfl, rfl⟩
     obtain ⟨V, hV⟩ : ∃ V, V = (w8.alloc (.cells #[.slice none 0 0] 104)).alloc (.cells #[.pointer (some ⟨E.pb, 3, none⟩)] 129) := ⟨_, rfl⟩
     obtain ⟨bL, hbL⟩ : ∃ b, w8.heap.size = b := ⟨_, rfl⟩
     have hbV : Below w8.heap.size w8 V := by rw [hV]; exact (below_alloc _ _).trans ((below_alloc _ _).mono (by simp))
     have e0 : V.heap[bL]? = some (.cells #[.slice none 0 0] 104 (0, 0)) := by rw [hV, ← hbL, Lib.alloc_old _ _ _ (by simp)]; exact new_cells _ _ _
     have e1 : V.heap[bL + 1]? = some (.cells #[.pointer (some ⟨E.pb, 3, none⟩)] 129 (0, 0)) := by rw [hV, ← hbL]; have := new_cells (w8.alloc (.cells #[.slice none 0 0] 104)) #[.pointer (some ⟨E.pb, 3, none⟩)] 129; simpa using this
     have hsV : V.heap.size = bL + 2 := by rw [hV, ← hbL]; simp
     have hpV := HP8.out.ext hE hbV
     have hkV := HK8.out.trans (KP.of_below hbV)
     have hhV := HBh8.out.kp (KP.of_below hbV)
     have hseq := Dc.seq 4 (bL + 1) hE s8 V hpV e1 hk0
     try rw [hbL]
     try rw [← hV]
     simp only [World.size_alloc, hbL]
     have HDC := Hh (HP8.out.decl hE)
     have HSEQ := Hh hseq
     have HPV := Hh hpV
     have HKV := Hh hkV
     have HHV := Hh hhV
     have E0 := Hh e0
     have HSV := Hh hsV
     have hi0 : LbI V bL [] V := ⟨_, e0, ⟨rfl, .inl ⟨rfl, rfl⟩⟩, Mod.refl _ _⟩
     have HI0 := Hh hi0
     have HXL := Hh (show E.X ≤ bL from hbL ▸ HP8.out.lift hE)
     have HWL := Hh (show w.heap.size ≤ bL from hbL ▸ HK8.out.1)
     have HNL := Hh (show ¬ bh = bL from by have q := HBh8.out.lt; omega)
     obtain ⟨i0, hi, hz0, hz1, hz2⟩ := info_parts info95
     have HI := Hh hi
     have HZ0 := Hh hz0
     have HZ1 := Hh hz1
     have HZ2 := Hh hz2
     clear hseq hpV hkV hhV e0 e1 hsV hi0 hbV hV hi hz0 hz1 hz2 hk0
     go_wp2_with fail
     refine frame_named ?_
     intro T hT
     have HT := Hh hT
     clear hT
     refine (wpIn_wide (n := 5)).1 ?_
     refine wpIn_rangeFunc_asg rfl (by omega) (gf := 66) (lb := #[.pointer (some ⟨bL + 1, 0, none⟩)]) (by have h := HT.out; subst h; rfl) trivial (enters_of Tryz.func66 (by kernel_rfl) rfl) HSEQ.out (fun k hk => hk.elim) (fun h k => h.trans k) (fun W l o o' hl hW ho _ => K132.putObj hW ho) (Below.refl _ _) (fun _ => rfl) (LbI V bL) (fun _ _ _ => False) (fun t A B h hm => h.mod (by have q := HSV.out; omega) hm) (fun c t A B h _ => h) HI0.out (fun (p : Bs × Bool) a' W => ∃ b, W.heap[b]? = some (.cells #[.string (str p.1), .bool p.2] 95 (0, 0)) ∧ a' = { tmps := (T.setIfInBounds 34 (.agg #[.string (str p.1), .bool p.2])).setIfInBounds 5 (.pointer (some ⟨b, 0, none⟩)), defers := [] }) (fun h => K132.of_below h) (fun p a' W l o o' hl ho ⟨b, hb, ha⟩ => ⟨b, by rw [World.putObj_heap_other (fun e => by subst e; rw [hl] at hb; cases hb; cases ho)]; exact hb, ha⟩) ?assign ?body ?done ?stop
     case stop => rintro Dd c pre W hD _ h _; exact h.elim
     case assign =>
      intro l z W K hK
      have hT := HT.out
      subst hT
      obtain ⟨za, zb⟩ := z
      obtain ⟨zt, hzt⟩ : ∃ t : ByteArray, str za = t := ⟨_, rfl⟩
      simp only [hzt]
      gi_wp2_with (fail)
      refine hK _ _ (below_alloc W _) ⟨W.heap.size, ?_, ?_⟩
      ·simp only [hzt]; exact heap_alloc_new _ _
      ·simp only [hzt, List.setIfInBounds_toArray, List.set_cons_succ, List.set_cons_zero]
     case body =>
      rintro l pre x a' W ⟨v, h1, h2, h3⟩ ⟨rr, hr⟩ ⟨b, hb, rfl⟩
      have hpl : pre.length < 1000000 := by have q := HDC.out.1; rw [hr] at q; simp at q; omega
      obtain ⟨a0, cap0, rfl⟩ := row_shape h2
      obtain ⟨xa, xb⟩ := x
      obtain ⟨xt, hxt⟩ : ∃ t : ByteArray, str xa = t := ⟨_, rfl⟩
      have hdc : dcC (xa, xb) = [.string xt, .bool xb] := by unfold dcC; rw [hxt]
      simp only [hxt] at hb ⊢
      have u0 : W.cell? ⟨b, 0, none⟩ = some (.string xt) := by simp [World.cell?, hb]
      have u1 : W.cell? ⟨b, 1, none⟩ = some (.bool xb) := by simp [World.cell?, hb]
      have c1 : W.cell? ⟨bL, 0, none⟩ = some (.slice a0 pre.length cap0) := by simp [World.cell?, h1]
      have H1 := Hh h1
      have H2 := Hh h2
      have H3 := Hh h3
      have HDCx := Hh hdc
      clear h1 h2 h3 hr hb hxt hdc
      have hT := HT.out
      subst hT
      simp only [List.setIfInBounds_toArray, List.set_cons_succ, List.set_cons_zero]
      gi_wp2_with (gi_at_builtin; refine wpListIn_append_own _ rfl _ _ 104 rfl V.heap.size 95 i0 (.agg #[.string ⟨#[]⟩, .bool false]) 2 24 Tryz.underlying104 HI.out HZ0.out HZ1.out HZ2.out rfl (by decide) _ _ _ rfl (H2.out.alloc _) ⟨W.heap.size, 0, none⟩ 1 1 [.string xt, .bool xb] rfl rfl (two_cells _ _ _ 95) (fun u hu => by simp at hu; rcases hu with rfl | rfl <;> rfl) (by unfold maxLen; omega) (by omega) (by have := H3.out.size; simp; omega) ?_; intro v' W1 hown' hgrow _; have hd1 := lb_amid H1.out (by decide) H2.out hgrow; have HPU := Hh (lb_push H1.out (by decide) H2.out hgrow hown'); obtain ⟨a', cap', hv'⟩ := row_shape hown'; subst hv'; have d1 : W1.cell? ⟨bL, 0, none⟩ = some (.slice a0 pre.length cap0) := (by simp [World.cell?, hd1]); have g1 : W1.frozen? ⟨bL, 0, none⟩ = false := Lib.frozen_of_heap hd1 0; clear hown' hgrow hd1)
      exact ⟨HPU.out.kf _, K132.kt (HPU.out.kt _ rfl rfl), LbI.push H2.out H3.out (HDCx.out ▸ HPU.out)⟩
     case done =>
      rintro Dd zs W hD rfl ⟨v, h1, h2, h3⟩ hK
      have hpW := HPV.out.bs1 hE E0.out HXL.out h3
      have hkW := HKV.out.bs1 HWL.out h3
      have hhW := HHV.out.bs1 HNL.out h3
      obtain ⟨a0, c0, rfl⟩ := row_shape h2
      have hdv := DcV.row h2 HDC.out.1 HDC.out.2
      obtain ⟨dn, hdn⟩ : ∃ n, s8.nm.declared.length = n := ⟨_, rfl⟩
      rw [hdn] at h1 hdv
      obtain ⟨s9, hx9⟩ := close_ok (qne HR8.out HN.out)
      have hr9 := qone HR8.out hx9
      try dsimp only at hr9
      have h9 := wk_close hE s8 W hpW (qne HR8.out HN.out)
      rw [hx9] at h9
      obtain ⟨s10, hx10⟩ := node_ok (qne hr9 HN.out)
      have hr10 := qone hr9 hx10
      try dsimp only at hr10
      have H9 := Hh h9
      have HK9 := Hh hK
      have HL := Hh h1
      have HKW := Hh hkW
      have HHW := Hh hhW
      have HDV := Hh hdv
      have HX10 := Hh hx10
      have HR10 := Hh hr10
      have HR9 := Hh hr9
      have HXD := Hh hD
      clear h1 h2 h3 hK hpW hkW hhW hdv hx9 hr9 h9 hx10 hr10 hD hdn
      have hT := HT.out
      subst hT
      go_wp2_with fail
      refine H9.out.mono ?_
      rintro e w9 ⟨rfl, hp9, hk9⟩
      have h10 := wk_node hE 16 v1 s9 w9 hp9 (qne HR9.out HN.out)
      rw [HX10.out] at h10
      have H10 := Hh h10
      have HK9' := Hh hk9
      clear hp9 hk9 h10
      obtain ⟨d0, d1⟩ := (HHW.out.kp HK9'.out).cells
      go_wp2_with fail
      refine H10.out.mono ?_
      rintro e w10 ⟨rfl, hp10, hk10⟩
      have hl := hk10.2 _ _ _ _ rfl (HK9'.out.2 _ _ _ _ rfl HL.out)
      have cl : w10.cell? ⟨bL, 0, none⟩ = some (.slice a0 dn c0) := by simp [World.cell?, hl]
      have hkd := hk10.3 _ _ (HK9'.out.3 _ _ HK9.out)
      have HKD := Hh hkd
      have HPT := Hh hp10
      have HKT := Hh ((HKW.out.trans HK9'.out).trans hk10)
      have HDT := Hh ((HDV.out.kp HK9'.out).kp hk10)
      clear hl hkd hp10 hk10 d0 d1
      go_wp2_with fail
      refine ⟨by simp, .inl ⟨_, _, rfl, run_takeDeferred HKD.out, ?_⟩⟩
      have hXD : E.X ≤ Dd := by have q1 := HXD.out; have q2 := HSV.out; have q3 := HXL.out; omega
      have hWD : w.heap.size ≤ Dd := by have q1 := HXD.out; have q2 := HSV.out; have q3 := HWL.out; omega
      exact ⟨.slice a0 dn c0, by simp [results, Tryz.results125, go_sem], q_ok (q_pure HR10.out) (HDT.out.put _ HKD.out) (HPT.out.put _ hE HKD.out hXD) (HKT.out.put _ hWD)⟩
 ·have hq := HR4.out
  first | replace hq := q_iftK hq | replace hq := q_ift hq
  try (with_reducible replace hq := q_assoc hq)
  clear HR4
  have HR4 := Hh hq
  clear hq
  go_wp2_with fail
  have hq := HR4.out
  try (with_reducible replace hq := q_pb hq)
  try dsimp only at hq
  try (with_reducible replace hq := q_assoc hq)
  clear HR4
  have HR4 := Hh hq
  clear hq
  have hq := HR4.out
  replace hq := qone hq rfl
  try dsimp only at hq
  try (with_reducible replace hq := q_assoc hq)
  clear HR4
  have HR4 := Hh hq
  clear hq
  have hk0 := close_le (qne HR4.out HN.out)
  refine (wk_declaredF E _).mono ?_
  rintro e we ⟨rfl, rfl⟩
  obtain ⟨V, hV⟩ : ∃ V, V = (w4.alloc (.cells #[.slice none 0 0] 104)).alloc (.cells #[.pointer (some ⟨E.pb, 3, none⟩)] 129) := ⟨_, rfl⟩
  obtain ⟨bL, hbL⟩ : ∃ b, w4.heap.size = b := ⟨_, rfl⟩
  have hbV : Below w4.heap.size w4 V := by rw [hV]; exact (below_alloc _ _).trans ((below_alloc _ _).mono (by simp))
  have e0 : V.heap[bL]? = some (.cells #[.slice none 0 0] 104 (0, 0)) := by rw [hV, ← hbL, Lib.alloc_old _ _ _ (by simp)]; exact new_cells _ _ _
  have e1 : V.heap[bL + 1]? = some (.cells #[.pointer (some ⟨E.pb, 3, none⟩)] 129 (0, 0)) := by rw [hV, ← hbL]; have := new_cells (w4.alloc (.cells #[.slice none 0 0] 104)) #[.pointer (some ⟨E.pb, 3, none⟩)] 129; simpa using this
  have hsV : V.heap.size = bL + 2 := by rw [hV, ← hbL]; simp
  have hpV := HP4.out.ext hE hbV
  have hkV := HK4.out.trans (KP.of_below hbV)
  have hhV := HBh4.out.kp (KP.of_below hbV)
  have hseq := Dc.seq 4 (bL + 1) hE s4 V hpV e1 hk0
  try rw [hbL]
  try rw [← hV]
  simp only [World.size_alloc, hbL]
  have HDC := Hh (HP4.out.decl hE)
  have HSEQ := Hh hseq
  have HPV := Hh hpV
  have HKV := Hh hkV
  have HHV := Hh hhV
  have E0 := Hh e0
  have HSV := Hh hsV
  have hi0 : LbI V bL [] V := ⟨_, e0, ⟨rfl, .inl ⟨rfl, rfl⟩⟩, Mod.refl _ _⟩
  have HI0 := Hh hi0
  have HXL := Hh (show E.X ≤ bL from hbL ▸ HP4.out.lift hE)
  have HWL := Hh (show w.heap.size ≤ bL from hbL ▸ HK4.out.1)
  have HNL := Hh (show ¬ bh = bL from by have q := HBh4.out.lt; omega)
  obtain ⟨i0, hi, hz0, hz1, hz2⟩ := info_parts info95
  have HI := Hh hi
  have HZ0 := Hh hz0
  have HZ1 := Hh hz1
  have HZ2 := Hh hz2
  clear hseq hpV hkV hhV e0 e1 hsV hi0 hbV hV hi hz0 hz1 hz2 hk0
  go_wp2_with fail
  refine frame_named ?_
  intro T hT
  have HT := Hh hT
  clear hT
  refine (wpIn_wide (n := 5)).1 ?_
  refine wpIn_rangeFunc_asg rfl (by omega) (gf := 66) (lb := #[.pointer (some ⟨bL + 1, 0, none⟩)]) (by have h := HT.out; subst h; rfl) trivial (enters_of Tryz.func66 (by kernel_rfl) rfl) HSEQ.out (fun k hk => hk.elim) (fun h k => h.trans k) (fun W l o o' hl hW ho _ => K132.putObj hW ho) (Below.refl _ _) (fun _ => rfl) (LbI V bL) (fun _ _ _ => False) (fun t A B h hm => h.mod (by have q := HSV.out; omega) hm) (fun c t A B h _ => h) HI0.out (fun (p : Bs × Bool) a' W => ∃ b, W.heap[b]? = some (.cells #[.string (str p.1), .bool p.2] 95 (0, 0)) ∧ a' = { tmps := (T.setIfInBounds 34 (.agg #[.string (str p.1), .bool p.2])).setIfInBounds 5 (.pointer (some ⟨b, 0, none⟩)), defers := [] }) (fun h => K132.of_below h) (fun p a' W l o o' hl ho ⟨b, hb, ha⟩ => ⟨b, by rw [World.putObj_heap_other (fun e => by subst e; rw [hl] at hb; cases hb; cases ho)]; exact hb, ha⟩) ?assign ?body ?done ?stop
  case stop => rintro Dd c pre W hD _ h _; exact h.elim
  case assign =>
   intro l z W K hK
   have hT := HT.out
   subst hT
   obtain ⟨za, zb⟩ := z
   obtain ⟨zt, hzt⟩ : ∃ t : ByteArray, str za = t := ⟨_, rfl⟩
   simp only [hzt]
   gi_wp2_with (fail)
   refine hK _ _ (below_alloc W _) ⟨W.heap.size, ?_, ?_⟩
   ·simp only [hzt]; exact heap_alloc_new _ _
   ·simp only [hzt, List.setIfInBounds_toArray, List.set_cons_succ, List.set_cons_zero]
  case body =>
   rintro l pre x a' W ⟨v, h1, h2, h3⟩ ⟨rr, hr⟩ ⟨b, hb, rfl⟩
   have hpl : pre.length < 1000000 := by have q := HDC.out.1; rw [hr] at q; simp at q; omega
   obtain ⟨a0, cap0, rfl⟩ := row_shape h2
   obtain ⟨xa, xb⟩ := x
   obtain ⟨xt, hxt⟩ : ∃ t : ByteArray, str xa = t := ⟨_, rfl⟩
   have hdc : dcC (xa, xb) = [.string xt, .bool xb] := by unfold dcC; rw [hxt]
   simp only [hxt] at hb ⊢
   have u0 : W.cell? ⟨b, 0, none⟩ = some (.string xt) := by simp [World.cell?, hb]
   have u1 : W.cell? ⟨b, 1, none⟩ = some (.bool xb) := by simp [World.cell?, hb]
   have c1 : W.cell? ⟨bL, 0, none⟩ = some (.slice a0 pre.length cap0) := by simp [World.cell?, h1]
   have H1 := Hh h1
   have H2 := Hh h2
   have H3 := Hh h3
   have HDCx := Hh hdc
   clear h1 h2 h3 hr hb hxt hdc
   have hT := HT.out
   subst hT
   simp only [List.setIfInBounds_toArray, List.set_cons_succ, List.set_cons_zero]
   gi_wp2_with (gi_at_builtin; refine wpListIn_append_own _ rfl _ _ 104 rfl V.heap.size 95 i0 (.agg #[.string ⟨#[]⟩, .bool false]) 2 24 Tryz.underlying104 HI.out HZ0.out HZ1.out HZ2.out rfl (by decide) _ _ _ rfl (H2.out.alloc _) ⟨W.heap.size, 0, none⟩ 1 1 [.string xt, .bool xb] rfl rfl (two_cells _ _ _ 95) (fun u hu => by simp at hu; rcases hu with rfl | rfl <;> rfl) (by unfold maxLen; omega) (by omega) (by have := H3.out.size; simp; omega) ?_; intro v' W1 hown' hgrow _; have hd1 := lb_amid H1.out (by decide) H2.out hgrow; have HPU := Hh (lb_push H1.out (by decide) H2.out hgrow hown'); obtain ⟨a', cap', hv'⟩ := row_shape hown'; subst hv'; have d1 : W1.cell? ⟨bL, 0, none⟩ = some (.slice a0 pre.length cap0) := (by simp [World.cell?, hd1]); have g1 : W1.frozen? ⟨bL, 0, none⟩ = false := Lib.frozen_of_heap hd1 0; clear hown' hgrow hd1)
   exact ⟨HPU.out.kf _, K132.kt (HPU.out.kt _ rfl rfl), LbI.push H2.out H3.out (HDCx.out ▸ HPU.out)⟩
  case done =>
   rintro Dd zs W hD rfl ⟨v, h1, h2, h3⟩ hK
   have hpW := HPV.out.bs1 hE E0.out HXL.out h3
   have hkW := HKV.out.bs1 HWL.out h3
   have hhW := HHV.out.bs1 HNL.out h3
   obtain ⟨a0, c0, rfl⟩ := row_shape h2
   have hdv := DcV.row h2 HDC.out.1 HDC.out.2
   obtain ⟨dn, hdn⟩ : ∃ n, s4.nm.declared.length = n := ⟨_, rfl⟩
   rw [hdn] at h1 hdv
   obtain ⟨s9, hx9⟩ := close_ok (qne HR4.out HN.out)
   have hr9 := qone HR4.out hx9
   try dsimp only at hr9
   have h9 := wk_close hE s4 W hpW (qne HR4.out HN.out)
   rw [hx9] at h9
   obtain ⟨s10, hx10⟩ := node_ok (qne hr9 HN.out)
   have hr10 := qone hr9 hx10
   try dsimp only at hr10
   have H9 := Hh h9
   have HK9 := Hh hK
   have HL := Hh h1
   have HKW := Hh hkW
   have HHW := Hh hhW
   have HDV := Hh hdv
   have HX10 := Hh hx10
   have HR10 := Hh hr10
   have HR9 := Hh hr9
   have HXD := Hh hD
   clear h1 h2 h3 hK hpW hkW hhW hdv hx9 hr9 h9 hx10 hr10 hD hdn
   have hT := HT.out
   subst hT
   go_wp2_with fail
   refine H9.out.mono ?_
   rintro e w9 ⟨rfl, hp9, hk9⟩
   have h10 := wk_node hE 16 v1 s9 w9 hp9 (qne HR9.out HN.out)
   rw [HX10.out] at h10
   have H10 := Hh h10
   have HK9' := Hh hk9
   clear hp9 hk9 h10
   obtain ⟨d0, d1⟩ := (HHW.out.kp HK9'.out).cells
   go_wp2_with fail
   refine H10.out.mono ?_
   rintro e w10 ⟨rfl, hp10, hk10⟩
   have hl := hk10.2 _ _ _ _ rfl (HK9'.out.2 _ _ _ _ rfl HL.out)
   have cl : w10.cell? ⟨bL, 0, none⟩ = some (.slice a0 dn c0) := by simp [World.cell?, hl]
   have hkd := hk10.3 _ _ (HK9'.out.3 _ _ HK9.out)
   have HKD := Hh hkd
   have HPT := Hh hp10
   have HKT := Hh ((HKW.out.trans HK9'.out).trans hk10)
   have HDT := Hh ((HDV.out.kp HK9'.out).kp hk10)
   clear hl hkd hp10 hk10 d0 d1
   go_wp2_with fail
   refine ⟨by simp, .inl ⟨_, _, rfl, run_takeDeferred HKD.out, ?_⟩⟩
   have hXD : E.X ≤ Dd := by have q1 := HXD.out; have q2 := HSV.out; have q3 := HXL.out; omega
   have hWD : w.heap.size ≤ Dd := by have q1 := HXD.out; have q2 := HSV.out; have q3 := HWL.out; omega
   exact ⟨.slice a0 dn c0, by simp [results, Tryz.results125, go_sem], q_ok (q_pure HR10.out) (HDT.out.put _ HKD.out) (HPT.out.put _ hE HKD.out hXD) (HKT.out.put _ hWD)⟩
end Go.Proofs.YtlboejdhmggjpaaGreat.Pp

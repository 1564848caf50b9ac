/- scope: Declare of a new name. -/
import Derived.Test.YtlboejdhmggjpaaGreatWsE
import Derived.Test.YtlboejdhmggjpaaGreatMon
import Derived.Test.YtlboejdhmggjpaaGreatTal
set_option linter.all false
namespace Go.Proofs.YtlboejdhmggjpaaGreat.Sp
open Go.RowKit Go.BigFrame Go.ChangeMaps Go.WideMaps Go.Proofs.YtlboejdhmggjpaaGreat
set_option linter.unusedVariables false

theorem two_new (w : World) (p q : Value) (t : TypeId) : ∀ j u, [p, q][j]? = some u → (w.alloc (.cells #[p, q] t)).cell? ((⟨w.heap.size, 0, none⟩ : Addr).add j) = some u := by
  intro j u hj
  match j, hj with
  | 0, hj => simp at hj; subst hj; simp [Addr.add]
  | 1, hj => simp at hj; subst hj; simp [Addr.add]

theorem str_key (x : ByteArray) : WideAt.IsKeyLit (.string x.data.toList) := by
  simp [WideAt.IsKeyLit]

/-- Both rows are written: the name is declared. -/
theorem decl_new_done {w w3 w5 : World} {A M n : Nat} {vB v' v'' : Value} {vs : List Value} {mv : ByteArray → Value} {D D' : DataW Value} {G : List Frm} {f : Frm} {S : Nat → Prop} {x : ByteArray} {t : Bool} (h : ScAt w A M n vB vs mv D (G ++ [f])) (hS : ∀ k, foot A M vB vs mv k → S k) (hS2 : ∀ k, S k → k < w.heap.size)
    (hl : look f x = none) (h3 : ScG w3 A M (n + 1) vB vs (updV mv x v') D' (updS (stk (G ++ [f])) x (stk (G ++ [f]) x ++ [(G.length + 1, t)])) ((G ++ [f]).map names)) (hm3 : Mod (fun k => (mv x).ownBlock = some k ∨ k = M) w w3)
    (hat' : v'.ownBlock = (mv x).ownBlock ∨ v'.ownBlock = none ∨ ∃ g, v'.ownBlock = some g ∧ w.heap.size ≤ g) {gB : Nat} (hBg : vB.ownBlock = some gB)
    (h5 : ScG w5 A M (n + 1) vB (vs.set G.length v'') (updV mv x v') D' (updS (stk (G ++ [f])) x (stk (G ++ [f]) x ++ [(G.length + 1, t)])) (((G ++ [f]).map names).set G.length (names f ++ [.string x])))
    (hm5 : Mod (fun k => (vs.getD G.length nilS).ownBlock = some k ∨ k = gB) w3 w5) (hat'' : v''.ownBlock = (vs.getD G.length nilS).ownBlock ∨ v''.ownBlock = none ∨ ∃ g, v''.ownBlock = some g ∧ w3.heap.size ≤ g) :
    Leaves A (n + 1) S (G ++ [setF f x t]) w w5 := by
  have hset : setF f x t = f ++ [(x, t)] := setF_new f x t hl
  have hs0 : stk (G ++ [f]) x = stk G x := by rw [stk_snoc, hl]; simp
  have hAt : ScAt w5 A M (n + 1) vB (vs.set G.length v'') (updV mv x v') D' (G ++ [setF f x t]) := by
    refine h5.toAt (fun y => ?_) ?_ (by simp)
    · unfold updS
      by_cases hy : y = x
      · rw [if_pos hy, hy, hs0, stk_snoc, look_setF_same]
      · rw [if_neg hy, stk_snoc, stk_snoc, look_setF_other _ _ _ _ hy]
    · rw [hset, List.map_append, List.map_append, List.set_append_right _ _ (by simp)]
      simp [names]
  have h1 : w.heap.size ≤ w3.heap.size := hm3.size
  refine ⟨fun k => (S k ∨ w.heap.size ≤ k) ∧ k < w5.heap.size, ⟨M, vB, _, _, D', hAt, fun k hk => ⟨?_, h5.lt k hk⟩, fun k hk => hk.2⟩, fun k hk => hk.1, ?_⟩
  · rcases hk with rfl | rfl | hk | ⟨i, hk⟩ | ⟨y, hk⟩
    · exact .inl (hS _ (.inl rfl))
    · exact .inl (hS _ (.inr (.inl rfl)))
    · exact .inl (hS _ (.inr (.inr (.inl hk))))
    · rw [List.getD_eq_getElem?_getD, List.getElem?_set] at hk
      split at hk
      · split at hk
        · simp only [Option.getD_some] at hk
          rcases hat'' with e | e | ⟨g, e, hg⟩
          · exact .inl (hS _ (.inr (.inr (.inr (.inl ⟨G.length, by rw [← e]; exact hk⟩)))))
          · rw [e] at hk; cases hk
          · rw [e] at hk; simp only [Option.some.injEq] at hk; exact .inr (by omega)
        · simp [Value.ownBlock] at hk
      · exact .inl (hS _ (.inr (.inr (.inr (.inl ⟨i, by rw [List.getD_eq_getElem?_getD]; exact hk⟩)))))
    · unfold updV at hk
      split at hk
      · rcases hat' with e | e | ⟨g, e, hg⟩
        · exact .inl (hS _ (.inr (.inr (.inr (.inr ⟨x, by rw [← e]; exact hk⟩)))))
        · rw [e] at hk; cases hk
        · rw [e] at hk; simp only [Option.some.injEq] at hk; exact .inr (by omega)
      · exact .inl (hS _ (.inr (.inr (.inr (.inr ⟨y, hk⟩)))))
  · refine (hm3.mono (fun k _ hk => ?_)).trans (hm5.mono (fun k _ hk => ?_))
    · rcases hk with hk | rfl
      · exact hS _ (.inr (.inr (.inr (.inr ⟨x, hk⟩))))
      · exact hS _ (.inr (.inl rfl))
    · rcases hk with hk | rfl
      · exact hS _ (.inr (.inr (.inr (.inl ⟨G.length, hk⟩))))
      · exact hS _ (.inr (.inr (.inl hBg)))

set_option maxRecDepth 100000 in
set_option maxHeartbeats 2000000 in
theorem Sc.declare_new (A n : Nat) (S : Nat → Prop) (G : List Frm) (f : Frm) (x : ByteArray) (t : Bool) (w : World) (h : Sco w A n S (G ++ [f])) (hx0 : x.size ≠ 0) (hx : x.size ≤ maxLen) (hF : (G ++ [f]).length ≤ 65536) (hf : f.length ≤ 1000000) (hn : n ≤ 1000000) (hl : look f x = none) :
    Calls Tryz.prog 17 #[.pointer (some ⟨A, 0, none⟩), .string x, .bool t] w fun e w' => e = .returned (.int .i64 0) ∧ Leaves A (n + 1) S (G ++ [setF f x t]) w w' := by
  obtain ⟨M, vB, vs, mv, D, h, h2, h3⟩ := h
  obtain ⟨c0, c1, c2⟩ := h.cells
  have HD := Lib.hid h.hd
  have hlk := h.lookup x hx
  have hrow := h.mrow x
  have hsl : (stk (G ++ [f]) x).length ≤ (G ++ [f]).length := stkFrom_len x 1 (G ++ [f])
  obtain ⟨hs0, htop⟩ : stk (G ++ [f]) x = stk G x ∧ ((stk (G ++ [f]) x).length = 0 ∨ ∃ b : Nat, b ≠ (G ++ [f]).length ∧ ∀ hh : (stk (G ++ [f]) x).length - 1 < (stk (G ++ [f]) x).length, ((stk (G ++ [f]) x)[(stk (G ++ [f]) x).length - 1]'hh).1 = b) := by
    rcases top_block (x := x) (rfl : G ++ [f] = G ++ [f]) with ⟨t0, hq, _⟩ | ⟨_, h1, h2⟩
    · rw [hl] at hq; cases hq
    · exact ⟨h1, h2⟩
  have HG := Lib.hid h.toG
  obtain ⟨am, cm, hmv⟩ := row_shape hrow
  obtain ⟨gB, cB, curB, hvB, hgB⟩ : ∃ g cap cur, vB = .slice (some ⟨g, 0, none⟩) (G ++ [f]).length cap ∧ w.heap[g]? = some (.cells cur 90 (0, 0)) := by
    rcases h.brow.2 with ⟨_, hz⟩ | ⟨g, cap, cur, hv, _, hg, _⟩
    · simp at hz
    · exact ⟨g, cap, cur, hv, hg⟩
  have HVB := Lib.hid hvB
  have HMV := Lib.hid hmv
  have H2 := Lib.hid h2
  have H3 := Lib.hid h3
  have HH := Lib.hid h
  have hne := str_some hx0
  obtain ⟨N, hN⟩ : ∃ N, N = (G ++ [f]).length := ⟨_, rfl⟩
  have HN := Lib.hid hN
  rw [← hN] at hF hsl htop
  rw [hvB, ← hN] at c2
  -- the worlds of the first region
  obtain ⟨i0, hi, hz0, hz1, hz2⟩ := info_parts infoMe
  obtain ⟨W1, hW1⟩ : ∃ W1, W1 = w.drew.alloc (.cells #[.int .i64 N, .bool t] 89) := ⟨_, rfl⟩
  obtain ⟨v', w2, hrunA, hownA, hgA, _, hatA⟩ := run_append_own_at (P := Tryz.prog) W1 0 87 87 89 i0 (.agg #[.int .i64 0, .bool false]) 2 16 Tryz.underlying87 hi hz0 hz1 hz2 rfl (by decide) (mv x) (stk (G ++ [f]) x).length ((stk (G ++ [f]) x).flatMap mcell)
    (by rw [hW1]; exact World.ownsRow.alloc hrow _) ⟨w.heap.size, 0, none⟩ 1 1 [.int .i64 N, .bool t] rfl (by rw [hW1]; exact two_new w.drew _ _ _) (by intro u hu; simp at hu; rcases hu with rfl | rfl <;> rfl) (by unfold maxLen; omega) (by omega) (by omega)
  have hgA' : w.grownBy w2 (mv x).ownBlock := by
    rw [hW1] at hgA
    exact (show w.grownBy w.drew _ from ⟨rfl, rfl, rfl, Nat.le_refl _, fun _ _ _ => rfl⟩).trans ((World.grownBy_alloc w.drew _ _).trans hgA)
  have hm2 : w2.ownsMap Tryz.prog 9 rawR M n D := ownsMap_mod h.mp (Mod.of_grown hgA') (fun e => (HG.out.mv_ne x M e).2.1 rfl)
  obtain ⟨w3, hrunM, hownM, hgM⟩ := hm2.update law9 Tryz.underlying63 (by unfold maxLen; omega) (keyOf_string_mk Tryz.underlying9 hx) (val := v') (d := .held v') (ps := []) rfl
  have hturn := HG.out.turn (x := x) (v' := v') (l' := stk (G ++ [f]) x ++ [(N, t)]) (D' := D.put (.string x.data.toList) (.held v')) (by
      rw [List.length_append, List.length_singleton, List.flatMap_append]
      exact hownA) hgA' (by
      rcases hatA with e | e
      · exact .inl e
      · refine .inr (.inr ⟨_, e, ?_⟩)
        rw [hW1]; simp) hownM hgM
    (fun _ => Maps.atKey_put_same hm2.isMap (str_key x) _ _) (fun y hy => Maps.atKey_put_other (lit_ne hy) _ _)
  have HT := Lib.hid hturn
  have hNG : N = G.length + 1 := by rw [hN]; simp
  have hnsl : ((G ++ [f]).map names).length = N := by rw [hN]; simp
  have hnsi : ((G ++ [f]).map names)[G.length]'(by rw [hnsl]; omega) = names f := by simp
  -- the second region
  obtain ⟨j0, hj, hjz, hj1, hj2⟩ := info_parts infoSt
  have hvr := hturn.1.vrow G.length (by rw [hnsl]; omega)
  rw [hnsi, names_len] at hvr
  obtain ⟨av, cv, hvi⟩ := row_shape hvr
  obtain ⟨V1, hV1⟩ : ∃ V1, V1 = w3.drew.alloc (.cells #[.string x] 9) := ⟨_, rfl⟩
  obtain ⟨v'', w4, hrunB, hownB, hgB4, _, hatB⟩ := run_append_own_at (P := Tryz.prog) V1 0 90 90 9 j0 (.string ⟨#[]⟩) 1 16 Tryz.underlying90 hj hjz hj1 hj2 rfl (by decide) (vs.getD G.length nilS) f.length (names f)
    (by rw [hV1]; exact World.ownsRow.alloc hvr _) ⟨w3.heap.size, 0, none⟩ 1 1 [.string x] rfl (by rw [hV1]; exact cell_one_new w3.drew _ _) (by intro u hu; simp at hu; subst hu; rfl) (by unfold maxLen; omega) (by omega) (by omega)
  obtain ⟨a5, c5, hv5⟩ := row_shape hownB
  have hgB' : w3.grownBy w4 (vs.getD G.length nilS).ownBlock := by
    rw [hV1] at hgB4
    exact (show w3.grownBy w3.drew _ from ⟨rfl, rfl, rfl, Nat.le_refl _, fun _ _ _ => rfl⟩).trans ((World.grownBy_alloc w3.drew _ _).trans hgB4)
  have hatB' : v''.ownBlock = (vs.getD G.length nilS).ownBlock ∨ v''.ownBlock = none ∨ ∃ g, v''.ownBlock = some g ∧ w3.heap.size ≤ g := by
    rcases hatB with e | e
    · exact .inl e
    · refine .inr (.inr ⟨_, e, ?_⟩)
      rw [hV1]; simp
  have hatA' : v'.ownBlock = (mv x).ownBlock ∨ v'.ownBlock = none ∨ ∃ g, v'.ownBlock = some g ∧ w.heap.size ≤ g := by
    rcases hatA with e | e
    · exact .inl e
    · refine .inr (.inr ⟨_, e, ?_⟩)
      rw [hW1]; simp
  have hturn2 := hturn.1.turnV (i := G.length) (gB := gB) (cap := cB) (v' := v'') (l' := names f ++ [.string x]) (by rw [hnsl]; omega) (by rw [hvB, hnsl, hN]) (by
    rw [List.length_append, names_len]; exact hownB) hgB' hatB'
  have hcB := hgB'.block
  have hdone := decl_new_done (t := t) h h2 h3 hl (by rw [← hNG]; exact hturn.1) hturn.2 hatA' (by rw [hvB]; rfl) (by rw [← hNG]; exact hturn2.1) hturn2.2 hatB'
  rw [show G.length = N - 1 from by omega, hv5] at hdone
  have HDONE := Lib.hid hdone
  rw [hv5] at hrunB
  have HT2 := Lib.hid hturn2
  have HRB := Lib.hid hrunB
  have HV1 := Lib.hid hV1
  have HGB := Lib.hid hgB'
  have HVI := Lib.hid hvi
  have HNG := Lib.hid hNG
  have HRA := Lib.hid hrunA
  have HRM := Lib.hid hrunM
  have HW1 := Lib.hid hW1
  have HGA := Lib.hid hgA'
  have HGM := Lib.hid hgM
  have HS0 := Lib.hid hs0
  have HLK := Lib.hid hlk
  rw [hmv] at hlk
  clear h h2 h3 hi hz0 hz1 hz2 hW1 hrunA hownA hgA hgA' hm2 hrunM hownM hgM hturn hs0 hN hvB hmv hl hNG hnsl hnsi hj hjz hj1 hj2 hvr hvi hV1 hrunB hownB hgB4 hatB hgB' hatB' hatA' hatA hturn2 hcB hdone hv5
  have hW : ∃ W : Nat → World, W 0 = w.drew ∧ W 1 = W1 ∧ W 2 = w2 ∧ ∀ j, 3 ≤ j → W j = w3 := ⟨fun j => match j with | 0 => w.drew | 1 => W1 | 2 => w2 | _ => w3, rfl, rfl, rfl, fun j hj => by
    match j, hj with
    | j + 3, _ => rfl⟩
  obtain ⟨W, hW0, hW1, hW2, hW3⟩ := hW
  have hA1 : ∀ j, (W j).heap[A]? = some (.cells #[.pointer (some ⟨A, 0, none⟩), .map (some M), vB] 66 (0, 0)) := fun j => by
    have hAlt := (Array.getElem?_eq_some_iff.1 HD.out).1
    match j with
    | 0 => rw [hW0]; exact HD.out
    | 1 => rw [hW1, HW1.out, Lib.alloc_old _ _ _ (by exact hAlt)]; exact HD.out
    | 2 => rw [hW2]; exact (HGA.out.block A hAlt (fun e => (HG.out.mv_ne x A e.symm).1 rfl)).trans HD.out
    | j + 3 => rw [hW3 _ (by omega)]; exact HT.out.1.hd
  have HA := Lib.hid hA1
  have b1 : ∀ j, (W j).cell? ⟨A, 1, none⟩ = some (.map (some M)) := fun j => by simp [World.cell?, HA.out j]
  have H0 := Lib.hid hW0
  have H1 := Lib.hid hW1
  have HW2 := Lib.hid hW2
  have HW3 := Lib.hid hW3
  clear hW0 hW1 hW2 hW3 hA1
  have hV : ∃ V : Nat → World, V 0 = w3.drew ∧ V 1 = V1 ∧ ∀ j, 2 ≤ j → V j = w4 := ⟨fun j => match j with | 0 => w3.drew | 1 => V1 | _ => w4, rfl, rfl, fun j hj => by
    match j, hj with
    | j + 2, _ => rfl⟩
  obtain ⟨V, hV0, hV1, hV2⟩ := hV
  have hBj : ∀ j, (V j).ownsRow 0 90 1 (.slice (some ⟨gB, 0, none⟩) N cB) N vs := fun j => by
    have hb := HT.out.1.brow
    rw [HVB.out, ← HN.out, show ((G ++ [f]).map names).length = N from by rw [HN.out]; simp] at hb
    match j with
    | 0 => rw [hV0]; exact hb
    | 1 => rw [hV1, HV1.out]; exact World.ownsRow.alloc hb _
    | j + 2 =>
      rw [hV2 _ (by omega)]
      refine hb.kept HGB.out (.inr (fun e => ?_))
      exact (HT.out.1.v_ne G.length (by simp) gB (by rw [← e]; rfl)).2.2.1 (by rw [HVB.out]; rfl)
  have HBJ := Lib.hid hBj
  have hAj : ∀ j, (V j).cell? ⟨A, 2, none⟩ = some (.slice (some ⟨gB, 0, none⟩) N cB) := fun j => by
    have ha := HT.out.1.hd
    have hlt := (Array.getElem?_eq_some_iff.1 ha).1
    rw [HVB.out, ← HN.out] at ha
    have : (V j).heap[A]? = some (.cells #[.pointer (some ⟨A, 0, none⟩), .map (some M), .slice (some ⟨gB, 0, none⟩) N cB] 66 (0, 0)) := by
      match j with
      | 0 => rw [hV0]; exact ha
      | 1 => rw [hV1, HV1.out, Lib.alloc_old _ _ _ (by exact hlt)]; exact ha
      | j + 2 => rw [hV2 _ (by omega)]; exact (HGB.out.block A hlt (fun e => (HT.out.1.v_ne G.length (by simp) A e.symm).1 rfl)).trans ha
    simp [World.cell?, this]
  have hvj : ∀ j, (V j).cell? ⟨gB, N - 1, none⟩ = some (.slice av f.length cv) := fun j => by
    have hvl := HT.out.1.vs_len
    rw [List.length_map, ← HN.out] at hvl
    have hlt : N - 1 < vs.length := by have := HNG.out; omega
    rw [(HBJ.out j).cellAt _ (by have := HNG.out; omega), List.getElem?_eq_getElem hlt]
    have := HVI.out
    rw [List.getD_eq_getElem?_getD, List.getElem?_eq_getElem (by have := HNG.out; omega)] at this
    simp only [Option.getD_some] at this
    rw [← this]
    congr 2
    have := HNG.out; omega
  have hfz : w4.frozen? ⟨gB, N - 1, none⟩ = false := by
    have := (HBJ.out 2).frozenAt (N - 1)
    rwa [hV2 2 (by omega)] at this
  have hgB4 : gB < w4.heap.size := by
    have := ((HBJ.out 2).lt gB rfl).2
    rwa [hV2 2 (by omega)] at this
  have hv4 := hvj 2
  rw [hV2 2 (by omega)] at hv4
  have n1 : ((N : Int) - 1).toNat = N - 1 := by omega
  have n2 : (0 : Int) ≤ (N : Int) - 1 := by have := HNG.out; omega
  have n3 : ((N : Int) - 1) < (N : Int) := by omega
  have K0 := Lib.hid hV0
  have K1 := Lib.hid hV1
  have K2 := Lib.hid hV2
  clear hV0 hV1 hV2 hBj
  have i3 : (N : Int) ≤ 65536 := by omega
  generalize hlg : stk (G ++ [f]) x = l at *
  have HLG := Lib.hid hlg
  clear hlg
  have hlN : (l.length : Int) ≤ 65536 := by omega
  have hcases : (¬ 0 < l.length) ∨ (0 < l.length ∧ ∃ g b : Nat, am = some ⟨g, 0, none⟩ ∧ g < w.heap.size ∧ w.cell? ⟨g, (l.length - 1) * 2, none⟩ = some (.int .i64 b) ∧ b ≠ N) := by
    rcases htop with h0 | ⟨b, hbN, htop⟩
    · exact .inl (by omega)
    · by_cases h0 : 0 < l.length
      · obtain ⟨g, cap, hv, hg, k0, _⟩ := row_top hrow h0
        rw [htop (by omega)] at k0
        rw [HMV.out] at hv
        simp only [Value.slice.injEq, true_and] at hv
        exact .inr ⟨h0, g, b, hv.1, hg, k0, hbN⟩
      · exact .inl h0
  clear htop hrow
  have j0 : ((l.length : Int) - 1).toNat = l.length - 1 := by omega
  rcases hcases with h0 | ⟨h0, g, b, rfl, hg, k0, hbN⟩
  case' inr =>
    have hbN2 : (b == N) = false := by simpa using hbN
    have hbN3 : ((b : Int) == (N : Int)) = false := by rw [beq_eq_false_iff_ne]; omega
    have j1 : (0 : Int) ≤ (l.length : Int) - 1 := by omega
    have j2 : ((l.length : Int) - 1) < (l.length : Int) := by omega
  all_goals
    go_enter Tryz.func17, Tryz.ntmps17
    go_wp2_with fail
    refine (Sc.made A w _ _ HD.out).mono ?_
    rintro e w1 ⟨rfl, rfl⟩
    go_wp2_with fail
    refine wp_region_chain W [9, 10, 11] H0.out (by kernel_rfl) (by kernel_rfl) ?_
    refine chain_reads_at 9 (by kernel_rfl) ?_
    simp only [List.take_succ_cons, List.take_zero, List.drop_succ_cons, List.drop_zero]
    repeat (go_big_quiet_step (fail))
    refine wpQuiet_nil ?_
    refine chain_op 0 (.slice (some ⟨w1.heap.size, 0, none⟩) 1 1) (by kernel_rfl) rfl (.inl ?_) ?_
    · rw [H0.out, H1.out, HW1.out]
      kernel_rfl
    refine chain_op 1 v' (by kernel_rfl) rfl (.inl ?_) ?_
    · rw [H1.out, HW2.out]
      have q := HRA.out
      rw [HMV.out] at q
      exact exec_append rfl rfl rfl q
    refine chain_op 2 undef (by kernel_rfl) rfl (.inr ⟨?_, rfl⟩) ?_
    · rw [HW2.out, HW3.out _ (Nat.le_refl _)]
      exact exec_mapUpdate rfl rfl rfl rfl HRM.out
    refine chain_end ?_
    rw [show W ([9, 10, 11] : List Nat).length = w3 from HW3.out _ (Nat.le_refl _)]
    simp only [Act.put, List.setIfInBounds_toArray, List.set_cons_succ, List.set_cons_zero]
    have e1 : w3.cell? ⟨A, 2, none⟩ = some (.slice (some ⟨gB, 0, none⟩) N cB) := by have q := HT.out.1.hd; rw [HVB.out, ← HN.out] at q; simp [World.cell?, q]
    go_wp2_with fail
    refine wp_region_chain_tail V [15, 16] 18 K0.out (by kernel_rfl) (by kernel_rfl) ?_
    simp only [List.take_succ_cons, List.take_zero, List.drop_succ_cons, List.drop_zero]
    refine chain_reads_at 15 (by kernel_rfl) ?_
    simp only [List.take_succ_cons, List.take_zero, List.drop_succ_cons, List.drop_zero]
    repeat (go_big_quiet_step (fail))
    refine wpQuiet_nil ?_
    refine chain_op 0 (.slice (some ⟨w3.heap.size, 0, none⟩) 1 1) (by kernel_rfl) rfl (.inl ?_) ?_
    · rw [K0.out, K1.out, HV1.out]
      kernel_rfl
    refine chain_op 1 (.slice a5 (f.length + 1) c5) (by kernel_rfl) rfl (.inl ?_) ?_
    · rw [K1.out, K2.out _ (Nat.le_refl _)]
      have q := HRB.out
      rw [HVI.out] at q
      exact exec_append rfl rfl rfl q
    refine chain_reads_at 1 (by kernel_rfl) ?_
    simp only [List.take_succ_cons, List.take_zero, List.drop_succ_cons, List.drop_zero, Act.put, List.setIfInBounds_toArray, List.set_cons_succ, List.set_cons_zero]
    repeat (go_big_quiet_step (fail))
    refine wpQuiet_nil ?_
    refine chain_end ?_
    rw [show V ([15, 16] : List Nat).length = w4 from K2.out _ (Nat.le_refl _)]
    go_wp2_with fail
    go_ret
    exact ⟨rfl, HDONE.out⟩
end Go.Proofs.YtlboejdhmggjpaaGreat.Sp

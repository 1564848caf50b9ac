/- scope: Close. -/
import Derived.Test.YtblooekephkojaaScQ
import Derived.Maps.OwnIn
namespace Go.Proofs.Ytblooekephkojaa
open Go.RowKit Go.BigFrame Go.Shelf Go.ChangeMaps Go.WideMaps
set_option linter.unusedVariables false
attribute [local go_sem] Oper.semAt_some

theorem ownFrom_by {β : Type} {B : Nat} {I : β → World → Prop} (h : ∀ s W W', I s W → Mod (fun k => B ≤ k) W W' → I s W') : OwnFrom B I :=
  fun s W W' row hs hg hr => h s W W' hs ⟨hg.os, hg.tape, hg.output, hg.size, fun k hk hB => hg.block k hk (fun e => hB (hr k e.symm).1)⟩
theorem ScG.mono {w : World} {A M n m : Nat} {vB : Value} {vs : List Value} {mv : ByteArray → Value} {D : DataW Value} {st : ByteArray → List (Nat × Bool)} {ns : List (List Value)} (h : ScG w A M n vB vs mv D st ns) (hm : n ≤ m) : ScG w A M m vB vs mv D st ns :=
  ⟨h.hd, h.mp.mono hm, h.key, h.mrow, h.brow, h.vrow, h.dm, h.dv⟩
theorem ScG.lookup {w : World} {A M n : Nat} {vB : Value} {vs : List Value} {mv : ByteArray → Value} {D : DataW Value} {st : ByteArray → List (Nat × Bool)} {ns : List (List Value)} (h : ScG w A M n vB vs mv D st ns) (x : ByteArray) (hx : x.size ≤ maxLen) :
    (Instr.lookup 54 (.map (some M)) (.string x) false).run Try.prog w = .ok (mv x) w := by
  obtain ⟨v, ps, hrun, hv⟩ := h.mp.lookup law9 Try.underlying54 (zero88 w) (zd := .held nilS) (zp := []) rfl (keyOf_string_mk Try.underlying9 hx)
  rw [h.key x hx] at hv
  have : v = mv x := by
    unfold rawR at hv
    simp only [Option.some.injEq, Prod.mk.injEq, DataW.held.injEq] at hv
    exact hv.1
  rw [hrun, this]
/-- Amid Close: some names are popped. -/
def Popped (A M n : Nat) (vB : Value) (vs : List Value) (S : Nat → Prop) (G : List Frm) (f : Frm) (W1 : World) (pre : List ByteArray) (W : World) : Prop :=
  ∃ mv D, ScG W A M (n + pre.length) vB vs mv D (stP G f pre) ((G ++ [f]).map names) ∧ (∀ k, foot A M vB vs mv k → S k) ∧ Mod (fun k => S k ∨ W1.heap.size ≤ k) W1 W
theorem Popped.keep {A M n : Nat} {vB : Value} {vs : List Value} {S : Nat → Prop} {G : List Frm} {f : Frm} {W1 W W' : World} {pre : List ByteArray} (h : Popped A M n vB vs S G f W1 pre W) (hS : ∀ k, S k → k < W1.heap.size) (hm : Mod (fun k => W1.heap.size ≤ k) W W') : Popped A M n vB vs S G f W1 pre W' := by
  obtain ⟨mv, D, h1, h2, h3⟩ := h
  exact ⟨mv, D, h1.keep hm (fun k hk => by have := hS k (h2 k hk); omega), h2, h3.trans (hm.mono (fun k _ hk => .inr hk))⟩

theorem Leaves.after {A n Dd : Nat} {S : Nat → Prop} {F : List Frm} {w W1 W W2 : World} (o : Obj) (hb : Below w.heap.size w W1) (hs : w.heap.size ≤ W1.heap.size) (hm : Mod (fun k => S k ∨ W1.heap.size ≤ k) W1 W) (hl : Leaves A n S F W W2) (hD : W1.heap.size ≤ Dd) (hDW : Dd < W.heap.size) (hS : ∀ k, S k → k < w.heap.size) :
    Leaves A n S F w (W2.putObj Dd o) := by
  obtain ⟨S', h1, h2, h3⟩ := hl
  have hp : Mod (fun k => k = Dd) W2 (W2.putObj Dd o) := ⟨rfl, rfl, rfl, by simp, fun k hk hn => World.putObj_heap_other (fun e => hn (by omega))⟩
  refine ⟨S', h1.keep hp (fun k hk e => ?_), fun k hk => ?_, ?_⟩
  · subst e
    rcases h2 k hk with h | h
    · have := hS k h; omega
    · omega
  · rcases h2 k hk with h | h
    · exact .inl h
    · exact .inr (by have := hm.size; omega)
  · have hT : Mod (fun k => S k ∨ w.heap.size ≤ k) w (W2.putObj Dd o) :=
      (((Mod.of_below (S := fun _ => False) hb).mono (fun _ _ h => h.elim)).trans (hm.mono (fun k _ hk => by
        rcases hk with h | h
        · exact .inl h
        · exact .inr (by omega)))).trans ((h3.mono (fun k _ hk => .inl hk)).trans (hp.mono (fun k _ hk => .inr (by omega))))
    exact hT.mono (fun k hk h => h.resolve_right (by omega))

set_option maxRecDepth 100000 in
set_option maxHeartbeats 4000000 in
theorem Sc.close_more (A n : Nat) (S : Nat → Prop) (G : List Frm) (f : Frm) (w : World) (h : Sco w A n S (G ++ [f])) (hG : 0 < G.length) (hnd : (nms f).Nodup) (hnm : ∀ x ∈ nms f, x.size ≤ maxLen) (hF : (G ++ [f]).length ≤ 65536) (hf : f.length ≤ 1000000) (hn : n ≤ 1000000) :
    Calls Try.prog 28 #[.pointer (some ⟨A, 0, none⟩)] w fun e w' => e = .returned (.int .i64 0) ∧ Leaves A (n + f.length) S G w w' := by
  obtain ⟨M, vB, vs, mv, D, h, h2, h3⟩ := h
  obtain ⟨gB, cB, curB, hvB, hgB⟩ : ∃ g cap cur, vB = .slice (some ⟨g, 0, none⟩) (G.length + 1) cap ∧ w.heap[g]? = some (.cells cur 91 (0, 0)) := by
    rcases h.brow.2 with ⟨_, hz⟩ | ⟨g, cap, cur, hv, _, hg, _⟩
    · simp at hz
    · exact ⟨g, cap, cur, by simpa using hv, hg⟩
  subst hvB
  have hgl : gB < w.heap.size := (Array.getElem?_eq_some_iff.1 hgB).1
  have hAl : A < w.heap.size := (Array.getElem?_eq_some_iff.1 h.hd).1
  have hMl : M < w.heap.size := h.mp.lt
  obtain ⟨W0, hW0⟩ : ∃ W0, W0 = w.alloc (.cells #[.pointer (some ⟨A, 0, none⟩)] 42) := ⟨_, rfl⟩
  obtain ⟨W1, hW1⟩ : ∃ W1, W1 = W0.alloc (.cells #[.pointer (some ⟨A, 0, none⟩)] 42) := ⟨_, rfl⟩
  have hb0 : Below w.heap.size w W0 := by rw [hW0]; exact (Below.refl _ _).alloc (Nat.le_refl _) _
  have hs0 : W0.heap.size = w.heap.size + 1 := by rw [hW0]; simp
  have hb1 : Below w.heap.size w W1 := by rw [hW1]; exact hb0.alloc (by omega) _
  have hs1 : W1.heap.size = w.heap.size + 2 := by rw [hW1]; simp [hs0]
  have c0 : W0.cell? ⟨w.heap.size, 0, none⟩ = some (.pointer (some ⟨A, 0, none⟩)) := by rw [hW0]; simp [go_sem]
  have d0 : W1.cell? ⟨w.heap.size, 0, none⟩ = some (.pointer (some ⟨A, 0, none⟩)) := by rw [hW1, hW0]; simp [go_sem]
  have d1 : W1.cell? ⟨w.heap.size + 1, 0, none⟩ = some (.pointer (some ⟨A, 0, none⟩)) := by rw [hW1, ← hs0]; simp [go_sem]
  have hG0 := h.toG.keep (T := fun _ => False) (Mod.of_below hb0) (fun _ _ h => h)
  have hG1 := h.toG.keep (T := fun _ => False) (Mod.of_below hb1) (fun _ _ h => h)
  have hPop : Popped A M n (.slice (some ⟨gB, 0, none⟩) (G.length + 1) cB) vs S G f W1 [] W1 := ⟨mv, D, by rw [stP_nil]; exact hG1, h2, Mod.refl _ _⟩
  have hS1 : ∀ k, S k → k < W1.heap.size := fun k hk => by have := h3 k hk; omega
  have hSw : ∀ k, S k → k < w.heap.size := h3
  have hvsl : vs.length = G.length + 1 := by have := h.vs_len; simpa using this
  have hvr := hG1.vrow G.length (by simp)
  rw [show ((G ++ [f]).map names)[G.length]'(by simp) = names f from by simp, names_len] at hvr
  obtain ⟨av, cv, hvi⟩ := row_shape hvr
  have d2 : W1.cell? ⟨A, 2, none⟩ = some (.slice (some ⟨gB, 0, none⟩) (G.length + 1) cB) := by simp [World.cell?, hG1.hd]
  have d3 : W1.cell? ⟨gB, G.length + 1 - 1, none⟩ = some (.slice av f.length cv) := by
    have hb := hG1.brow
    rw [List.length_map, List.length_append, List.length_singleton] at hb
    rw [Nat.add_sub_cancel, hb.cellAt G.length (by omega), ← hvi, List.getD_eq_getElem?_getD, List.getElem?_eq_getElem (by omega)]
    rfl
  have hvM : ∀ g, (Value.slice av f.length cv).ownBlock = some g → g ≠ M := fun g hg => by
    rw [← hvi] at hg
    exact (hG1.v_ne G.length (by simp) g hg).2.1
  rw [hvi] at hvr
  have hseq := Sc.inner_next 4 A M (w.heap.size + 1) gB cB (G.length + 1) cv av f W1 d1 d2 d3 hvr hvM (by omega) (by simpa using hF) hf
  have HSEQ := Lib.hid hseq
  refine (callsIn_wide (n := 5)).1 ?_
  refine callsIn_of_wp_marks Try.func28 rfl trivial ?_ rfl
  simp only [Try.ntmps28, List.size_toArray, List.length_cons, List.length_nil, Nat.reduceAdd, Nat.reduceSub, Array.replicate_succ, Array.replicate_zero, List.push_toArray, List.append_toArray, List.nil_append, List.cons_append]
  have HD0 := Lib.hid hG0.hd
  have c1 : W0.cell? ⟨A, 2, none⟩ = some (.slice (some ⟨gB, 0, none⟩) (G.length + 1) cB) := by simp [World.cell?, hG0.hd]
  have hb : decide ((G.length : Int) + 1 = 1) = false := by simp; omega
  have HW0 := Lib.hid hW0
  have HW1 := Lib.hid hW1
  have HS1 := Lib.hid hs1
  have HB1 := Lib.hid hb1
  have HSS := Lib.hid hS1
  have HSw := Lib.hid hSw
  have HND := Lib.hid hnd
  have HNM := Lib.hid hnm
  have HPOP := Lib.hid hPop
  have D0 := Lib.hid d0
  clear h h2 h3 hG0 hG1 hgB hW0 hW1 hs1 hb0 hb1 hS1 hSw hPop hvsl hvr hvi d1 d2 d3 hvM hseq hnd hnm d0
  gi_wp2_with (fail)
  rw [← HW0.out]
  refine ⟨trivial, ?_⟩
  refine (callsIn_wide.2 (Sc.made A W0 _ _ HD0.out)).mono ?_
  rintro e w1 ⟨rfl, rfl⟩
  gi_wp2_with (fail)
  refine ⟨trivial, ?_⟩
  refine (callsIn_wide.2 (Sc.inner A w1)).mono ?_
  rintro e w2 ⟨rfl, rfl⟩
  rw [← HW1.out]
  have hs0' := hs0
  rw [hs0]
  clear c0 c1 hs0 hs0'
  gi_wp2_with (fail)
  refine wpIn_rangeFunc_next rfl (by omega) (gf := 60) (lb := #[.pointer (some ⟨w.heap.size + 1, 0, none⟩)]) rfl trivial (enters_of Try.func60 (by kernel_rfl) rfl)
    HSEQ.out (fun h k => h.trans k) (fun W l o o' hl hW ho _ => ⟨rfl, rfl, rfl, by simp, fun k hk hn => World.putObj_heap_other (by omega)⟩) (Below.refl _ _) (fun _ => rfl)
    (Popped A M n (.slice (some ⟨gB, 0, none⟩) (G.length + 1) cB) vs S G f W1)
    (ownFrom_by fun s W W' hs hm => hs.keep HSS.out hm)
    HPOP.out
    (fun x : ByteArray => { tmps := #[.pointer (some ⟨A, 0, none⟩), .pointer (some ⟨w.heap.size, 0, none⟩), .int .i64 0, .string x, undef, .pointer (some ⟨A, 0, none⟩), .bool true, .bool false, .pointer (some ⟨A, 0, none⟩), .pointer (some ⟨A, 0, none⟩), .pointer (some ⟨A, 2, none⟩), .slice (some ⟨gB, 0, none⟩) (G.length + 1) cB, .int .i64 ((G.length : Int) + 1), .bool false, .pointer (some ⟨A, 0, none⟩), .func (.func 60) #[] #[.pointer (some ⟨w.heap.size + 1, 0, none⟩)], .string x, undef, undef, undef, undef, undef, undef, undef, undef, undef, undef, undef, undef, undef, undef, undef, undef, undef, undef, undef, undef, undef, undef, undef, undef, undef, undef, undef, undef, undef, undef, undef, undef, undef, undef, undef, undef, undef, undef], defers := [] })
    ?assign ?body ?done
  case assign =>
    intro l z W K hK
    gi_wp2
    exact hK
  case body =>
    rintro l pre x W ⟨mv', D', hg, hft, hmm⟩ ⟨r, hpre⟩
    have hxm : x ∈ nms f := by rw [hpre]; simp
    have hxp : x ∉ pre := by
      have hd := HND.out
      rw [hpre] at hd
      exact fun hx => (List.nodup_append.1 hd).2.2 x hx x List.mem_cons_self rfl
    have hxs := HNM.out x hxm
    have hplen : pre.length < f.length := by
      have := congrArg List.length hpre
      simp [nms] at this; omega
    obtain ⟨t, ht⟩ := stP_next G f pre x hxp hxm
    have hsl : (stk G x).length ≤ G.length := stkFrom_len x 1 G
    have hsn := stP_snoc G f pre x
    have hr := hg.mrow x
    rw [ht, List.length_append, List.length_singleton] at hr
    obtain ⟨g, cap, hv, hcap⟩ : ∃ g cap, mv' x = .slice (some ⟨g, 0, none⟩) ((stk G x).length + 1) cap ∧ (stk G x).length + 1 ≤ cap := by
      rcases hr.2 with ⟨_, hz⟩ | ⟨g, cap, cur, hv, _, _, hc, _⟩
      · omega
      · exact ⟨g, cap, hv, hc⟩
    have hlk := hg.lookup x hxs
    rw [hv] at hlk
    have hs1 := HS1.out
    have b0 : W.cell? ⟨w.heap.size, 0, none⟩ = some (.pointer (some ⟨A, 0, none⟩)) := by
      have := hmm.block w.heap.size (by omega) (by rintro (h | h); exact absurd (HSw.out _ h) (by omega); omega)
      rw [← D0.out]; simp only [World.cell?, this]
    have a1 : W.cell? ⟨A, 1, none⟩ = some (.map (some M)) := by simp [World.cell?, hg.hd]
    have hkey : keyOf Try.prog 9 (.string x) = some (.string x.data.toList) := keyOf_string_mk Try.underlying9 hxs
    have hmo : ∀ W', Mod (fun k => (mv' x).ownBlock = some k ∨ k = M) W W' → Mod (fun k => S k ∨ W1.heap.size ≤ k) W1 W' := fun W' hm => hmm.trans (hm.mono (fun k _ hk => by
      rcases hk with hk | rfl
      · exact .inl (hft _ (.inr (.inr (.inr (.inr ⟨x, hk⟩)))))
      · exact .inl (hft _ (.inr (.inl rfl)))))
    have HG := Lib.hid hg
    have HSN := Lib.hid hsn
    have HT := Lib.hid ht
    have HV := Lib.hid hv
    have HFT := Lib.hid hft
    have HMO := Lib.hid hmo
    have HPL := Lib.hid hplen
    clear hg hsn ht hv hft hmo hr hmm hs1 hpre hxm hxp hplen D0
    generalize stk G x = lx at *
    by_cases h0 : lx = []
    · subst h0
      have hmp := HG.out.mp
      gi_wp2_with (gi_at_delete; refine wpListIn_delete_own _ rfl _ _ 54 9 rfl 88 law9 Try.underlying54 rawR M _ D' rfl hmp _ _ rfl hkey ?_; intro w3 hown3 hturn3)
      obtain ⟨q1, q2⟩ := HG.out.popDel hxs hown3 hturn3.grown
      refine ⟨KeepsFrom.of_grownBy hturn3.grown (fun j e => by cases e; have := HS1.out; omega), (Mod.of_grown hturn3.grown).mono (fun k _ hk => .inl (Option.some.inj hk).symm), updV mv' x nilS, D'.del (.string x.data.toList), ?_, foot_upd HFT.out (.inr rfl), HMO.out _ q2⟩
      have := HSN.out
      rw [← this]
      exact q1.mono (by simp)
    · have hl0 : 0 < lx.length := List.length_pos_iff.2 h0
      have hb1 : decide ((lx.length : Int) + 1 = 1) = false := by simp; omega
      clear h0
      have n2 : (0 : Int) ≤ (lx.length : Int) := by omega
      have n3 : (lx.length : Int) ≤ (cap : Int) := by omega
      have i3 : (lx.length : Int) ≤ 65536 := by simp at hF; omega
      gi_wp2
      refine wpIn_region_tail (C := fun w' => ∃ n, w' = W.drewN n) 10 (by kernel_rfl) (by kernel_rfl) ⟨1, rfl⟩ ?_
      simp only [List.take_succ_cons, List.take_zero, List.drop_succ_cons, List.drop_zero]
      repeat (go_big_quiet_step (fail))
      refine wpQuiet_nil ?_
      rintro w' ⟨nq, rfl⟩
      have hkp : Mod (fun _ => False) W (W.drewN nq) := Mod.drewN _ _ nq
      have hgq := HG.out.keep hkp (fun _ _ h => h)
      obtain ⟨w3, hrun3, hown3, hgr3⟩ := hgq.mp.update law9 Try.underlying54 (by have := HPL.out; unfold maxLen; omega) hkey (val := .slice (some ⟨g, 0, none⟩) lx.length cap) (d := .held (.slice (some ⟨g, 0, none⟩) lx.length cap)) (ps := []) rfl
      have HQ := Lib.hid hgq
      have HO3 := Lib.hid hown3
      have HG3 := Lib.hid hgr3
      clear hgq hown3 hgr3 hkp
      go_wp2
      refine NoOut.normal ?_
      gi_wp2
      obtain ⟨q1, q2⟩ := HQ.out.popPut HT.out HV.out HO3.out HG3.out
      have hd : KpM M W1 W w3 := Mod.trans (Mod.drewN _ _ nq) ((Mod.of_grown HG3.out).mono (fun k _ hk => .inl (Option.some.inj hk).symm))
      refine ⟨KeepsFrom.trans (Y := W.drewN nq) ⟨Nat.le_refl _, fun _ _ _ h _ => h⟩ (KeepsFrom.of_grownBy HG3.out (fun j e => by cases e; have := HS1.out; omega)), hd, updV mv' x (.slice (some ⟨g, 0, none⟩) lx.length cap), D'.put (.string x.data.toList) (.held (.slice (some ⟨g, 0, none⟩) lx.length cap)), ?_, foot_upd HFT.out (.inl (by rw [HV.out]; rfl)), HMO.out _ (Mod.trans (Mod.drewN _ _ nq) q2)⟩
      have := HSN.out
      rw [← this]
      exact q1.mono (by simp; omega)
  case done =>
    rintro Dd zs W hD rfl ⟨mv', D', hg, hft, hmm⟩ hK
    have hs1 := HS1.out
    have hDl : Dd < W.heap.size := (Array.getElem?_eq_some_iff.1 hK).1
    have b0 : W.cell? ⟨w.heap.size, 0, none⟩ = some (.pointer (some ⟨A, 0, none⟩)) := by
      have := hmm.block w.heap.size (by omega) (by rintro (h | h); exact absurd (HSw.out _ h) (by omega); omega)
      rw [← D0.out]; simp only [World.cell?, this]
    have a1 : W.cell? ⟨A, 2, none⟩ = some (.slice (some ⟨gB, 0, none⟩) (G.length + 1) cB) := by simp [World.cell?, hg.hd]
    have af : W.frozen? ⟨A, 2, none⟩ = false := Lib.frozen_of_heap hg.hd 2
    have hcap : G.length + 1 ≤ cB := by
      rcases hg.brow.2 with ⟨hv, _⟩ | ⟨g, cap, cur, hv, _, _, hc, _⟩
      · cases hv
      · simp only [Value.slice.injEq] at hv
        simp at hc; omega
    have n2 : (0 : Int) ≤ (G.length : Int) := by omega
    have n3 : (G.length : Int) ≤ (cB : Int) := by omega
    have i3 : (G.length : Int) ≤ 65536 := by simp at hF; omega
    have hSW : ∀ k, S k → k < W.heap.size := fun k hk => by have := HSS.out k hk; have := hmm.size; omega
    have hAW : A < W.heap.size := (Array.getElem?_eq_some_iff.1 hg.hd).1
    have HG := Lib.hid hg
    have HFT := Lib.hid hft
    have HM := Lib.hid hmm
    have HSW := Lib.hid hSW
    have HDK := Lib.hid hK
    clear hg hft hmm hs1 D0 hSW hK hcap
    gi_wp2
    refine wpIn_wide.2 ?_
    refine wp_region_tail (C := fun w' => ∃ n, w' = W.drewN n) 14 (by kernel_rfl) (by kernel_rfl) ⟨1, rfl⟩ ?_
    simp only [List.take_succ_cons, List.take_zero, List.drop_succ_cons, List.drop_zero]
    repeat (go_big_quiet_step (fail))
    refine wpQuiet_nil ?_
    rintro w' ⟨nq, rfl⟩
    have hgq := HG.out.keep (T := fun _ => False) (Mod.drewN _ _ nq) (fun _ _ h => h)
    have hdone := close_done hgq hG HFT.out HSW.out
    have HDN := Lib.hid hdone
    clear hgq hdone
    go_wp2
    gi_wp2
    have hK2 : ((W.drewN nq).setCell ⟨A, 2, none⟩ (.slice (some ⟨gB, 0, none⟩) G.length cB)).heap[Dd]? = some (.deferred (some [])) := by
      rw [Below.heap_setCell _ _ _ _ (fun e => by simp at e; have := HS1.out; omega)]
      exact HDK.out
    refine ⟨by simp, .inl ⟨_, _, rfl, run_takeDeferred hK2, ?_⟩⟩
    have hfl : (nms f).length = f.length := by simp [nms]
    refine ⟨_, results_tmp rfl _ _ _, rfl, ?_⟩
    have := HDN.out
    rw [hfl] at this
    exact this.after _ HB1.out (by have := HS1.out; omega) (HM.out.trans (Mod.drewN _ _ nq)) hD hDl HSw.out
end Go.Proofs.Ytblooekephkojaa

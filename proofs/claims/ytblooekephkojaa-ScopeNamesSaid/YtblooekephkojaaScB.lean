/- scope: New, Open. -/
import Derived.Test.YtblooekephkojaaScA
namespace Go.Proofs.Ytblooekephkojaa
open Go.RowKit Go.BigFrame Go.ChangeMaps Go.WideMaps
set_option linter.unusedVariables false

theorem row_ne {w : World} {b1 e1 s1 n1 b2 e2 s2 n2 : Nat} {v1 v2 : Value} {x1 x2 : List Value} (h : w.ownsRow b1 e1 s1 v1 n1 x1) (h' : w.ownsRow b2 e2 s2 v2 n2 x2) (he : e1 ≠ e2) (k : Nat) (hk : v1.ownBlock = some k) : v2.ownBlock ≠ some k := by
  intro hk2
  rcases h.2 with ⟨rfl, _⟩ | ⟨g, cap, cur, rfl, _, hg, _⟩
  · simp [Value.ownBlock] at hk
  · rcases h'.2 with ⟨rfl, _⟩ | ⟨g', cap', cur', rfl, _, hg', _⟩
    · simp [Value.ownBlock] at hk2
    · simp only [Value.ownBlock, Option.some.injEq] at hk hk2
      subst hk hk2
      rw [hg] at hg'
      simp only [Option.some.injEq, Obj.cells.injEq] at hg'
      exact he hg'.2.1
theorem row_ne_hd {w : World} {b e s n A : Nat} {v : Value} {x : List Value} {cs : Array Value} {t : TypeId} {fz : Nat × Nat} (h : w.ownsRow b e s v n x) (hA : w.heap[A]? = some (.cells cs t fz)) (he : e ≠ t) : v.ownBlock ≠ some A := by
  intro hk
  rcases h.2 with ⟨rfl, _⟩ | ⟨g, cap, cur, rfl, _, hg, _⟩
  · simp [Value.ownBlock] at hk
  · simp only [Value.ownBlock, Option.some.injEq] at hk
    subst hk
    rw [hg] at hA
    simp only [Option.some.injEq, Obj.cells.injEq] at hA
    exact he hA.2.1
theorem row_ne_map {w : World} {b e s n M : Nat} {v : Value} {x : List Value} {es : Array MapEntry} {c : Nat} (h : w.ownsRow b e s v n x) (hM : w.heap[M]? = some (.map es c)) : v.ownBlock ≠ some M := by
  intro hk
  rcases h.2 with ⟨rfl, _⟩ | ⟨g, cap, cur, rfl, _, hg, _⟩
  · simp [Value.ownBlock] at hk
  · simp only [Value.ownBlock, Option.some.injEq] at hk
    subst hk
    rw [hg] at hM
    cases hM
theorem Mod.of_grown {w w' : World} {row : Option Nat} (h : w.grownBy w' row) : Mod (fun k => row = some k) w w' :=
  ⟨h.os, h.tape, h.output, h.size, fun k hk hn => h.block k hk (fun e => hn e.symm)⟩
theorem ownsMap_heap {w : World} {M n : Nat} {D : DataW Value} (h : w.ownsMap Try.prog 9 rawR M n D) : ∃ es c, w.heap[M]? = some (.map es c) := by
  obtain ⟨es, c, hb, _⟩ := h; exact ⟨es, c, hb⟩
theorem ownsMap_mod {w w' : World} {M n : Nat} {D : DataW Value} {S : Nat → Prop} (h : w.ownsMap Try.prog 9 rawR M n D) (hm : Mod S w w') (hs : ¬ S M) : w'.ownsMap Try.prog 9 rawR M n D := by
  obtain ⟨es, clock, hb, rest⟩ := h
  exact ⟨es, clock, hm.keep hb hs, rest⟩
theorem ScAt.own_lt {w : World} {A M n : Nat} {vB : Value} {vs : List Value} {mv : ByteArray → Value} {D : DataW Value} {F : List Frm} (h : ScAt w A M n vB vs mv D F) : ∀ k, foot A M vB vs mv k → k < w.heap.size := by
  intro k hk
  rcases hk with rfl | rfl | hk | ⟨i, hk⟩ | ⟨x, hk⟩
  · exact (Array.getElem?_eq_some_iff.1 h.hd).1
  · exact h.mp.lt
  · exact (h.brow.lt k hk).2
  · by_cases hi : i < F.length
    · exact ((h.vrow i hi).lt k hk).2
    · rw [List.getD_eq_getElem?_getD, List.getElem?_eq_none (by rw [h.vs_len]; omega)] at hk
      simp [Value.ownBlock] at hk
  · exact ((h.mrow x).lt k hk).2

theorem stk_nil (x : ByteArray) : stk [[]] x = [] := rfl
def NewOk (w : World) (e : Ending) (w' : World) : Prop := ∃ A, e = .returned (.pointer (some ⟨A, 0, none⟩)) ∧ Sco w' A 0 (fun k => w.heap.size ≤ k ∧ k < w'.heap.size) [[]] ∧ Below w.heap.size w w'

set_option maxRecDepth 100000 in
set_option maxHeartbeats 1000000 in
theorem Sc.new (w : World) : Calls Try.prog 21 #[] w (NewOk w) := by
  have hmm := @run_makeMap Try.prog
  have hbt : (Try.prog.built 57 [(1, Value.map (some w.heap.size)), (2, .slice (some ⟨w.heap.size + 1, 0, none⟩) 1 1)]) = some #[.pointer none, .map (some w.heap.size), .slice (some ⟨w.heap.size + 1, 0, none⟩) 1 1] := by kernel_rfl
  go_enter Try.func21, Try.ntmps21
  go_wp2_with (refine wpList_build rfl 57 _ rfl (by simp [Act.eval, hbt]) ?_)
  obtain ⟨W, hW⟩ : ∃ W, W = ((w.alloc (.map #[] 0)).alloc (.cells #[nilS] 91)).alloc (.cells #[.pointer (some ⟨w.heap.size + 1 + 1, 0, none⟩), .map (some w.heap.size), .slice (some ⟨w.heap.size + 1, 0, none⟩) 1 1] 57) := ⟨_, rfl⟩
  rw [← hW]
  have hs : W.heap.size = w.heap.size + 3 := by rw [hW]; simp
  have h1 : W.heap[w.heap.size]? = some (.map #[] 0) := by rw [hW, Lib.alloc_old _ _ _ (by simp; omega), Lib.alloc_old _ _ _ (by simp)]; exact heap_alloc_new _ _
  have h2 : W.heap[w.heap.size + 1]? = some (.cells #[nilS] 91 (0, 0)) := by
    rw [hW, Lib.alloc_old _ _ _ (by simp)]
    have := heap_alloc_new (w.alloc (.map #[] 0)) (.cells #[nilS] 91)
    simpa using this
  have h3 : W.heap[w.heap.size + 1 + 1]? = some (.cells #[.pointer (some ⟨w.heap.size + 1 + 1, 0, none⟩), .map (some w.heap.size), .slice (some ⟨w.heap.size + 1, 0, none⟩) 1 1] 57 (0, 0)) := by
    rw [hW]
    have := heap_alloc_new ((w.alloc (.map #[] 0)).alloc (.cells #[nilS] 91)) (.cells #[.pointer (some ⟨w.heap.size + 1 + 1, 0, none⟩), .map (some w.heap.size), .slice (some ⟨w.heap.size + 1, 0, none⟩) 1 1] 57)
    simpa using this
  have hB : Below w.heap.size w W := by rw [hW]; exact (((Below.refl _ _).alloc (Nat.le_refl _) _).alloc (by simp) _).alloc (by simp; omega) _
  have hmp : W.ownsMap Try.prog 9 rawR w.heap.size 0 (.map []) := by
    rw [hW]
    exact ((World.ownsMap_made w Try.prog 9 rawR).alloc _).alloc _
  clear hW
  go_ret
  refine ⟨_, rfl, ⟨w.heap.size, _, [nilS], fun _ => nilS, .map [], ⟨h3, hmp, fun x _ => rfl, fun x => World.ownsRow_nil _ _ _ _, ?_, ?_, fun x y _ => .inl rfl, fun i j hi hj hij => ?_, by simp⟩, ?_, fun k hk => hk.2⟩, hB⟩
  · exact ⟨rfl, .inr ⟨w.heap.size + 1, 1, #[nilS], rfl, Nat.zero_le _, h2, Nat.le_refl _, by unfold maxLen; omega, rfl, rfl⟩⟩
  · intro i hi
    obtain rfl : i = 0 := by simpa using hi
    exact World.ownsRow_nil _ _ _ _
  · simp at hi hj; omega
  · intro k hk
    rcases hk with rfl | rfl | hk | ⟨i, hk⟩ | ⟨x, hk⟩
    · exact ⟨by omega, by omega⟩
    · exact ⟨by omega, by omega⟩
    · simp [Value.ownBlock] at hk; exact ⟨by omega, by omega⟩
    · exfalso
      cases i <;> simp [Value.ownBlock] at hk
    · simp [Value.ownBlock] at hk

theorem infoSl : (Try.prog.info? 91).map (fun i => (i.zero, i.size, i.bytes)) = some (some (.slice none 0 0), 1, 24) := by kernel_rfl
/-- What a call leaves of a scope: its blocks, and new ones. -/
def Leaves (A n : Nat) (S : Nat → Prop) (F : List Frm) (w w' : World) : Prop :=
  ∃ S', Sco w' A n S' F ∧ (∀ k, S' k → S k ∨ w.heap.size ≤ k) ∧ Mod S w w'

theorem getD_snoc (vs : List Value) (v : Value) (i : Nat) (h : i < vs.length) : (vs ++ [v]).getD i nilS = vs.getD i nilS := by
  rw [List.getD_eq_getElem?_getD, List.getD_eq_getElem?_getD, List.getElem?_append_left h]
theorem getD_last (vs : List Value) (v : Value) : (vs ++ [v]).getD vs.length nilS = v := by
  rw [List.getD_eq_getElem?_getD, List.getElem?_append_right (Nat.le_refl _)]; simp

theorem open_done {w w1 : World} {A M n : Nat} {vB v' : Value} {vs : List Value} {mv : ByteArray → Value} {D : DataW Value} {F : List Frm} {S : Nat → Prop} (h : ScAt w A M n vB vs mv D F) (hS : ∀ k, foot A M vB vs mv k → S k) (hS2 : ∀ k, S k → k < w.heap.size)
    (hown : w1.ownsRow 0 91 1 v' (F.length + 1) (vs ++ [nilS])) (hg : w.grownBy w1 vB.ownBlock) (hat : v'.ownBlock = vB.ownBlock ∨ ∃ g, v'.ownBlock = some g ∧ w.heap.size ≤ g) :
    Leaves A n S (F ++ [[]]) w (w1.setCell ⟨A, 2, none⟩ v') := by
  have hm1 := Mod.of_grown hg
  have hA1 : vB.ownBlock ≠ some A := row_ne_hd h.brow h.hd (by decide)
  have hM1 : vB.ownBlock ≠ some M := by obtain ⟨es, c, hb⟩ := ownsMap_heap h.mp; exact row_ne_map h.brow hb
  have hd1 : w1.heap[A]? = some (.cells #[.pointer (some ⟨A, 0, none⟩), .map (some M), vB] 57 (0, 0)) := hm1.keep h.hd hA1
  have hAM : A ≠ M := by
    rintro rfl
    obtain ⟨es, c, hb⟩ := ownsMap_heap h.mp
    rw [h.hd] at hb; cases hb
  have hm2 : Mod (fun k => k = A ∨ vB.ownBlock = some k) w (w1.setCell ⟨A, 2, none⟩ v') :=
    ⟨by rw [← hg.os]; rfl, by rw [← hg.tape]; rfl, by rw [← hg.output]; rfl, by simpa using hg.size, fun k hk hn => by
      rw [Below.heap_setCell _ _ _ _ (fun e => hn (.inl e))]
      exact hg.block k hk (fun e => hn (.inr e.symm))⟩
  have hne : ∀ {b e s n' : Nat} {v : Value} {x : List Value}, w.ownsRow b e s v n' x → e ≠ 91 → e ≠ 57 → ∀ k, v.ownBlock = some k → ¬ (k = A ∨ vB.ownBlock = some k) := fun h1 he1 he2 k hk hh => by
    rcases hh with rfl | hh
    · exact row_ne_hd h1 h.hd he2 hk
    · exact row_ne h1 h.brow he1 k hk hh
  have hv'A : v'.ownBlock ≠ some A := by
    rcases hat with hat | ⟨g, hat, hgs⟩
    · rw [hat]; exact hA1
    · rw [hat]
      intro e
      have := (Array.getElem?_eq_some_iff.1 h.hd).1
      simp only [Option.some.injEq] at e
      omega
  refine ⟨fun k => S k ∨ v'.ownBlock = some k, ⟨M, v', vs ++ [nilS], mv, D, ⟨?_, ownsMap_mod h.mp hm2 (by rintro (e | e); exact hAM e.symm; exact hM1 e), h.key, fun x => ?_, ?_, fun i hi => ?_, h.dm, fun i j hi hj hij => ?_, by simp⟩, ?_, ?_⟩, ?_, ?_⟩
  · have := heap_setCell_same w1 A 2 _ _ v' hd1
    simpa using this
  · have := ownsRow_mod (h.mrow x) hm2 (hne (h.mrow x) (by decide) (by decide))
    rw [stk_snoc]
    simpa [look] using this
  · have hm3 : Mod (fun k => k = A) w1 (w1.setCell ⟨A, 2, none⟩ v') := ⟨rfl, rfl, rfl, by simp, fun k _ hn => Below.heap_setCell _ _ _ _ hn⟩
    have := ownsRow_mod hown hm3 (fun k hk e => hv'A (by rw [← e]; exact hk))
    simpa using this
  · rw [List.length_append, List.length_singleton] at hi
    by_cases hiF : i < F.length
    · rw [getD_snoc _ _ _ (by rw [h.vs_len]; exact hiF), List.getElem_append_left hiF]
      exact ownsRow_mod (h.vrow i hiF) hm2 (hne (h.vrow i hiF) (by decide) (by decide))
    · obtain rfl : i = F.length := by omega
      have e1 : (vs ++ [nilS]).getD F.length nilS = nilS := by rw [← h.vs_len]; exact getD_last _ _
      have e2 : (F ++ [[]])[F.length]'(by simp) = [] := by simp
      rw [e1, e2]
      exact World.ownsRow_nil _ _ _ _
  · rw [List.length_append, List.length_singleton] at hi hj
    by_cases hiF : i < F.length
    · rw [getD_snoc _ _ _ (by rw [h.vs_len]; exact hiF)]
      by_cases hjF : j < F.length
      · rw [getD_snoc _ _ _ (by rw [h.vs_len]; exact hjF)]
        exact h.dv i j hiF hjF hij
      · obtain rfl : j = F.length := by omega
        have e1 : (vs ++ [nilS]).getD F.length nilS = nilS := by rw [← h.vs_len]; exact getD_last _ _
        rw [e1]
        cases hq : (vs.getD i nilS).ownBlock with
        | none => exact .inl rfl
        | some k => exact .inr (by simp [Value.ownBlock])
    · obtain rfl : i = F.length := by omega
      have e1 : (vs ++ [nilS]).getD F.length nilS = nilS := by rw [← h.vs_len]; exact getD_last _ _
      rw [e1]
      exact .inl rfl
  · intro k hk
    rcases hk with rfl | rfl | hk | ⟨i, hk⟩ | ⟨x, hk⟩
    · exact .inl (hS _ (.inl rfl))
    · exact .inl (hS _ (.inr (.inl rfl)))
    · exact .inr hk
    · by_cases hiF : i < vs.length
      · rw [getD_snoc _ _ _ hiF] at hk
        exact .inl (hS _ (.inr (.inr (.inr (.inl ⟨i, hk⟩)))))
      · exfalso
        rw [List.getD_eq_getElem?_getD] at hk
        by_cases hi2 : i = vs.length
        · subst hi2; simp [Value.ownBlock] at hk
        · rw [List.getElem?_eq_none (by simp; omega)] at hk; simp [Value.ownBlock] at hk
    · exact .inl (hS _ (.inr (.inr (.inr (.inr ⟨x, hk⟩)))))
  · intro k hk
    have hsz : w1.heap.size = (w1.setCell ⟨A, 2, none⟩ v').heap.size := by simp
    rcases hk with hk | hk
    · have := hS2 k hk; have := hg.size; simp; omega
    · have := (hown.lt k hk).2; simp; omega
  · intro k hk
    rcases hk with hk | hk
    · exact .inl hk
    · rcases hat with hat | ⟨g, hat, hgs⟩
      · exact .inl (hS k (.inr (.inr (.inl (by rw [← hat]; exact hk)))))
      · rw [hat] at hk
        simp only [Option.some.injEq] at hk
        exact .inr (by omega)
  · exact hm2.mono (fun k _ hk => by
      rcases hk with rfl | hk
      · exact hS _ (.inl rfl)
      · exact hS _ (.inr (.inr (.inl hk))))

theorem Leaves.refl {A n : Nat} {S : Nat → Prop} {F : List Frm} {w : World} (h : Sco w A n S F) : Leaves A n S F w w := ⟨S, h, fun k hk => .inl hk, Mod.refl S w⟩

set_option maxRecDepth 100000 in
set_option maxHeartbeats 1000000 in
theorem Sc.opens (A n : Nat) (S : Nat → Prop) (F : List Frm) (w : World) (h : Sco w A n S F) :
    Calls Try.prog 22 #[.pointer (some ⟨A, 0, none⟩)] w fun e w' => e = .returned (.int .i64 (if 65536 ≤ F.length then 4 else 0)) ∧ Leaves A n S (if 65536 ≤ F.length then F else F ++ [[]]) w w' := by
  obtain ⟨i0, hi, hz0, hz1, hz2⟩ := info_parts infoSl
  have HI := Lib.hid hi
  have HZ0 := Lib.hid hz0
  have HZ1 := Lib.hid hz1
  have HZ2 := Lib.hid hz2
  have HS := Lib.hid h
  clear hi hz0 hz1 hz2
  obtain ⟨M, vB, vs, mv, D, h, h2, h3⟩ := h
  obtain ⟨c0, c1, c2⟩ := h.cells
  have hfr : w.frozen? ⟨A, 2, none⟩ = false := Lib.frozen_of_heap h.hd 2
  have HD := Lib.hid h.hd
  have hbrow := h.brow
  have HH := Lib.hid h
  have H2 := Lib.hid h2
  have H3 := Lib.hid h3
  have hAlt := (Array.getElem?_eq_some_iff.1 h.hd).1
  clear h h2 h3
  by_cases hmany : 65536 ≤ F.length
  · rw [if_pos hmany, if_pos hmany]
    obtain ⟨a, cap, rfl⟩ := row_shape hbrow
    have hb : decide ((65536 : Int) ≤ (F.length : Int)) = true := by simp; omega
    clear hbrow hmany
    go_enter Try.func22, Try.ntmps22
    go_wp2_with fail
    refine (Sc.made A w _ _ HD.out).mono ?_
    rintro e w1 ⟨rfl, rfl⟩
    go_wp2_with fail
    go_ret
    exact ⟨rfl, Leaves.refl HS.out⟩
  · rw [if_neg hmany, if_neg hmany]
    obtain ⟨a, cap, hvB⟩ := row_shape hbrow
    have hb : decide ((65536 : Int) ≤ (F.length : Int)) = false := by simp; omega
    have hlen : F.length < 65536 := by omega
    have HVB := Lib.hid hvB
    rw [hvB] at c2
    clear hmany hvB
    go_enter Try.func22, Try.ntmps22
    go_wp2_with fail
    refine (Sc.made A w _ _ HD.out).mono ?_
    rintro e w1 ⟨rfl, rfl⟩
    go_wp2_with (at_builtin; refine wpList_append_own_at _ rfl _ _ 55 rfl 0 91 i0 (.slice none 0 0) 1 24 Try.underlying55 HI.out HZ0.out HZ1.out HZ2.out rfl (by decide) _ _ _ rfl ((HVB.out ▸ hbrow).alloc _) ⟨w1.heap.size, 0, none⟩ 1 1 [nilS] rfl rfl ?c1 ?c2 ?c3 ?c4 ?c5 ?_)
    case c1 => exact cell_one_new _ _ _
    case c2 => intro u hu; simp at hu; subst hu; rfl
    case c3 => unfold maxLen; omega
    case c4 => omega
    case c5 => omega
    intro v' w2 hown' hgrow _ hat
    have hgr : w1.grownBy w2 vB.ownBlock := by rw [HVB.out]; exact (World.grownBy_alloc _ _ _).trans hgrow
    have hA1 : vB.ownBlock ≠ some A := row_ne_hd HH.out.brow HD.out (by decide)
    have hd2 : w2.heap[A]? = some (.cells #[.pointer (some ⟨A, 0, none⟩), .map (some M), vB] 57 (0, 0)) := (hgr.block A hAlt (fun e => hA1 e.symm)).trans HD.out
    have hat2 : v'.ownBlock = vB.ownBlock ∨ ∃ g, v'.ownBlock = some g ∧ w1.heap.size ≤ g := by
      rcases hat with hat | hat
      · exact .inl (by rw [HVB.out]; exact hat)
      · exact .inr ⟨_, hat, by simp⟩
    have hdone := Lib.hid (open_done HH.out H2.out H3.out hown' hgr hat2)
    obtain ⟨a', cap', rfl⟩ := row_shape hown'
    have k2 : w2.cell? ⟨A, 2, none⟩ = some vB := by simp [World.cell?, hd2]
    rw [HVB.out] at k2
    have f2 : w2.frozen? ⟨A, 2, none⟩ = false := Lib.frozen_of_heap hd2 2
    have hA2 := (Array.getElem?_eq_some_iff.1 hd2).1
    clear hown' hgrow hat hgr hd2 hat2 hbrow hfr c0 c1 c2
    go_wp2_with fail
    go_ret
    exact ⟨rfl, hdone.out⟩
end Go.Proofs.Ytblooekephkojaa

/- parse: sign, word. -/
import Derived.Test.YtlboejdhmggjpaaGreatWkA
import Derived.Lib.SlicesS
import Derived.Maps.AppendAt
set_option linter.all false
namespace Go.Proofs.YtlboejdhmggjpaaGreat.Pp
set_option maxRecDepth 100000
set_option maxHeartbeats 16000000
open Go.RowKit Go.BigFrame Go.Proofs.YtlboejdhmggjpaaGreat

def failV (n : Int) : List PanicEntry := [{ v := .iface 114 (.agg #[.int .i64 n]), recovered := false }]
def EndR (E : En) {α : Type} (val : α → Value) (w : World) (r : Rs α) (e : Ending) (w' : World) : Prop :=
 match r with
 | .ok v s' => e = .returned (val v) ∧ PW E w' s' ∧ KP w w'
 | .no => (∃ n : Int, e = .panicked (failV n)) ∧ Below E.X E.w0 w' ∧ KP w w'
 | .out => True
theorem EndR.mk {E : En} {α : Type} {val : α → Value} {w w' : World} {v : α} {s' : Ps} {e : Ending} (he : e = .returned (val v)) (hE : E.ok) (h : PW E w s') (hb : Below w.heap.size w w') : EndR E val w (.ok v s') e w' := ⟨he, h.ext hE hb, KP.of_below hb⟩
theorem str_neq {a b : Bs} (h : ¬ a = b) : ((str a).toList == (str b).toList) = false := by
 rw [Bool.eq_false_iff]
 intro e
 exact h (str_inj ((Lib.bytes_beq_iff _ _).mp e))
theorem wk_sign {E : En} (hE : E.ok) (k : Nat) (t : Bs) (s : Ps) (w : World) (hk : k ≤ 10) (h : PW E w s) : Calls Tryz.prog 47 #[.pointer (some ⟨E.pb, 0, none⟩), .int .i64 k, .string (str t)] w (EndR E .bool w (sign E.L k t s)) := by
 obtain ⟨T, hT⟩ : ∃ T, peekS E.L s k = T := ⟨_, rfl⟩
 have pk := wk_peek hE k s w hk h
 rw [hT] at pk
 unfold ctV at pk
 have PK := Hh pk
 have H := Hh h
 have hS : sign E.L k t s = .ok (T.c == 7 && T.t == t) s := by show Rs.ok (signS E.L s k t) s = _; unfold signS; rw [hT]
 rw [hS]
 clear h hT hS pk
 have key : (T.c = 7 ∧ T.t = t ∧ (T.c == 7 && T.t == t) = true) ∨ (T.c = 7 ∧ ((str T.t).toList == (str t).toList) = false ∧ (T.c == 7 && T.t == t) = false) ∨ (((T.c : Int) == 7) = false ∧ (T.c == 7 && T.t == t) = false) := by
  by_cases hc : T.c = 7
  ·by_cases ht : T.t = t
   ·exact .inl ⟨hc, ht, by simp [hc, ht]⟩
   ·exact .inr (.inl ⟨hc, str_neq ht, by simp [ht]⟩)
  ·exact .inr (.inr ⟨by rw [beq_eq_false_iff_ne]; omega, by simp [hc]⟩)
 rcases key with ⟨hc, ht, hq⟩ | ⟨hc, ht, hq⟩ | ⟨hc, hq⟩
 ·rw [hq]
  clear hq
  go_enter Tryz.func47, Tryz.ntmps47
  go_wp2_with fail
  refine PK.out.mono ?_
  rintro e w1 ⟨rfl, hb1⟩
  have HB := Hh hb1
  clear hb1
  go_wp2_with fail
  refine bodyPost_ret (v := .bool true) (by simp [results, Tryz.results47, go_sem]) rfl (EndR.mk rfl hE H.out (HB.out.trans ((below_alloc _ _).mono HB.out.size)))
 ·rw [hq]
  clear hq
  go_enter Tryz.func47, Tryz.ntmps47
  go_wp2_with fail
  refine PK.out.mono ?_
  rintro e w1 ⟨rfl, hb1⟩
  have HB := Hh hb1
  clear hb1
  go_wp2_with fail
  refine bodyPost_ret (v := .bool false) (by simp [results, Tryz.results47, go_sem]) rfl (EndR.mk rfl hE H.out (HB.out.trans ((below_alloc _ _).mono HB.out.size)))
 ·rw [hq]
  clear hq
  go_enter Tryz.func47, Tryz.ntmps47
  go_wp2_with fail
  refine PK.out.mono ?_
  rintro e w1 ⟨rfl, hb1⟩
  have HB := Hh hb1
  clear hb1
  go_wp2_with fail
  refine bodyPost_ret (v := .bool false) (by simp [results, Tryz.results47, go_sem]) rfl (EndR.mk rfl hE H.out (HB.out.trans ((below_alloc _ _).mono HB.out.size)))
theorem wk_word {E : En} (hE : E.ok) (t : Bs) (s : Ps) (w : World) (h : PW E w s) : Calls Tryz.prog 44 #[.pointer (some ⟨E.pb, 0, none⟩), .string (str t)] w (EndR E .bool w (word E.L t s)) := by
 obtain ⟨T, hT⟩ : ∃ T, peekS E.L s 0 = T := ⟨_, rfl⟩
 have pk := wk_peek hE 0 s w (by omega) h
 rw [hT] at pk
 unfold ctV at pk
 have PK := Hh pk
 have H := Hh h
 have hS : word E.L t s = .ok (T.c == 1 && T.t == t) s := by show Rs.ok (wordS E.L s t) s = _; unfold wordS; rw [hT]
 rw [hS]
 clear h hT hS pk
 have key : (T.c = 1 ∧ T.t = t ∧ (T.c == 1 && T.t == t) = true) ∨ (T.c = 1 ∧ ((str T.t).toList == (str t).toList) = false ∧ (T.c == 1 && T.t == t) = false) ∨ (((T.c : Int) == 1) = false ∧ (T.c == 1 && T.t == t) = false) := by
  by_cases hc : T.c = 1
  ·by_cases ht : T.t = t
   ·exact .inl ⟨hc, ht, by simp [hc, ht]⟩
   ·exact .inr (.inl ⟨hc, str_neq ht, by simp [ht]⟩)
  ·exact .inr (.inr ⟨by rw [beq_eq_false_iff_ne]; omega, by simp [hc]⟩)
 rcases key with ⟨hc, ht, hq⟩ | ⟨hc, ht, hq⟩ | ⟨hc, hq⟩
 ·rw [hq]
  clear hq
  go_enter Tryz.func44, Tryz.ntmps44
  go_wp2_with fail
  refine PK.out.mono ?_
  rintro e w1 ⟨rfl, hb1⟩
  have HB := Hh hb1
  clear hb1
  go_wp2_with fail
  refine bodyPost_ret (v := .bool true) (by simp [results, Tryz.results44, go_sem]) rfl (EndR.mk rfl hE H.out (HB.out.trans ((below_alloc _ _).mono HB.out.size)))
 ·rw [hq]
  clear hq
  go_enter Tryz.func44, Tryz.ntmps44
  go_wp2_with fail
  refine PK.out.mono ?_
  rintro e w1 ⟨rfl, hb1⟩
  have HB := Hh hb1
  clear hb1
  go_wp2_with fail
  refine bodyPost_ret (v := .bool false) (by simp [results, Tryz.results44, go_sem]) rfl (EndR.mk rfl hE H.out (HB.out.trans ((below_alloc _ _).mono HB.out.size)))
 ·rw [hq]
  clear hq
  go_enter Tryz.func44, Tryz.ntmps44
  go_wp2_with fail
  refine PK.out.mono ?_
  rintro e w1 ⟨rfl, hb1⟩
  have HB := Hh hb1
  clear hb1
  go_wp2_with fail
  refine bodyPost_ret (v := .bool false) (by simp [results, Tryz.results44, go_sem]) rfl (EndR.mk rfl hE H.out (HB.out.trans ((below_alloc _ _).mono HB.out.size)))
end Go.Proofs.YtlboejdhmggjpaaGreat.Pp

/- WkC -/
namespace Go.Proofs.YtlboejdhmggjpaaGreat.Pp
set_option maxRecDepth 100000
set_option maxHeartbeats 16000000
open Go.RowKit Go.BigFrame Go.Proofs.YtlboejdhmggjpaaGreat

theorem row_shape {w : World} {base e size : Nat} {v : Value} {n : Nat} {xs : List Value} (h : w.ownsRow base e size v n xs) : ∃ a cap, v = .slice a n cap := by
 rcases h.2 with ⟨rfl, rfl⟩ | ⟨g, cap, cur, rfl, _⟩
 ·exact ⟨none, 0, rfl⟩
 ·exact ⟨_, cap, rfl⟩
theorem row_cells {w : World} {base e size k : Nat} {v : Value} {n : Nat} {xs : List Value} (h : w.ownsRow base e size v n xs) (hk : v.ownBlock = some k) : base ≤ k ∧ ∃ cur, w.heap[k]? = some (.cells cur e (0, 0)) := by
 rcases h.2 with ⟨rfl, _⟩ | ⟨g, cap, cur, rfl, hb, hg, _⟩
 ·simp [Value.ownBlock] at hk
 ·simp only [Value.ownBlock, Option.some.injEq] at hk
  subst hk
  exact ⟨hb, cur, hg⟩
theorem box_set {w : World} {pb i : Nat} {cs : Array Value} {t : TypeId} {v : Value} (h : w.heap[pb]? = some (.cells cs t (0, 0))) : (w.setCell ⟨pb, i, none⟩ v).heap[pb]? = some (.cells (cs.setIfInBounds i v) t (0, 0)) := heap_setCell_same w pb i _ _ v h
theorem own_other {w : World} {pb i base e size n : Nat} {cs : Array Value} {t : TypeId} {x v : Value} {xs : List Value} (h : w.heap[pb]? = some (.cells cs t (0, 0))) (ht : ¬ t = e) (ho : w.ownsRow base e size v n xs) : (w.setCell ⟨pb, i, none⟩ x).ownsRow base e size v n xs :=
 ownsRow_of ho fun g cur hg => by
  rw [heap_setCell_other _ _ _ _ (fun q => by subst q; rw [h] at hg; cases hg; exact ht rfl)]
  exact hg
theorem Nm.set {w : World} {pb i mb : Nat} {cs : Array Value} {t : TypeId} {x : Value} {ch : List (Bs × Bool)} (h : w.heap[pb]? = some (.cells cs t (0, 0))) (hm : Nm w mb ch) : Nm (w.setCell ⟨pb, i, none⟩ x) mb ch := by
 obtain ⟨n, D, h1, h2⟩ := hm
 exact ⟨n, D, ownsMap_of h1 fun es c hg => by
  rw [heap_setCell_other _ _ _ _ (fun q => by subst q; rw [h] at hg; cases hg)]
  exact hg, h2⟩
theorem KP.set {w : World} {pb i : Nat} {cs : Array Value} {t : TypeId} {x : Value} (h : w.heap[pb]? = some (.cells cs t (0, 0))) (ht : own4 t = true) : KP w (w.setCell ⟨pb, i, none⟩ x) :=
 ⟨by simp, fun k cs' t' fz hk hg => by
  rw [heap_setCell_other _ _ _ _ (fun q => by subst q; rw [h] at hg; cases hg; rw [ht] at hk; cases hk)]
  exact hg, fun k y hg => by
  rw [heap_setCell_other _ _ _ _ (fun q => by subst q; rw [h] at hg; cases hg)]
  exact hg⟩
theorem PX.on {E : En} {w : World} {s : Ps} {vd vc vb : Value} {mb : Nat} (h : PX E w s vd vc vb mb) (hE : E.ok) {n : Nat} (hn : n ≤ E.L.length) : PX E (w.setCell ⟨E.pb, 1, none⟩ (.int .i64 n)) { s with at' := n } vd vc vb mb where
 bel := h.bel.setCell hE.pb _
 box := by have := box_set (i := 1) (v := .int .i64 n) h.box; simpa using this
 dn := own_other h.box (by decide) h.dn
 ch := own_other h.box (by decide) h.ch
 bl := own_other h.box (by decide) h.bl
 mp := h.mp.set h.box
 mx := h.mx
 le := hn
 tx := h.tx
 cb := h.cb
 bb := h.bb
theorem PW.on {E : En} {w : World} {s : Ps} (h : PW E w s) (hE : E.ok) {n : Nat} (hn : n ≤ E.L.length) : PW E (w.setCell ⟨E.pb, 1, none⟩ (.int .i64 n)) { s with at' := n } ∧ KP w (w.setCell ⟨E.pb, 1, none⟩ (.int .i64 n)) := by
 obtain ⟨vd, vc, vb, mb, h⟩ := h
 exact ⟨⟨vd, vc, vb, mb, h.on hE hn⟩, KP.set h.box rfl⟩
theorem PW.bel {E : En} {w : World} {s : Ps} (h : PW E w s) : Below E.X E.w0 w := by
 obtain ⟨vd, vc, vb, mb, h⟩ := h
 exact h.bel
theorem PW.lt {E : En} {w : World} {s : Ps} (h : PW E w s) : E.pb < w.heap.size := by
 obtain ⟨vd, vc, vb, mb, h⟩ := h
 exact (Array.getElem?_eq_some_iff.1 h.box).1
theorem PW.at {E : En} {w : World} {s : Ps} (h : PW E w s) : w.cell? ⟨E.pb, 1, none⟩ = some (.int .i64 s.at') ∧ w.frozen? ⟨E.pb, 1, none⟩ = false ∧ s.at' ≤ E.L.length := by
 obtain ⟨vd, vc, vb, mb, h⟩ := h
 exact ⟨h.cell.2.1, Lib.frozen_of_heap h.box 1, h.le⟩
theorem wk_took {E : En} (hE : E.ok) (t : Bs) (s : Ps) (w : World) (h : PW E w s) : Calls Tryz.prog 81 #[.pointer (some ⟨E.pb, 0, none⟩), .string (str t)] w (EndR E .bool w (took E.L t s)) := by
 have pk := wk_sign hE 0 t s w (by omega) h
 have hs : took E.L t s = if signS E.L s 0 t then .ok true { s with at' := s.at' + 1 } else .ok false s := rfl
 have hl : signS E.L s 0 t = true → s.at' < E.L.length := sign_lt
 rw [hs]
 have hq : sign E.L 0 t s = .ok (signS E.L s 0 t) s := rfl
 rw [hq] at pk
 obtain ⟨b, hb⟩ : ∃ b, signS E.L s 0 t = b := ⟨_, rfl⟩
 rw [hb] at pk hl ⊢
 have PK := Hh pk
 have hL := hE.len
 clear h pk hs hq hb
 cases b
 ·clear hl
  go_enter Tryz.func81, Tryz.ntmps81
  go_wp2_with fail
  refine PK.out.mono ?_
  rintro e w1 ⟨rfl, hp, hk⟩
  have HP := Hh hp
  have HK := Hh hk
  clear hp hk
  go_wp2_with fail
  refine bodyPost_ret (v := .bool false) (by simp [results, Tryz.results81, go_sem]) rfl ?_
  exact ⟨rfl, HP.out, HK.out⟩
 ·have hl' := hl rfl
  clear hl
  go_enter Tryz.func81, Tryz.ntmps81
  go_wp2_with fail
  refine PK.out.mono ?_
  rintro e w1 ⟨rfl, hp, hk⟩
  obtain ⟨c1, f1, -⟩ := hp.at
  have HP := Hh hp
  have HK := Hh hk
  clear hp hk
  obtain ⟨a, ha⟩ : ∃ a, s.at' = a := ⟨_, rfl⟩
  rw [ha] at c1
  have hi : a < 100000 := by omega
  have HL := Hh hl'
  have HA := Hh ha
  clear hl' hL ha
  go_wp2_with fail
  refine bodyPost_ret (v := .bool true) (by simp [results, Tryz.results81, go_sem]) rfl ?_
  obtain ⟨q1, q2⟩ := HP.out.on hE (n := s.at' + 1) HL.out
  rw [HA.out] at q1 q2 ⊢
  exact ⟨rfl, q1, HK.out.trans q2⟩
theorem wk_tookWord {E : En} (hE : E.ok) (t : Bs) (s : Ps) (w : World) (h : PW E w s) : Calls Tryz.prog 158 #[.pointer (some ⟨E.pb, 0, none⟩), .string (str t)] w (EndR E .bool w (tookWord E.L t s)) := by
 have pk := wk_word hE t s w h
 have hs : tookWord E.L t s = if wordS E.L s t then .ok true { s with at' := s.at' + 1 } else .ok false s := rfl
 have hl : wordS E.L s t = true → s.at' < E.L.length := word_lt
 rw [hs]
 have hq : word E.L t s = .ok (wordS E.L s t) s := rfl
 rw [hq] at pk
 obtain ⟨b, hb⟩ : ∃ b, wordS E.L s t = b := ⟨_, rfl⟩
 rw [hb] at pk hl ⊢
 have PK := Hh pk
 have hL := hE.len
 clear h pk hs hq hb
 cases b
 ·clear hl
  go_enter Tryz.func158, Tryz.ntmps158
  go_wp2_with fail
  refine PK.out.mono ?_
  rintro e w1 ⟨rfl, hp, hk⟩
  have HP := Hh hp
  have HK := Hh hk
  clear hp hk
  go_wp2_with fail
  refine bodyPost_ret (v := .bool false) (by simp [results, Tryz.results158, go_sem]) rfl ?_
  exact ⟨rfl, HP.out, HK.out⟩
 ·have hl' := hl rfl
  clear hl
  go_enter Tryz.func158, Tryz.ntmps158
  go_wp2_with fail
  refine PK.out.mono ?_
  rintro e w1 ⟨rfl, hp, hk⟩
  obtain ⟨c1, f1, -⟩ := hp.at
  have HP := Hh hp
  have HK := Hh hk
  clear hp hk
  obtain ⟨a, ha⟩ : ∃ a, s.at' = a := ⟨_, rfl⟩
  rw [ha] at c1
  have hi : a < 100000 := by omega
  have HL := Hh hl'
  have HA := Hh ha
  clear hl' hL ha
  go_wp2_with fail
  refine bodyPost_ret (v := .bool true) (by simp [results, Tryz.results158, go_sem]) rfl ?_
  obtain ⟨q1, q2⟩ := HP.out.on hE (n := s.at' + 1) HL.out
  rw [HA.out] at q1 q2 ⊢
  exact ⟨rfl, q1, HK.out.trans q2⟩

theorem wk_fail {E : En} (hE : E.ok) {α : Type} (val : α → Value) (s : Ps) (w : World) (h : PW E w s) : Calls Tryz.prog 80 #[.pointer (some ⟨E.pb, 0, none⟩)] w (EndR E val w ((fail' : Pm α) s)) := by
 obtain ⟨c1, f1, hle⟩ := h.at
 have hL := hE.len
 have hi : (s.at' : Int) ≤ 100000 := by omega
 have H := Hh h
 clear h
 go_enter Tryz.func80, Tryz.ntmps80
 go_wp2_with fail
 exact ⟨rfl, ⟨_, rfl⟩, H.out.bel, KP.refl _⟩
end Go.Proofs.YtlboejdhmggjpaaGreat.Pp

/- WkD -/
namespace Go.Proofs.YtlboejdhmggjpaaGreat.Pp
set_option maxRecDepth 100000
set_option maxHeartbeats 16000000
open Go.RowKit Go.BigFrame Go.Proofs.YtlboejdhmggjpaaGreat

def unV (_ : Unit) : Value := .tuple #[]
def stV (x : Bs) : Value := .string (str x)
theorem wk_need {E : En} (hE : E.ok) (t : Bs) (s : Ps) (w : World) (h : PW E w s) : Calls Tryz.prog 53 #[.pointer (some ⟨E.pb, 0, none⟩), .string (str t)] w (EndR E unV w (need E.L t s)) := by
 have pk := wk_took hE t s w h
 obtain ⟨b, hb⟩ : ∃ b, signS E.L s 0 t = b := ⟨_, rfl⟩
 have h1 : took E.L t s = if b then .ok true { s with at' := s.at' + 1 } else .ok false s := by rw [← hb]; rfl
 have h2 : need E.L t s = if b then .ok () { s with at' := s.at' + 1 } else .no := by rw [← hb]; rfl
 rw [h1] at pk
 rw [h2]
 have PK := Hh pk
 clear h pk h1 h2 hb
 cases b
 ·go_enter Tryz.func53, Tryz.ntmps53
  go_wp2_with fail
  refine PK.out.mono ?_
  rintro e w1 ⟨rfl, hp, hk⟩
  have HP := Hh hp
  have HK := Hh hk
  clear hp hk
  go_wp2_with fail
  refine (wk_fail hE unV _ _ HP.out).mono ?_
  rintro e w2 ⟨⟨n, rfl⟩, hb, hk2⟩
  exact ⟨rfl, ⟨_, rfl⟩, hb, HK.out.trans hk2⟩
 ·go_enter Tryz.func53, Tryz.ntmps53
  go_wp2_with fail
  refine PK.out.mono ?_
  rintro e w1 ⟨rfl, hp, hk⟩
  have HP := Hh hp
  have HK := Hh hk
  clear hp hk
  go_wp2_with fail
  refine bodyPost_ret (v := .tuple #[]) (by simp [results, Tryz.results53, go_sem]) rfl ?_
  exact ⟨rfl, HP.out, HK.out⟩
theorem wk_name {E : En} (hE : E.ok) (s : Ps) (w : World) (h : PW E w s) : Calls Tryz.prog 83 #[.pointer (some ⟨E.pb, 0, none⟩)] w (EndR E stV w (name' E.L s)) := by
 obtain ⟨T, hT⟩ : ∃ T, peekS E.L s 0 = T := ⟨_, rfl⟩
 have pk := wk_peek hE 0 s w (by omega) h
 rw [hT] at pk
 unfold ctV at pk
 have hl : T.c = 2 → s.at' < E.L.length := fun e => peek_lt (l := E.L) (k := 0) (by rw [hT, e]; decide)
 have h2 : name' E.L s = if T.c = 2 then .ok T.t { s with at' := s.at' + 1 } else .no := by unfold name'; rw [hT]
 rw [h2]
 have PK := Hh pk
 have H := Hh h
 have hL := hE.len
 clear h pk h2 hT
 by_cases hc : T.c = 2
 ·have HL := Hh (hl hc)
  rw [if_pos hc]
  have hc' : ((T.c : Int) != 2) = false := by rw [hc]; rfl
  obtain ⟨a, ha⟩ : ∃ a, s.at' = a := ⟨_, rfl⟩
  have hi : a < 100000 := by have := HL.out; omega
  have HA := Hh ha
  clear hl hL ha
  go_enter Tryz.func83, Tryz.ntmps83
  go_wp2_with fail
  refine PK.out.mono ?_
  rintro e w1 ⟨rfl, hb1⟩
  have hp1 : PW E w1 s := H.out.ext hE hb1
  obtain ⟨c1, f1, -⟩ := hp1.at
  have hpb := hp1.lt
  rw [HA.out] at c1
  have HP := Hh hp1
  have HB := Hh hb1
  clear hb1 hp1
  go_wp2_with fail
  refine bodyPost_ret (v := .string (str T.t)) (by simp [results, Tryz.results83, go_sem]) rfl ?_
  obtain ⟨q1, q2⟩ := HP.out.on hE (n := s.at' + 1) HL.out
  rw [HA.out] at q1 q2 ⊢
  exact ⟨rfl, q1.ext hE (below_alloc _ _), (KP.of_below HB.out).trans (q2.trans (KP.of_below (below_alloc _ _)))⟩
 ·rw [if_neg hc]
  have hc' : ((T.c : Int) != 2) = true := by rw [bne_iff_ne]; omega
  clear hl hL
  go_enter Tryz.func83, Tryz.ntmps83
  go_wp2_with fail
  refine PK.out.mono ?_
  rintro e w1 ⟨rfl, hb1⟩
  have HB := Hh hb1
  clear hb1
  go_wp2_with fail
  have hb2 : Below w.heap.size w (w1.alloc (.cells #[.int .i64 T.c, .string (str T.t)] 54)) := HB.out.trans ((below_alloc _ _).mono HB.out.size)
  refine (wk_fail hE stV s _ (H.out.ext hE hb2)).mono ?_
  rintro e w2 ⟨⟨n, rfl⟩, hb, hk2⟩
  exact ⟨rfl, ⟨_, rfl⟩, hb, (KP.of_below hb2).trans hk2⟩
theorem wk_here {E : En} (hE : E.ok) (s : Ps) (w : World) (h : PW E w s) : Calls Tryz.prog 32 #[.pointer (some ⟨E.pb, 0, none⟩)] w (EndR E hdV w (here s)) := by
 have hr : here s = .ok (s.at', s.done.length) s := rfl
 rw [hr]
 have H := Hh h
 obtain ⟨W1, hW1⟩ : ∃ W1, W1 = w.alloc (.cells #[.int .i64 0, .int .i64 0] 77) := ⟨_, rfl⟩
 have hb1 : Below w.heap.size w W1 := by rw [hW1]; exact below_alloc _ _
 have hr1 : W1.heap[w.heap.size]? = some (.cells #[.int .i64 0, .int .i64 0] 77 (0, 0)) := by rw [hW1]; exact new_cells _ _ _
 obtain ⟨vd, vc, vb, mb, h1⟩ := h.ext hE hb1
 obtain ⟨-, c1, c2, -, -, -, -⟩ := h1.cell
 obtain ⟨da, dc, rfl⟩ := row_shape h1.dn
 obtain ⟨a, hat⟩ : ∃ a, s.at' = a := ⟨_, rfl⟩
 obtain ⟨n, hn⟩ : ∃ n, s.done.length = n := ⟨_, rfl⟩
 obtain ⟨m, hm⟩ : ∃ m, w.heap.size = m := ⟨_, rfl⟩
 rw [hat] at c1
 rw [hn] at c2
 have HB1 := Hh hb1
 have HR1 := Hh hr1
 clear h h1 hb1 hr1 hr
 go_enter Tryz.func32, Tryz.ntmps32
 go_wp2_with fail
 rw [← hW1]
 clear hW1
 refine wp_region_tail (C := fun w' => ∃ n, w' = W1.drewN n) 10 (by kernel_rfl) (by kernel_rfl) ⟨1, rfl⟩ ?_
 simp only [List.take_succ_cons, List.take_zero, List.drop_succ_cons, List.drop_zero]
 repeat (go_big_quiet_step (fail))
 refine wpQuiet_nil ?_
 rintro w' ⟨nr, rfl⟩
 obtain ⟨W2, hW2⟩ : ∃ W2, W2 = W1.drewN nr := ⟨_, rfl⟩
 have hb2 : Below w.heap.size w W2 := by rw [hW2]; exact HB1.out.trans (below_drewN _ _ _)
 have hr2 : W2.heap[m]? = some (.cells #[.int .i64 0, .int .i64 0] 77 (0, 0)) := by rw [hW2, ← hm]; exact HR1.out
 rw [← hW2]
 clear hW2
 have g0 : W2.cell? ⟨m, 0, none⟩ = some (.int .i64 0) := by simp [World.cell?, hr2]
 have g1 : W2.cell? ⟨m, 1, none⟩ = some (.int .i64 0) := by simp [World.cell?, hr2]
 have f0 : W2.frozen? ⟨m, 0, none⟩ = false := Lib.frozen_of_heap hr2 0
 have f1 : W2.frozen? ⟨m, 1, none⟩ = false := Lib.frozen_of_heap hr2 1
 have HB2 := Hh hb2
 clear hb2 hr2
 go_wp2_with fail
 have hb3 := (HB2.out.setCell (p := ⟨m, 0, none⟩) (by rw [hm]; exact Nat.le_refl _) (.int .i64 a)).setCell (p := ⟨m, 1, none⟩) (by rw [hm]; exact Nat.le_refl _) (.int .i64 n)
 refine bodyPost_ret (v := hdV (a, n)) (by simp [results, Tryz.results32, go_sem, g0, g1, hdV]) rfl ?_
 rw [hat, hn]
 exact EndR.mk rfl hE H.out hb3
end Go.Proofs.YtlboejdhmggjpaaGreat.Pp

/- WkE -/
namespace Go.Proofs.YtlboejdhmggjpaaGreat.Pp
set_option maxRecDepth 100000
set_option maxHeartbeats 16000000
open Go.RowKit Go.BigFrame Go.Proofs.YtlboejdhmggjpaaGreat

theorem info38 : (Tryz.prog.info? 38).map (fun i => (i.zero, i.size, i.bytes)) = some (some (.agg #[.int .i64 0, .int .i64 0, .int .i64 0, .int .i64 0]), 4, 32) := by kernel_rfl
theorem info_parts3 {t : TypeId} {z : Value} {n b : Nat} (h : (Tryz.prog.info? t).map (fun i => (i.zero, i.size, i.bytes)) = some (some z, n, b)) : ∃ i, Tryz.prog.info? t = some i ∧ i.zero = some z ∧ i.size = n ∧ i.bytes = b := by
 cases hi : Tryz.prog.info? t with
 | none => rw [hi] at h; cases h
 | some i =>
  rw [hi] at h
  simp only [Option.map_some, Option.some.injEq, Prod.mk.injEq] at h
  exact ⟨i, rfl, h.1, h.2.1, h.2.2⟩
theorem PX.done {E : En} {w w3 : World} {s : Ps} {vd vc vb vd' : Value} {mb : Nat} (h : PX E w s vd vc vb mb) (hE : E.ok) (x : Nd) (hg : w.grownBy w3 vd.ownBlock) (ho : w3.ownsRow E.X 38 4 vd' (s.done.length + 1) (s.done.flatMap ndC ++ ndC x)) :
  PX E (w3.setCell ⟨E.pb, 2, none⟩ vd') { s with done := s.done ++ [x] } vd' vc vb mb ∧ KP w (w3.setCell ⟨E.pb, 2, none⟩ vd') := by
 have hne : ∀ (k : Nat) (cs : Array Value) (t : TypeId), ¬ t = 38 → w.heap[k]? = some (.cells cs t (0, 0)) → w3.heap[k]? = some (.cells cs t (0, 0)) := fun k cs t ht hk => by
  rw [hg.block k (Array.getElem?_eq_some_iff.1 hk).1 (fun e => by
   obtain ⟨_, cur, hc⟩ := row_cells h.dn e.symm
   rw [hk] at hc
   cases hc
   exact ht rfl)]
  exact hk
 have hb3 := hne _ _ 75 (by decide) h.box
 have hbel : Below E.X w w3 := ⟨hg.os, hg.tape, hg.output, hg.size, fun k hk => hg.block k (by have := h.bel.size; have := hE.X; omega) (fun e => by
  obtain ⟨hx, _⟩ := row_cells h.dn e.symm
  omega)⟩
 refine ⟨{ bel := (h.bel.trans hbel).setCell hE.pb _, box := ?_, dn := ?_, ch := ?_, bl := ?_, mp := ?_, mx := h.mx, le := h.le, tx := h.tx, cb := h.cb, bb := h.bb }, ?_⟩
 ·have := box_set (i := 2) (v := vd') hb3; simpa using this
 ·have := own_other (x := vd') (i := 2) hb3 (by decide) ho
  simpa using this
 ·exact own_other hb3 (by decide) (ownsRow_of h.ch fun g cur hq => hne _ _ _ (by decide) hq)
 ·exact own_other hb3 (by decide) (ownsRow_of h.bl fun g cur hq => hne _ _ _ (by decide) hq)
 ·refine Nm.set hb3 ?_
  obtain ⟨n, D, h1, h2⟩ := h.mp
  refine ⟨n, D, ownsMap_of h1 fun es c hq => ?_, h2⟩
  rw [hg.block _ (Array.getElem?_eq_some_iff.1 hq).1 (fun e => by
   obtain ⟨_, cur, hc⟩ := row_cells h.dn e.symm
   rw [hq] at hc
   cases hc)]
  exact hq
 ·refine KP.trans ⟨hg.size, fun k cs t fz ht hk => ?_, fun k x hk => by
   rw [hg.block k (Array.getElem?_eq_some_iff.1 hk).1 (fun q => by
    obtain ⟨_, cur, hc⟩ := row_cells h.dn q.symm
    rw [hk] at hc
    cases hc)]
   exact hk⟩ (KP.set hb3 rfl)
  rw [hg.block k (Array.getElem?_eq_some_iff.1 hk).1 (fun e => by
   obtain ⟨_, cur, hc⟩ := row_cells h.dn e.symm
   rw [hk] at hc
   cases hc
   cases ht)]
  exact hk
theorem wk_node {E : En} (hE : E.ok) (k : Nat) (h : Nat × Nat) (s : Ps) (w : World) (hp : PW E w s) (hne : node E.L k h s ≠ .out) : Calls Tryz.prog 34 #[.pointer (some ⟨E.pb, 0, none⟩), .int .i64 k, hdV h] w (EndR E unV w (node E.L k h s)) := by
 have hg : s.done.length ≤ 4 * E.L.length ∧ h.2 ≤ s.done.length := by
  unfold node at hne
  split at hne
  ·assumption
  ·exact absurd rfl hne
 have hr : node E.L k h s = .ok () { s with done := s.done ++ [⟨k, h.1, s.at', s.done.length - h.2 + 1⟩] } := by unfold node; rw [if_pos hg]
 rw [hr]
 clear hne hr
 obtain ⟨h1, h2⟩ := h
 obtain ⟨hg1, hg2⟩ := hg
 simp only at hg2
 have hL := hE.len
 obtain ⟨i0, hi0, hz0, hz1, hz2⟩ := info_parts3 info38
 obtain ⟨W1, hW1⟩ : ∃ W1, W1 = w.alloc (.cells #[.int .i64 h1, .int .i64 h2] 77) := ⟨_, rfl⟩
 have hb1 : Below w.heap.size w W1 := by rw [hW1]; exact below_alloc _ _
 have hr1 : W1.heap[w.heap.size]? = some (.cells #[.int .i64 h1, .int .i64 h2] 77 (0, 0)) := by rw [hW1]; exact new_cells _ _ _
 obtain ⟨vd, vc, vb, mb, hx⟩ := hp.ext hE hb1
 obtain ⟨da, dc, rfl⟩ := row_shape hx.dn
 obtain ⟨n, hn⟩ : ∃ n, s.done.length = n := ⟨_, rfl⟩
 obtain ⟨a, ha⟩ : ∃ a, s.at' = a := ⟨_, rfl⟩
 obtain ⟨z, hz⟩ : ∃ z : Nat, n - h2 + 1 = z := ⟨_, rfl⟩
 rw [hn] at hg1 hg2 hx
 have hzi : (n : Int) - h2 + 1 = z := by omega
 -- the worlds: drawn, the new node's row, behind the append
 obtain ⟨V1, hV1⟩ : ∃ V1, V1 = W1.drew.alloc (.cells #[.int .i64 k, .int .i64 h1, .int .i64 a, .int .i64 z] 38) := ⟨_, rfl⟩
 have hbV : Below W1.heap.size W1 V1 := by rw [hV1]; exact ((Below.refl _ W1).drew).alloc (Nat.le_refl _) _
 have hxV := hx.ext hE hbV
 have hnr : V1.heap[W1.heap.size]? = some (.cells #[.int .i64 k, .int .i64 h1, .int .i64 a, .int .i64 z] 38 (0, 0)) := by rw [hV1]; exact new_cells W1.drew _ _
 have hXV : E.X ≤ V1.heap.size := by have := hxV.bel.size; rw [hE.X]; exact this
 have hdnV := hxV.dn
 rw [hn] at hdnV
 obtain ⟨v', w3, hrun, hown3, hgrow3, -⟩ := run_append_own_at (P := Tryz.prog) (w := V1) E.X 24 24 38 i0 (.agg #[.int .i64 0, .int .i64 0, .int .i64 0, .int .i64 0]) 4 32 Tryz.underlying24 hi0 hz0 hz1 hz2 rfl (by decide) (.slice da n dc) n (s.done.flatMap ndC) hdnV
  ⟨W1.heap.size, 0, none⟩ 1 1 [.int .i64 k, .int .i64 h1, .int .i64 a, .int .i64 z] rfl (fun j u hu => by
   match j, hu with
   | 0, hu => simp at hu; subst hu; simp [World.cell?, Addr.add, hnr]
   | 1, hu => simp at hu; subst hu; simp [World.cell?, Addr.add, hnr]
   | 2, hu => simp at hu; subst hu; simp [World.cell?, Addr.add, hnr]
   | 3, hu => simp at hu; subst hu; simp [World.cell?, Addr.add, hnr]
   | j + 4, hu => simp at hu) (fun u hu => by simp at hu; rcases hu with rfl | rfl | rfl | rfl <;> rfl) (by unfold maxLen; omega) (by omega) hXV
 obtain ⟨da', dc', rfl⟩ := row_shape hown3
 have hV : ∃ V : Nat → World, V 0 = W1.drew ∧ V 1 = V1 ∧ ∀ j, 2 ≤ j → V j = w3 := ⟨fun j => match j with | 0 => W1.drew | 1 => V1 | _ => w3, rfl, rfl, fun j hj => by
  match j, hj with
  | j + 2, _ => rfl⟩
 obtain ⟨V, hV0, hV1', hV2⟩ := hV
 have hst : ∀ (p : Nat) (cs : Array Value) (t : TypeId), ¬ t = 38 → W1.heap[p]? = some (.cells cs t (0, 0)) → ∀ j, (V j).heap[p]? = some (.cells cs t (0, 0)) := fun p cs t ht hq j => by
  have q1 : V1.heap[p]? = some (.cells cs t (0, 0)) := heap_below hbV hq (Array.getElem?_eq_some_iff.1 hq).1
  match j with
  | 0 => rw [hV0]; exact hq
  | 1 => rw [hV1']; exact q1
  | j + 2 =>
   rw [hV2 _ (by omega), hgrow3.block p (Array.getElem?_eq_some_iff.1 q1).1 (fun e => by
    obtain ⟨_, cur, hc⟩ := row_cells hdnV e.symm
    rw [q1] at hc
    cases hc
    exact ht rfl)]
   exact q1
 have hB := hst _ _ _ (by decide) hx.box
 have hM := hst _ _ _ (by decide) hr1
 rw [ha] at hB
 obtain ⟨m, hm⟩ : ∃ m, w.heap.size = m := ⟨_, rfl⟩
 rw [hm] at hM
 have c1 : ∀ j, (V j).cell? ⟨E.pb, 1, none⟩ = some (.int .i64 a) := fun j => by simp [World.cell?, hB j]
 have c2 : ∀ j, (V j).cell? ⟨E.pb, 2, none⟩ = some (.slice da n dc) := fun j => by simp [World.cell?, hB j]
 have d0 : ∀ j, (V j).cell? ⟨m, 0, none⟩ = some (.int .i64 h1) := fun j => by simp [World.cell?, hM j]
 have d1 : ∀ j, (V j).cell? ⟨m, 1, none⟩ = some (.int .i64 h2) := fun j => by simp [World.cell?, hM j]
 have e2 : w3.cell? ⟨E.pb, 2, none⟩ = some (.slice da n dc) := by have := c2 2; rwa [hV2 2 (Nat.le_refl _)] at this
 have f2 : w3.frozen? ⟨E.pb, 2, none⟩ = false := by have := hB 2; rw [hV2 2 (Nat.le_refl _)] at this; exact Lib.frozen_of_heap this 2
 have hfin := hxV.done hE ⟨k, h1, a, z⟩ hgrow3 (by rw [hn]; exact hown3)
 have HFIN := Hh hfin
 have HRUN := Hh hrun
 have HV1 := Hh hV1
 have K0 := Hh hV0
 have K1 := Hh hV1'
 have K2 := Hh hV2
 have HB1 := Hh hb1
 have HBV := Hh hbV
 have HN := Hh hn
 have HA := Hh ha
 have HZ := Hh hz
 clear hp hx hxV hfin hrun hV1 hV0 hV1' hV2 hb1 hbV hnr hXV hdnV hown3 hgrow3 hst hB hM hn ha hz hr1 hi0 hz0 hz1 hz2
 go_enter Tryz.func34, Tryz.ntmps34
 simp only [hdV]
 go_wp2_with fail
 rw [← hW1]
 clear hW1
 refine wp_region_chain_tail V [22, 23] 26 K0.out (by kernel_rfl) (by kernel_rfl) ?_
 simp only [List.take_succ_cons, List.take_zero, List.drop_succ_cons, List.drop_zero]
 refine chain_reads_at 22 (by kernel_rfl) ?_
 simp only [List.take_succ_cons, List.take_zero, List.drop_succ_cons, List.drop_zero]
 repeat (go_big_quiet_step (fail))
 refine wpQuiet_nil ?_
 refine chain_op 0 (.slice (some ⟨W1.heap.size, 0, none⟩) 1 1) (by kernel_rfl) rfl (.inl ?_) ?_
 ·rw [K0.out, K1.out, HV1.out]
  kernel_rfl
 refine chain_op 1 (.slice da' (n + 1) dc') (by kernel_rfl) rfl (.inl ?_) ?_
 ·rw [K1.out, K2.out _ (Nat.le_refl _)]
  exact exec_append rfl rfl rfl HRUN.out
 refine chain_reads_at 2 (by kernel_rfl) ?_
 simp only [List.take_succ_cons, List.take_zero, List.drop_succ_cons, List.drop_zero, Act.put, List.setIfInBounds_toArray, List.set_cons_succ, List.set_cons_zero]
 repeat (go_big_quiet_step (fail))
 refine wpQuiet_nil ?_
 refine chain_end ?_
 rw [show V ([22, 23] : List Nat).length = w3 from K2.out _ (Nat.le_refl _)]
 go_wp2_with fail
 refine bodyPost_ret (v := .tuple #[]) (by simp [results, Tryz.results34, go_sem]) rfl ?_
 refine ⟨rfl, ?_, ?_⟩
 ·have q := HFIN.out.1
  rw [← HZ.out, ← HN.out, ← HA.out] at q
  rw [← HN.out]
  exact ⟨_, _, _, _, q⟩
 ·exact (KP.of_below HB1.out).trans ((KP.of_below HBV.out).trans HFIN.out.2)
end Go.Proofs.YtlboejdhmggjpaaGreat.Pp

/- WkF -/
namespace Go.Proofs.YtlboejdhmggjpaaGreat.Pp
open Go.RowKit Go.BigFrame Go.Proofs.YtlboejdhmggjpaaGreat Go.ChangeMaps Go.WideMaps

theorem law9 : Maps.Keyed Tryz.prog 9 := Maps.string_keyed Tryz.underlying9
theorem zero3 (w : World) : (zeroValue 3).run Tryz.prog w = .ok (.int .i64 0) w := by kernel_rfl
theorem key_is (x : Bs) : WideAt.IsKeyLit (.string x) := by simp [WideAt.IsKeyLit]
theorem key_ne {x y : Bs} (h : y ≠ x) : Lit.string y ≠ Lit.string x := fun e => h (by simpa using e)
theorem key_of (x : Bs) (hx : x.length ≤ maxLen) : keyOf Tryz.prog 9 (.string (str x)) = some (.string x) := by
 have := keyOf_string_mk Tryz.underlying9 (s := str x) (by rw [str_size]; exact hx)
 rwa [str_data] at this
theorem nowL_snoc (ch : List (Bs × Bool)) (p : Bs × Bool) (x : Bs) : nowL (ch ++ [p]) x = if p.1 = x then some p.2 else nowL ch x := by
 unfold nowL
 rw [List.reverse_append, List.reverse_singleton, List.singleton_append, List.find?_cons]
 by_cases h : p.1 = x
 ·simp [h]
 ·rw [if_neg h, show (p.1 == x) = false from beq_eq_false_iff_ne.mpr h]
theorem nowL_mem {ch : List (Bs × Bool)} {x : Bs} (h : (nowL ch x).isSome = true) : x ∈ ch.map (·.1) := by
 unfold nowL at h
 cases hf : ch.reverse.find? (fun p => p.1 == x) with
 | none => rw [hf] at h; cases h
 | some p =>
  have h1 := List.mem_of_find?_eq_some hf
  have h2 := List.find?_some hf
  rw [beq_iff_eq] at h2
  exact List.mem_map.2 ⟨p, List.mem_reverse.1 h1, h2⟩
theorem nodup_sub {α : Type} [DecidableEq α] : ∀ (a b : List α), a.Pairwise (· ≠ ·) → (∀ x ∈ a, x ∈ b) → a.length ≤ b.length
 | [], b, _, _ => Nat.zero_le _
 | x :: a, b, h, hs => by
  have hx := hs x (by simp)
  rw [List.pairwise_cons] at h
  have := nodup_sub a (b.erase x) h.2 fun y hy => (List.mem_erase_of_ne (fun e => h.1 y hy e.symm)).2 (hs y (by simp [hy]))
  rw [List.length_erase_of_mem hx] at this
  have := List.length_pos_of_mem hx
  rw [List.length_cons]
  omega
def strOf : Lit → Bs
 | .string x => x
 | _ => []
theorem Nm.few {w : World} {mb : Nat} {ch : List (Bs × Bool)} (h : Nm w mb ch) : ∃ D, w.ownsMap Tryz.prog 9 rawR mb ch.length D ∧ ∀ x : Bs, (∀ z, D.atKey (.string x) z = match nowL ch x with | some b => .held (.int .i64 (nwI (some b))) | none => z) ∧ Maps.has D (.string x) = (nowL ch x).isSome := by
 obtain ⟨n, D, h1, h2⟩ := h
 refine ⟨D, ?_, h2⟩
 obtain ⟨es, hD, hp, hk⟩ := h1.entries law9
 obtain ⟨es0, clock, hb, F, _, hD0⟩ := h1
 have hes : es = (es0.toList.map (WideElems.rg Tryz.prog 9 rawR)).foldr DataW.insert [] := by
  rw [hD] at hD0
  cases hD0
  rfl
 have hstr : ∀ p ∈ es, p.1 = .string (strOf p.1) := fun p hp => by
  rw [hes] at hp
  obtain ⟨e0, he0, rfl⟩ := List.mem_map.1 (mem_sorted.1 hp)
  obtain ⟨y, hy⟩ := F.reads e0 he0
  rw [WideElems.rg_of hy]
  obtain ⟨s, _, hs, _⟩ := string_of_keyOf Tryz.underlying9 (WideElems.rd_key hy)
  rw [hs]
  rfl
 have hsub : (es.map fun p => strOf p.1).length ≤ (ch.map (·.1)).length := by
  refine nodup_sub _ _ ?_ fun x hx => ?_
  ·rw [List.pairwise_map]
   refine hp.imp_of_mem fun {a b} ha hb hne e => hne ?_
   rw [hstr a ha, hstr b hb, e]
  ·obtain ⟨p, hpm, rfl⟩ := List.mem_map.1 hx
   refine nowL_mem ?_
   rw [← (h2 _).2, hD]
   refine List.any_eq_true.2 ⟨p, hpm, ?_⟩
   rw [← hstr p hpm]
   exact WideAt.sameKey_self (hk p hpm)
 rw [List.length_map, List.length_map, hes, length_sorted, List.length_map, Array.length_toList] at hsub
 exact ⟨es0, clock, hb, F, hsub, hD0⟩
theorem raw_inv {v : Value} {d : DataW Value} {ps : List MemPlace} (h : rawR v = some (d, ps)) : d = .held v := by
 unfold rawR at h
 simp only [Option.some.injEq, Prod.mk.injEq] at h
 exact h.1.symm
theorem Nm.look {w : World} {mb : Nat} {ch : List (Bs × Bool)} (h : Nm w mb ch) (x : Bs) (hx : x.length ≤ maxLen) : (Instr.lookup 69 (.map (some mb)) (.string (str x)) false).run Tryz.prog w = .ok (.int .i64 (nwI (nowL ch x))) w := by
 obtain ⟨n, D, h1, h2⟩ := h
 obtain ⟨v, ps, hrun, hv⟩ := h1.lookup law9 Tryz.underlying69 (zero3 w) (zd := .held (.int .i64 0)) (zp := []) rfl (key_of x hx)
 rw [hrun]
 have := raw_inv hv
 rw [(h2 x).1] at this
 cases hq : nowL ch x with
 | none => rw [hq] at this; simp only [DataW.held.injEq] at this; rw [← this]; rfl
 | some b => rw [hq] at this; simp only [DataW.held.injEq] at this; rw [← this]
theorem Nm.store {w : World} {mb : Nat} {ch ch' : List (Bs × Bool)} (h : Nm w mb ch) (x : Bs) (b : Bool) (hx : x.length ≤ maxLen) (hl : ch.length ≤ 1000000) (hc : ∀ y, nowL ch' y = if x = y then some b else nowL ch y) :
  ∃ w', (Instr.mapUpdate 69 (.map (some mb)) (.string (str x)) (.int .i64 (nwI (some b)))).run Tryz.prog w = .ok () w' ∧ Nm w' mb ch' ∧ w.grownBy w' (some mb) := by
 obtain ⟨D, h1, h2⟩ := h.few
 obtain ⟨w', hrun, hown, hg⟩ := h1.update law9 Tryz.underlying69 (by unfold maxLen; omega) (key_of x hx) (val := .int .i64 (nwI (some b))) (d := .held (.int .i64 (nwI (some b)))) (ps := []) rfl
 refine ⟨w', hrun, ⟨_, _, hown, fun y => ?_⟩, hg⟩
 rw [hc y]
 by_cases hxy : x = y
 ·subst hxy
  rw [if_pos rfl]
  exact ⟨fun z => Maps.atKey_put_same h1.isMap (key_is _) _ _, Maps.has_put_same h1.isMap (key_is _) _⟩
 ·rw [if_neg hxy]
  refine ⟨fun z => ?_, ?_⟩
  ·rw [Maps.atKey_put_other (key_ne (fun e => hxy e.symm)), (h2 y).1]
   cases nowL ch y <;> rfl
  ·rw [Maps.has_put_other (key_ne (fun e => hxy e.symm)), (h2 y).2]
theorem Nm.drop {w : World} {mb : Nat} {ch ch' : List (Bs × Bool)} (h : Nm w mb ch) (x : Bs) (hx : x.length ≤ maxLen) (ty : TypeId) (hc : ∀ y, nowL ch' y = if x = y then none else nowL ch y) :
  ∃ w', (Builtin.delete_ #[69, 9] ty #[.map (some mb), .string (str x)]).run Tryz.prog w = .ok (.tuple #[]) w' ∧ Nm w' mb ch' ∧ w.grownBy w' (some mb) := by
 obtain ⟨n, D, h1, h2⟩ := h
 obtain ⟨w', hrun, hown, hg⟩ := h1.drop law9 Tryz.underlying69 (key_of x hx) ty
 refine ⟨w', hrun, ⟨_, _, hown, fun y => ?_⟩, hg.grown⟩
 rw [hc y]
 by_cases hxy : x = y
 ·subst hxy
  rw [if_pos rfl]
  exact ⟨fun z => Maps.atKey_del_same _, by rw [Maps.has_del_same]; rfl⟩
 ·rw [if_neg hxy]
  refine ⟨fun z => ?_, ?_⟩
  ·rw [Maps.atKey_del_other (key_ne (fun e => hxy e.symm)), (h2 y).1]
  ·rw [Maps.has_del_other (key_ne (fun e => hxy e.symm)), (h2 y).2]
end Go.Proofs.YtlboejdhmggjpaaGreat.Pp

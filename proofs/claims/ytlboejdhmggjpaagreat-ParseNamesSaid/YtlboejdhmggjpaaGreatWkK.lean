/- parse: beginsSpec, beginsLess. -/
import Derived.Test.YtlboejdhmggjpaaGreatWkG
set_option linter.all false
namespace Go.Proofs.YtlboejdhmggjpaaGreat.Pp
set_option maxRecDepth 100000
set_option maxHeartbeats 16000000
open Go.RowKit Go.BigFrame Go.Proofs.YtlboejdhmggjpaaGreat

theorem peek_txt {E : En} (hE : E.ok) (s : Ps) (k : Nat) : (peekS E.L s k).t.length ≤ maxLen := by
 unfold peekS
 rw [List.getD_eq_getElem?_getD]
 cases h : E.L[s.at' + k]? with
 | none => exact Nat.zero_le _
 | some t => exact hE.txt t (List.mem_of_getElem? h)
theorem EndR.pure {E : En} {α : Type} {val : α → Value} {w w' : World} {v : α} {s : Ps} (hE : E.ok) (h : PW E w s) (hb : Below w.heap.size w w') : EndR E val w (.ok v s) (.returned (val v)) w' := EndR.mk rfl hE h hb
theorem wk_bSpec {E : En} (hE : E.ok) (k : Nat) (s : Ps) (w : World) (hk : k ≤ 10) (h : PW E w s) : Calls Tryz.prog 123 #[.pointer (some ⟨E.pb, 0, none⟩), .int .i64 k] w (EndR E .bool w (bSpec E.L E.base k s)) := by
 obtain ⟨T, hT⟩ : ∃ T, peekS E.L s k = T := ⟨_, rfl⟩
 have pk := wk_peek hE k s w hk h
 have hx := peek_txt hE s k
 have hr : bSpec E.L E.base k s = .ok (if T.c = 1 then decide (spec T.t ≠ 0) else if T.c = 2 then s.nm.isType E.base T.t else false) s := by show Rs.ok (bSpecS E.L E.base s k) s = _; unfold bSpecS; rw [hT]
 rw [hr]
 rw [hT] at pk hx
 unfold ctV at pk
 have PK := Hh pk
 have H := Hh h
 clear pk h hr hT
 by_cases h1 : T.c = 1
 ·rw [if_pos h1]
  have hq : ∀ z : Bool, (((spec T.t : Int) != 0) = z) → decide (spec T.t ≠ 0) = z := fun z hz => by
   rw [← hz]
   by_cases e : spec T.t = 0
   ·rw [e]; rfl
   ·rw [decide_eq_true e]; symm; rw [bne_iff_ne]; omega
  go_enter Tryz.func123, Tryz.ntmps123
  go_wp2_with fail
  refine PK.out.mono ?_
  rintro e w1 ⟨rfl, hb1⟩
  have HB := Hh hb1
  clear hb1
  go_wp2_with fail
  refine (wk_spec T.t _).mono ?_
  rintro e w2 ⟨rfl, rfl⟩
  go_wp2_with fail
  refine bodyPost_ret (v := .bool ((spec T.t : Int) != 0)) (by simp [results, Tryz.results123, go_sem]) rfl ?_
  rw [hq _ rfl]
  exact EndR.pure hE H.out (HB.out.trans ((below_alloc _ _).mono HB.out.size))
 ·rw [if_neg h1]
  have h1' : ((T.c : Int) == 1) = false := by rw [beq_eq_false_iff_ne]; omega
  by_cases h2 : T.c = 2
  ·rw [if_pos h2]
   go_enter Tryz.func123, Tryz.ntmps123
   go_wp2_with fail
   refine PK.out.mono ?_
   rintro e w1 ⟨rfl, hb1⟩
   have HB := Hh hb1
   clear hb1
   go_wp2_with fail
   obtain ⟨W2, hW2⟩ : ∃ W2, W2 = w1.alloc (.cells #[.int .i64 2, .string (str T.t)] 54) := ⟨_, rfl⟩
   have hb2 : Below w.heap.size w W2 := by rw [hW2]; exact HB.out.trans ((below_alloc _ _).mono HB.out.size)
   have hr2 : W2.heap[w1.heap.size]? = some (.cells #[.int .i64 2, .string (str T.t)] 54 (0, 0)) := by rw [hW2]; exact new_cells _ _ _
   rw [← hW2]
   clear hW2
   have hp2 := H.out.ext hE hb2
   obtain ⟨m, hm⟩ : ∃ m, w1.heap.size = m := ⟨_, rfl⟩
   rw [hm] at hr2 ⊢
   have g1 : ∀ u : Ext W2, u.w.cell? ⟨m, 1, none⟩ = some (.string (str T.t)) := fun u => u.cell (by simp [World.cell?, hr2])
   have IS := Hh (fun u : Ext W2 => wk_isType hE T.t s u.w hx (hp2.ext hE u.below))
   have HB2 := Hh hb2
   clear hb2 hr2 hp2 hm
   refine wp_region_quiet (C := fun w' => ∃ u : Ext W2, w' = u.w) (by kernel_rfl) (by kernel_rfl) (Ext.drew W2) ?_
   dsimp only []
   repeat (go_big_quiet_step ((go_at_call 74; rename_i u; refine (IS.out u).mono ?_; rintro e w2 ⟨rfl, b2⟩; exact ⟨rfl, u.on b2⟩)))
   refine wpQuiet_nil ?_
   rintro w' ⟨u, rfl⟩
   go_wp2_with fail
   refine bodyPost_ret (v := .bool (s.nm.isType E.base T.t)) (by simp [results, Tryz.results123, go_sem]) rfl ?_
   exact EndR.pure hE H.out (HB2.out.trans (u.below.mono HB2.out.size))
  ·rw [if_neg h2]
   have h2' : ((T.c : Int) == 2) = false := by rw [beq_eq_false_iff_ne]; omega
   go_enter Tryz.func123, Tryz.ntmps123
   go_wp2_with fail
   refine PK.out.mono ?_
   rintro e w1 ⟨rfl, hb1⟩
   have HB := Hh hb1
   clear hb1
   go_wp2_with fail
   refine bodyPost_ret (v := .bool false) (by simp [results, Tryz.results123, go_sem]) rfl ?_
   exact EndR.pure hE H.out (HB.out.trans ((below_alloc _ _).mono HB.out.size))
end Go.Proofs.YtlboejdhmggjpaaGreat.Pp

/- WkI -/
namespace Go.Proofs.YtlboejdhmggjpaaGreat.Pp
set_option maxRecDepth 100000
set_option maxHeartbeats 16000000
open Go.RowKit Go.BigFrame Go.Proofs.YtlboejdhmggjpaaGreat

theorem EndR.ok {E : En} {α : Type} {val : α → Value} {w w' : World} {v : α} {s s' : Ps} {e : Ending} (h : EndR E val w (.ok v s') e w') : e = .returned (val v) ∧ PW E w' s' ∧ KP w w' := h
theorem wk_bLess {E : En} (hE : E.ok) (k : Nat) (s : Ps) (w : World) (hk : k ≤ 10) (h : PW E w s) : Calls Tryz.prog 118 #[.pointer (some ⟨E.pb, 0, none⟩), .int .i64 k] w (EndR E .bool w (bLess E.L E.base k s)) := by
 obtain ⟨T, hT⟩ : ∃ T, peekS E.L s k = T := ⟨_, rfl⟩
 have pk := wk_peek hE k s w hk h
 have hr : bLess E.L E.base k s = .ok (if T.c = 1 ∧ (spec T.t = 1 ∨ spec T.t = 2) then false else bSpecS E.L E.base s k) s := by show Rs.ok (bLessS E.L E.base s k) s = _; unfold bLessS; rw [hT]
 rw [hr]
 rw [hT] at pk
 unfold ctV at pk
 obtain ⟨B, hB⟩ : ∃ B, bSpecS E.L E.base s k = B := ⟨_, rfl⟩
 have BS := Hh (fun (W : World) (hW : PW E W s) => (hB ▸ wk_bSpec hE k s W hk hW : Calls Tryz.prog 123 #[.pointer (some ⟨E.pb, 0, none⟩), .int .i64 k] W (EndR E .bool W (.ok B s))))
 rw [hB]
 have PK := Hh pk
 have H := Hh h
 clear pk h hr hT hB
 by_cases h1 : T.c = 1
 ·obtain ⟨q, hq⟩ : ∃ q, spec T.t = q := ⟨_, rfl⟩
  have SP := Hh (fun W : World => (hq ▸ wk_spec T.t W : Calls Tryz.prog 75 #[.string (str T.t)] W fun e w' => e = .returned (.int .i64 q) ∧ w' = W))
  rw [hq]
  clear hq
  have hc : (q = 1 ∧ (if T.c = 1 ∧ (q = 1 ∨ q = 2) then false else B) = false) ∨ (((q : Int) == 1) = false ∧ q = 2 ∧ (if T.c = 1 ∧ (q = 1 ∨ q = 2) then false else B) = false) ∨ (((q : Int) == 1) = false ∧ ((q : Int) == 2) = false ∧ (if T.c = 1 ∧ (q = 1 ∨ q = 2) then false else B) = B) := by
   by_cases e1 : q = 1
   ·exact .inl ⟨e1, by rw [if_pos ⟨h1, .inl e1⟩]⟩
   ·by_cases e2 : q = 2
    ·exact .inr (.inl ⟨by rw [beq_eq_false_iff_ne]; omega, e2, by rw [if_pos ⟨h1, .inr e2⟩]⟩)
    ·exact .inr (.inr ⟨by rw [beq_eq_false_iff_ne]; omega, by rw [beq_eq_false_iff_ne]; omega, by rw [if_neg (fun x => x.2.elim e1 e2)]⟩)
  rcases hc with ⟨e1, hz⟩ | ⟨e1, e2, hz⟩ | ⟨e1, e2, hz⟩
  ·rw [hz]
   clear hz
   go_enter Tryz.func118, Tryz.ntmps118
   go_wp2_with fail
   refine PK.out.mono ?_
   rintro e w1 ⟨rfl, hb1⟩
   have HB := Hh hb1
   clear hb1
   go_wp2_with fail
   refine (SP.out _).mono ?_
   rintro e w2 ⟨rfl, rfl⟩
   go_wp2_with fail
   refine bodyPost_ret (v := .bool false) (by simp [results, Tryz.results118, go_sem]) rfl ?_
   exact EndR.pure hE H.out (HB.out.trans ((below_alloc _ _).mono HB.out.size))
  ·rw [hz]
   clear hz
   go_enter Tryz.func118, Tryz.ntmps118
   go_wp2_with fail
   refine PK.out.mono ?_
   rintro e w1 ⟨rfl, hb1⟩
   have HB := Hh hb1
   clear hb1
   go_wp2_with fail
   refine (SP.out _).mono ?_
   rintro e w2 ⟨rfl, rfl⟩
   go_wp2_with fail
   refine bodyPost_ret (v := .bool false) (by simp [results, Tryz.results118, go_sem]) rfl ?_
   exact EndR.pure hE H.out (HB.out.trans ((below_alloc _ _).mono HB.out.size))
  ·rw [hz]
   clear hz
   go_enter Tryz.func118, Tryz.ntmps118
   go_wp2_with fail
   refine PK.out.mono ?_
   rintro e w1 ⟨rfl, hb1⟩
   have HB := Hh hb1
   clear hb1
   go_wp2_with fail
   refine (SP.out _).mono ?_
   rintro e w2 ⟨rfl, rfl⟩
   go_wp2_with fail
   have hb2 := HB.out.trans ((below_alloc w1 (.cells #[.int .i64 1, .string (str T.t)] 54)).mono HB.out.size)
   refine (BS.out _ (H.out.ext hE hb2)).mono ?_
   rintro e w3 ⟨rfl, hp3, hk3⟩
   have HP3 := Hh hp3
   have HK3 := Hh hk3
   have HB2 := Hh hb2
   clear hp3 hk3 hb2
   go_wp2_with fail
   refine bodyPost_ret (v := .bool B) (by simp [results, Tryz.results118, go_sem]) rfl ?_
   exact ⟨rfl, HP3.out, (KP.of_below HB2.out).trans HK3.out⟩
 ·rw [if_neg (fun x => h1 x.1)]
  have h1' : ((T.c : Int) == 1) = false := by rw [beq_eq_false_iff_ne]; omega
  go_enter Tryz.func118, Tryz.ntmps118
  go_wp2_with fail
  refine PK.out.mono ?_
  rintro e w1 ⟨rfl, hb1⟩
  have HB := Hh hb1
  clear hb1
  go_wp2_with fail
  have hb2 := HB.out.trans ((below_alloc w1 (.cells #[.int .i64 T.c, .string (str T.t)] 54)).mono HB.out.size)
  refine (BS.out _ (H.out.ext hE hb2)).mono ?_
  rintro e w3 ⟨rfl, hp3, hk3⟩
  have HP3 := Hh hp3
  have HK3 := Hh hk3
  have HB2 := Hh hb2
  clear hp3 hk3 hb2
  go_wp2_with fail
  refine bodyPost_ret (v := .bool B) (by simp [results, Tryz.results118, go_sem]) rfl ?_
  exact ⟨rfl, HP3.out, (KP.of_below HB2.out).trans HK3.out⟩
theorem wk_typeAhead {E : En} (hE : E.ok) (s : Ps) (w : World) (h : PW E w s) : Calls Tryz.prog 179 #[.pointer (some ⟨E.pb, 0, none⟩)] w (EndR E .bool w (typeAhead E.L E.base s)) := by
 have sg := wk_sign hE 0 [40] s w (by omega) h
 have hr : typeAhead E.L E.base s = .ok (signS E.L s 0 [40] && bLessS E.L E.base s 1) s := rfl
 rw [hr]
 rw [show sign E.L 0 [40] s = .ok (signS E.L s 0 [40]) s from rfl] at sg
 obtain ⟨A, hA⟩ : ∃ A, signS E.L s 0 [40] = A := ⟨_, rfl⟩
 obtain ⟨B, hB⟩ : ∃ B, bLessS E.L E.base s 1 = B := ⟨_, rfl⟩
 rw [hA] at sg ⊢
 rw [hB]
 have SG := Hh sg
 have BL := Hh (fun (W : World) (hW : PW E W s) => (hB ▸ wk_bLess hE 1 s W (by omega) hW : Calls Tryz.prog 118 #[.pointer (some ⟨E.pb, 0, none⟩), .int .i64 1] W (EndR E .bool W (.ok B s))))
 clear sg h hr hA hB
 cases A
 ·go_enter Tryz.func179, Tryz.ntmps179
  go_wp2_with fail
  refine SG.out.mono ?_
  rintro e w1 ⟨rfl, hp, hk⟩
  have HP := Hh hp
  have HK := Hh hk
  clear hp hk
  go_wp2_with fail
  refine bodyPost_ret (v := .bool false) (by simp [results, Tryz.results179, go_sem]) rfl ?_
  exact ⟨rfl, HP.out, HK.out⟩
 ·go_enter Tryz.func179, Tryz.ntmps179
  go_wp2_with fail
  refine SG.out.mono ?_
  rintro e w1 ⟨rfl, hp, hk⟩
  have HP := Hh hp
  have HK := Hh hk
  clear hp hk
  go_wp2_with fail
  refine (BL.out _ HP.out).mono ?_
  rintro e w2 ⟨rfl, hp2, hk2⟩
  have HP2 := Hh hp2
  have HK2 := Hh hk2
  clear hp2 hk2
  go_wp2_with fail
  refine bodyPost_ret (v := .bool B) (by simp [results, Tryz.results179, go_sem]) rfl ?_
  exact ⟨by simp, HP2.out, HK.out.trans HK2.out⟩
end Go.Proofs.YtlboejdhmggjpaaGreat.Pp

/- WkJ -/
namespace Go.Proofs.YtlboejdhmggjpaaGreat.Pp
set_option maxRecDepth 100000
set_option maxHeartbeats 16000000
open Go.RowKit Go.BigFrame Go.Proofs.YtlboejdhmggjpaaGreat

theorem wk_declares {E : En} (hE : E.ok) (s : Ps) (w : World) (h : PW E w s) : Calls Tryz.prog 127 #[.pointer (some ⟨E.pb, 0, none⟩)] w (EndR E .bool w (declares E.L E.base s)) := by
 have sg := wk_word hE [95, 83, 116, 97, 116, 105, 99, 95, 97, 115, 115, 101, 114, 116] s w h
 have hr : (declares E.L E.base s) = .ok (wordS E.L s [95, 83, 116, 97, 116, 105, 99, 95, 97, 115, 115, 101, 114, 116] || bSpecS E.L E.base s 0) s := rfl
 rw [hr]
 rw [show word E.L [95, 83, 116, 97, 116, 105, 99, 95, 97, 115, 115, 101, 114, 116] s = .ok (wordS E.L s [95, 83, 116, 97, 116, 105, 99, 95, 97, 115, 115, 101, 114, 116]) s from rfl] at sg
 obtain ⟨A, hA⟩ : ∃ A, wordS E.L s [95, 83, 116, 97, 116, 105, 99, 95, 97, 115, 115, 101, 114, 116] = A := ⟨_, rfl⟩
 obtain ⟨B, hB⟩ : ∃ B, bSpecS E.L E.base s 0 = B := ⟨_, rfl⟩
 rw [hA] at sg ⊢
 rw [hB]
 have SG := Hh sg
 have BL := Hh (fun (W : World) (hW : PW E W s) => (hB ▸ wk_bSpec hE 0 s W (by omega) hW : Calls Tryz.prog 123 #[.pointer (some ⟨E.pb, 0, none⟩), .int .i64 0] W (EndR E .bool W (.ok B s))))
 clear sg h hr hA hB
 cases A
 ·go_enter Tryz.func127, Tryz.ntmps127
  go_wp2_with fail
  refine SG.out.mono ?_
  rintro e w1 ⟨rfl, hp, hk⟩
  have HP := Hh hp
  have HK := Hh hk
  clear hp hk
  go_wp2_with fail
  refine (BL.out _ HP.out).mono ?_
  rintro e w2 ⟨rfl, hp2, hk2⟩
  have HP2 := Hh hp2
  have HK2 := Hh hk2
  clear hp2 hk2
  go_wp2_with fail
  refine bodyPost_ret (v := .bool B) (by simp [results, Tryz.results127, go_sem]) rfl ?_
  exact ⟨by simp, HP2.out, HK.out.trans HK2.out⟩
 ·go_enter Tryz.func127, Tryz.ntmps127
  go_wp2_with fail
  refine SG.out.mono ?_
  rintro e w1 ⟨rfl, hp, hk⟩
  have HP := Hh hp
  have HK := Hh hk
  clear hp hk
  go_wp2_with fail
  refine bodyPost_ret (v := .bool true) (by simp [results, Tryz.results127, go_sem]) rfl ?_
  exact ⟨rfl, HP.out, HK.out⟩
def sufA (l : List Ct) (base : Bs → Bool) (s : Ps) : Bool := signS l s 1 [41] || bSpecS l base s 1
theorem wk_sufA {E : En} (hE : E.ok) (s : Ps) (w : World) (h : PW E w s) : Calls Tryz.prog 84 #[.pointer (some ⟨E.pb, 0, none⟩)] w (EndR E .bool w (.ok (sufA E.L E.base s) s : Rs Bool)) := by
 have sg := wk_sign hE 1 [41] s w (by omega) h
 have hr : (.ok (sufA E.L E.base s) s : Rs Bool) = .ok (signS E.L s 1 [41] || bSpecS E.L E.base s 1) s := rfl
 rw [hr]
 rw [show sign E.L 1 [41] s = .ok (signS E.L s 1 [41]) s from rfl] at sg
 obtain ⟨A, hA⟩ : ∃ A, signS E.L s 1 [41] = A := ⟨_, rfl⟩
 obtain ⟨B, hB⟩ : ∃ B, bSpecS E.L E.base s 1 = B := ⟨_, rfl⟩
 rw [hA] at sg ⊢
 rw [hB]
 have SG := Hh sg
 have BL := Hh (fun (W : World) (hW : PW E W s) => (hB ▸ wk_bSpec hE 1 s W (by omega) hW : Calls Tryz.prog 123 #[.pointer (some ⟨E.pb, 0, none⟩), .int .i64 1] W (EndR E .bool W (.ok B s))))
 clear sg h hr hA hB
 cases A
 ·go_enter Tryz.func84, Tryz.ntmps84
  go_wp2_with fail
  refine SG.out.mono ?_
  rintro e w1 ⟨rfl, hp, hk⟩
  have HP := Hh hp
  have HK := Hh hk
  clear hp hk
  go_wp2_with fail
  refine (BL.out _ HP.out).mono ?_
  rintro e w2 ⟨rfl, hp2, hk2⟩
  have HP2 := Hh hp2
  have HK2 := Hh hk2
  clear hp2 hk2
  go_wp2_with fail
  refine bodyPost_ret (v := .bool B) (by simp [results, Tryz.results84, go_sem]) rfl ?_
  exact ⟨by simp, HP2.out, HK.out.trans HK2.out⟩
 ·go_enter Tryz.func84, Tryz.ntmps84
  go_wp2_with fail
  refine SG.out.mono ?_
  rintro e w1 ⟨rfl, hp, hk⟩
  have HP := Hh hp
  have HK := Hh hk
  clear hp hk
  go_wp2_with fail
  refine bodyPost_ret (v := .bool true) (by simp [results, Tryz.results84, go_sem]) rfl ?_
  exact ⟨rfl, HP.out, HK.out⟩
theorem wk_labelled {E : En} (hE : E.ok) (s : Ps) (w : World) (h : PW E w s) : Calls Tryz.prog 126 #[.pointer (some ⟨E.pb, 0, none⟩)] w (EndR E .bool w (labelled E.L s)) := by
 obtain ⟨T, hT⟩ : ∃ T, peekS E.L s 0 = T := ⟨_, rfl⟩
 have pk := wk_peek hE 0 s w (by omega) h
 have hr : labelled E.L s = .ok (T.c == 2 && signS E.L s 1 [58]) s := by show Rs.ok ((peekS E.L s 0).c == 2 && _) s = _; rw [hT]
 rw [hr]
 rw [hT] at pk
 unfold ctV at pk
 obtain ⟨B, hB⟩ : ∃ B, signS E.L s 1 [58] = B := ⟨_, rfl⟩
 have SG := Hh (fun (W : World) (hW : PW E W s) => (hB ▸ wk_sign hE 1 [58] s W (by omega) hW : Calls Tryz.prog 47 #[.pointer (some ⟨E.pb, 0, none⟩), .int .i64 1, .string (str [58])] W (EndR E .bool W (.ok B s))))
 rw [hB]
 have PK := Hh pk
 have H := Hh h
 clear pk h hr hT hB
 have hF : ∀ (z : Int) (x : ByteArray) (W : World), (Instr.field 54 (.agg #[.int .i64 z, .string x]) 0).run Tryz.prog W = .ok (.int .i64 z) W := fun z x W => by kernel_rfl
 by_cases h1 : T.c = 2
 ·have hz : (T.c == 2 && B) = B := by rw [h1]; rfl
  rw [hz]
  clear hz
  go_enter Tryz.func126, Tryz.ntmps126
  go_wp2_with fail
  refine PK.out.mono ?_
  rintro e w1 ⟨rfl, hb1⟩
  have HB := Hh hb1
  clear hb1
  go_wp2_with fail
  refine (SG.out _ (H.out.ext hE HB.out)).mono ?_
  rintro e w2 ⟨rfl, hp2, hk2⟩
  have HP2 := Hh hp2
  have HK2 := Hh hk2
  clear hp2 hk2
  go_wp2_with fail
  refine bodyPost_ret (v := .bool B) (by simp [results, Tryz.results126, go_sem]) rfl ?_
  exact ⟨rfl, HP2.out, (KP.of_below HB.out).trans HK2.out⟩
 ·have hz : (T.c == 2 && B) = false := by rw [show (T.c == 2) = false from beq_eq_false_iff_ne.mpr h1]; rfl
  have h1' : ((T.c : Int) == 2) = false := by rw [beq_eq_false_iff_ne]; omega
  rw [hz]
  clear hz
  go_enter Tryz.func126, Tryz.ntmps126
  go_wp2_with fail
  refine PK.out.mono ?_
  rintro e w1 ⟨rfl, hb1⟩
  have HB := Hh hb1
  clear hb1
  go_wp2_with fail
  refine bodyPost_ret (v := .bool false) (by simp [results, Tryz.results126, go_sem]) rfl ?_
  exact EndR.pure hE H.out HB.out
def inV (n : Nat) : Value := .int .i64 n
end Go.Proofs.YtlboejdhmggjpaaGreat.Pp

/- WkK -/
namespace Go.Proofs.YtlboejdhmggjpaaGreat.Pp
set_option maxRecDepth 100000
set_option maxHeartbeats 16000000
open Go.RowKit Go.BigFrame Go.Proofs.YtlboejdhmggjpaaGreat

theorem wk_level {E : En} (hE : E.ok) (s : Ps) (w : World) (h : PW E w s) : Calls Tryz.prog 156 #[.pointer (some ⟨E.pb, 0, none⟩)] w (EndR E inV w (level E.L s)) := by
 obtain ⟨T, hT⟩ : ∃ T, peekS E.L s 0 = T := ⟨_, rfl⟩
 have pk := wk_peek hE 0 s w (by omega) h
 have hr : level E.L s = .ok (if T.c = 7 then lvl T.t else 0) s := by show Rs.ok _ s = _; rw [hT]
 rw [hr]
 rw [hT] at pk
 unfold ctV at pk
 have H := Hh h
 obtain ⟨b0, h0⟩ : ∃ b, ((str T.t).toList == [124, 124]) = b := ⟨_, rfl⟩
 obtain ⟨b1, h1⟩ : ∃ b, ((str T.t).toList == [38, 38]) = b := ⟨_, rfl⟩
 obtain ⟨b2, h2⟩ : ∃ b, ((str T.t).toList == [124]) = b := ⟨_, rfl⟩
 obtain ⟨b3, h3⟩ : ∃ b, ((str T.t).toList == [94]) = b := ⟨_, rfl⟩
 obtain ⟨b4, h4⟩ : ∃ b, ((str T.t).toList == [38]) = b := ⟨_, rfl⟩
 obtain ⟨b5, h5⟩ : ∃ b, ((str T.t).toList == [61, 61]) = b := ⟨_, rfl⟩
 obtain ⟨b6, h6⟩ : ∃ b, ((str T.t).toList == [33, 61]) = b := ⟨_, rfl⟩
 obtain ⟨b7, h7⟩ : ∃ b, ((str T.t).toList == [60]) = b := ⟨_, rfl⟩
 obtain ⟨b8, h8⟩ : ∃ b, ((str T.t).toList == [62]) = b := ⟨_, rfl⟩
 obtain ⟨b9, h9⟩ : ∃ b, ((str T.t).toList == [60, 61]) = b := ⟨_, rfl⟩
 obtain ⟨b10, h10⟩ : ∃ b, ((str T.t).toList == [62, 61]) = b := ⟨_, rfl⟩
 obtain ⟨b11, h11⟩ : ∃ b, ((str T.t).toList == [60, 60]) = b := ⟨_, rfl⟩
 obtain ⟨b12, h12⟩ : ∃ b, ((str T.t).toList == [62, 62]) = b := ⟨_, rfl⟩
 obtain ⟨b13, h13⟩ : ∃ b, ((str T.t).toList == [43]) = b := ⟨_, rfl⟩
 obtain ⟨b14, h14⟩ : ∃ b, ((str T.t).toList == [45]) = b := ⟨_, rfl⟩
 obtain ⟨b15, h15⟩ : ∃ b, ((str T.t).toList == [42]) = b := ⟨_, rfl⟩
 obtain ⟨b16, h16⟩ : ∃ b, ((str T.t).toList == [47]) = b := ⟨_, rfl⟩
 obtain ⟨b17, h17⟩ : ∃ b, ((str T.t).toList == [37]) = b := ⟨_, rfl⟩
 have hk : lvl T.t = if b0 = true then 36 else if b1 = true then 37 else if b2 = true then 38 else if b3 = true then 39 else if b4 = true then 40 else if b5 = true ∨ b6 = true then 41 else if b7 = true ∨ b8 = true ∨ b9 = true ∨ b10 = true then 42 else if b11 = true ∨ b12 = true then 43 else if b13 = true ∨ b14 = true then 44 else if b15 = true ∨ b16 = true ∨ b17 = true then 45 else 0 := by
  unfold lvl
  simp only [List.mem_cons, List.not_mem_nil, or_false, str_isb h0, str_isb h1, str_isb h2, str_isb h3, str_isb h4, str_isb h5, str_isb h6, str_isb h7, str_isb h8, str_isb h9, str_isb h10, str_isb h11, str_isb h12, str_isb h13, str_isb h14, str_isb h15, str_isb h16, str_isb h17]
 obtain ⟨v, hv⟩ : ∃ v, lvl T.t = v := ⟨_, rfl⟩
 obtain ⟨st, hst⟩ : ∃ st : ByteArray, str T.t = st := ⟨_, rfl⟩
 rw [hst] at pk
 rw [hv] at hk ⊢
 simp only [hst] at h0 h1 h2 h3 h4 h5 h6 h7 h8 h9 h10 h11 h12 h13 h14 h15 h16 h17
 have HKK := Hh hk
 have PK := Hh pk
 clear hv hst pk h hr hT hk
 by_cases h1 : T.c = 7
 ·go_enter Tryz.func156, Tryz.ntmps156
  go_wp2_with fail
  refine PK.out.mono ?_
  rintro e w1 ⟨rfl, hb1⟩
  have HB := Hh hb1
  clear hb1
  go_wp2_with fail
  all_goals (have hk := HKK.out; go_ret; exact ⟨by unfold inV; simp_all, (EndR.pure (val := inV) (v := (if T.c = 7 then v else 0)) hE H.out (HB.out.trans ((below_alloc _ _).mono HB.out.size))).2⟩)
 ·clear HKK
  have h1' : ((T.c : Int) != 7) = true := by rw [bne_iff_ne]; omega
  have hz : (if T.c = 7 then v else 0) = 0 := by rw [if_neg h1]
  rw [hz]
  clear hz
  go_enter Tryz.func156, Tryz.ntmps156
  go_wp2_with fail
  refine PK.out.mono ?_
  rintro e w1 ⟨rfl, hb1⟩
  have HB := Hh hb1
  clear hb1
  go_wp2_with fail
  refine bodyPost_ret (v := .int .i64 0) (by simp [results, Tryz.results156, go_sem]) rfl ?_
  exact EndR.pure (val := inV) (v := 0) hE H.out (HB.out.trans ((below_alloc _ _).mono HB.out.size))
theorem wk_assigns {E : En} (hE : E.ok) (s : Ps) (w : World) (h : PW E w s) : Calls Tryz.prog 163 #[.pointer (some ⟨E.pb, 0, none⟩)] w (EndR E .bool w (assigns E.L s)) := by
 obtain ⟨T, hT⟩ : ∃ T, peekS E.L s 0 = T := ⟨_, rfl⟩
 have pk := wk_peek hE 0 s w (by omega) h
 have hr : assigns E.L s = .ok (T.c == 7 && asg T.t) s := by show Rs.ok _ s = _; rw [hT]
 rw [hr]
 rw [hT] at pk
 unfold ctV at pk
 have H := Hh h
 obtain ⟨b0, h0⟩ : ∃ b, ((str T.t).toList == [61]) = b := ⟨_, rfl⟩
 obtain ⟨b1, h1⟩ : ∃ b, ((str T.t).toList == [42, 61]) = b := ⟨_, rfl⟩
 obtain ⟨b2, h2⟩ : ∃ b, ((str T.t).toList == [47, 61]) = b := ⟨_, rfl⟩
 obtain ⟨b3, h3⟩ : ∃ b, ((str T.t).toList == [37, 61]) = b := ⟨_, rfl⟩
 obtain ⟨b4, h4⟩ : ∃ b, ((str T.t).toList == [43, 61]) = b := ⟨_, rfl⟩
 obtain ⟨b5, h5⟩ : ∃ b, ((str T.t).toList == [45, 61]) = b := ⟨_, rfl⟩
 obtain ⟨b6, h6⟩ : ∃ b, ((str T.t).toList == [60, 60, 61]) = b := ⟨_, rfl⟩
 obtain ⟨b7, h7⟩ : ∃ b, ((str T.t).toList == [62, 62, 61]) = b := ⟨_, rfl⟩
 obtain ⟨b8, h8⟩ : ∃ b, ((str T.t).toList == [38, 61]) = b := ⟨_, rfl⟩
 obtain ⟨b9, h9⟩ : ∃ b, ((str T.t).toList == [94, 61]) = b := ⟨_, rfl⟩
 obtain ⟨b10, h10⟩ : ∃ b, ((str T.t).toList == [124, 61]) = b := ⟨_, rfl⟩
 have hk : asg T.t = (b0 || b1 || b2 || b3 || b4 || b5 || b6 || b7 || b8 || b9 || b10) := by
  rw [Bool.eq_iff_iff]
  unfold asg
  simp only [decide_eq_true_eq, List.mem_cons, List.not_mem_nil, or_false, Bool.or_eq_true, or_assoc, str_isb h0, str_isb h1, str_isb h2, str_isb h3, str_isb h4, str_isb h5, str_isb h6, str_isb h7, str_isb h8, str_isb h9, str_isb h10]
 obtain ⟨v, hv⟩ : ∃ v, asg T.t = v := ⟨_, rfl⟩
 obtain ⟨st, hst⟩ : ∃ st : ByteArray, str T.t = st := ⟨_, rfl⟩
 rw [hst] at pk
 rw [hv] at hk ⊢
 simp only [hst] at h0 h1 h2 h3 h4 h5 h6 h7 h8 h9 h10
 have HKK := Hh hk
 have PK := Hh pk
 clear hv hst pk h hr hT hk
 by_cases h1 : T.c = 7
 ·go_enter Tryz.func163, Tryz.ntmps163
  go_wp2_with fail
  refine PK.out.mono ?_
  rintro e w1 ⟨rfl, hb1⟩
  have HB := Hh hb1
  clear hb1
  go_wp2_with fail
  all_goals (have hk := HKK.out; go_ret; exact ⟨by simp_all, (EndR.pure (val := .bool) (v := (T.c == 7 && v)) hE H.out (HB.out.trans ((below_alloc _ _).mono HB.out.size))).2⟩)
 ·clear HKK
  have h1' : ((T.c : Int) != 7) = true := by rw [bne_iff_ne]; omega
  have hz : (T.c == 7 && v) = false := by rw [show (T.c == 7) = false from beq_eq_false_iff_ne.mpr h1]; rfl
  rw [hz]
  clear hz
  go_enter Tryz.func163, Tryz.ntmps163
  go_wp2_with fail
  refine PK.out.mono ?_
  rintro e w1 ⟨rfl, hb1⟩
  have HB := Hh hb1
  clear hb1
  go_wp2_with fail
  refine bodyPost_ret (v := .bool false) (by simp [results, Tryz.results163, go_sem]) rfl ?_
  exact EndR.pure (val := .bool) (v := false) hE H.out (HB.out.trans ((below_alloc _ _).mono HB.out.size))
end Go.Proofs.YtlboejdhmggjpaaGreat.Pp

/- ParseParts, plain: what the scope knows is what the externals ahead have declared. -/
import Derived.Test.YtlboejdhmggjpaaGreatPdE
import Derived.Test.YtlboejdhmggjpaaGreatWnK
import Derived.Test.YtlboejdhmggjpaaGreatPdG
set_option linter.all false
namespace Go.Proofs.YtlboejdhmggjpaaGreat.Pp
open Go.RowKit Go.BigFrame Go.Proofs.YtlboejdhmggjpaaGreat
set_option linter.unusedVariables false

theorem str_inj' {a b : Bs} (h : str a = str b) : a = b := by rw [← str_data a, ← str_data b, h]
theorem isTy_one (f : Sp.Frm) (y : ByteArray) : Sp.isTy [f] y = (Sp.look f y).getD false := by
  unfold Sp.isTy Sp.stk Sp.stkFrom Sp.stkFrom
  cases Sp.look f y <;> rfl
theorem declF_one : ∀ (C : List (Bs × Bool)) (f0 : Sp.Frm), (∀ p ∈ C, p.1 ≠ []) → ∃ f, declF [f0] C = [f] ∧ ∀ x : Bs, Sp.look f (str x) = match C.reverse.find? (fun p => p.1 == x) with
    | some p => some p.2
    | none => Sp.look f0 (str x)
  | [], f0, _ => ⟨f0, rfl, fun x => rfl⟩
  | d :: r, f0, h => by
    have hd : ¬ (str d.1).size = 0 := by
      intro e
      have e2 : d.1.length = 0 := by simpa using e
      exact h d (by simp) (List.length_eq_zero_iff.1 e2)
    have e1 : declF [f0] (d :: r) = declF [Sp.setF f0 (str d.1) d.2] r := by
      unfold declF
      rw [List.foldl_cons, if_neg hd]
      rfl
    obtain ⟨f, h1, h2⟩ := declF_one r (Sp.setF f0 (str d.1) d.2) (fun p hp => h p (by simp [hp]))
    refine ⟨f, by rw [e1, h1], fun x => ?_⟩
    rw [h2, List.reverse_cons, List.find?_append]
    cases r.reverse.find? (fun p => p.1 == x) with
    | some p => rfl
    | none =>
      by_cases hx : d.1 = x
      · subst hx
        simp [Sp.look_setF_same]
      · have hn : ¬ str x = str d.1 := fun e => hx (str_inj' e).symm
        simp [hx, Sp.look_setF_other _ _ _ _ hn]
theorem lastC_ty (C : List (Bs × Bool)) (h : ∀ p ∈ C, p.1 ≠ []) : lastC C = baseF (declF [[]] C) := by
  funext x
  obtain ⟨f, h1, h2⟩ := declF_one C [] h
  unfold lastC baseF
  rw [h1, isTy_one, h2]
  cases C.reverse.find? (fun p => p.1 == x) <;> rfl
/-- The first external of what is left, as the program tells it. -/
theorem extR_P (l : List Ct) (d : Nat) (C : List (Bs × Bool)) (h : ∀ p ∈ C, p.1 ≠ []) : extP (l.drop d) (baseF (declF [[]] C)) = match extR l d C with
    | .ok _ s => some (aheadP s.done, s.at', s.nm.declared)
    | _ => none := by
  unfold extP extR
  rw [lastC_ty C h]
  cases run (l.drop d) (baseF (declF [[]] C)) (fu (l.drop d)) .external s0 <;> rfl
end Go.Proofs.YtlboejdhmggjpaaGreat.Pp

/- PdH -/
namespace Go.Proofs.YtlboejdhmggjpaaGreat.Pp
open Go.RowKit Go.BigFrame Go.Proofs.YtlboejdhmggjpaaGreat
set_option linter.unusedVariables false

def partsE (l : List Ct) : Nat → Nat → List (Bs × Bool) → Option (List Nd)
  | 0, _, _ => none
  | f + 1, d, C => if d < l.length then match extP (l.drop d) (baseF (declF [[]] C)) with
      | some r => (partsE l f (d + r.2.1) (C ++ r.2.2)).map fun q => r.1.map (shN d) ++ q
      | none => none
    else some []
theorem parts_eq (l : List Ct) : ∀ (f d : Nat) (C : List (Bs × Bool)), (∀ p ∈ C, p.1 ≠ []) → partsE l f d C = (partsQ l f d C).map (·.2)
  | 0, d, C, h => rfl
  | f + 1, d, C, h => by
    unfold partsE partsQ
    by_cases c : d < l.length
    · rw [if_pos c, if_pos c, extR_P l d C h]
      cases e : extR l d C with
      | no => rfl
      | out => rfl
      | ok v s =>
        have hb : s.nm.bl = [] := ((external_good (l.drop d) (lastC C)).2 v s e).2.2.1
        have hd : s.nm.declared = s.nm.ch := by unfold Ns.declared; rw [hb]; rfl
        have hne : NoE s := run_noE _ _ _ _ s0 v s (fun p hp => by simp [s0] at hp) e
        have ih := parts_eq l f (d + s.at') (C ++ s.nm.ch) (fun p hp => (List.mem_append.1 hp).elim (h p) (hne p))
        simp only [hd, ih]
        cases partsQ l f (d + s.at') (C ++ s.nm.ch) <;> rfl
    · rw [if_neg c, if_neg c]; rfl
theorem parse_partsE (l : List Ct) : parseP l (fun _ => false) = (partsE l (fu l) 0 []).map fun q => ⟨1, 0, l.length, q.length + 1⟩ :: q := by
  rw [parse_parts, parts_eq l (fu l) 0 [] (fun p hp => by simp at hp)]
  cases partsQ l (fu l) 0 [] <;> rfl
end Go.Proofs.YtlboejdhmggjpaaGreat.Pp

/- PdI -/
namespace Go.Proofs.YtlboejdhmggjpaaGreat.Pp
open Go.RowKit Go.BigFrame Go.Proofs.YtlboejdhmggjpaaGreat
set_option linter.unusedVariables false

theorem Bt.bound {a b : Nat} {L P : List Nd} (h : Bt a b L P) : ∀ n ∈ P, n.lo ≤ b ∧ n.hi ≤ b := by
  induction h with
  | nil h => intro n hn; simp at hn
  | @snoc a m lo hi b k F F' K K' h1 h2 h3 h4 h5 i1 i3 =>
    intro n hn
    have hle := h3.le
    rcases List.mem_append.1 hn with hn | hn
    · have := i1 n hn; omega
    · rcases List.mem_cons.1 hn with rfl | hn
      · exact ⟨by show lo ≤ b; omega, by show hi ≤ b; omega⟩
      · have := i3 n hn; omega
theorem ext_facts {L : List Ct} {base : Bs → Bool} {P : List Nd} {k : Nat} {ds : List (Bs × Bool)} (h : extP L base = some (P, k, ds)) :
    1 ≤ k ∧ k ≤ L.length ∧ ds.length ≤ 2 * k ∧ P.length + 3 ≤ 4 * k ∧ 0 < P.length ∧ ∀ n ∈ P, n.lo ≤ k ∧ n.hi ≤ k := by
  unfold extP at h
  cases e : run L base (fu L) .external s0 with
  | out => rw [e] at h; cases h
  | no => rw [e] at h; cases h
  | ok v s =>
    rw [e] at h
    simp only [Option.some.injEq, Prod.mk.injEq] at h
    obtain ⟨rfl, rfl, rfl⟩ := h
    have q := good L base (fu L) .external s0 s0 (fun _ => rfl) (fun h e => by cases e) (Tr.refl _) (by
      refine ⟨Nat.zero_le _, Nat.le_refl _, Nat.zero_le _, Nat.zero_le _, by decide, Nat.zero_le _, ?_⟩
      show 16 * (L.length - 0) + 4 < 16 * L.length + 100
      omega)
    rw [e] at q
    obtain ⟨-, ⟨hb, -⟩, ⟨h4, h5, h6, h7, -⟩, -⟩ := q
    have h4' : 0 + 1 ≤ s.at' := h4
    have h6' : s.done.length + 4 + 0 * _ + 4 * 0 ≤ 0 + 4 * s.at' + 1 := h6
    have h7' : s.nm.ch.length + v.size + 0 + 2 * 0 ≤ 0 + 0 + 2 * s.at' := h7
    have ht := ((external_good L base).2 v s e).1
    obtain ⟨-, hpos, -, hlen, -⟩ := ht.ahead
    have hbl : s.nm.bl = [] := hb
    have hd : s.nm.declared = s.nm.ch := by unfold Ns.declared; rw [hbl]; rfl
    refine ⟨by omega, h5, by rw [hd]; omega, by rw [hlen]; omega, by rw [hlen]; exact hpos, (tree_bt ht).bound⟩
theorem deep_mono : ∀ (l : List Ct) (o o' : Nat), o' ≤ o → deepL l o = false → deepL l o' = false
  | [], o, o', _, _ => rfl
  | t :: r, o, o', h, e => by
    unfold deepL at e ⊢
    split at e
    · rename_i c; rw [if_pos c]; exact deep_mono r o o' h e
    · rename_i c
      rw [if_neg c]
      split at e
      · rename_i c2
        rw [if_pos c2]
        split at e
        · cases e
        · rename_i c3
          rw [if_neg (by omega)]
          exact deep_mono r (o + 1) (o' + 1) (by omega) e
      · rename_i c2
        rw [if_neg c2]
        split at e
        · rename_i c3; rw [if_pos c3]; exact deep_mono r (o - 1) (o' - 1) (by omega) e
        · rename_i c3; rw [if_neg c3]; exact deep_mono r o o' h e
theorem deep_drop : ∀ (d : Nat) (l : List Ct) (o : Nat), deepL l o = false → deepL (l.drop d) 0 = false
  | 0, l, o, e => deep_mono l o 0 (Nat.zero_le _) e
  | d + 1, [], o, e => rfl
  | d + 1, t :: r, o, e => by
    rw [List.drop_succ_cons]
    unfold deepL at e
    split at e
    · exact deep_drop d r o e
    · split at e
      · split at e
        · cases e
        · exact deep_drop d r (o + 1) e
      · split at e
        · exact deep_drop d r (o - 1) e
        · exact deep_drop d r o e
/-- How many brackets are open at once, at most. -/
def dpN : List Ct → Nat → Nat → Nat
  | [], _, m => m
  | t :: r, o, m =>
    if t.c ≠ 7 then dpN r o m
    else if t.t = [40] ∨ t.t = [91] ∨ t.t = [123] then dpN r (o + 1) (max m (o + 1))
    else if t.t = [41] ∨ t.t = [93] ∨ t.t = [125] then dpN r (o - 1) (max m (o - 1))
    else dpN r o (max m o)
theorem dpN_top : ∀ (l : List Ct) (o m : Nat), m ≤ dpN l o m
  | [], o, m => Nat.le_refl _
  | t :: r, o, m => by
    unfold dpN
    split
    · exact dpN_top r o m
    · split
      · exact Nat.le_trans (Nat.le_max_left _ _) (dpN_top r _ _)
      · split
        · exact Nat.le_trans (Nat.le_max_left _ _) (dpN_top r _ _)
        · exact Nat.le_trans (Nat.le_max_left _ _) (dpN_top r _ _)
theorem dpN_deep : ∀ (l : List Ct) (o m : Nat), dpN l o m ≤ 256 → deepL l o = false
  | [], o, m, _ => rfl
  | t :: r, o, m, h => by
    unfold dpN at h
    unfold deepL
    split at h
    · rename_i c; rw [if_pos c]; exact dpN_deep r o m h
    · rename_i c
      rw [if_neg c]
      split at h
      · rename_i c2
        rw [if_pos c2]
        have := dpN_top r (o + 1) (max m (o + 1))
        rw [if_neg (by omega)]
        exact dpN_deep r _ _ h
      · rename_i c2
        rw [if_neg c2]
        split at h
        · rename_i c3; rw [if_pos c3]; exact dpN_deep r _ _ h
        · rename_i c3; rw [if_neg c3]; exact dpN_deep r _ _ h
end Go.Proofs.YtlboejdhmggjpaaGreat.Pp

/- WqA -/
namespace Go.Proofs.YtlboejdhmggjpaaGreat.Pp
open Go.RowKit Go.BigFrame Go.Proofs.YtlboejdhmggjpaaGreat
set_option linter.unusedVariables false

set_option maxRecDepth 100000 in
set_option maxHeartbeats 8000000 in
theorem wk_Deep (L : List Ct) (la : Option Addr) (lc : Nat) (w : World) (hrow : RowAt 2 ctC w la L) (hl : L.length ≤ 100000) : Calls Tryz.prog 12 #[.slice la L.length lc] w fun e w' => e = .returned (.int .i64 (dpN L 0 0)) ∧ Below w.heap.size w w' := by
  obtain ⟨D, hD⟩ : ∃ D, dpN L 0 0 = D := ⟨_, rfl⟩
  obtain ⟨N, hN⟩ : ∃ N, L.length = N := ⟨_, rfl⟩
  rw [hD, hN]
  rw [hN] at hl
  have HD := Lib.hid hD
  have HN := Lib.hid hN
  have HROW := Lib.hid hrow
  clear hD hN hrow
  go_enter Tryz.func12, Tryz.ntmps12
  go_wp2_with fail
  go_loopg [3, 4, 5] N (fun gf q3 q4 q5 wr => ∃ i o m : Nat, q5 = .int .i64 i ∧ q3 = .int .i64 o ∧ q4 = .int .i64 m ∧ i + gf = N ∧ o ≤ i ∧ m ≤ i ∧ dpN (L.drop i) o m = D ∧ Below w.heap.size w wr)
  case atStart => exact ⟨0, 0, 0, rfl, rfl, rfl, by omega, Nat.le_refl _, Nat.le_refl _, HD.out, Below.refl _ _⟩
  case round =>
    obtain ⟨i, o, m, rfl, rfl, rfl, hig, hoi, hmi, hdp, hb⟩ := hrel
    have HB := Lib.hid hb
    cases gk with
    | zero =>
      have hi : decide (i < N) = false := decide_eq_false (by omega)
      have hd : m = D := by rw [← hdp, List.drop_of_length_le (by rw [HN.out]; omega)]; rfl
      have HDD := Lib.hid hd
      clear hdp hb hd
      go_wp2_with fail
      go_ret
      exact ⟨by rw [HDD.out]; rfl, HB.out⟩
    | succ g =>
      have hi0 : i < L.length := by rw [HN.out]; omega
      have hi : i < N := by omega
      obtain ⟨b, off, hla, h2, h3⟩ := HROW.out.at (by rintro e; rw [e] at hi0; simp at hi0)
      have hc := (h3 i hi0).below hb h2
      rw [List.drop_eq_getElem_cons hi0] at hdp
      obtain ⟨T, hT⟩ : ∃ T, L[i] = T := ⟨_, rfl⟩
      rw [hT] at hc hdp
      obtain ⟨c, t⟩ := T
      have d0 : wr.cell? ⟨b, off + i * 2, none⟩ = some (.int .i64 c) := hc 0 _ rfl
      have d1 : wr.cell? ⟨b, off + i * 2 + 1, none⟩ = some (.string (str t)) := hc 1 _ rfl
      obtain ⟨x, hx⟩ : ∃ x : ByteArray, str t = x := ⟨_, rfl⟩
      obtain ⟨z, hz⟩ : ∃ z : Int, (c : Int) = z := ⟨_, rfl⟩
      rw [hx] at d1
      rw [hz] at d0
      have HX := Lib.hid hx
      have HZ := Lib.hid hz
      have hun : dpN (⟨c, t⟩ :: L.drop (i + 1)) o m = if c ≠ 7 then dpN (L.drop (i + 1)) o m else if t = [40] ∨ t = [91] ∨ t = [123] then dpN (L.drop (i + 1)) (o + 1) (max m (o + 1)) else if t = [41] ∨ t = [93] ∨ t = [125] then dpN (L.drop (i + 1)) (o - 1) (max m (o - 1)) else dpN (L.drop (i + 1)) o (max m o) := rfl
      rw [hun] at hdp
      subst hla
      have HDP := Lib.hid hdp
      clear hdp hb hc h2 h3 hT hx hz hun hi0
      by_cases hc7 : c = 7
      case neg =>
        have f7 : (z != 7) = true := by rw [← HZ.out, bne_iff_ne]; omega
        go_wp2_with fail
        go_roundg g
        case measure => omega
        case rel => exact ⟨i + 1, o, m, by go_num, by go_num, by go_num, by omega, by omega, by omega, by have q := HDP.out; simp [hc7] at q; exact q, HB.out⟩
      have f7 : (z != 7) = false := by rw [← HZ.out, hc7]; rfl
      by_cases t0 : t = [40]
      case pos =>
        have x0 : (x.toList == [40]) = true := HX.out ▸ str_is t0
        go_wp2_with fail
        all_goals go_roundg g
        all_goals first
          | (case measure => omega)
          | exact ⟨i + 1, o + 1, max m (o + 1), by go_num, by go_num, by go_num, by omega, by omega, by omega, by have q := HDP.out; simp [hc7, t0] at q; exact q, HB.out⟩
      have x0 : (x.toList == [40]) = false := HX.out ▸ str_no t0
      by_cases t1 : t = [91]
      case pos =>
        have x1 : (x.toList == [91]) = true := HX.out ▸ str_is t1
        go_wp2_with fail
        all_goals go_roundg g
        all_goals first
          | (case measure => omega)
          | exact ⟨i + 1, o + 1, max m (o + 1), by go_num, by go_num, by go_num, by omega, by omega, by omega, by have q := HDP.out; simp [hc7, t0, t1] at q; exact q, HB.out⟩
      have x1 : (x.toList == [91]) = false := HX.out ▸ str_no t1
      by_cases t2 : t = [123]
      case pos =>
        have x2 : (x.toList == [123]) = true := HX.out ▸ str_is t2
        go_wp2_with fail
        all_goals go_roundg g
        all_goals first
          | (case measure => omega)
          | exact ⟨i + 1, o + 1, max m (o + 1), by go_num, by go_num, by go_num, by omega, by omega, by omega, by have q := HDP.out; simp [hc7, t0, t1, t2] at q; exact q, HB.out⟩
      have x2 : (x.toList == [123]) = false := HX.out ▸ str_no t2
      by_cases t3 : t = [41]
      case pos =>
        have x3 : (x.toList == [41]) = true := HX.out ▸ str_is t3
        go_wp2_with fail
        all_goals go_roundg g
        all_goals first
          | (case measure => omega)
          | exact ⟨i + 1, o - 1, max m (o - 1), by go_num, by go_num, by go_num, by omega, by omega, by omega, by have q := HDP.out; simp [hc7, t0, t1, t2, t3] at q; exact q, HB.out⟩
      have x3 : (x.toList == [41]) = false := HX.out ▸ str_no t3
      by_cases t4 : t = [93]
      case pos =>
        have x4 : (x.toList == [93]) = true := HX.out ▸ str_is t4
        go_wp2_with fail
        all_goals go_roundg g
        all_goals first
          | (case measure => omega)
          | exact ⟨i + 1, o - 1, max m (o - 1), by go_num, by go_num, by go_num, by omega, by omega, by omega, by have q := HDP.out; simp [hc7, t0, t1, t2, t3, t4] at q; exact q, HB.out⟩
      have x4 : (x.toList == [93]) = false := HX.out ▸ str_no t4
      by_cases t5 : t = [125]
      case pos =>
        have x5 : (x.toList == [125]) = true := HX.out ▸ str_is t5
        go_wp2_with fail
        all_goals go_roundg g
        all_goals first
          | (case measure => omega)
          | exact ⟨i + 1, o - 1, max m (o - 1), by go_num, by go_num, by go_num, by omega, by omega, by omega, by have q := HDP.out; simp [hc7, t0, t1, t2, t3, t4, t5] at q; exact q, HB.out⟩
      have x5 : (x.toList == [125]) = false := HX.out ▸ str_no t5
      go_wp2_with fail
      all_goals go_roundg g
      all_goals first
        | (case measure => omega)
        | exact ⟨i + 1, o, max m o, by go_num, by go_num, by go_num, by omega, by omega, by omega, by have q := HDP.out; simp [hc7, t0, t1, t2, t3, t4, t5] at q; exact q, HB.out⟩
end Go.Proofs.YtlboejdhmggjpaaGreat.Pp

/- WqB -/
namespace Go.Proofs.YtlboejdhmggjpaaGreat.Pp
open Go.RowKit Go.BigFrame Go.Proofs.YtlboejdhmggjpaaGreat
set_option linter.unusedVariables false

/-- A block of nodes. -/
def n38 (w : World) (k : Nat) : Prop := ∃ cs fz, w.heap[k]? = some (.cells cs 38 fz)
theorem Sco.free {w : World} {A n : Nat} {S : Nat → Prop} {F : List Sp.Frm} (h : Sp.Sco w A n S F) : ∃ S', Sp.Sco w A n S' F ∧ (∀ k, S' k → S k) ∧ ∀ k, S' k → ¬ n38 w k := by
  obtain ⟨M, vB, vs, mv, D, h1, h2, h3⟩ := h
  have hr : ∀ {b e s n k : Nat} {v : Value} {x : List Value}, e ≠ 38 → w.ownsRow b e s v n x → v.ownBlock = some k → ¬ n38 w k := fun {b e s n k v x} he hh hk => by
    obtain ⟨_, cur, hg⟩ := row_cells hh hk
    rintro ⟨cs, fz, hc⟩
    rw [hg] at hc
    cases hc
    exact he rfl
  refine ⟨Sp.foot A M vB vs mv, ⟨M, vB, vs, mv, D, h1, fun k hk => hk, fun k hk => h3 k (h2 k hk)⟩, h2, fun k hk => ?_⟩
  rcases hk with rfl | rfl | hk | ⟨i, hk⟩ | ⟨x, hk⟩
  · rintro ⟨cs, fz, hc⟩
    have q := h1.hd
    rw [hc] at q
    cases q
  · obtain ⟨es, c, hb, _⟩ := h1.mp
    rintro ⟨cs, fz, hc⟩
    rw [hb] at hc; cases hc
  · exact hr (by decide) h1.brow hk
  · by_cases hi : i < F.length
    · exact hr (by decide) (h1.vrow i hi) hk
    · rw [List.getD_eq_getElem?_getD, List.getElem?_eq_none (by rw [h1.vs_len]; omega)] at hk
      simp [Value.ownBlock] at hk
  · exact hr (by decide) (h1.mrow x) hk
theorem own_cell {w : World} {base e size n g cap j : Nat} {xs : List Value} (v : Value) (h : w.ownsRow base e size (.slice (some ⟨g, 0, none⟩) n cap) n xs) (hj : j < n * size) : (w.setCell ⟨g, j, none⟩ v).ownsRow base e size (.slice (some ⟨g, 0, none⟩) n cap) n (xs.set j v) := by
  refine ⟨by rw [List.length_set]; exact h.1, ?_⟩
  rcases h.2 with ⟨hh, _⟩ | ⟨g', cap', cur, he, hb, hg, h1, h2, h3, h4⟩
  · cases hh
  · cases he
    refine .inr ⟨g, cap, _, rfl, hb, box_set hg, h1, h2, by rw [Array.size_setIfInBounds]; exact h3, ?_⟩
    rw [← h4, Array.toList_setIfInBounds, List.take_set]
theorem nd_set2 (a b : Nat) : ∀ (W : List Nd) (i : Nat), i < W.length → ((W.flatMap ndC).set (i * 4 + 1) (.int .i64 a)).set (i * 4 + 2) (.int .i64 b) = (W.set i ⟨(W.getD i n0).k, a, b, (W.getD i n0).sz⟩).flatMap ndC
  | [], i, h => by simp at h
  | x :: r, 0, h => by simp [ndC]
  | x :: r, i + 1, h => by
    have ih := nd_set2 a b r i (by simpa using h)
    have e1 : (i + 1) * 4 + 1 = (i * 4 + 1) + 4 := by omega
    have e2 : (i + 1) * 4 + 2 = (i * 4 + 2) + 4 := by omega
    rw [e1, e2, List.flatMap_cons]
    show ((ndC x ++ r.flatMap ndC).set (i * 4 + 1 + 4) _).set (i * 4 + 2 + 4) _ = (x :: r.set i _).flatMap ndC
    rw [List.flatMap_cons, List.getD_cons_succ, ← ih]
    rfl
theorem nd_set1 (a : Nat) (x : Nd) (r : List Nd) : ((x :: r).flatMap ndC).set 3 (.int .i64 a) = ((⟨x.k, x.lo, x.hi, a⟩ : Nd) :: r).flatMap ndC := rfl
/-- A row of nodes, the first i of them moved by d places. -/
def mixL (d : Nat) (P : List Nd) (i : Nat) : List Nd := (P.take i).map (shN d) ++ P.drop i
theorem mix_len (d : Nat) (P : List Nd) (i : Nat) (h : i ≤ P.length) : (mixL d P i).length = P.length := by
  unfold mixL; rw [List.length_append, List.length_map, List.length_take, List.length_drop]; omega
theorem mix_at (d : Nat) (P : List Nd) (i : Nat) (h : i < P.length) : (mixL d P i).getD i n0 = P[i] := by
  unfold mixL
  rw [List.getD_eq_getElem?_getD, List.getElem?_append_right (by simp; omega), List.length_map, List.length_take, Nat.min_eq_left (by omega), Nat.sub_self, List.getElem?_drop]
  simp [h]
theorem mix_set (d : Nat) (P : List Nd) (i : Nat) (h : i < P.length) : (mixL d P i).set i (shN d P[i]) = mixL d P (i + 1) := by
  unfold mixL
  rw [List.set_append_right _ _ (by simp; omega), List.length_map, List.length_take, Nat.min_eq_left (by omega), Nat.sub_self, List.drop_eq_getElem_cons h, List.set_cons_zero, List.take_add_one, List.getElem?_eq_getElem h, List.map_append]
  simp
theorem mix_end (d : Nat) (P : List Nd) : mixL d P P.length = P.map (shN d) := by unfold mixL; simp
/-- A round of the two stores. -/
theorem mix_step {w : World} {B g cap d i : Nat} {P : List Nd} (hi : i < P.length) (h : w.ownsRow B 38 4 (.slice (some ⟨g, 0, none⟩) P.length cap) P.length ((mixL d P i).flatMap ndC)) :
    (((w.setCell ⟨g, i * 4 + 1, none⟩ (.int .i64 ((P[i].lo + d : Nat) : Int))).setCell ⟨g, i * 4 + 2, none⟩ (.int .i64 ((P[i].hi + d : Nat) : Int)))).ownsRow B 38 4 (.slice (some ⟨g, 0, none⟩) P.length cap) P.length ((mixL d P (i + 1)).flatMap ndC) := by
  have q := own_cell (.int .i64 ((P[i].hi + d : Nat) : Int)) (own_cell (.int .i64 ((P[i].lo + d : Nat) : Int)) h (by omega : i * 4 + 1 < _)) (by omega : i * 4 + 2 < _)
  rw [nd_set2 _ _ _ _ (by rw [mix_len d P i (by omega)]; exact hi), mix_at d P i hi] at q
  have e : (⟨P[i].k, P[i].lo + d, P[i].hi + d, P[i].sz⟩ : Nd) = shN d P[i] := rfl
  rw [e, mix_set d P i hi] at q
  exact q
theorem row_drop {α : Type} {n : Nat} {f : α → List Value} {w : World} {b off : Nat} {l : List α} (h : RowAt n f w (some ⟨b, off, none⟩) l) (k : Nat) : RowAt n f w (some ⟨b, off + k * n, none⟩) (l.drop k) := by
  by_cases hk : l.length ≤ k
  · left; rw [List.drop_eq_nil_iff]; exact hk
  · obtain ⟨b', off', he, hb, hcc⟩ := h.at (by intro e; simp [e] at hk)
    cases he
    right
    refine ⟨b, off + k * n, rfl, hb, fun i hi => ?_⟩
    have := hcc (k + i) (by simp at hi; omega)
    rw [List.getElem_drop, show off + k * n + i * n = off + (k + i) * n from by rw [Nat.add_mul]; omega]
    exact this
end Go.Proofs.YtlboejdhmggjpaaGreat.Pp

/- ParseRenamed, ParseParts: the document's Same, of two lists of nodes that are alike. -/
import Derived.Test.YtlboejdhmggjpaaGreatWnJ
import Derived.Test.YtlboejdhmggjpaaGreatPcA
import Derived.Test.YtlboejdhmggjpaaGreatPdG
set_option linter.all false
namespace Go.Proofs.YtlboejdhmggjpaaGreat.Pp
open Go.RowKit Go.BigFrame Go.Proofs.YtlboejdhmggjpaaGreat
set_option linter.unusedVariables false

theorem nd_neq' (a b c d : Int) (w : World) : (binOp .neq 38 (.agg #[.int .i64 a, .int .i64 b, .int .i64 c, .int .i64 d]) (.agg #[.int .i64 a, .int .i64 b, .int .i64 c, .int .i64 d])).run Tryz.prog w = .ok (.bool false) w := by
  simp [go_sem]
set_option maxRecDepth 100000 in
set_option maxHeartbeats 16000000 in
theorem wk_Same (P : List Nd) (X Y : Nat) (v v2 : Value) (w : World) (h1 : w.ownsRow X 38 4 v P.length (P.flatMap ndC)) (h2 : w.ownsRow Y 38 4 v2 P.length (P.flatMap ndC)) (hl : P.length ≤ 1000000000) :
    Calls Tryz.prog 15 #[v, v2] w fun e w' => e = .returned (.bool true) ∧ Below w.heap.size w w' := by
  have NE := nd_neq'
  obtain ⟨a, c, rfl⟩ := row_shape h1
  obtain ⟨a2, c2, rfl⟩ := row_shape h2
  obtain ⟨N, hN⟩ : ∃ N, P.length = N := ⟨_, rfl⟩
  have H1 := Lib.hid h1
  have H2 := Lib.hid h2
  have HN := Lib.hid hN
  rw [hN] at hl ⊢
  clear h1 h2 hN
  go_enter Tryz.func15, Tryz.ntmps15
  go_wp2_with fail
  go_loopw [5] (fun s5 wr => ∃ i : Nat, s5 = .int .i64 i ∧ i ≤ N ∧ Below w.heap.size w wr) (fun s5 _ => N - (intOf s5).toNat)
  case atStart => exact ⟨0, rfl, Nat.zero_le _, Below.refl _ _⟩
  case round =>
    obtain ⟨i, rfl, hi, hb⟩ := hrel
    have HB := Lib.hid hb
    by_cases hlt : i < N
    · have hlt2 : decide (i < N) = true := decide_eq_true hlt
      have hiP : i < P.length := by rw [HN.out]; exact hlt
      have r1 := ownsRow_ext H1.out hb
      have r2 := ownsRow_ext H2.out hb
      obtain ⟨x, y, hxa, _, _, hxc⟩ := row_block r1 (by omega)
      cases hxa
      obtain ⟨x2, y2, hxa2, _, _, hxc2⟩ := row_block r2 (by omega)
      cases hxa2
      obtain ⟨a0, a1, a2', a3⟩ := nd_cell r1 hiP
      obtain ⟨b0, b1, b2, b3⟩ := nd_cell r2 hiP
      obtain ⟨nd, hnd⟩ : ∃ nd, P.getD i n0 = nd := ⟨_, rfl⟩
      rw [hnd] at a0 a1 a2' a3 b0 b1 b2 b3
      obtain ⟨rk, rlo, rhi, rsz⟩ := nd
      simp only at a0 a1 a2' a3 b0 b1 b2 b3
      rw [HN.out] at hxc hxc2
      clear hnd r1 r2 hb
      go_wp2_with fail
      go_quiet (fail)
      go_wp2_with fail
      go_roundw
      case rel => exact ⟨i + 1, by go_num, by omega, HB.out.trans (below_drewN _ _ _)⟩
      case measure => simp [intOf]; omega
    · have hlt2 : decide (i < N) = false := decide_eq_false hlt
      clear hb
      go_wp2_with fail
      go_ret
      exact ⟨rfl, HB.out⟩
end Go.Proofs.YtlboejdhmggjpaaGreat.Pp

/- PdE -/
namespace Go.Proofs.YtlboejdhmggjpaaGreat.Pp
open Go.RowKit Go.BigFrame Go.Proofs.YtlboejdhmggjpaaGreat
set_option linter.unusedVariables false

def shN (d : Nat) (n : Nd) : Nd := ⟨n.k, n.lo + d, n.hi + d, n.sz⟩
theorem Bt.shift (d : Nat) {a b : Nat} {L P : List Nd} (h : Bt a b L P) : Bt (a + d) (b + d) (L.map (shN d)) (P.map (shN d)) := by
  induction h with
  | nil h => exact .nil (by omega)
  | @snoc a m lo hi b k F F' K K' h1 h2 h3 h4 h5 i1 i3 =>
    have q := Bt.snoc i1 (by omega : m + d ≤ lo + d) i3 (by omega : hi + d ≤ b + d) h5
    rw [List.length_map] at q
    simpa [shN] using q
theorem Bt.mono {a b b' : Nat} {L P : List Nd} (h : Bt a b L P) (hb : b ≤ b') : Bt a b' L P := by
  cases h with
  | nil h => exact .nil (by omega)
  | snoc h1 h2 h3 h4 h5 => exact .snoc h1 h2 h3 (by omega) h5
theorem Bt.append {m b : Nat} {G Q : List Nd} (h : Bt m b G Q) : ∀ {a : Nat} {L P : List Nd}, Bt a m L P → Bt a b (L ++ G) (P ++ Q) := by
  induction h with
  | nil h => intro a L P h1; rw [List.append_nil, List.append_nil]; exact h1.mono h
  | snoc h1 h2 h3 h4 h5 i1 i3 =>
    intro a L P hl
    have q := Bt.snoc (i1 hl) h2 h3 h4 h5
    simpa only [List.append_assoc] using q
/-- What a name is by what was declared, the last first. -/
def lastC (C : List (Bs × Bool)) (x : Bs) : Bool := ((C.reverse.find? fun p => p.1 == x).map (·.2)).getD false
/-- The first external of what is left, its tree behind its kids. -/
def extR (l : List Ct) (d : Nat) (C : List (Bs × Bool)) : Rs Va := run (l.drop d) (lastC C) (fu (l.drop d)) .external s0
def mvP (d : Nat) (D : List Nd) (C : List (Bs × Bool)) : Mv := ⟨d, id, D, C⟩
theorem part_mk (l : List Ct) (d : Nat) (D : List Nd) (C : List (Bs × Bool)) (hd : d ≤ l.length) : Mk (mvP d D C) (l.drop d) l (lastC C) (fun _ => false) where
  tok i := by
    show l.getD (i + d) ⟨0, []⟩ = (mvP d D C).tok ((l.drop d).getD i ⟨0, []⟩)
    rw [List.getD_eq_getElem?_getD, List.getD_eq_getElem?_getD, List.getElem?_drop, Nat.add_comm d i]
    cases (l[i + d]?).getD ⟨0, []⟩ with
    | mk c t => simp [Mv.tok, mvP]
  len := by
    show l.length = (l.drop d).length + d
    rw [List.length_drop]; omega
  inj x y h := h
  emp := rfl
  bas x := rfl
/-- One external of a unit. -/
theorem part_step {l : List Ct} {n d : Nat} {D : List Nd} {C : List (Bs × Bool)} (hd : d ≤ l.length) (hn : run l (fun _ => false) n .external ⟨d, D, ⟨C, []⟩⟩ ≠ .out) :
    (extR l d C = .no ∧ run l (fun _ => false) n .external ⟨d, D, ⟨C, []⟩⟩ = .no) ∨
    ∃ v s v', extR l d C = .ok v s ∧ run l (fun _ => false) n .external ⟨d, D, ⟨C, []⟩⟩ = .ok v' ⟨d + s.at', D ++ s.done.map (shN d), ⟨C ++ s.nm.ch, []⟩⟩ ∧ Tree (l.drop d) s ∧ 1 ≤ s.at' := by
  have K := part_mk l d D C hd
  obtain ⟨he, hg⟩ := external_good (l.drop d) (lastC C)
  have hst : (mvP d D C).st s0 = ⟨d, D, ⟨C, []⟩⟩ := by
    unfold Mv.st mvP s0
    simp
  have hs := sim K (n + fu (l.drop d)) .external (fun e => by cases e) s0
  rw [hst, show (mvP d D C).tg .external = .external from rfl, ← fuel_more (by omega) he, ← fuel_more (by omega) hn] at hs
  unfold extR
  cases e1 : run (l.drop d) (lastC C) (fu (l.drop d)) .external s0 with
  | out => exact absurd e1 he
  | no =>
    rw [e1] at hs
    cases e2 : run l (fun _ => false) n .external ⟨d, D, ⟨C, []⟩⟩ with
    | out => exact absurd e2 hn
    | no => exact .inl ⟨rfl, rfl⟩
    | ok v s => rw [e2] at hs; exact hs.elim
  | ok v s =>
    rw [e1] at hs
    cases e2 : run l (fun _ => false) n .external ⟨d, D, ⟨C, []⟩⟩ with
    | out => exact absurd e2 hn
    | no => rw [e2] at hs; exact hs.elim
    | ok v' s' =>
      rw [e2] at hs
      obtain ⟨-, h⟩ := hs
      subst h
      obtain ⟨g1, g2, g3, -⟩ := hg v s e1
      refine .inr ⟨v, s, v', rfl, ?_, g1, g2⟩
      have hdec : (mvP d D C).dec = id := funext fun p => rfl
      have hnd : (mvP d D C).nd = shN d := funext fun n => rfl
      unfold Mv.st
      rw [hdec, hnd, g3, List.map_id]
      show Rs.ok v' _ = _
      rw [Nat.add_comm]
      rfl
/-- A list's externals: their trees, kids ahead and parents ahead. -/
def partsQ (l : List Ct) : Nat → Nat → List (Bs × Bool) → Option (List Nd × List Nd)
  | 0, _, _ => none
  | f + 1, d, C => if d < l.length then match extR l d C with
      | .ok _ s => (partsQ l f (d + s.at') (C ++ s.nm.ch)).map fun q => (s.done.map (shN d) ++ q.1, (aheadP s.done).map (shN d) ++ q.2)
      | _ => none
    else some ([], [])
theorem tree_bt {l : List Ct} {s : Ps} (h : Tree l s) : Bt 0 s.at' s.done (aheadP s.done) := by
  obtain ⟨k, K, hr⟩ := h.root
  obtain ⟨P, hP⟩ := h.fo.both
  have e : aheadP s.done = P := by
    rw [hr] at hP ⊢
    exact ahead_pre hP
  rw [e]; exact hP
theorem unit_parts (l : List Ct) : ∀ (n d : Nat) (D : List Nd) (C : List (Bs × Bool)), d ≤ l.length → run l (fun _ => false) n .unit ⟨d, D, ⟨C, []⟩⟩ ≠ .out →
    (partsQ l n d C = none ∧ run l (fun _ => false) n .unit ⟨d, D, ⟨C, []⟩⟩ = .no) ∨
    ∃ q v C', partsQ l n d C = some q ∧ run l (fun _ => false) n .unit ⟨d, D, ⟨C, []⟩⟩ = .ok v ⟨l.length, (D ++ q.1) ++ [⟨1, 0, l.length, (D ++ q.1).length + 1⟩], C'⟩ ∧ Bt d l.length q.1 q.2
  | 0, d, D, C, hd, hn => absurd (by rw [run]) hn
  | n + 1, d, D, C, hd, hn => by
    have hr : run l (fun _ => false) (n + 1) .unit ⟨d, D, ⟨C, []⟩⟩ = (if d < l.length then (run l (fun _ => false) n .external >>= fun _ => run l (fun _ => false) n .unit) else (node l 1 (0, 0) >>= fun _ => pure Va.un)) ⟨d, D, ⟨C, []⟩⟩ := by
      rw [run]; rfl
    rw [hr] at hn ⊢
    unfold partsQ
    by_cases c : d < l.length
    · rw [if_pos c] at hn ⊢
      rw [if_pos c]
      have h1 : run l (fun _ => false) n .external ⟨d, D, ⟨C, []⟩⟩ ≠ .out := fun e => hn (by show Pm.bind _ _ _ = _; unfold Pm.bind; rw [e])
      rcases part_step hd h1 with ⟨e1, e2⟩ | ⟨v, s, v', e1, e2, ht, hp⟩
      · exact .inl ⟨by rw [e1], by show Pm.bind _ _ _ = _; unfold Pm.bind; rw [e2]⟩
      · have h2 : (run l (fun _ => false) n .external >>= fun _ => run l (fun _ => false) n .unit) ⟨d, D, ⟨C, []⟩⟩ = run l (fun _ => false) n .unit ⟨d + s.at', D ++ s.done.map (shN d), ⟨C ++ s.nm.ch, []⟩⟩ := by
          show Pm.bind _ _ _ = _; unfold Pm.bind; rw [e2]
        rw [h2] at hn ⊢
        have hd2 : d + s.at' ≤ l.length := by have := ht.at'; rw [List.length_drop] at this; omega
        rw [e1]
        rcases unit_parts l n (d + s.at') _ _ hd2 hn with ⟨f1, f2⟩ | ⟨q, w, C', f1, f2, f3⟩
        · exact .inl ⟨by simp only [f1]; rfl, f2⟩
        · refine .inr ⟨(s.done.map (shN d) ++ q.1, (aheadP s.done).map (shN d) ++ q.2), w, C', by simp only [f1]; rfl, ?_, ?_⟩
          · rw [f2]; simp only [List.append_assoc]
          · have hb := (tree_bt ht).shift d
            rw [Nat.zero_add, Nat.add_comm] at hb
            exact f3.append hb
    · rw [if_neg c] at hn ⊢
      rw [if_neg c]
      have e : d = l.length := by omega
      subst e
      by_cases hc : D.length ≤ 4 * l.length ∧ 0 ≤ D.length
      · have hnode : (node l 1 (0, 0) >>= fun _ => (pure Va.un : Pm Va)) ⟨l.length, D, ⟨C, []⟩⟩ = .ok Va.un ⟨l.length, D ++ [⟨1, 0, l.length, D.length - 0 + 1⟩], ⟨C, []⟩⟩ := by
          show Pm.bind _ _ _ = _; unfold Pm.bind node; simp only; rw [if_pos hc]; rfl
        refine .inr ⟨([], []), Va.un, ⟨C, []⟩, rfl, ?_, .nil (Nat.le_refl _)⟩
        rw [hnode, List.append_nil]; rfl
      · exact absurd (by show Pm.bind _ _ _ = _; unfold Pm.bind node; simp only; rw [if_neg hc]) hn
/-- A unit's tree is its externals'. -/
theorem parse_parts (l : List Ct) : parseP l (fun _ => false) = (partsQ l (fu l) 0 []).map fun q => ⟨1, 0, l.length, q.2.length + 1⟩ :: q.2 := by
  have h0 := (unit_good l (fun _ => false)).1
  unfold parseP
  rcases unit_parts l (fu l) 0 [] [] (Nat.zero_le _) h0 with ⟨e1, e2⟩ | ⟨q, v, C', e1, e2, e3⟩
  · have e2' : run l (fun _ => false) (fu l) .unit s0 = .no := e2
    rw [e1, e2']; rfl
  · have e2' : run l (fun _ => false) (fu l) .unit s0 = _ := e2
    rw [e1, e2']
    have hl := e3.len
    have hb := Bt.snoc (k := 1) (.nil (Nat.le_refl 0)) (Nat.le_refl 0) e3 (Nat.le_refl l.length) ⟨by omega, by omega⟩
    rw [List.nil_append, List.nil_append] at hb
    show some (aheadP ([] ++ q.1 ++ _)) = some _
    rw [List.nil_append, ahead_pre hb, ← hl]
end Go.Proofs.YtlboejdhmggjpaaGreat.Pp

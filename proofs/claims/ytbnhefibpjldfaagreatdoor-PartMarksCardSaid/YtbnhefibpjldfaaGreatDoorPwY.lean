/- lines: the iterator over the pieces of tokens. -/
import Derived.Test.YtbnhefibpjldfaaGreatDoorPwV
import Derived.Test.YtbnhefibpjldfaaGreatDoorRfa
namespace Go.Proofs.YtbnhefibpjldfaaGreatDoor
open Go.RowKit Go.BigFrame Go.Shelf
set_option linter.unusedVariables false
attribute [local go_sem] Oper.semAt_some

/-- The pieces: where each begins, and how long it is; the first of them has begun. -/
def pcsF (st : Nat) : Nat → List Tk → List (Nat × Nat)
  | i, [] => if st < i then [(st, i - st)] else []
  | i, t :: r => if t.kind = 9 then (st, i + 1 - st) :: pcsF (i + 1) (i + 1) r else pcsF st (i + 1) r
abbrev pcs' (l : List Tk) : List (Nat × Nat) := pcsF 0 0 l
theorem pcsF_lns (l : List Tk) : ∀ (r : List Tk) (st i : Nat), st ≤ i → l.drop i = r → i ≤ l.length → lnsF ((l.drop st).take (i - st)) r = (pcsF st i r).map (fun p => (l.drop p.1).take p.2)
  | [], st, i, hst, hr, hi => by
    have hil : i = l.length := by
      have := congrArg List.length hr
      simp at this; omega
    simp only [lnsF, pcsF]
    by_cases h : st < i
    · rw [if_pos h, if_neg (by intro e; have := congrArg List.length e; simp at this; omega)]
      rfl
    · rw [if_neg h, if_pos (by rw [show i - st = 0 by omega]; rfl)]
      rfl
  | t :: r, st, i, hst, hr, hi => by
    have hil : i < l.length := by
      have := congrArg List.length hr
      simp at this; omega
    have hdr : l.drop (i + 1) = r := by rw [← List.drop_drop, hr]; rfl
    have htk : (l.drop st).take (i - st) ++ [t] = (l.drop st).take (i + 1 - st) := by
      rw [show i + 1 - st = (i - st) + 1 by omega, List.take_add_one, List.getElem?_drop, show st + (i - st) = i by omega]
      have : l[i]? = some t := by
        have := congrArg (fun x => x[0]?) hr
        simpa using this
      rw [this]; rfl
    simp only [lnsF, pcsF]
    by_cases h : t.kind = 9
    · rw [if_pos h, if_pos h, htk, List.map_cons]
      have ih := pcsF_lns l r (i + 1) (i + 1) (Nat.le_refl _) hdr (by omega)
      rw [Nat.sub_self, List.take_zero] at ih
      rw [ih]
    · rw [if_neg h, if_neg h, htk]
      exact pcsF_lns l r st (i + 1) (by omega) hdr (by omega)
theorem pcs_lns (l : List Tk) : lnsF [] l = (pcs' l).map (fun p => (l.drop p.1).take p.2) := pcsF_lns l l 0 0 (Nat.le_refl _) rfl (Nat.zero_le _)
theorem pcsF_in (l : List Tk) : ∀ (r : List Tk) (st i : Nat), st ≤ i → l.drop i = r → i ≤ l.length → ∀ p ∈ pcsF st i r, 0 < p.2 ∧ p.1 + p.2 ≤ l.length
  | [], st, i, hst, hr, hi, p, hp => by
    simp only [pcsF] at hp
    split at hp
    · rename_i h
      rw [List.mem_singleton] at hp
      subst hp
      exact ⟨by simp only; omega, by simp only; omega⟩
    · cases hp
  | t :: r, st, i, hst, hr, hi, p, hp => by
    have hil : i < l.length := by
      have := congrArg List.length hr
      simp at this; omega
    have hdr : l.drop (i + 1) = r := by rw [← List.drop_drop, hr]; rfl
    simp only [pcsF] at hp
    split at hp
    · rcases List.mem_cons.1 hp with rfl | hp
      · exact ⟨by simp only; omega, by simp only; omega⟩
      · exact pcsF_in l r (i + 1) (i + 1) (Nat.le_refl _) hdr (by omega) p hp
    · exact pcsF_in l r st (i + 1) (by omega) hdr (by omega) p hp
/-- Slices at boxes stay, and the blocks below a bound. -/
def KB (T : TypeId → Bool) (K : Nat) (a b : World) : Prop := KT T a b ∧ (K ≤ a.heap.size → Below K a b)
theorem KB.trans {T : TypeId → Bool} {K : Nat} {a b c : World} (h : KB T K a b) (k : KB T K b c) : KB T K a c := ⟨h.1.trans k.1, fun x => (h.2 x).trans (k.2 (Nat.le_trans x h.1.1))⟩
theorem KB.of_below {T : TypeId → Bool} {K : Nat} {w w' : World} (h : Below w.heap.size w w') : KB T K w w' := ⟨KT.of_below h, fun x => h.mono x⟩
theorem KB.putObj {T : TypeId → Bool} {K : Nat} {w : World} {l : Nat} {o o' : Obj} (hK : K ≤ l) (ho : w.heap[l]? = some o) (hc : o.isCells = false) : KB T K w (w.putObj l o') := ⟨KT.putObj ho hc, fun _ => below_put hK ho⟩
def T30 (t : TypeId) : Bool := t == 30
theorem Ls.pieces (a : Option Addr) (n c : Nat) (w : World) : Calls Tryz.prog 39 #[.slice a n c] w fun e w' => e = .returned (.func (.func 78) #[] #[.pointer (some ⟨w.heap.size, 0, none⟩)]) ∧ w' = w.alloc (.cells #[.slice a n c] 30) := by
  go_enter Tryz.func39, Tryz.ntmps39
  go_wp2
  go_ret
  exact ⟨rfl, rfl⟩
theorem pcsF_at {l : List Tk} {i : Nat} (h : i < l.length) (st : Nat) : pcsF st i (l.drop i) = if l[i].kind = 9 then (st, i + 1 - st) :: pcsF (i + 1) (i + 1) (l.drop (i + 1)) else pcsF st (i + 1) (l.drop (i + 1)) := by
  rw [List.drop_eq_getElem_cons h, pcsF]
set_option maxRecDepth 100000 in
set_option maxHeartbeats 8000000 in
theorem Ls.seq (n B K gb go c : Nat) (l : List Tk) (a : Option Addr) (w : World) (h0 : w.heap[B]? = some (.cells #[.slice a l.length c] 30 (0, 0))) (hl : l.length ≤ 1000000000) (hlc : l.length ≤ c) (hcm : c ≤ maxLen) (hK : K ≤ w.heap.size)
    (hrow : l ≠ [] → a = some ⟨gb, go, none⟩ ∧ gb < K ∧ ∀ i (h : i < l.length), CellsAt w gb (go + i * 5) (tkC l[i])) :
    SeqG Fence.wide n Tryz.prog 78 #[.pointer (some ⟨B, 0, none⟩)] (fun p : Nat × Nat => #[.slice (some ⟨gb, go + p.1 * 5, none⟩) p.2 (c - p.1)]) (KB T30 K) (fun pre x => ∃ r, pcs' l = pre ++ x :: r) (fun _ => False)
      (fun zs => zs = pcs' l) (fun zs => ∃ r, pcs' l = zs ++ r) w := fun L J Jx W hW hJ hJx hY hj0 => by
  have g0 := heap_below hW h0 (Array.getElem?_eq_some_iff.1 h0).1
  have hbK : Below K w W := hW.mono hK
  have HJ := Lib.hid hJ
  have HY := Lib.hid hY
  have HJ0 := Lib.hid hj0
  have G0 := Lib.hid g0
  have HBK := Lib.hid hbK
  have HROW := Lib.hid hrow
  clear h0 hJ hJx g0 hY hj0 hbK hrow
  refine callsIn_of_wp Tryz.func78 rfl trivial ?_ rfl
  simp only [Tryz.ntmps78, List.size_toArray, List.length_cons, List.length_nil, Nat.reduceAdd, Nat.reduceSub, Array.replicate_succ, Array.replicate_zero, List.push_toArray, List.append_toArray, List.nil_append, List.cons_append]
  have c00 : W.cell? ⟨B, 0, none⟩ = some (.slice a l.length c) := by simp [World.cell?, G0.out]
  gi_wp2_with (fail)
  gi_loopw [3, 8] (fun s3 s8 wr => ∃ (pre : List (Nat × Nat)) (i st : Nat), pcs' l = pre ++ pcsF st i (l.drop i) ∧ st ≤ i ∧ i ≤ l.length ∧ s3 = .int .i64 st ∧ s8 = .int .i64 i ∧ wr.heap[B]? = some (.cells #[.slice a l.length c] 30 (0, 0)) ∧ Below K w wr ∧ J pre wr) (fun _ s8 _ => l.length - (intOf s8).toNat)
  case atStart => exact ⟨[], 0, 0, rfl, Nat.le_refl _, Nat.zero_le _, rfl, rfl, G0.out, HBK.out, HJ0.out⟩
  case round =>
    clear HJ0 G0 HBK c00
    obtain ⟨pre, i, st, hpre, hst, hi, rfl, rfl, g0, hbk, hjp⟩ := hrel
    have c0 : wr.cell? ⟨B, 0, none⟩ = some (.slice a l.length c) := by simp [World.cell?, g0]
    have G0 := Lib.hid g0
    have HJP := Lib.hid hjp
    have HBK := Lib.hid hbk
    clear g0 hjp hbk
    by_cases hlt : i < l.length
    · obtain ⟨rfl, hgb, hgc⟩ := HROW.out (by intro e; simp [e] at hlt)
      obtain ⟨k0, k1, k2, k3, k4⟩ := CellsAt.get5 ((hgc i hlt).below HBK.out hgb)
      rw [pcsF_at hlt] at hpre
      have hlt' : (i : Int) < l.length := by omega
      generalize l[i] = t at *
      obtain ⟨kd, tx, lo, hi', sp⟩ := t
      simp only at k0 k1 k2 k3 k4 hpre
      have c0w : ∀ o : Obj, (wr.alloc o).cell? ⟨B, 0, none⟩ = some (.slice (some ⟨gb, go, none⟩) l.length c) := fun o => by
        have := Lib.alloc_old wr o B (Array.getElem?_eq_some_iff.1 G0.out).1
        simp [World.cell?, this, G0.out]
      by_cases h9 : kd = 9
      · subst h9
        rw [if_pos rfl] at hpre
        have HPRE := Lib.hid hpre
        have hjw := HJ.out pre wr (wr.alloc (.cells #[.int .i64 9, .string (str tx), .int .i64 lo, .int .i64 hi', .bool sp] 40)) HJP.out (Mod.of_below (below_alloc _ _))
        obtain ⟨fn1, tm1, as1, bo1, hyy1, hR1⟩ := HY.out pre (st, i + 1 - st) _ hjw ⟨_, HPRE.out⟩
        clear hpre hgc hjw
        gi_wp2_with (fail)
        refine ⟨(fun hh => by cases hh), hR1.mono ?_⟩
        rintro e W1 (⟨rfl, hJ1, hk1⟩ | ⟨rfl, hx1⟩)
        · have g0 := hk1.1.2 B _ 30 (0, 0) rfl ((Lib.alloc_old wr _ B (Array.getElem?_eq_some_iff.1 G0.out).1).trans G0.out)
          have hws := HBK.out.size
          have HB1 := Lib.hid ((HBK.out.trans ((below_alloc _ _).mono (Nat.le_trans hK hws))).trans (hk1.2 (by simp; omega)))
          have HJ1 := Lib.hid hJ1
          have GB := Lib.hid g0
          clear g0 hk1 hJ1 hyy1 hR1
          gi_wp2_with (fail)
          go_roundw
          case rel =>
            refine ⟨pre ++ [(st, i + 1 - st)], i + 1, i + 1, ?_, Nat.le_refl _, by omega, by go_num, by go_num, GB.out, HB1.out, HJ1.out⟩
            rw [HPRE.out, List.append_assoc]; rfl
          case measure => simp [intOf]; omega
        · have HX1 := Lib.hid hx1
          clear hx1 hyy1 hR1
          gi_wp2_with (fail)
          refine bodyPost_ret (results_none rfl _ _ _) rfl ?_
          exact ⟨⟨_, rfl⟩, .inr ⟨_, ⟨_, by rw [HPRE.out, List.append_assoc]; rfl⟩, HX1.out⟩⟩
      · rw [if_neg h9] at hpre
        have h9' : ((kd : Int) != 9) = true := by rw [bne_iff_ne]; omega
        have HPRE := Lib.hid hpre
        clear hpre hgc h9
        gi_wp2_with (fail)
        go_roundw
        case rel =>
          have hws := HBK.out.size
          exact ⟨pre, i + 1, st, HPRE.out, by omega, by omega, rfl, by go_num, (Lib.alloc_old wr _ B (Array.getElem?_eq_some_iff.1 G0.out).1).trans G0.out, HBK.out.trans ((below_alloc _ _).mono (Nat.le_trans hK hws)), HJ.out _ _ _ HJP.out (Mod.of_below (below_alloc _ _))⟩
        case measure => simp [intOf]; omega
    · obtain rfl : i = l.length := by omega
      rw [List.drop_length] at hpre
      simp only [pcsF] at hpre
      by_cases hs : st < l.length
      · obtain ⟨rfl, hgb, hgc⟩ := HROW.out (by intro e; simp [e] at hs)
        rw [if_pos hs] at hpre
        have hs' : (st : Int) < l.length := by omega
        have HPRE := Lib.hid hpre
        obtain ⟨fn1, tm1, as1, bo1, hyy1, hR1⟩ := HY.out pre (st, l.length - st) _ HJP.out ⟨_, HPRE.out⟩
        clear hpre hgc
        gi_wp2_with (fail)
        refine ⟨(fun hh => by cases hh), hR1.mono ?_⟩
        rintro e W1 (⟨rfl, hJ1, hk1⟩ | ⟨rfl, hx1⟩)
        · have HJ1 := Lib.hid hJ1
          clear hk1 hJ1 hyy1 hR1
          gi_wp2_with (fail)
          go_end0
          exact ⟨⟨_, rfl⟩, .inl ⟨_, HPRE.out.symm, HJ1.out⟩⟩
        · have HX1 := Lib.hid hx1
          clear hx1 hyy1 hR1
          gi_wp2_with (fail)
          go_end0
          exact ⟨⟨_, rfl⟩, .inr ⟨_, ⟨[], by rw [HPRE.out, List.append_nil]⟩, HX1.out⟩⟩
      · rw [if_neg hs, List.append_nil] at hpre
        have hs' : ¬ (st : Int) < l.length := by omega
        have HP := Lib.hid hpre
        clear hpre
        gi_wp2_with (fail)
        go_end0
        exact ⟨⟨_, rfl⟩, .inl (by rw [HP.out]; exact HJP.out)⟩
end Go.Proofs.YtbnhefibpjldfaaGreatDoor

/- PwY -/
namespace Go.Proofs.YtbnhefibpjldfaaGreatDoor
open Go.RowKit Go.BigFrame Go.Shelf
set_option linter.unusedVariables false

theorem last_cases {α : Type} (l : List α) : l = [] ∨ ∃ d c, l = d ++ [c] := by
  rcases List.eq_nil_or_concat l with h | ⟨d, c, h⟩
  · exact .inl h
  · exact .inr ⟨d, c, by simpa using h⟩
theorem sum_prefix : ∀ (a b : List Nat), a.sum ≤ (a ++ b).sum
  | a, b => by rw [List.sum_append]; omega
theorem addRow_sum (rows : List Rw) (line : List Tk) : ((addRow rows line).map (·.toks.length)).sum = (rows.map (·.toks.length)).sum + line.length := by
  rcases last_cases rows with rfl | ⟨d, x, rfl⟩
  · simp [addRow]
  · unfold addRow
    simp only [List.getLast?_append, List.getLast?_singleton, Option.some_or]
    split
    · simp; omega
    · simp; omega
theorem addRow_len (rows : List Rw) (line : List Tk) : (addRow rows line).length ≤ rows.length + 1 := by
  rcases last_cases rows with rfl | ⟨d, x, rfl⟩
  · simp [addRow]
  · unfold addRow
    simp only [List.getLast?_append, List.getLast?_singleton, Option.some_or]
    split <;> simp
theorem foldl_rows : ∀ (ls : List (List Tk)) (rows : List Rw), ((ls.foldl addRow rows).map (·.toks.length)).sum = (rows.map (·.toks.length)).sum + (ls.map (·.length)).sum ∧ (ls.foldl addRow rows).length ≤ rows.length + ls.length
  | [], rows => by simp
  | x :: ls, rows => by
    obtain ⟨h1, h2⟩ := foldl_rows ls (addRow rows x)
    have h3 := addRow_sum rows x
    have h4 := addRow_len rows x
    simp only [List.foldl_cons, List.map_cons, List.sum_cons, List.length_cons]
    exact ⟨by omega, by omega⟩
theorem pcsF_sum : ∀ (r : List Tk) (st i : Nat), st ≤ i → ((pcsF st i r).map (·.2)).sum = i - st + r.length ∧ (pcsF st i r).length ≤ i - st + r.length
  | [], st, i, h => by
    simp only [pcsF]
    split
    · simp; omega
    · simp; omega
  | t :: r, st, i, h => by
    simp only [pcsF]
    split
    · obtain ⟨h1, h2⟩ := pcsF_sum r (i + 1) (i + 1) (Nat.le_refl _)
      simp only [List.map_cons, List.sum_cons, List.length_cons]
      exact ⟨by omega, by omega⟩
    · obtain ⟨h1, h2⟩ := pcsF_sum r st (i + 1) (by omega)
      exact ⟨by rw [h1]; simp; omega, by simp; omega⟩
/-- A row, and the value of its tokens. -/
abbrev Rv := Rw × Value
def rvC (p : Rv) : List Value := [.bool p.1.dir, .string (str p.1.name), p.2]
theorem rvC_len (p : Rv) : (rvC p).length = 3 := rfl
def runOf (L : List Rv) : Bool := match L.getLast? with | some x => !x.1.dir | none => false
/-- The rows lie at the box p; each row's tokens are its own, the last one's from D on. -/
structure RwS (B D p : Nat) (lv : Value) (l : List Rv) (w : World) : Prop where
  hd : w.heap[p]? = some (.cells #[lv] 47 (0, 0))
  row : w.ownsRow B 78 3 lv l.length (l.flatMap rvC)
  old : ∀ c ∈ l.dropLast, w.ownsRow B 40 5 c.2 c.1.toks.length (c.1.toks.flatMap tkC) ∧ ∀ k, c.2.ownBlock = some k → k < D
  new : ∀ c, l.getLast? = some c → w.ownsRow D 40 5 c.2 c.1.toks.length (c.1.toks.flatMap tkC)
  leB : B ≤ D
  leD : D ≤ w.heap.size
  leP : B ≤ p
/-- A change of rows' cells. -/
def T430 (t : TypeId) : Bool := t == 4 || t == 30
structure RC (B : Nat) (w w' : World) : Prop where
  kf : ∀ X, KeepsFrom X w w'
  kt : KT T430 w w'
  bel : B ≤ w.heap.size → Below B w w'
theorem RC.trans {B : Nat} {a b c : World} (h : RC B a b) (k : RC B b c) : RC B a c := ⟨fun X => (h.kf X).trans (k.kf X), h.kt.trans k.kt, fun x => (h.bel x).trans (k.bel (Nat.le_trans x h.kt.1))⟩
theorem RC.of_below {B : Nat} {w w' : World} (h : Below w.heap.size w w') : RC B w w' := ⟨fun X => ⟨h.size, fun k o _ hk _ => heap_below h hk (Array.getElem?_eq_some_iff.1 hk).1⟩, KT.of_below h, fun x => h.mono x⟩
theorem RC.mod {B : Nat} {w w' : World} {S : Nat → Prop} (hm : Mod S w w') (hS : ∀ k, S k → B ≤ k ∧ ∃ c t, w.heap[k]? = some (.cells c t (0, 0)) ∧ T430 t = false) : RC B w w' :=
  ⟨fun X => ⟨hm.size, fun k o _ hk ho => hm.keep hk (fun hs => by
    obtain ⟨_, c, t, q, _⟩ := hS k hs
    rw [hk] at q
    cases q
    cases ho)⟩, ⟨hm.size, fun k cs t fz ht hk => hm.keep hk (fun hs => by
    obtain ⟨_, c, t', q, q2⟩ := hS k hs
    rw [hk] at q
    cases q
    rw [q2] at ht
    cases ht)⟩, fun x => hm.below x (fun k hk => (hS k hk).1)⟩
theorem RC.kb {B K : Nat} {w w' : World} (h : RC B w w') (hK : K ≤ B) (hB : B ≤ w.heap.size) : KB T30 K w w' :=
  ⟨⟨h.kt.1, fun k cs t fz ht hk => h.kt.2 k cs t fz (by simp only [T30, beq_iff_eq] at ht; subst ht; rfl) hk⟩, fun _ => (h.bel hB).mono hK⟩
theorem RwS.nc {B D p : Nat} {lv : Value} {l : List Rv} {w w' : World} {S : Nat → Prop} (h : RwS B D p lv l w) (hm : Mod (fun k => S k ∧ YtbnhefibpjldfaaGreatDoor.nc w k) w w') : RwS B D p lv l w' :=
  ⟨hm.keep h.hd (fun hs => not_nc h.hd hs.2), own_nc h.row hm, fun c hc => ⟨own_nc (h.old c hc).1 hm, (h.old c hc).2⟩, fun c hc => own_nc (h.new c hc) hm, h.leB, Nat.le_trans h.leD hm.size, h.leP⟩
theorem RwS.on {B D p : Nat} {lv : Value} {l : List Rv} {w w' : World} (h : RwS B D p lv l w) (hb : Below w.heap.size w w') : RwS B D p lv l w' :=
  ⟨heap_below hb h.hd (Array.getElem?_eq_some_iff.1 h.hd).1, own_on h.row hb, fun c hc => ⟨own_on (h.old c hc).1 hb, (h.old c hc).2⟩, fun c hc => own_on (h.new c hc) hb, h.leB, Nat.le_trans h.leD hb.size, h.leP⟩
theorem rv_flat (d : List Rv) (c : Rv) : ((d ++ [c]).flatMap rvC)[d.length * 3]? = some (.bool c.1.dir) ∧ ((d ++ [c]).flatMap rvC)[d.length * 3 + 1]? = some (.string (str c.1.name)) ∧ ((d ++ [c]).flatMap rvC)[d.length * 3 + 2]? = some c.2 := by
  have h0 := flat_get 3 rvC rvC_len (d ++ [c]) d.length 0 (by simp) (by omega)
  have h1 := flat_get 3 rvC rvC_len (d ++ [c]) d.length 1 (by simp) (by omega)
  have h2 := flat_get 3 rvC rvC_len (d ++ [c]) d.length 2 (by simp) (by omega)
  rw [show (d ++ [c])[d.length]'(by simp) = c from by simp] at h0 h1 h2
  exact ⟨h0, h1, h2⟩
/-- The last row's cells. -/
theorem RwS.last {B D p : Nat} {lv : Value} {d : List Rv} {c : Rv} {w : World} (h : RwS B D p lv (d ++ [c]) w) :
    ∃ G cap, lv = .slice (some ⟨G, 0, none⟩) (d.length + 1) cap ∧ B ≤ G ∧ w.cell? ⟨G, d.length * 3 + 2, none⟩ = some c.2 ∧ w.frozen? ⟨G, d.length * 3 + 2, none⟩ = false := by
  have hl : (d ++ [c]).length = d.length + 1 := by simp
  have hrow := h.row
  rw [hl] at hrow
  rcases hrow.2 with ⟨_, h2⟩ | ⟨G, cap, cur, rfl, hb, hg, _⟩
  · omega
  · obtain ⟨_, _, e2⟩ := rv_flat d c
    exact ⟨G, cap, rfl, hb, by rw [hrow.cellAt _ (by omega), e2], Lib.frozen_of_heap hg _⟩
theorem rv_set (d : List Rv) (c : Rv) (ts : List Tk) (u : Value) : ((d ++ [c]).flatMap rvC).set (d.length * 3 + 2) u = (d ++ [(({ c.1 with toks := ts }, u) : Rv)]).flatMap rvC := by
  rw [List.flatMap_append, List.flatMap_append, List.set_append, if_neg (by rw [flat_len 3 rvC rvC_len]; omega), flat_len 3 rvC rvC_len]
  rw [show d.length * 3 + 2 - d.length * 3 = 2 from by omega]
  simp [rvC]
theorem other_row {w w' : World} {X e size n : Nat} {v lv : Value} {xs : List Value} {B t m sz : Nat} {ys : List Value} (h : w.ownsRow X e size v n xs) (hl : w.ownsRow B t sz lv m ys) (he : e ≠ t) (hg : w.grownBy w' lv.ownBlock) : w'.ownsRow X e size v n xs :=
  ownsRow_mod (S := fun k => lv.ownBlock = some k) h ⟨hg.os, hg.tape, hg.output, hg.size, fun k hk hn => hg.block k hk (fun e => hn e.symm)⟩ (fun k hk hs => by
    obtain ⟨_, c1, h1⟩ := row_cells h hk
    obtain ⟨_, c2, h2⟩ := row_cells hl hs
    rw [h1] at h2
    simp only [Option.some.injEq, Obj.cells.injEq] at h2
    exact he h2.2.1)
theorem other_block {w w' : World} {k : Nat} {cs : Array Value} {e : TypeId} {lv : Value} {B t m sz : Nat} {ys : List Value} (h : w.heap[k]? = some (.cells cs e (0, 0))) (hl : w.ownsRow B t sz lv m ys) (he : e ≠ t) (hg : w.grownBy w' lv.ownBlock) : w'.heap[k]? = some (.cells cs e (0, 0)) := by
  rw [hg.block k (Array.getElem?_eq_some_iff.1 h).1 (fun hs => by
    obtain ⟨_, c2, h2⟩ := row_cells hl hs.symm
    rw [h] at h2
    simp only [Option.some.injEq, Obj.cells.injEq] at h2
    exact he h2.2.1)]
  exact h
/-- A line is put behind the last row's tokens. -/
theorem RwS.grow {B D p G cap : Nat} {v' : Value} {d : List Rv} {c : Rv} {ts : List Tk} {w w2 : World}
    (h : RwS B D p (.slice (some ⟨G, 0, none⟩) (d.length + 1) cap) (d ++ [c]) w) (hg : w.grownBy w2 c.2.ownBlock)
    (hown : w2.ownsRow D 40 5 v' ts.length (ts.flatMap tkC)) :
    RwS B D p (.slice (some ⟨G, 0, none⟩) (d.length + 1) cap) (d ++ [({ c.1 with toks := ts }, v')]) (w2.setCell ⟨G, d.length * 3 + 2, none⟩ v') ∧ RC B w (w2.setCell ⟨G, d.length * 3 + 2, none⟩ v') := by
  have hc := h.new c (by simp)
  have hl : (d ++ [c]).length = d.length + 1 := by simp
  have hrow := other_row h.row hc (by decide) hg
  rw [hl] at hrow
  obtain ⟨hBG, cur, hG⟩ := row_cells hrow rfl
  have hrow0 := h.row
  rw [hl] at hrow0
  obtain ⟨_, cur0, hG0⟩ := row_cells hrow0 rfl
  have hhd := other_block h.hd hc (by decide) hg
  have hm : Mod (fun k => k = G) w2 (w2.setCell ⟨G, d.length * 3 + 2, none⟩ v') := Mod.setCell (S := fun k => k = G) (Mod.refl _ w2) ⟨G, d.length * 3 + 2, none⟩ (.inr rfl) _
  have key : ∀ {X e size n : Nat} {v : Value} {xs : List Value}, e ≠ 78 → w2.ownsRow X e size v n xs → (w2.setCell ⟨G, d.length * 3 + 2, none⟩ v').ownsRow X e size v n xs := fun he hx =>
    ownsRow_mod hx hm (fun k hk hkr => by
      subst hkr
      obtain ⟨_, cur', hc'⟩ := row_cells hx hk
      rw [hG] at hc'
      simp only [Option.some.injEq, Obj.cells.injEq] at hc'
      exact he hc'.2.1.symm)
  have hst := (hrow.stored (d.length * 3 + 2) v').1
  rw [rv_set d c ts v'] at hst
  have hmg : Mod (fun k => c.2.ownBlock = some k) w w2 := ⟨hg.os, hg.tape, hg.output, hg.size, fun k hk hn => hg.block k hk (fun e => hn e.symm)⟩
  refine ⟨⟨hm.keep hhd (fun e => ?_), by simpa using hst, fun c' hc' => ?_, fun c' hc' => ?_, h.leB, by have := hg.size; have := h.leD; simp; omega, h.leP⟩, RC.mod (S := fun k => c.2.ownBlock = some k ∨ k = G) ((hmg.mono (fun k _ hk => .inl hk)).trans (hm.mono (fun k _ hk => .inr hk))) (fun k hk => ?_)⟩
  · subst e
    rw [hG] at hhd
    simp at hhd
  · rw [List.dropLast_concat] at hc'
    obtain ⟨h1, h2⟩ := h.old c' (by rw [List.dropLast_concat]; exact hc')
    refine ⟨key (by decide) (ownsRow_mod (S := fun k => c.2.ownBlock = some k) h1 hmg (fun k hk hs => ?_)), h2⟩
    have := h2 k hk
    have := (row_cells hc hs).1
    omega
  · have : c' = ({ c.1 with toks := ts }, v') := by simpa using hc'.symm
    subst this
    exact key (by decide) hown
  · rcases hk with hk | rfl
    · obtain ⟨q1, q2, q3⟩ := row_cells hc hk
      exact ⟨Nat.le_trans h.leB q1, _, _, q3, rfl⟩
    · exact ⟨hBG, _, _, hG0, rfl⟩
/-- A row is pushed. -/
theorem RwS.push {B D p : Nat} {lv v' u : Value} {l : List Rv} {r : Rw} {w w1 w2 : World} (h : RwS B D p lv l w) (hb : Below w.heap.size w w1) (hg : w1.grownBy w2 lv.ownBlock)
    (hown : w2.ownsRow B 78 3 v' (l.length + 1) (l.flatMap rvC ++ rvC (r, u))) (hu : w1.ownsRow w.heap.size 40 5 u r.toks.length (r.toks.flatMap tkC)) :
    RwS B w.heap.size p v' (l ++ [(r, u)]) (w2.setCell ⟨p, 0, none⟩ v') ∧ RC B w (w2.setCell ⟨p, 0, none⟩ v') := by
  have h1 := h.on hb
  have hhd := other_block h1.hd h1.row (by decide) hg
  have hm : Mod (fun k => k = p) w2 (w2.setCell ⟨p, 0, none⟩ v') := Mod.setCell (S := fun k => k = p) (Mod.refl _ w2) ⟨p, 0, none⟩ (.inr rfl) v'
  have key : ∀ {X e size n : Nat} {v : Value} {xs : List Value}, e ≠ 47 → w2.ownsRow X e size v n xs → (w2.setCell ⟨p, 0, none⟩ v').ownsRow X e size v n xs := fun he hx =>
    ownsRow_mod hx hm (fun k hk hkr => by
      subst hkr
      obtain ⟨_, cur, hc⟩ := row_cells hx hk
      rw [hhd] at hc
      simp only [Option.some.injEq, Obj.cells.injEq] at hc
      exact he hc.2.1.symm)
  have hmg : Mod (fun k => lv.ownBlock = some k) w1 w2 := ⟨hg.os, hg.tape, hg.output, hg.size, fun k hk hn => hg.block k hk (fun e => hn e.symm)⟩
  have hs1 := hb.size
  have hs2 := hg.size
  refine ⟨⟨by simpa using heap_setCell_same w2 p 0 _ _ v' hhd, ?_, fun c hc => ?_, fun c hc => ?_, Nat.le_trans h.leB h.leD, by simp; omega, h.leP⟩, (RC.of_below hb).trans (RC.mod (S := fun k => lv.ownBlock = some k ∨ k = p) ((hmg.mono (fun k _ hk => .inl hk)).trans (hm.mono (fun k _ hk => .inr hk))) (fun k hk => ?_))⟩
  · have := key (by decide) hown
    simpa [rvC] using this
  · rw [List.dropLast_concat] at hc
    rcases last_cases l with rfl | ⟨d, x, rfl⟩
    · cases hc
    · rcases List.mem_append.1 hc with hc | hc
      · obtain ⟨q1, q2⟩ := h1.old c (by rw [List.dropLast_concat]; exact hc)
        exact ⟨key (by decide) (other_row q1 h1.row (by decide) hg), fun k hk => by have := q2 k hk; have := h.leD; omega⟩
      · rw [List.mem_singleton] at hc
        subst hc
        have q1 := h1.new c (by simp)
        refine ⟨key (by decide) (other_row (own_base q1 h.leB) h1.row (by decide) hg), fun k hk => ?_⟩
        obtain ⟨_, cur, hc⟩ := row_cells (h.new c (by simp)) hk
        exact (Array.getElem?_eq_some_iff.1 hc).1
  · have : c = (r, u) := by simpa using hc.symm
    subst this
    exact key (by decide) (other_row hu h1.row (by decide) hg)
  · rcases hk with hk | rfl
    · obtain ⟨q1, q2, q3⟩ := row_cells h1.row hk
      exact ⟨q1, _, _, q3, rfl⟩
    · exact ⟨h.leP, _, _, h1.hd, rfl⟩
end Go.Proofs.YtbnhefibpjldfaaGreatDoor

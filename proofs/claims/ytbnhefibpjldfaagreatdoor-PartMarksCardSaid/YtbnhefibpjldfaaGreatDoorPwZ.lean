/- lines: the iterator over the pieces of tokens. -/
import Derived.Test.YtbnhefibpjldfaaGreatDoorPwV
import Derived.Test.YtbnhefibpjldfaaGreatDoorTal
import Derived.Test.YtbnhefibpjldfaaGreatDoorMr1
import Derived.Test.YtbnhefibpjldfaaGreatDoorPwP
namespace Go.Proofs.YtbnhefibpjldfaaGreatDoor
open Go.RowKit Go.BigFrame Go.Shelf
set_option linter.unusedVariables false
attribute [local go_sem] Oper.semAt_some

/-- The pieces: where each begins, and how long it is; the first of them has begun. -/
def pcsF (st : Nat) : Nat → List Tk → List (Nat × Nat)
  | i, [] => if st < i then [(st, i - st)] else []
  | i, t :: r => if t.kind = 9 then (st, i + 1 - st) :: pcsF (i + 1) (i + 1) r else pcsF st (i + 1) r
abbrev pcs' (l : List Tk) : List (Nat × Nat) := pcsF 0 0 l
theorem pcsF_lns (l : List Tk) : ∀ (r : List Tk) (st i : Nat), st ≤ i → l.drop i = r → i ≤ l.length → lnsF ((l.drop st).take (i - st)) r = (pcsF st i r).map (fun p => (l.drop p.1).take p.2)
  | [], st, i, hst, hr, hi => by
    have hil : i = l.length := by
      have := congrArg List.length hr
      simp at this; omega
    simp only [lnsF, pcsF]
    by_cases h : st < i
    · rw [if_pos h, if_neg (by intro e; have := congrArg List.length e; simp at this; omega)]
      rfl
    · rw [if_neg h, if_pos (by rw [show i - st = 0 by omega]; rfl)]
      rfl
  | t :: r, st, i, hst, hr, hi => by
    have hil : i < l.length := by
      have := congrArg List.length hr
      simp at this; omega
    have hdr : l.drop (i + 1) = r := by rw [← List.drop_drop, hr]; rfl
    have htk : (l.drop st).take (i - st) ++ [t] = (l.drop st).take (i + 1 - st) := by
      rw [show i + 1 - st = (i - st) + 1 by omega, List.take_add_one, List.getElem?_drop, show st + (i - st) = i by omega]
      have : l[i]? = some t := by
        have := congrArg (fun x => x[0]?) hr
        simpa using this
      rw [this]; rfl
    simp only [lnsF, pcsF]
    by_cases h : t.kind = 9
    · rw [if_pos h, if_pos h, htk, List.map_cons]
      have ih := pcsF_lns l r (i + 1) (i + 1) (Nat.le_refl _) hdr (by omega)
      rw [Nat.sub_self, List.take_zero] at ih
      rw [ih]
    · rw [if_neg h, if_neg h, htk]
      exact pcsF_lns l r st (i + 1) (by omega) hdr (by omega)
theorem pcs_lns (l : List Tk) : lnsF [] l = (pcs' l).map (fun p => (l.drop p.1).take p.2) := pcsF_lns l l 0 0 (Nat.le_refl _) rfl (Nat.zero_le _)
theorem pcsF_in (l : List Tk) : ∀ (r : List Tk) (st i : Nat), st ≤ i → l.drop i = r → i ≤ l.length → ∀ p ∈ pcsF st i r, 0 < p.2 ∧ p.1 + p.2 ≤ l.length
  | [], st, i, hst, hr, hi, p, hp => by
    simp only [pcsF] at hp
    split at hp
    · rename_i h
      rw [List.mem_singleton] at hp
      subst hp
      exact ⟨by simp only; omega, by simp only; omega⟩
    · cases hp
  | t :: r, st, i, hst, hr, hi, p, hp => by
    have hil : i < l.length := by
      have := congrArg List.length hr
      simp at this; omega
    have hdr : l.drop (i + 1) = r := by rw [← List.drop_drop, hr]; rfl
    simp only [pcsF] at hp
    split at hp
    · rcases List.mem_cons.1 hp with rfl | hp
      · exact ⟨by simp only; omega, by simp only; omega⟩
      · exact pcsF_in l r (i + 1) (i + 1) (Nat.le_refl _) hdr (by omega) p hp
    · exact pcsF_in l r st (i + 1) (by omega) hdr (by omega) p hp
/-- Slices at boxes stay, and the blocks below a bound. -/
def KB (T : TypeId → Bool) (K : Nat) (a b : World) : Prop := KT T a b ∧ (K ≤ a.heap.size → Below K a b)
theorem KB.trans {T : TypeId → Bool} {K : Nat} {a b c : World} (h : KB T K a b) (k : KB T K b c) : KB T K a c := ⟨h.1.trans k.1, fun x => (h.2 x).trans (k.2 (Nat.le_trans x h.1.1))⟩
theorem KB.of_below {T : TypeId → Bool} {K : Nat} {w w' : World} (h : Below w.heap.size w w') : KB T K w w' := ⟨KT.of_below h, fun x => h.mono x⟩
theorem KB.putObj {T : TypeId → Bool} {K : Nat} {w : World} {l : Nat} {o o' : Obj} (hK : K ≤ l) (ho : w.heap[l]? = some o) (hc : o.isCells = false) : KB T K w (w.putObj l o') := ⟨KT.putObj ho hc, fun _ => below_put hK ho⟩
def T30 (t : TypeId) : Bool := t == 30
theorem Ls.pieces (a : Option Addr) (n c : Nat) (w : World) : Calls Tryz.prog 39 #[.slice a n c] w fun e w' => e = .returned (.func (.func 78) #[] #[.pointer (some ⟨w.heap.size, 0, none⟩)]) ∧ w' = w.alloc (.cells #[.slice a n c] 30) := by
  go_enter Tryz.func39, Tryz.ntmps39
  go_wp2
  go_ret
  exact ⟨rfl, rfl⟩
theorem pcsF_at {l : List Tk} {i : Nat} (h : i < l.length) (st : Nat) : pcsF st i (l.drop i) = if l[i].kind = 9 then (st, i + 1 - st) :: pcsF (i + 1) (i + 1) (l.drop (i + 1)) else pcsF st (i + 1) (l.drop (i + 1)) := by
  rw [List.drop_eq_getElem_cons h, pcsF]
set_option maxRecDepth 100000 in
set_option maxHeartbeats 8000000 in
theorem Ls.seq (n B K gb go c : Nat) (l : List Tk) (a : Option Addr) (w : World) (h0 : w.heap[B]? = some (.cells #[.slice a l.length c] 30 (0, 0))) (hl : l.length ≤ 1000000000) (hlc : l.length ≤ c) (hcm : c ≤ maxLen) (hK : K ≤ w.heap.size)
    (hrow : l ≠ [] → a = some ⟨gb, go, none⟩ ∧ gb < K ∧ ∀ i (h : i < l.length), CellsAt w gb (go + i * 5) (tkC l[i])) :
    SeqG Fence.wide n Tryz.prog 78 #[.pointer (some ⟨B, 0, none⟩)] (fun p : Nat × Nat => #[.slice (some ⟨gb, go + p.1 * 5, none⟩) p.2 (c - p.1)]) (KB T30 K) (fun pre x => ∃ r, pcs' l = pre ++ x :: r) (fun _ => False)
      (fun zs => zs = pcs' l) (fun zs => ∃ r, pcs' l = zs ++ r) w := fun L J Jx W hW hJ hJx hY hj0 => by
  have g0 := heap_below hW h0 (Array.getElem?_eq_some_iff.1 h0).1
  have hbK : Below K w W := hW.mono hK
  have HJ := Lib.hid hJ
  have HY := Lib.hid hY
  have HJ0 := Lib.hid hj0
  have G0 := Lib.hid g0
  have HBK := Lib.hid hbK
  have HROW := Lib.hid hrow
  clear h0 hJ hJx g0 hY hj0 hbK hrow
  refine callsIn_of_wp Tryz.func78 rfl trivial ?_ rfl
  simp only [Tryz.ntmps78, List.size_toArray, List.length_cons, List.length_nil, Nat.reduceAdd, Nat.reduceSub, Array.replicate_succ, Array.replicate_zero, List.push_toArray, List.append_toArray, List.nil_append, List.cons_append]
  have c00 : W.cell? ⟨B, 0, none⟩ = some (.slice a l.length c) := by simp [World.cell?, G0.out]
  gi_wp2_with (fail)
  gi_loopw [3, 8] (fun s3 s8 wr => ∃ (pre : List (Nat × Nat)) (i st : Nat), pcs' l = pre ++ pcsF st i (l.drop i) ∧ st ≤ i ∧ i ≤ l.length ∧ s3 = .int .i64 st ∧ s8 = .int .i64 i ∧ wr.heap[B]? = some (.cells #[.slice a l.length c] 30 (0, 0)) ∧ Below K w wr ∧ J pre wr) (fun _ s8 _ => l.length - (intOf s8).toNat)
  case atStart => exact ⟨[], 0, 0, rfl, Nat.le_refl _, Nat.zero_le _, rfl, rfl, G0.out, HBK.out, HJ0.out⟩
  case round =>
    clear HJ0 G0 HBK c00
    obtain ⟨pre, i, st, hpre, hst, hi, rfl, rfl, g0, hbk, hjp⟩ := hrel
    have c0 : wr.cell? ⟨B, 0, none⟩ = some (.slice a l.length c) := by simp [World.cell?, g0]
    have G0 := Lib.hid g0
    have HJP := Lib.hid hjp
    have HBK := Lib.hid hbk
    clear g0 hjp hbk
    by_cases hlt : i < l.length
    · obtain ⟨rfl, hgb, hgc⟩ := HROW.out (by intro e; simp [e] at hlt)
      obtain ⟨k0, k1, k2, k3, k4⟩ := CellsAt.get5 ((hgc i hlt).below HBK.out hgb)
      rw [pcsF_at hlt] at hpre
      have hlt' : (i : Int) < l.length := by omega
      generalize l[i] = t at *
      obtain ⟨kd, tx, lo, hi', sp⟩ := t
      simp only at k0 k1 k2 k3 k4 hpre
      have c0w : ∀ o : Obj, (wr.alloc o).cell? ⟨B, 0, none⟩ = some (.slice (some ⟨gb, go, none⟩) l.length c) := fun o => by
        have := Lib.alloc_old wr o B (Array.getElem?_eq_some_iff.1 G0.out).1
        simp [World.cell?, this, G0.out]
      by_cases h9 : kd = 9
      · subst h9
        rw [if_pos rfl] at hpre
        have HPRE := Lib.hid hpre
        have hjw := HJ.out pre wr (wr.alloc (.cells #[.int .i64 9, .string (str tx), .int .i64 lo, .int .i64 hi', .bool sp] 40)) HJP.out (Mod.of_below (below_alloc _ _))
        obtain ⟨fn1, tm1, as1, bo1, hyy1, hR1⟩ := HY.out pre (st, i + 1 - st) _ hjw ⟨_, HPRE.out⟩
        clear hpre hgc hjw
        gi_wp2_with (fail)
        refine ⟨(fun hh => by cases hh), hR1.mono ?_⟩
        rintro e W1 (⟨rfl, hJ1, hk1⟩ | ⟨rfl, hx1⟩)
        · have g0 := hk1.1.2 B _ 30 (0, 0) rfl ((Lib.alloc_old wr _ B (Array.getElem?_eq_some_iff.1 G0.out).1).trans G0.out)
          have hws := HBK.out.size
          have HB1 := Lib.hid ((HBK.out.trans ((below_alloc _ _).mono (Nat.le_trans hK hws))).trans (hk1.2 (by simp; omega)))
          have HJ1 := Lib.hid hJ1
          have GB := Lib.hid g0
          clear g0 hk1 hJ1 hyy1 hR1
          gi_wp2_with (fail)
          go_roundw
          case rel =>
            refine ⟨pre ++ [(st, i + 1 - st)], i + 1, i + 1, ?_, Nat.le_refl _, by omega, by go_num, by go_num, GB.out, HB1.out, HJ1.out⟩
            rw [HPRE.out, List.append_assoc]; rfl
          case measure => simp [intOf]; omega
        · have HX1 := Lib.hid hx1
          clear hx1 hyy1 hR1
          gi_wp2_with (fail)
          refine bodyPost_ret (results_none rfl _ _ _) rfl ?_
          exact ⟨⟨_, rfl⟩, .inr ⟨_, ⟨_, by rw [HPRE.out, List.append_assoc]; rfl⟩, HX1.out⟩⟩
      · rw [if_neg h9] at hpre
        have h9' : ((kd : Int) != 9) = true := by rw [bne_iff_ne]; omega
        have HPRE := Lib.hid hpre
        clear hpre hgc h9
        gi_wp2_with (fail)
        go_roundw
        case rel =>
          have hws := HBK.out.size
          exact ⟨pre, i + 1, st, HPRE.out, by omega, by omega, rfl, by go_num, (Lib.alloc_old wr _ B (Array.getElem?_eq_some_iff.1 G0.out).1).trans G0.out, HBK.out.trans ((below_alloc _ _).mono (Nat.le_trans hK hws)), HJ.out _ _ _ HJP.out (Mod.of_below (below_alloc _ _))⟩
        case measure => simp [intOf]; omega
    · obtain rfl : i = l.length := by omega
      rw [List.drop_length] at hpre
      simp only [pcsF] at hpre
      by_cases hs : st < l.length
      · obtain ⟨rfl, hgb, hgc⟩ := HROW.out (by intro e; simp [e] at hs)
        rw [if_pos hs] at hpre
        have hs' : (st : Int) < l.length := by omega
        have HPRE := Lib.hid hpre
        obtain ⟨fn1, tm1, as1, bo1, hyy1, hR1⟩ := HY.out pre (st, l.length - st) _ HJP.out ⟨_, HPRE.out⟩
        clear hpre hgc
        gi_wp2_with (fail)
        refine ⟨(fun hh => by cases hh), hR1.mono ?_⟩
        rintro e W1 (⟨rfl, hJ1, hk1⟩ | ⟨rfl, hx1⟩)
        · have HJ1 := Lib.hid hJ1
          clear hk1 hJ1 hyy1 hR1
          gi_wp2_with (fail)
          go_end0
          exact ⟨⟨_, rfl⟩, .inl ⟨_, HPRE.out.symm, HJ1.out⟩⟩
        · have HX1 := Lib.hid hx1
          clear hx1 hyy1 hR1
          gi_wp2_with (fail)
          go_end0
          exact ⟨⟨_, rfl⟩, .inr ⟨_, ⟨[], by rw [HPRE.out, List.append_nil]⟩, HX1.out⟩⟩
      · rw [if_neg hs, List.append_nil] at hpre
        have hs' : ¬ (st : Int) < l.length := by omega
        have HP := Lib.hid hpre
        clear hpre
        gi_wp2_with (fail)
        go_end0
        exact ⟨⟨_, rfl⟩, .inl (by rw [HP.out]; exact HJP.out)⟩
end Go.Proofs.YtbnhefibpjldfaaGreatDoor

/- PwY -/
namespace Go.Proofs.YtbnhefibpjldfaaGreatDoor
open Go.RowKit Go.BigFrame Go.Shelf
set_option linter.unusedVariables false

theorem last_cases {α : Type} (l : List α) : l = [] ∨ ∃ d c, l = d ++ [c] := by
  rcases List.eq_nil_or_concat l with h | ⟨d, c, h⟩
  · exact .inl h
  · exact .inr ⟨d, c, by simpa using h⟩
theorem sum_prefix : ∀ (a b : List Nat), a.sum ≤ (a ++ b).sum
  | a, b => by rw [List.sum_append]; omega
theorem addRow_sum (rows : List Rw) (line : List Tk) : ((addRow rows line).map (·.toks.length)).sum = (rows.map (·.toks.length)).sum + line.length := by
  rcases last_cases rows with rfl | ⟨d, x, rfl⟩
  · simp [addRow]
  · unfold addRow
    simp only [List.getLast?_append, List.getLast?_singleton, Option.some_or]
    split
    · simp; omega
    · simp; omega
theorem addRow_len (rows : List Rw) (line : List Tk) : (addRow rows line).length ≤ rows.length + 1 := by
  rcases last_cases rows with rfl | ⟨d, x, rfl⟩
  · simp [addRow]
  · unfold addRow
    simp only [List.getLast?_append, List.getLast?_singleton, Option.some_or]
    split <;> simp
theorem foldl_rows : ∀ (ls : List (List Tk)) (rows : List Rw), ((ls.foldl addRow rows).map (·.toks.length)).sum = (rows.map (·.toks.length)).sum + (ls.map (·.length)).sum ∧ (ls.foldl addRow rows).length ≤ rows.length + ls.length
  | [], rows => by simp
  | x :: ls, rows => by
    obtain ⟨h1, h2⟩ := foldl_rows ls (addRow rows x)
    have h3 := addRow_sum rows x
    have h4 := addRow_len rows x
    simp only [List.foldl_cons, List.map_cons, List.sum_cons, List.length_cons]
    exact ⟨by omega, by omega⟩
theorem pcsF_sum : ∀ (r : List Tk) (st i : Nat), st ≤ i → ((pcsF st i r).map (·.2)).sum = i - st + r.length ∧ (pcsF st i r).length ≤ i - st + r.length
  | [], st, i, h => by
    simp only [pcsF]
    split
    · simp; omega
    · simp; omega
  | t :: r, st, i, h => by
    simp only [pcsF]
    split
    · obtain ⟨h1, h2⟩ := pcsF_sum r (i + 1) (i + 1) (Nat.le_refl _)
      simp only [List.map_cons, List.sum_cons, List.length_cons]
      exact ⟨by omega, by omega⟩
    · obtain ⟨h1, h2⟩ := pcsF_sum r st (i + 1) (by omega)
      exact ⟨by rw [h1]; simp; omega, by simp; omega⟩
/-- A row, and the value of its tokens. -/
abbrev Rv := Rw × Value
def rvC (p : Rv) : List Value := [.bool p.1.dir, .string (str p.1.name), p.2]
theorem rvC_len (p : Rv) : (rvC p).length = 3 := rfl
def runOf (L : List Rv) : Bool := match L.getLast? with | some x => !x.1.dir | none => false
/-- The rows lie at the box p; each row's tokens are its own, the last one's from D on. -/
structure RwS (B D p : Nat) (lv : Value) (l : List Rv) (w : World) : Prop where
  hd : w.heap[p]? = some (.cells #[lv] 47 (0, 0))
  row : w.ownsRow B 78 3 lv l.length (l.flatMap rvC)
  old : ∀ c ∈ l.dropLast, w.ownsRow B 40 5 c.2 c.1.toks.length (c.1.toks.flatMap tkC) ∧ ∀ k, c.2.ownBlock = some k → k < D
  new : ∀ c, l.getLast? = some c → w.ownsRow D 40 5 c.2 c.1.toks.length (c.1.toks.flatMap tkC)
  leB : B ≤ D
  leD : D ≤ w.heap.size
  leP : B ≤ p
/-- A change of rows' cells. -/
def T430 (t : TypeId) : Bool := t == 4 || t == 30
structure RC (B : Nat) (w w' : World) : Prop where
  kf : ∀ X, KeepsFrom X w w'
  kt : KT T430 w w'
  bel : B ≤ w.heap.size → Below B w w'
theorem RC.trans {B : Nat} {a b c : World} (h : RC B a b) (k : RC B b c) : RC B a c := ⟨fun X => (h.kf X).trans (k.kf X), h.kt.trans k.kt, fun x => (h.bel x).trans (k.bel (Nat.le_trans x h.kt.1))⟩
theorem RC.of_below {B : Nat} {w w' : World} (h : Below w.heap.size w w') : RC B w w' := ⟨fun X => ⟨h.size, fun k o _ hk _ => heap_below h hk (Array.getElem?_eq_some_iff.1 hk).1⟩, KT.of_below h, fun x => h.mono x⟩
theorem RC.mod {B : Nat} {w w' : World} {S : Nat → Prop} (hm : Mod S w w') (hS : ∀ k, S k → B ≤ k ∧ ∃ c t, w.heap[k]? = some (.cells c t (0, 0)) ∧ T430 t = false) : RC B w w' :=
  ⟨fun X => ⟨hm.size, fun k o _ hk ho => hm.keep hk (fun hs => by
    obtain ⟨_, c, t, q, _⟩ := hS k hs
    rw [hk] at q
    cases q
    cases ho)⟩, ⟨hm.size, fun k cs t fz ht hk => hm.keep hk (fun hs => by
    obtain ⟨_, c, t', q, q2⟩ := hS k hs
    rw [hk] at q
    cases q
    rw [q2] at ht
    cases ht)⟩, fun x => hm.below x (fun k hk => (hS k hk).1)⟩
theorem RC.kb {B K : Nat} {w w' : World} (h : RC B w w') (hK : K ≤ B) (hB : B ≤ w.heap.size) : KB T30 K w w' :=
  ⟨⟨h.kt.1, fun k cs t fz ht hk => h.kt.2 k cs t fz (by simp only [T30, beq_iff_eq] at ht; subst ht; rfl) hk⟩, fun _ => (h.bel hB).mono hK⟩
theorem RwS.nc {B D p : Nat} {lv : Value} {l : List Rv} {w w' : World} {S : Nat → Prop} (h : RwS B D p lv l w) (hm : Mod (fun k => S k ∧ YtbnhefibpjldfaaGreatDoor.nc w k) w w') : RwS B D p lv l w' :=
  ⟨hm.keep h.hd (fun hs => not_nc h.hd hs.2), own_nc h.row hm, fun c hc => ⟨own_nc (h.old c hc).1 hm, (h.old c hc).2⟩, fun c hc => own_nc (h.new c hc) hm, h.leB, Nat.le_trans h.leD hm.size, h.leP⟩
theorem RwS.on {B D p : Nat} {lv : Value} {l : List Rv} {w w' : World} (h : RwS B D p lv l w) (hb : Below w.heap.size w w') : RwS B D p lv l w' :=
  ⟨heap_below hb h.hd (Array.getElem?_eq_some_iff.1 h.hd).1, own_on h.row hb, fun c hc => ⟨own_on (h.old c hc).1 hb, (h.old c hc).2⟩, fun c hc => own_on (h.new c hc) hb, h.leB, Nat.le_trans h.leD hb.size, h.leP⟩
theorem rv_flat (d : List Rv) (c : Rv) : ((d ++ [c]).flatMap rvC)[d.length * 3]? = some (.bool c.1.dir) ∧ ((d ++ [c]).flatMap rvC)[d.length * 3 + 1]? = some (.string (str c.1.name)) ∧ ((d ++ [c]).flatMap rvC)[d.length * 3 + 2]? = some c.2 := by
  have h0 := flat_get 3 rvC rvC_len (d ++ [c]) d.length 0 (by simp) (by omega)
  have h1 := flat_get 3 rvC rvC_len (d ++ [c]) d.length 1 (by simp) (by omega)
  have h2 := flat_get 3 rvC rvC_len (d ++ [c]) d.length 2 (by simp) (by omega)
  rw [show (d ++ [c])[d.length]'(by simp) = c from by simp] at h0 h1 h2
  exact ⟨h0, h1, h2⟩
/-- The last row's cells. -/
theorem RwS.last {B D p : Nat} {lv : Value} {d : List Rv} {c : Rv} {w : World} (h : RwS B D p lv (d ++ [c]) w) :
    ∃ G cap, lv = .slice (some ⟨G, 0, none⟩) (d.length + 1) cap ∧ B ≤ G ∧ w.cell? ⟨G, d.length * 3 + 2, none⟩ = some c.2 ∧ w.frozen? ⟨G, d.length * 3 + 2, none⟩ = false := by
  have hl : (d ++ [c]).length = d.length + 1 := by simp
  have hrow := h.row
  rw [hl] at hrow
  rcases hrow.2 with ⟨_, h2⟩ | ⟨G, cap, cur, rfl, hb, hg, _⟩
  · omega
  · obtain ⟨_, _, e2⟩ := rv_flat d c
    exact ⟨G, cap, rfl, hb, by rw [hrow.cellAt _ (by omega), e2], Lib.frozen_of_heap hg _⟩
theorem rv_set (d : List Rv) (c : Rv) (ts : List Tk) (u : Value) : ((d ++ [c]).flatMap rvC).set (d.length * 3 + 2) u = (d ++ [(({ c.1 with toks := ts }, u) : Rv)]).flatMap rvC := by
  rw [List.flatMap_append, List.flatMap_append, List.set_append, if_neg (by rw [flat_len 3 rvC rvC_len]; omega), flat_len 3 rvC rvC_len]
  rw [show d.length * 3 + 2 - d.length * 3 = 2 from by omega]
  simp [rvC]
theorem other_row {w w' : World} {X e size n : Nat} {v lv : Value} {xs : List Value} {B t m sz : Nat} {ys : List Value} (h : w.ownsRow X e size v n xs) (hl : w.ownsRow B t sz lv m ys) (he : e ≠ t) (hg : w.grownBy w' lv.ownBlock) : w'.ownsRow X e size v n xs :=
  ownsRow_mod (S := fun k => lv.ownBlock = some k) h ⟨hg.os, hg.tape, hg.output, hg.size, fun k hk hn => hg.block k hk (fun e => hn e.symm)⟩ (fun k hk hs => by
    obtain ⟨_, c1, h1⟩ := row_cells h hk
    obtain ⟨_, c2, h2⟩ := row_cells hl hs
    rw [h1] at h2
    simp only [Option.some.injEq, Obj.cells.injEq] at h2
    exact he h2.2.1)
theorem other_block {w w' : World} {k : Nat} {cs : Array Value} {e : TypeId} {lv : Value} {B t m sz : Nat} {ys : List Value} (h : w.heap[k]? = some (.cells cs e (0, 0))) (hl : w.ownsRow B t sz lv m ys) (he : e ≠ t) (hg : w.grownBy w' lv.ownBlock) : w'.heap[k]? = some (.cells cs e (0, 0)) := by
  rw [hg.block k (Array.getElem?_eq_some_iff.1 h).1 (fun hs => by
    obtain ⟨_, c2, h2⟩ := row_cells hl hs.symm
    rw [h] at h2
    simp only [Option.some.injEq, Obj.cells.injEq] at h2
    exact he h2.2.1)]
  exact h
/-- A line is put behind the last row's tokens. -/
theorem RwS.grow {B D p G cap : Nat} {v' : Value} {d : List Rv} {c : Rv} {ts : List Tk} {w w2 : World}
    (h : RwS B D p (.slice (some ⟨G, 0, none⟩) (d.length + 1) cap) (d ++ [c]) w) (hg : w.grownBy w2 c.2.ownBlock)
    (hown : w2.ownsRow D 40 5 v' ts.length (ts.flatMap tkC)) :
    RwS B D p (.slice (some ⟨G, 0, none⟩) (d.length + 1) cap) (d ++ [({ c.1 with toks := ts }, v')]) (w2.setCell ⟨G, d.length * 3 + 2, none⟩ v') ∧ RC B w (w2.setCell ⟨G, d.length * 3 + 2, none⟩ v') := by
  have hc := h.new c (by simp)
  have hl : (d ++ [c]).length = d.length + 1 := by simp
  have hrow := other_row h.row hc (by decide) hg
  rw [hl] at hrow
  obtain ⟨hBG, cur, hG⟩ := row_cells hrow rfl
  have hrow0 := h.row
  rw [hl] at hrow0
  obtain ⟨_, cur0, hG0⟩ := row_cells hrow0 rfl
  have hhd := other_block h.hd hc (by decide) hg
  have hm : Mod (fun k => k = G) w2 (w2.setCell ⟨G, d.length * 3 + 2, none⟩ v') := Mod.setCell (S := fun k => k = G) (Mod.refl _ w2) ⟨G, d.length * 3 + 2, none⟩ (.inr rfl) _
  have key : ∀ {X e size n : Nat} {v : Value} {xs : List Value}, e ≠ 78 → w2.ownsRow X e size v n xs → (w2.setCell ⟨G, d.length * 3 + 2, none⟩ v').ownsRow X e size v n xs := fun he hx =>
    ownsRow_mod hx hm (fun k hk hkr => by
      subst hkr
      obtain ⟨_, cur', hc'⟩ := row_cells hx hk
      rw [hG] at hc'
      simp only [Option.some.injEq, Obj.cells.injEq] at hc'
      exact he hc'.2.1.symm)
  have hst := (hrow.stored (d.length * 3 + 2) v').1
  rw [rv_set d c ts v'] at hst
  have hmg : Mod (fun k => c.2.ownBlock = some k) w w2 := ⟨hg.os, hg.tape, hg.output, hg.size, fun k hk hn => hg.block k hk (fun e => hn e.symm)⟩
  refine ⟨⟨hm.keep hhd (fun e => ?_), by simpa using hst, fun c' hc' => ?_, fun c' hc' => ?_, h.leB, by have := hg.size; have := h.leD; simp; omega, h.leP⟩, RC.mod (S := fun k => c.2.ownBlock = some k ∨ k = G) ((hmg.mono (fun k _ hk => .inl hk)).trans (hm.mono (fun k _ hk => .inr hk))) (fun k hk => ?_)⟩
  · subst e
    rw [hG] at hhd
    simp at hhd
  · rw [List.dropLast_concat] at hc'
    obtain ⟨h1, h2⟩ := h.old c' (by rw [List.dropLast_concat]; exact hc')
    refine ⟨key (by decide) (ownsRow_mod (S := fun k => c.2.ownBlock = some k) h1 hmg (fun k hk hs => ?_)), h2⟩
    have := h2 k hk
    have := (row_cells hc hs).1
    omega
  · have : c' = ({ c.1 with toks := ts }, v') := by simpa using hc'.symm
    subst this
    exact key (by decide) hown
  · rcases hk with hk | rfl
    · obtain ⟨q1, q2, q3⟩ := row_cells hc hk
      exact ⟨Nat.le_trans h.leB q1, _, _, q3, rfl⟩
    · exact ⟨hBG, _, _, hG0, rfl⟩
/-- A row is pushed. -/
theorem RwS.push {B D p : Nat} {lv v' u : Value} {l : List Rv} {r : Rw} {w w1 w2 : World} (h : RwS B D p lv l w) (hb : Below w.heap.size w w1) (hg : w1.grownBy w2 lv.ownBlock)
    (hown : w2.ownsRow B 78 3 v' (l.length + 1) (l.flatMap rvC ++ rvC (r, u))) (hu : w1.ownsRow w.heap.size 40 5 u r.toks.length (r.toks.flatMap tkC)) :
    RwS B w.heap.size p v' (l ++ [(r, u)]) (w2.setCell ⟨p, 0, none⟩ v') ∧ RC B w (w2.setCell ⟨p, 0, none⟩ v') := by
  have h1 := h.on hb
  have hhd := other_block h1.hd h1.row (by decide) hg
  have hm : Mod (fun k => k = p) w2 (w2.setCell ⟨p, 0, none⟩ v') := Mod.setCell (S := fun k => k = p) (Mod.refl _ w2) ⟨p, 0, none⟩ (.inr rfl) v'
  have key : ∀ {X e size n : Nat} {v : Value} {xs : List Value}, e ≠ 47 → w2.ownsRow X e size v n xs → (w2.setCell ⟨p, 0, none⟩ v').ownsRow X e size v n xs := fun he hx =>
    ownsRow_mod hx hm (fun k hk hkr => by
      subst hkr
      obtain ⟨_, cur, hc⟩ := row_cells hx hk
      rw [hhd] at hc
      simp only [Option.some.injEq, Obj.cells.injEq] at hc
      exact he hc.2.1.symm)
  have hmg : Mod (fun k => lv.ownBlock = some k) w1 w2 := ⟨hg.os, hg.tape, hg.output, hg.size, fun k hk hn => hg.block k hk (fun e => hn e.symm)⟩
  have hs1 := hb.size
  have hs2 := hg.size
  refine ⟨⟨by simpa using heap_setCell_same w2 p 0 _ _ v' hhd, ?_, fun c hc => ?_, fun c hc => ?_, Nat.le_trans h.leB h.leD, by simp; omega, h.leP⟩, (RC.of_below hb).trans (RC.mod (S := fun k => lv.ownBlock = some k ∨ k = p) ((hmg.mono (fun k _ hk => .inl hk)).trans (hm.mono (fun k _ hk => .inr hk))) (fun k hk => ?_))⟩
  · have := key (by decide) hown
    simpa [rvC] using this
  · rw [List.dropLast_concat] at hc
    rcases last_cases l with rfl | ⟨d, x, rfl⟩
    · cases hc
    · rcases List.mem_append.1 hc with hc | hc
      · obtain ⟨q1, q2⟩ := h1.old c (by rw [List.dropLast_concat]; exact hc)
        exact ⟨key (by decide) (other_row q1 h1.row (by decide) hg), fun k hk => by have := q2 k hk; have := h.leD; omega⟩
      · rw [List.mem_singleton] at hc
        subst hc
        have q1 := h1.new c (by simp)
        refine ⟨key (by decide) (other_row (own_base q1 h.leB) h1.row (by decide) hg), fun k hk => ?_⟩
        obtain ⟨_, cur, hc⟩ := row_cells (h.new c (by simp)) hk
        exact (Array.getElem?_eq_some_iff.1 hc).1
  · have : c = (r, u) := by simpa using hc.symm
    subst this
    exact key (by decide) (other_row hu h1.row (by decide) hg)
  · rcases hk with hk | rfl
    · obtain ⟨q1, q2, q3⟩ := row_cells h1.row hk
      exact ⟨q1, _, _, q3, rfl⟩
    · exact ⟨h.leP, _, _, h1.hd, rfl⟩
end Go.Proofs.YtbnhefibpjldfaaGreatDoor

/- PwZ -/
namespace Go.Proofs.YtbnhefibpjldfaaGreatDoor
open Go.RowKit Go.BigFrame Go.Shelf
set_option linter.unusedVariables false
attribute [local go_sem] Oper.semAt_some

def rowsOf (l : List Tk) (pre : List (Nat × Nat)) : List Rw := (pre.map (fun x => (l.drop x.1).take x.2)).foldl addRow []
theorem rowsOf_sum (l : List Tk) (pre : List (Nat × Nat)) (h : ∀ p ∈ pre, p.1 + p.2 ≤ l.length) : ((rowsOf l pre).map (·.toks.length)).sum = (pre.map (·.2)).sum ∧ (rowsOf l pre).length ≤ pre.length := by
  obtain ⟨h1, h2⟩ := foldl_rows (pre.map (fun x => (l.drop x.1).take x.2)) []
  unfold rowsOf
  refine ⟨?_, by simpa using h2⟩
  rw [h1, List.map_map]
  simp only [List.map_nil, List.sum_nil, Nat.zero_add]
  congr 1
  refine List.map_congr_left fun p hp => ?_
  have := h p hp
  simp; omega
/-- What Rows' loop keeps. -/
def RwI (w : World) (l : List Tk) (pre : List (Nat × Nat)) (W : World) : Prop :=
  ∃ D lv L, RwS w.heap.size D w.heap.size lv L W ∧ L.map (·.1) = rowsOf l pre ∧ W.heap[w.heap.size + 1]? = some (.cells #[.bool (runOf L)] 4 (0, 0)) ∧ Below w.heap.size w W
/-- Rows, read. -/
def RowsV (w : World) (v : Value) (rows : List Rw) : Prop := ∃ L : List Rv, L.map (·.1) = rows ∧ SlV 3 rvC w v L ∧ ∀ p ∈ L, SlV 5 tkC w p.2 p.1.toks
def RowsPost (l : List Tk) (w : World) (e : Ending) (w' : World) : Prop := ∃ v, e = .returned v ∧ RowsV w' v (rowsP l) ∧ Below w.heap.size w w'
theorem RwS.rv {B D p : Nat} {lv : Value} {l : List Rv} {w : World} (h : RwS B D p lv l w) : RowsV w lv (l.map (·.1)) := by
  refine ⟨l, rfl, SlV.of rvC_len h.row rfl, fun c hc => ?_⟩
  rcases last_cases l with rfl | ⟨d, x, rfl⟩
  · cases hc
  · rcases List.mem_append.1 hc with hc | hc
    · exact SlV.of tkC_len (h.old c (by rw [List.dropLast_concat]; exact hc)).1 rfl
    · rw [List.mem_singleton] at hc
      subst hc
      exact SlV.of tkC_len (h.new c (by simp)) rfl
theorem runOf_true {L : List Rv} (h : runOf L = true) : ∃ d x, L = d ++ [x] ∧ x.1.dir = false := by
  rcases last_cases L with rfl | ⟨d, x, rfl⟩
  · cases h
  · exact ⟨d, x, rfl, by simpa [runOf] using h⟩
theorem addRow_push {L : List Rv} {line : List Tk} {nm : Bs} {is : Bool} (hd : dirP false line = (nm, is)) (h : is = true ∨ runOf L = false) : addRow (L.map (·.1)) line = L.map (·.1) ++ [⟨is, nm, line⟩] := by
  unfold addRow
  rw [hd]
  rcases last_cases L with rfl | ⟨d, x, rfl⟩
  · rfl
  · simp only [List.map_append, List.map_cons, List.map_nil, List.getLast?_append, List.getLast?_singleton, Option.some_or]
    rw [if_neg]
    rintro ⟨h1, h2⟩
    rcases h with h | h
    · rw [h] at h2; cases h2
    · simp [runOf, h1] at h
theorem addRow_grow {d : List Rv} {x : Rv} {line : List Tk} {nm : Bs} (hd : dirP false line = (nm, false)) (h : x.1.dir = false) (v : Value) : addRow ((d ++ [x]).map (·.1)) line = (d ++ [(({ x.1 with toks := x.1.toks ++ line }, v) : Rv)]).map (·.1) := by
  unfold addRow
  rw [hd]
  simp [h]
theorem RwS.other {B D p b : Nat} {lv : Value} {l : List Rv} {w : World} {c : Array Value} (h : RwS B D p lv l w) (hb : w.heap[b]? = some (.cells c 4 (0, 0))) (i : Nat) (u : Value) : RwS B D p lv l (w.setCell ⟨b, i, none⟩ u) := by
  have hm : Mod (fun k => k = b) w (w.setCell ⟨b, i, none⟩ u) := Mod.setCell (Mod.refl (fun k => k = b) w) ⟨b, i, none⟩ (.inr rfl) u
  refine ⟨hm.keep h.hd (fun e => ?_), own_set h.row hb (by decide) i u, fun c hc => ⟨own_set (h.old c hc).1 hb (by decide) i u, (h.old c hc).2⟩, fun c hc => own_set (h.new c hc) hb (by decide) i u, h.leB, Nat.le_trans h.leD hm.size, h.leP⟩
  rw [← e, h.hd] at hb
  simp at hb
/-- What the operations that push a row leave. -/
def rwSt (B : Nat) (lv : Value) (is : Bool) (nm : Bs) (lnv : Value) (line : List Tk) (i : Nat) (v : Value) (w : World) : Prop :=
  match i with
  | 0 => v = lv
  | 1 => v = .bool is
  | 2 => v = .string (str nm)
  | 3 => v = lnv
  | 4 => w.ownsRow B 40 5 v line.length (line.flatMap tkC)
  | 5 => ∃ x, v = .agg #[.bool is, .string (str nm), x] ∧ w.ownsRow B 40 5 x line.length (line.flatMap tkC)
  | _ => ∃ x g, v = .slice (some ⟨g, 0, none⟩) 1 1 ∧ w.heap[g]? = some (.cells #[.bool is, .string (str nm), x] 78 (0, 0)) ∧ w.ownsRow B 40 5 x line.length (line.flatMap tkC)
theorem rwSt_mono (B : Nat) (lv : Value) (is : Bool) (nm : Bs) (lnv : Value) (line : List Tk) : ∀ i v w w', Below w.heap.size w w' → rwSt B lv is nm lnv line i v w → rwSt B lv is nm lnv line i v w' := fun i v w w' hb h => by
  match i, h with
  | 0, h => exact h
  | 1, h => exact h
  | 2, h => exact h
  | 3, h => exact h
  | 4, h => exact own_on h hb
  | 5, ⟨x, h1, h2⟩ => exact ⟨x, h1, own_on h2 hb⟩
  | n + 6, ⟨x, g, h1, h2, h3⟩ => exact ⟨x, g, h1, heap_below hb h2 (Array.getElem?_eq_some_iff.1 h2).1, own_on h3 hb⟩
theorem info78 : (Tryz.prog.info? 78).map (fun i => (i.zero, i.size, i.bytes)) = some (some (.agg #[.bool false, .string ⟨#[]⟩, .slice none 0 0]), 3, 48) := by kernel_rfl
theorem wpListIn_append_rows {F : Fence} {nn : Nat} {P : Program} {w : World} {ops : Array Oper} {rest : List Oper} {o : Oper} {a : Act} {Q : Exit → Act → World → Prop} {α : Type} (f : α → List Value) (hgd : o.guard = none) (s x : Operand) (t : TypeId)
    (ho : o.op = .call { callee := .builtin .append, args := #[s, x], argTypes := #[t, t] })
    (base : Nat) (e : TypeId) (i : TypeInfo) (z : Value) (size bytes : Nat) (ht : P.underlying t = some (.slice e)) (hi : P.info? e = some i) (hz : i.zero = some z)
    (hsize : i.size = size) (hby : i.bytes = bytes) (hzs : z.cells.size = size) (hsz : 0 < size) (hf : ∀ g, (f g).length = size) (hf1 : ∀ g, ∀ u ∈ f g, u.oneCell' = true)
    (v : Value) (n : Nat) (xs : List Value) (hs : a.eval s = v) (hown : w.ownsRow base e size v n xs)
    (ad : Addr) (l : List α) (c : Nat) (hx : a.eval x = .slice (some ad) l.length c) (hr : RowAt size f w (some ad) l)
    (h63 : n + l.length ≤ maxLen) (hbytes : (n + l.length) * bytes ≤ 140737488355328) (hbase : base ≤ w.heap.size)
    (h : ∀ v' w', w'.ownsRow base e size v' (n + l.length) (xs ++ l.flatMap f) → w.grownBy w' v.ownBlock → wpListIn F nn P ops Q rest (a.put o.dst v') w') : wpListIn F nn P ops Q (o :: rest) a w := by
  refine wpListIn_append_own _ hgd s x t ho base e i z size bytes ht hi hz hsize hby hzs hsz v n xs hs hown ad l.length c (l.flatMap f) hx (flat_len size f hf l) (fun j u hj => ?_) (fun u hu => ?_) h63 hbytes hbase (fun v' w' h1 h2 _ => h v' w' h1 h2)
  · rcases hr with rfl | ⟨b, off, hab, _, hc⟩
    · simp at hj
    · cases hab
      rw [addr_add']
      exact flat_at size f hf w b l off hc j u hj
  · obtain ⟨g, hg, hu⟩ := List.mem_flatMap.1 hu
    exact hf1 g u hu
set_option maxRecDepth 100000 in
set_option maxHeartbeats 8000000 in
theorem Ls.rows (a : Option Addr) (c : Nat) (l : List Tk) (w : World) (hv : SlV 5 tkC w (.slice a l.length c) l) (hcm : c ≤ maxLen) (hl : l.length ≤ 1000000000) : Calls Tryz.prog 17 #[.slice a l.length c] w (RowsPost l w) := by
  obtain ⟨a', c', he, hlc, hnil, hrow⟩ := hv
  simp only [Value.slice.injEq, true_and] at he
  obtain ⟨rfl, rfl⟩ := he
  obtain ⟨i0, hi, hz0, hz1, hz2⟩ := info_parts info40
  obtain ⟨i1, hj, hy0, hy1, hy2⟩ := info_parts info78
  have HI := Lib.hid hi
  have HZ0 := Lib.hid hz0
  have HZ1 := Lib.hid hz1
  have HZ2 := Lib.hid hz2
  have HJ := Lib.hid hj
  have HY0 := Lib.hid hy0
  have HY1 := Lib.hid hy1
  have HY2 := Lib.hid hy2
  have HROW := Lib.hid hrow
  have HNIL := Lib.hid hnil
  clear hi hz0 hz1 hz2 hj hy0 hy1 hy2 hrow hnil
  refine (callsIn_wide (n := 5)).1 ?_
  refine callsIn_of_wp_marks Tryz.func17 rfl trivial ?_ rfl
  simp only [Tryz.ntmps17, List.size_toArray, List.length_cons, List.length_nil, Nat.reduceAdd, Nat.reduceSub, Array.replicate_succ, Array.replicate_zero, List.push_toArray, List.append_toArray, List.nil_append, List.cons_append]
  gi_wp2_with (fail)
  refine ⟨trivial, ?_⟩
  obtain ⟨gb, go, hgc⟩ : ∃ gb go : Nat, l ≠ [] → a = some ⟨gb, go, none⟩ ∧ gb < w.heap.size ∧ ∀ i (h : i < l.length), CellsAt w gb (go + i * 5) (tkC l[i]) := by
    by_cases h : l = []
    · exact ⟨0, 0, fun k => absurd h k⟩
    · obtain ⟨gb, go, h1, h2, h3⟩ := HROW.out.at h
      exact ⟨gb, go, fun _ => ⟨h1, h2, h3⟩⟩
  obtain ⟨W0, hW0⟩ : ∃ W0, W0 = ((w.alloc (.cells #[.slice none 0 0] 47)).alloc (.cells #[.bool false] 4)).alloc (.cells #[.slice a l.length c] 30) := ⟨_, rfl⟩
  have hs0 : W0.heap.size = w.heap.size + 3 := by rw [hW0]; simp
  have hb0 : Below w.heap.size w W0 := by rw [hW0]; exact (((Below.refl _ _).alloc (Nat.le_refl _) _).alloc (by simp) _).alloc (by simp; omega) _
  have e0 : W0.heap[w.heap.size]? = some (.cells #[.slice none 0 0] 47 (0, 0)) := by
    rw [hW0]; exact heap_alloc_old' _ (heap_alloc_old' _ (heap_alloc_new _ _))
  have e1 : W0.heap[w.heap.size + 1]? = some (.cells #[.bool false] 4 (0, 0)) := by
    have := heap_alloc_new (w.alloc (.cells #[.slice none 0 0] 47)) (.cells #[.bool false] 4)
    rw [hW0]; exact heap_alloc_old' _ (by simpa using this)
  have e2 : W0.heap[w.heap.size + 2]? = some (.cells #[.slice a l.length c] 30 (0, 0)) := by
    have := heap_alloc_new ((w.alloc (.cells #[.slice none 0 0] 47)).alloc (.cells #[.bool false] 4)) (.cells #[.slice a l.length c] 30)
    rw [hW0]; simpa using this
  have hseq := Ls.seq 4 (w.heap.size + 2) w.heap.size gb go c l a W0 e2 hl hlc hcm (by omega) (fun h => by
    obtain ⟨q1, q2, q3⟩ := hgc h
    exact ⟨q1, q2, fun i hi => (q3 i hi).below hb0 q2⟩)
  have hI0 : RwI w l [] W0 := ⟨w.heap.size, .slice none 0 0, [], ⟨e0, World.ownsRow_nil _ _ _ _, fun c hc => (by cases hc), fun c hc => (by cases hc), Nat.le_refl _, by omega, Nat.le_refl _⟩, rfl, e1, hb0⟩
  have HSEQ := Lib.hid hseq
  have HS0 := Lib.hid hs0
  have HI0 := Lib.hid hI0
  have HW0 := Lib.hid hW0
  have HGC := Lib.hid hgc
  clear hW0 hs0 hb0 e0 e1 e2 hseq hI0 hgc HROW HNIL
  refine (callsIn_wide.2 (Ls.pieces a l.length c _)).mono ?_
  rintro e w2 ⟨rfl, rfl⟩
  rw [← HW0.out]
  gi_wp2_with (fail)
  refine wpIn_rangeFunc_asg rfl (by omega) (gf := 78) (lb := #[.pointer (some ⟨w.heap.size + 1 + 1, 0, none⟩)]) rfl trivial (enters_of Tryz.func78 (by kernel_rfl) rfl)
    HSEQ.out (fun k hk => hk.elim) (fun h k => h.trans k) (fun W l o o' hl hW ho _ => KB.putObj (by have := HS0.out; omega) hW ho) (Below.refl _ _) (fun _ => rfl)
    (RwI w l) (fun _ _ _ => False)
    (fun t A B ⟨D, lv, L, h1, h2, h3, h4⟩ hm => by
      have hs0 := HS0.out
      have hm' : Mod (fun k => W0.heap.size ≤ k ∧ nc A k) A B := hm.mono (fun k _ hk => hk.elim (fun h => h.elim) id)
      exact ⟨D, lv, L, h1.nc hm', h2, hm'.keep h3 (fun hk => by have := hk.1; omega), h4.trans (hm'.below (by have := h4.size; omega) (fun k hk => by have := hk.1; omega))⟩)
    (fun c t A B h _ => h)
    HI0.out
    (fun (x : Nat × Nat) a' W => a' = { tmps := #[.slice a l.length c, undef, .slice none 0 0, .pointer (some ⟨w.heap.size, 0, none⟩), .pointer (some ⟨w.heap.size + 1, 0, none⟩), .slice (some ⟨gb, go + x.1 * 5, none⟩) x.2 (c - x.1), undef, undef, undef, .slice a l.length c, .func (.func 78) #[] #[.pointer (some ⟨w.heap.size + 1 + 1, 0, none⟩)], .slice (some ⟨gb, go + x.1 * 5, none⟩) x.2 (c - x.1), undef, undef, undef, undef, undef, undef, undef, undef, undef, undef, undef, undef, undef, undef, undef, undef, undef, undef, undef, undef, undef, undef, undef, undef, undef, undef, undef, undef, undef, undef, undef, undef, undef, undef, undef], defers := [] })
    (fun h => KB.of_below h)
    (fun p a' W l o o' hl ho ha => ha)
    ?assign ?body ?done ?stop
  case assign =>
    intro L z W K hK
    gi_wp2
    exact hK _ _ (Below.refl _ _) rfl
  case body =>
    rintro L0 pre ⟨st, n⟩ a' W ⟨D, lv, L, hst, hL, hrun, hbW⟩ ⟨r, hr⟩ rfl
    have hin := pcsF_in l l 0 0 (Nat.le_refl _) rfl (Nat.zero_le _) (st, n) (by show (st, n) ∈ pcs' l; rw [hr]; simp)
    simp only at hin
    have hsum : ((rowsOf l pre).map (·.toks.length)).sum + n ≤ l.length ∧ (rowsOf l pre).length + 1 ≤ l.length := by
      have h1 := pcsF_sum l 0 0 (Nat.le_refl _)
      have h2 := rowsOf_sum l pre (fun p hp => (pcsF_in l l 0 0 (Nat.le_refl _) rfl (Nat.zero_le _) p (by show p ∈ pcs' l; rw [hr]; simp [hp])).2)
      have hr' : pcsF 0 0 l = pre ++ (st, n) :: r := hr
      rw [hr'] at h1
      simp only [List.map_append, List.sum_append, List.map_cons, List.sum_cons, List.length_append, List.length_cons] at h1
      exact ⟨by omega, by omega⟩
    obtain ⟨rfl, hgb, hgc⟩ := HGC.out (by intro e; rw [e] at hin; simp at hin; omega)
    obtain ⟨line, hline⟩ : ∃ line, (l.drop st).take n = line := ⟨_, rfl⟩
    have hll : line.length = n := by rw [← hline]; simp; omega
    have hrl : RowAt 5 tkC W (some ⟨gb, go + st * 5, none⟩) line := by
      refine .inr ⟨gb, go + st * 5, rfl, by have := hbW.size; omega, fun i hi => ?_⟩
      have hin' : i < n := by rw [← hll]; exact hi
      have := (hgc (st + i) (by omega)).below hbW hgb
      rw [show go + st * 5 + i * 5 = go + (st + i) * 5 by rw [Nat.add_mul]; omega]
      have e : line[i] = l[st + i] := by simp only [← hline, List.getElem_take, List.getElem_drop]
      rw [e]
      exact this
    have hnext : rowsOf l (pre ++ [(st, n)]) = addRow (rowsOf l pre) line := by
      unfold rowsOf; rw [List.map_append, List.foldl_append, ← hline]; rfl
    subst hll
    obtain ⟨dp, hdp⟩ : ∃ dp, dirP false line = dp := ⟨_, rfl⟩
    obtain ⟨nm, is⟩ := dp
    have hdir := Ls.directive (some ⟨gb, go + st * 5, none⟩) (c - st) line W hrl (by omega)
    rw [hdp] at hdir
    simp only at hdir
    have c1 : ∀ u : Ext W, u.w.cell? ⟨w.heap.size + 1, 0, none⟩ = some (.bool (runOf L)) := fun u => u.cell (by simp [World.cell?, hrun])
    have HST := Lib.hid hst
    have HL := Lib.hid hL
    have HRUN := Lib.hid hrun
    have HBW := Lib.hid hbW
    have HSUM := Lib.hid hsum
    have HRL := Lib.hid hrl
    have HNX := Lib.hid hnext
    have HDP := Lib.hid hdp
    have HDIR := Lib.hid hdir
    clear hst hL hrun hbW hsum hrl hnext hdp hdir hr hline hgc
    gi_wp2_with (fail)
    refine ⟨trivial, ?_⟩
    refine (CallsIn.inRound _ (callsIn_wide.2 HDIR.out)).mono ?_
    rintro e w3 ⟨rfl, b3⟩
    have C1 := c1 ⟨w3, b3⟩
    simp only [Ext.w] at C1
    have h3 := HST.out.on b3
    have HS3 := Lib.hid h3
    have hs3 := b3.size
    have HB3 := Lib.hid b3
    have HRL3 := Lib.hid (HRL.out.below b3 (Nat.le_refl _) hs3)
    have HR3 := Lib.hid (heap_below b3 HRUN.out (Array.getElem?_eq_some_iff.1 HRUN.out).1)
    clear h3 b3 c1 HST HRL HDIR
    cases is
    · cases hro : runOf L
      · have C1' : w3.cell? ⟨w.heap.size + 1, 0, none⟩ = some (.bool false) := by rw [C1, hro]
        have HRO := Lib.hid hro
        clear C1 hro
        obtain ⟨la, lc, rfl⟩ := row_shape HS3.out.row
        have hbox : w3.cell? ⟨w.heap.size, 0, none⟩ = some (.slice la L.length lc) := by simp [World.cell?, HS3.out.hd]
        have C0 := Lib.hid (fun u : Ext w3 => u.cell hbox)
        have hLl : L.length < 1000000000 := by have := HSUM.out.2; rw [← HL.out, List.length_map] at this; omega
        have hw0 := HBW.out.size
        clear hbox
        gi_wp2_with (fail)
        refine wpIn_region_each_tail 7 (rwSt w3.heap.size (.slice la L.length lc) false nm (.slice (some ⟨gb, go + st * 5, none⟩) line.length (c - st)) line) (by kernel_rfl) (by kernel_rfl) (by kernel_rfl) (rwSt_mono _ _ _ _ _ _) ?_ ?_
        · intro i o ho v w5 hb5 hd K hK
          have hi : i < 7 := (List.getElem?_eq_some_iff.1 ho).1
          have HK := Lib.hid hK
          have HB5 := Lib.hid hb5
          clear hK
          have hi7 : i = 0 ∨ i = 1 ∨ i = 2 ∨ i = 3 ∨ i = 4 ∨ i = 5 ∨ i = 6 := by omega
          rcases hi7 with rfl | rfl | rfl | rfl | rfl | rfl | rfl
          · -- op 0
            have cf := C0.out ⟨w5, HB5.out⟩
            simp only [Ext.w] at cf
            cases ho
            try clear hd
            simp only [List.take_succ_cons, List.take_zero, putAll, Act.put, List.setIfInBounds_toArray, List.set_cons_succ, List.set_cons_zero, Nat.reduceAdd, Nat.zero_add]
            go_wp2_with fail
            have q := HK.out (.slice la L.length lc) w5 rfl (Below.refl _ _)
            simp only [List.take_succ_cons, List.take_zero, putAll, Act.put, List.setIfInBounds_toArray, List.set_cons_succ, List.set_cons_zero, Nat.reduceAdd, Nat.zero_add] at q
            exact q
          · -- op 1
            cases ho
            try clear hd
            simp only [List.take_succ_cons, List.take_zero, putAll, Act.put, List.setIfInBounds_toArray, List.set_cons_succ, List.set_cons_zero, Nat.reduceAdd, Nat.zero_add]
            go_wp2_with fail
            have q := HK.out (.bool false) w5 rfl (Below.refl _ _)
            simp only [List.take_succ_cons, List.take_zero, putAll, Act.put, List.setIfInBounds_toArray, List.set_cons_succ, List.set_cons_zero, Nat.reduceAdd, Nat.zero_add] at q
            exact q
          · -- op 2
            cases ho
            try clear hd
            simp only [List.take_succ_cons, List.take_zero, putAll, Act.put, List.setIfInBounds_toArray, List.set_cons_succ, List.set_cons_zero, Nat.reduceAdd, Nat.zero_add]
            go_wp2_with fail
            have q := HK.out (.string (str nm)) w5 rfl (Below.refl _ _)
            simp only [List.take_succ_cons, List.take_zero, putAll, Act.put, List.setIfInBounds_toArray, List.set_cons_succ, List.set_cons_zero, Nat.reduceAdd, Nat.zero_add] at q
            exact q
          · -- op 3
            cases ho
            try clear hd
            simp only [List.take_succ_cons, List.take_zero, putAll, Act.put, List.setIfInBounds_toArray, List.set_cons_succ, List.set_cons_zero, Nat.reduceAdd, Nat.zero_add]
            go_wp2_with fail
            have q := HK.out (.slice (some ⟨gb, go + st * 5, none⟩) line.length (c - st)) w5 rfl (Below.refl _ _)
            simp only [List.take_succ_cons, List.take_zero, putAll, Act.put, List.setIfInBounds_toArray, List.set_cons_succ, List.set_cons_zero, Nat.reduceAdd, Nat.zero_add] at q
            exact q
          · -- op 4
            have h3 : v 3 = .slice (some ⟨gb, go + st * 5, none⟩) line.length (c - st) := hd 3 (by kernel_rfl)
            have hcl := Ls.clone (some ⟨gb, go + st * 5, none⟩) (c - st) line w5 (HRL3.out.below HB5.out (Nat.le_refl _) HB5.out.size) (fun e => by cases e) (by omega)
            have HCL := Lib.hid hcl
            cases ho
            try clear hd
            clear hcl
            simp only [List.take_succ_cons, List.take_zero, putAll, Act.put, List.setIfInBounds_toArray, List.set_cons_succ, List.set_cons_zero, Nat.reduceAdd, Nat.zero_add, h3]
            go_wp2_with fail
            refine HCL.out.mono ?_
            rintro e w6 ⟨u, rfl, hu, b6⟩
            have q := HK.out u w6 (own_base hu HB5.out.size) b6
            obtain ⟨ua, uc, rfl⟩ := row_shape hu
            simp only [List.take_succ_cons, List.take_zero, putAll, Act.put, List.setIfInBounds_toArray, List.set_cons_succ, List.set_cons_zero, Nat.reduceAdd, Nat.zero_add, h3] at q
            go_wp2_with fail
            exact q
          · -- op 5
            have h1 : v 1 = .bool false := hd 1 (by kernel_rfl)
            have h2 : v 2 = .string (str nm) := hd 2 (by kernel_rfl)
            have h4 : w5.ownsRow w3.heap.size 40 5 (v 4) line.length (line.flatMap tkC) := hd 4 (by kernel_rfl)
            obtain ⟨ua, uc, h4v⟩ := row_shape h4
            rw [h4v] at h4
            have H4 := Lib.hid h4
            cases ho
            try clear hd
            clear h4
            simp only [List.take_succ_cons, List.take_zero, putAll, Act.put, List.setIfInBounds_toArray, List.set_cons_succ, List.set_cons_zero, Nat.reduceAdd, Nat.zero_add, h1, h2, h4v]
            go_wp2_with fail
            have q := HK.out (.agg #[.bool false, .string (str nm), .slice ua line.length uc]) w5 ⟨_, rfl, H4.out⟩ (Below.refl _ _)
            simp only [List.take_succ_cons, List.take_zero, putAll, Act.put, List.setIfInBounds_toArray, List.set_cons_succ, List.set_cons_zero, Nat.reduceAdd, Nat.zero_add, h1, h2, h4v] at q
            exact q
          · -- op 6
            obtain ⟨x, h5, hx⟩ : ∃ x, v 5 = .agg #[.bool false, .string (str nm), x] ∧ w5.ownsRow w3.heap.size 40 5 x line.length (line.flatMap tkC) := hd 5 (by kernel_rfl)
            obtain ⟨ua, uc, rfl⟩ := row_shape hx
            have HX := Lib.hid hx
            cases ho
            try clear hd
            clear hx
            simp only [List.take_succ_cons, List.take_zero, putAll, Act.put, List.setIfInBounds_toArray, List.set_cons_succ, List.set_cons_zero, Nat.reduceAdd, Nat.zero_add, h5]
            go_wp2_with fail
            have q := HK.out (.slice (some ⟨w5.heap.size, 0, none⟩) 1 1) (w5.alloc (Obj.cells #[.bool false, .string (str nm), .slice ua line.length uc] 78)) ⟨_, w5.heap.size, rfl, heap_alloc_new _ _, HX.out.alloc _⟩ (below_alloc _ _)
            simp only [List.take_succ_cons, List.take_zero, putAll, Act.put, List.setIfInBounds_toArray, List.set_cons_succ, List.set_cons_zero, Nat.reduceAdd, Nat.zero_add, h5] at q
            exact q
        · intro v w5 hb5 hv
          obtain ⟨x, g, h6, hg, hx⟩ : ∃ x g, v 6 = .slice (some ⟨g, 0, none⟩) 1 1 ∧ w5.heap[g]? = some (.cells #[.bool false, .string (str nm), x] 78 (0, 0)) ∧ w5.ownsRow w3.heap.size 40 5 x line.length (line.flatMap tkC) := hv 6 (by decide)
          have h0 : v 0 = .slice la L.length lc := hv 0 (by decide)
          obtain ⟨ua, uc, rfl⟩ := row_shape hx
          have HGO := Lib.hid (CellsAt.of_heap hg)
          have hst5 := HS3.out.on hb5
          have HST5 := Lib.hid hst5
          have HX := Lib.hid hx
          have HB5 := Lib.hid hb5
          have hR5 := heap_below hb5 HR3.out (Array.getElem?_eq_some_iff.1 HR3.out).1
          have HR5 := Lib.hid hR5
          have hs5 := hb5.size
          clear hv hb5 hg hst5 hx hR5
          simp only [List.take_succ_cons, List.take_zero, List.drop_succ_cons, List.drop_zero, putAll, Act.put, List.setIfInBounds_toArray, List.set_cons_succ, List.set_cons_zero, Nat.reduceAdd, Nat.zero_add, h6, h0]
          generalize v 1 = v1
          generalize v 2 = v2
          generalize v 3 = v3
          generalize v 4 = v4
          generalize v 5 = v5
          clear h6 h0
          clear v
          go_wp2_with (at_builtin; refine wpList_append_own _ rfl _ _ 47 rfl w.heap.size 78 i1 (.agg #[.bool false, .string ⟨#[]⟩, .slice none 0 0]) 3 48 Tryz.underlying47 HJ.out HY0.out HY1.out HY2.out rfl (by decide) _ L.length _ rfl HST5.out.row ⟨g, 0, none⟩ 1 1 [.bool false, .string (str nm), .slice ua line.length uc] rfl rfl ?c1 ?c2 ?c3 ?c4 ?c5 ?_)
          case c1 => intro j u hu; simpa using HGO.out j u (by simpa using hu)
          case c2 => first | exact ⟨rfl, rfl, rfl⟩ | (intro u hu; simp at hu; rcases hu with rfl | rfl | rfl <;> rfl)
          case c3 => unfold maxLen; omega
          case c4 => omega
          case c5 => omega
          intro v' w6 hown' hgrow _
          obtain ⟨hst6, hrc6⟩ := HS3.out.push (r := ⟨false, nm, line⟩) (u := .slice ua line.length uc) HB5.out hgrow hown' HX.out
          obtain ⟨va, vc, rfl⟩ := row_shape hown'
          have hR6 := hrc6.kt.2 _ _ 4 (0, 0) rfl HR3.out
          have hp6 : w6.frozen? ⟨w.heap.size, 0, none⟩ = false := Lib.frozen_of_heap (other_block HST5.out.hd HST5.out.row (by decide) hgrow) 0
          have hp7 : w6.cell? ⟨w.heap.size, 0, none⟩ = some (.slice la L.length lc) := by simp [World.cell?, other_block HST5.out.hd HST5.out.row (by decide) hgrow]
          have hw6 := hgrow.size
          have HST6 := Lib.hid hst6
          have HRC6 := Lib.hid hrc6
          have HR6 := Lib.hid hR6
          clear hown' hgrow hst6 hrc6 hR6
          obtain ⟨W2, hW2⟩ : ∃ W2, W2 = w6.setCell ⟨w.heap.size, 0, none⟩ (.slice va (L.length + 1) vc) := ⟨_, rfl⟩
          rw [← hW2] at HST6 HRC6 HR6
          have hW2s : W2.heap.size = w6.heap.size := by rw [hW2]; simp
          have d4 : W2.cell? ⟨w.heap.size + 1, 0, none⟩ = some (.bool (runOf L)) := by simp [World.cell?, HR6.out]
          have d5 : W2.frozen? ⟨w.heap.size + 1, 0, none⟩ = false := Lib.frozen_of_heap HR6.out 0
          have HW2 := Lib.hid hW2
          clear hW2
          go_wp2_with fail
          rw [← HW2.out]
          refine NoOut.normal ?_
          gi_wp2_with (fail)
          have hset := heap_setCell_same W2 (w.heap.size + 1) 0 _ _ (.bool (!false)) HR6.out
          refine ⟨(RC.of_below (B := 0) HB3.out).kf _ |>.trans (HRC6.out.kf _) |>.trans (KeepsFrom.of_cells HR6.out _), ((KB.of_below HB3.out).trans (HRC6.out.kb (Nat.le_refl _) (by omega))).trans ⟨(KT.refl _ _).set HR6.out rfl _ _, fun _ => (Below.refl _ _).setCell (p := ⟨w.heap.size + 1, 0, none⟩) (by simp) _⟩, w3.heap.size, .slice va (L.length + 1) vc, L ++ [(⟨false, nm, line⟩, .slice ua line.length uc)], HST6.out.other HR6.out 0 _, ?_, ?_, ?_⟩
          · rw [HNX.out, ← HL.out, addRow_push HDP.out (by first | exact .inl rfl | exact .inr HRO.out), List.map_append]; rfl
          · simpa [runOf] using hset
          · exact ((HBW.out.trans (HB3.out.mono hw0)).trans (HRC6.out.bel (by omega))).setCell (p := ⟨w.heap.size + 1, 0, none⟩) (by simp) _
      · obtain ⟨d, ⟨xr, xv⟩, rfl, hxd⟩ := runOf_true hro
        simp only at hxd
        obtain ⟨G, cap, rfl, hBG, hcell, hfz⟩ := HS3.out.last
        have hnew := HS3.out.new (xr, xv) (by simp)
        simp only at hnew hcell
        obtain ⟨xa, xc, rfl⟩ := row_shape hnew
        have hdl : d.length < 1000000000 ∧ xr.toks.length + line.length ≤ 1000000000 := by
          have := HSUM.out
          rw [← HL.out] at this
          simp at this
          omega
        obtain ⟨hdl, hxl⟩ := hdl
        have C1' : w3.cell? ⟨w.heap.size + 1, 0, none⟩ = some (.bool true) := by rw [C1, hro]
        have hbox : w3.cell? ⟨w.heap.size, 0, none⟩ = some (.slice (some ⟨G, 0, none⟩) (d.length + 1) cap) := by simp [World.cell?, HS3.out.hd]
        have HNEW := Lib.hid hnew
        have hleD := HS3.out.leD
        obtain ⟨_, curG, hG⟩ := row_cells HS3.out.row rfl
        have HG := Lib.hid hG
        have HCG := Lib.hid hcell
        clear C1 hnew hro hG
        gi_wp2_with (gi_at_builtin; refine wpListIn_append_rows tkC rfl _ _ 30 rfl D 40 i0 (.agg #[.int .i64 0, .string ⟨#[]⟩, .int .i64 0, .int .i64 0, .bool false]) 5 48 Tryz.underlying30 HI.out HZ0.out HZ1.out HZ2.out rfl (by decide) tkC_len tkC_one _ _ _ rfl HNEW.out ⟨gb, go + st * 5, none⟩ line (c - st) rfl HRL3.out (by unfold maxLen; omega) (by omega) (by omega) ?_; intro v' w4 hown' hgrow; have hG4 := other_block HG.out HNEW.out (by decide) hgrow; have f1 := Lib.frozen_of_heap hG4 (d.length * 3 + 2); have d1 : w4.cell? ⟨G, d.length * 3 + 2, none⟩ = some (.slice xa xr.toks.length xc) := (by have q := HCG.out; simp only [World.cell?, HG.out] at q; simp only [World.cell?, hG4]; exact q); have HGR := Lib.hid hgrow; have HOWN' := Lib.hid hown'; obtain ⟨va, vc, hva⟩ := row_shape hown'; subst hva; clear hgrow hown' hG4)
        have hst4 := HS3.out.grow (ts := xr.toks ++ line) HGR.out (v' := .slice va (xr.toks.length + line.length) vc) (by have := HOWN'.out; rw [List.flatMap_append, List.length_append]; exact this)
        have hws := HBW.out.size
        refine ⟨(RC.of_below (B := 0) HB3.out).kf _ |>.trans (hst4.2.kf _), (KB.of_below HB3.out).trans (hst4.2.kb (Nat.le_refl _) (by omega)), D, _, _, hst4.1, ?_, ?_, ?_⟩
        · rw [HNX.out, ← HL.out, addRow_grow HDP.out hxd (.slice va (xr.toks.length + line.length) vc)]
        · have := hst4.2.kt.2 _ _ 4 (0, 0) rfl HR3.out; simpa [runOf, hxd] using this
        · exact (HBW.out.trans (HB3.out.mono hws)).trans (hst4.2.bel (by omega))
    · obtain ⟨la, lc, rfl⟩ := row_shape HS3.out.row
      have hbox : w3.cell? ⟨w.heap.size, 0, none⟩ = some (.slice la L.length lc) := by simp [World.cell?, HS3.out.hd]
      have C0 := Lib.hid (fun u : Ext w3 => u.cell hbox)
      have hLl : L.length < 1000000000 := by have := HSUM.out.2; rw [← HL.out, List.length_map] at this; omega
      have hw0 := HBW.out.size
      clear hbox
      gi_wp2_with (fail)
      refine wpIn_region_each_tail 7 (rwSt w3.heap.size (.slice la L.length lc) true nm (.slice (some ⟨gb, go + st * 5, none⟩) line.length (c - st)) line) (by kernel_rfl) (by kernel_rfl) (by kernel_rfl) (rwSt_mono _ _ _ _ _ _) ?_ ?_
      · intro i o ho v w5 hb5 hd K hK
        have hi : i < 7 := (List.getElem?_eq_some_iff.1 ho).1
        have HK := Lib.hid hK
        have HB5 := Lib.hid hb5
        clear hK
        have hi7 : i = 0 ∨ i = 1 ∨ i = 2 ∨ i = 3 ∨ i = 4 ∨ i = 5 ∨ i = 6 := by omega
        rcases hi7 with rfl | rfl | rfl | rfl | rfl | rfl | rfl
        · -- op 0
          have cf := C0.out ⟨w5, HB5.out⟩
          simp only [Ext.w] at cf
          cases ho
          try clear hd
          simp only [List.take_succ_cons, List.take_zero, putAll, Act.put, List.setIfInBounds_toArray, List.set_cons_succ, List.set_cons_zero, Nat.reduceAdd, Nat.zero_add]
          go_wp2_with fail
          have q := HK.out (.slice la L.length lc) w5 rfl (Below.refl _ _)
          simp only [List.take_succ_cons, List.take_zero, putAll, Act.put, List.setIfInBounds_toArray, List.set_cons_succ, List.set_cons_zero, Nat.reduceAdd, Nat.zero_add] at q
          exact q
        · -- op 1
          cases ho
          try clear hd
          simp only [List.take_succ_cons, List.take_zero, putAll, Act.put, List.setIfInBounds_toArray, List.set_cons_succ, List.set_cons_zero, Nat.reduceAdd, Nat.zero_add]
          go_wp2_with fail
          have q := HK.out (.bool true) w5 rfl (Below.refl _ _)
          simp only [List.take_succ_cons, List.take_zero, putAll, Act.put, List.setIfInBounds_toArray, List.set_cons_succ, List.set_cons_zero, Nat.reduceAdd, Nat.zero_add] at q
          exact q
        · -- op 2
          cases ho
          try clear hd
          simp only [List.take_succ_cons, List.take_zero, putAll, Act.put, List.setIfInBounds_toArray, List.set_cons_succ, List.set_cons_zero, Nat.reduceAdd, Nat.zero_add]
          go_wp2_with fail
          have q := HK.out (.string (str nm)) w5 rfl (Below.refl _ _)
          simp only [List.take_succ_cons, List.take_zero, putAll, Act.put, List.setIfInBounds_toArray, List.set_cons_succ, List.set_cons_zero, Nat.reduceAdd, Nat.zero_add] at q
          exact q
        · -- op 3
          cases ho
          try clear hd
          simp only [List.take_succ_cons, List.take_zero, putAll, Act.put, List.setIfInBounds_toArray, List.set_cons_succ, List.set_cons_zero, Nat.reduceAdd, Nat.zero_add]
          go_wp2_with fail
          have q := HK.out (.slice (some ⟨gb, go + st * 5, none⟩) line.length (c - st)) w5 rfl (Below.refl _ _)
          simp only [List.take_succ_cons, List.take_zero, putAll, Act.put, List.setIfInBounds_toArray, List.set_cons_succ, List.set_cons_zero, Nat.reduceAdd, Nat.zero_add] at q
          exact q
        · -- op 4
          have h3 : v 3 = .slice (some ⟨gb, go + st * 5, none⟩) line.length (c - st) := hd 3 (by kernel_rfl)
          have hcl := Ls.clone (some ⟨gb, go + st * 5, none⟩) (c - st) line w5 (HRL3.out.below HB5.out (Nat.le_refl _) HB5.out.size) (fun e => by cases e) (by omega)
          have HCL := Lib.hid hcl
          cases ho
          try clear hd
          clear hcl
          simp only [List.take_succ_cons, List.take_zero, putAll, Act.put, List.setIfInBounds_toArray, List.set_cons_succ, List.set_cons_zero, Nat.reduceAdd, Nat.zero_add, h3]
          go_wp2_with fail
          refine HCL.out.mono ?_
          rintro e w6 ⟨u, rfl, hu, b6⟩
          have q := HK.out u w6 (own_base hu HB5.out.size) b6
          obtain ⟨ua, uc, rfl⟩ := row_shape hu
          simp only [List.take_succ_cons, List.take_zero, putAll, Act.put, List.setIfInBounds_toArray, List.set_cons_succ, List.set_cons_zero, Nat.reduceAdd, Nat.zero_add, h3] at q
          go_wp2_with fail
          exact q
        · -- op 5
          have h1 : v 1 = .bool true := hd 1 (by kernel_rfl)
          have h2 : v 2 = .string (str nm) := hd 2 (by kernel_rfl)
          have h4 : w5.ownsRow w3.heap.size 40 5 (v 4) line.length (line.flatMap tkC) := hd 4 (by kernel_rfl)
          obtain ⟨ua, uc, h4v⟩ := row_shape h4
          rw [h4v] at h4
          have H4 := Lib.hid h4
          cases ho
          try clear hd
          clear h4
          simp only [List.take_succ_cons, List.take_zero, putAll, Act.put, List.setIfInBounds_toArray, List.set_cons_succ, List.set_cons_zero, Nat.reduceAdd, Nat.zero_add, h1, h2, h4v]
          go_wp2_with fail
          have q := HK.out (.agg #[.bool true, .string (str nm), .slice ua line.length uc]) w5 ⟨_, rfl, H4.out⟩ (Below.refl _ _)
          simp only [List.take_succ_cons, List.take_zero, putAll, Act.put, List.setIfInBounds_toArray, List.set_cons_succ, List.set_cons_zero, Nat.reduceAdd, Nat.zero_add, h1, h2, h4v] at q
          exact q
        · -- op 6
          obtain ⟨x, h5, hx⟩ : ∃ x, v 5 = .agg #[.bool true, .string (str nm), x] ∧ w5.ownsRow w3.heap.size 40 5 x line.length (line.flatMap tkC) := hd 5 (by kernel_rfl)
          obtain ⟨ua, uc, rfl⟩ := row_shape hx
          have HX := Lib.hid hx
          cases ho
          try clear hd
          clear hx
          simp only [List.take_succ_cons, List.take_zero, putAll, Act.put, List.setIfInBounds_toArray, List.set_cons_succ, List.set_cons_zero, Nat.reduceAdd, Nat.zero_add, h5]
          go_wp2_with fail
          have q := HK.out (.slice (some ⟨w5.heap.size, 0, none⟩) 1 1) (w5.alloc (Obj.cells #[.bool true, .string (str nm), .slice ua line.length uc] 78)) ⟨_, w5.heap.size, rfl, heap_alloc_new _ _, HX.out.alloc _⟩ (below_alloc _ _)
          simp only [List.take_succ_cons, List.take_zero, putAll, Act.put, List.setIfInBounds_toArray, List.set_cons_succ, List.set_cons_zero, Nat.reduceAdd, Nat.zero_add, h5] at q
          exact q
      · intro v w5 hb5 hv
        obtain ⟨x, g, h6, hg, hx⟩ : ∃ x g, v 6 = .slice (some ⟨g, 0, none⟩) 1 1 ∧ w5.heap[g]? = some (.cells #[.bool true, .string (str nm), x] 78 (0, 0)) ∧ w5.ownsRow w3.heap.size 40 5 x line.length (line.flatMap tkC) := hv 6 (by decide)
        have h0 : v 0 = .slice la L.length lc := hv 0 (by decide)
        obtain ⟨ua, uc, rfl⟩ := row_shape hx
        have HGO := Lib.hid (CellsAt.of_heap hg)
        have hst5 := HS3.out.on hb5
        have HST5 := Lib.hid hst5
        have HX := Lib.hid hx
        have HB5 := Lib.hid hb5
        have hR5 := heap_below hb5 HR3.out (Array.getElem?_eq_some_iff.1 HR3.out).1
        have HR5 := Lib.hid hR5
        have hs5 := hb5.size
        clear hv hb5 hg hst5 hx hR5
        simp only [List.take_succ_cons, List.take_zero, List.drop_succ_cons, List.drop_zero, putAll, Act.put, List.setIfInBounds_toArray, List.set_cons_succ, List.set_cons_zero, Nat.reduceAdd, Nat.zero_add, h6, h0]
        generalize v 1 = v1
        generalize v 2 = v2
        generalize v 3 = v3
        generalize v 4 = v4
        generalize v 5 = v5
        clear h6 h0
        clear v
        go_wp2_with (at_builtin; refine wpList_append_own _ rfl _ _ 47 rfl w.heap.size 78 i1 (.agg #[.bool false, .string ⟨#[]⟩, .slice none 0 0]) 3 48 Tryz.underlying47 HJ.out HY0.out HY1.out HY2.out rfl (by decide) _ L.length _ rfl HST5.out.row ⟨g, 0, none⟩ 1 1 [.bool true, .string (str nm), .slice ua line.length uc] rfl rfl ?c1 ?c2 ?c3 ?c4 ?c5 ?_)
        case c1 => intro j u hu; simpa using HGO.out j u (by simpa using hu)
        case c2 => first | exact ⟨rfl, rfl, rfl⟩ | (intro u hu; simp at hu; rcases hu with rfl | rfl | rfl <;> rfl)
        case c3 => unfold maxLen; omega
        case c4 => omega
        case c5 => omega
        intro v' w6 hown' hgrow _
        obtain ⟨hst6, hrc6⟩ := HS3.out.push (r := ⟨true, nm, line⟩) (u := .slice ua line.length uc) HB5.out hgrow hown' HX.out
        obtain ⟨va, vc, rfl⟩ := row_shape hown'
        have hR6 := hrc6.kt.2 _ _ 4 (0, 0) rfl HR3.out
        have hp6 : w6.frozen? ⟨w.heap.size, 0, none⟩ = false := Lib.frozen_of_heap (other_block HST5.out.hd HST5.out.row (by decide) hgrow) 0
        have hp7 : w6.cell? ⟨w.heap.size, 0, none⟩ = some (.slice la L.length lc) := by simp [World.cell?, other_block HST5.out.hd HST5.out.row (by decide) hgrow]
        have hw6 := hgrow.size
        have HST6 := Lib.hid hst6
        have HRC6 := Lib.hid hrc6
        have HR6 := Lib.hid hR6
        clear hown' hgrow hst6 hrc6 hR6
        obtain ⟨W2, hW2⟩ : ∃ W2, W2 = w6.setCell ⟨w.heap.size, 0, none⟩ (.slice va (L.length + 1) vc) := ⟨_, rfl⟩
        rw [← hW2] at HST6 HRC6 HR6
        have hW2s : W2.heap.size = w6.heap.size := by rw [hW2]; simp
        have d4 : W2.cell? ⟨w.heap.size + 1, 0, none⟩ = some (.bool (runOf L)) := by simp [World.cell?, HR6.out]
        have d5 : W2.frozen? ⟨w.heap.size + 1, 0, none⟩ = false := Lib.frozen_of_heap HR6.out 0
        have HW2 := Lib.hid hW2
        clear hW2
        go_wp2_with fail
        rw [← HW2.out]
        refine NoOut.normal ?_
        gi_wp2_with (fail)
        have hset := heap_setCell_same W2 (w.heap.size + 1) 0 _ _ (.bool (!true)) HR6.out
        refine ⟨(RC.of_below (B := 0) HB3.out).kf _ |>.trans (HRC6.out.kf _) |>.trans (KeepsFrom.of_cells HR6.out _), ((KB.of_below HB3.out).trans (HRC6.out.kb (Nat.le_refl _) (by omega))).trans ⟨(KT.refl _ _).set HR6.out rfl _ _, fun _ => (Below.refl _ _).setCell (p := ⟨w.heap.size + 1, 0, none⟩) (by simp) _⟩, w3.heap.size, .slice va (L.length + 1) vc, L ++ [(⟨true, nm, line⟩, .slice ua line.length uc)], HST6.out.other HR6.out 0 _, ?_, ?_, ?_⟩
        · rw [HNX.out, ← HL.out, addRow_push HDP.out (by first | exact .inl rfl | exact .inr HRO.out), List.map_append]; rfl
        · simpa [runOf] using hset
        · exact ((HBW.out.trans (HB3.out.mono hw0)).trans (HRC6.out.bel (by omega))).setCell (p := ⟨w.heap.size + 1, 0, none⟩) (by simp) _
  case done =>
    rintro Dd zs W hD rfl ⟨D, lv, L, hst, hL, hrun, hbW⟩ hK
    have c1 : W.cell? ⟨w.heap.size, 0, none⟩ = some lv := by simp [World.cell?, hst.hd]
    obtain ⟨la, lc, rfl⟩ := row_shape hst.row
    have HST := Lib.hid hst
    have HL := Lib.hid hL
    have HBW := Lib.hid hbW
    have HK := Lib.hid hK
    clear hst hL hbW hK hrun
    gi_wp2_with (fail)
    refine ⟨by simp, .inl ⟨_, _, rfl, run_takeDeferred HK.out, ?_⟩⟩
    have hp := HST.out.nc (w' := W.putObj Dd (.deferred none)) (S := fun k => k = Dd) ⟨rfl, rfl, rfl, by simp, fun k hk hn => World.putObj_heap_other (fun e => hn ⟨e, .deferred (some []), by subst e; exact HK.out, rfl⟩)⟩
    refine ⟨_, results_tmp rfl _ _ _, _, rfl, ?_, HBW.out.trans (below_put (by have := HS0.out; omega) HK.out)⟩
    have := hp.rv
    rw [HL.out] at this
    unfold rowsP
    rw [pcs_lns]
    exact this
  case stop =>
    rintro Dd c pre W hD _ h _
    exact h.elim
end Go.Proofs.YtbnhefibpjldfaaGreatDoor

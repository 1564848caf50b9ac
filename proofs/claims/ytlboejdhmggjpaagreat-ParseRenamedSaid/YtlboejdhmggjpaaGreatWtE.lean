/- ParseRenamed, ParseParts: the document's Same, of two lists of nodes that are alike. -/
import Derived.Test.YtlboejdhmggjpaaGreatWnH
import Derived.Test.YtlboejdhmggjpaaGreatPcA
import Derived.Test.YtlboejdhmggjpaaGreatWkA
import Derived.Test.YtlboejdhmggjpaaGreatPdB
import Derived.Laws.StructEq
set_option linter.all false
namespace Go.Proofs.YtlboejdhmggjpaaGreat.Pp
open Go.RowKit Go.BigFrame Go.Proofs.YtlboejdhmggjpaaGreat
set_option linter.unusedVariables false

theorem nd_neq' (a b c d : Int) (w : World) : (binOp .neq 38 (.agg #[.int .i64 a, .int .i64 b, .int .i64 c, .int .i64 d]) (.agg #[.int .i64 a, .int .i64 b, .int .i64 c, .int .i64 d])).run Tryz.prog w = .ok (.bool false) w := by
  simp [go_sem]
set_option maxRecDepth 100000 in
set_option maxHeartbeats 16000000 in
theorem wk_Same (P : List Nd) (X Y : Nat) (v v2 : Value) (w : World) (h1 : w.ownsRow X 38 4 v P.length (P.flatMap ndC)) (h2 : w.ownsRow Y 38 4 v2 P.length (P.flatMap ndC)) (hl : P.length ≤ 1000000000) :
    Calls Tryz.prog 15 #[v, v2] w fun e w' => e = .returned (.bool true) ∧ Below w.heap.size w w' := by
  have NE := nd_neq'
  obtain ⟨a, c, rfl⟩ := row_shape h1
  obtain ⟨a2, c2, rfl⟩ := row_shape h2
  obtain ⟨N, hN⟩ : ∃ N, P.length = N := ⟨_, rfl⟩
  have H1 := Lib.hid h1
  have H2 := Lib.hid h2
  have HN := Lib.hid hN
  rw [hN] at hl ⊢
  clear h1 h2 hN
  go_enter Tryz.func15, Tryz.ntmps15
  go_wp2_with fail
  go_loopw [5] (fun s5 wr => ∃ i : Nat, s5 = .int .i64 i ∧ i ≤ N ∧ Below w.heap.size w wr) (fun s5 _ => N - (intOf s5).toNat)
  case atStart => exact ⟨0, rfl, Nat.zero_le _, Below.refl _ _⟩
  case round =>
    obtain ⟨i, rfl, hi, hb⟩ := hrel
    have HB := Lib.hid hb
    by_cases hlt : i < N
    · have hlt2 : decide (i < N) = true := decide_eq_true hlt
      have hiP : i < P.length := by rw [HN.out]; exact hlt
      have r1 := ownsRow_ext H1.out hb
      have r2 := ownsRow_ext H2.out hb
      obtain ⟨x, y, hxa, _, _, hxc⟩ := row_block r1 (by omega)
      cases hxa
      obtain ⟨x2, y2, hxa2, _, _, hxc2⟩ := row_block r2 (by omega)
      cases hxa2
      obtain ⟨a0, a1, a2', a3⟩ := nd_cell r1 hiP
      obtain ⟨b0, b1, b2, b3⟩ := nd_cell r2 hiP
      obtain ⟨nd, hnd⟩ : ∃ nd, P.getD i n0 = nd := ⟨_, rfl⟩
      rw [hnd] at a0 a1 a2' a3 b0 b1 b2 b3
      obtain ⟨rk, rlo, rhi, rsz⟩ := nd
      simp only at a0 a1 a2' a3 b0 b1 b2 b3
      rw [HN.out] at hxc hxc2
      clear hnd r1 r2 hb
      go_wp2_with fail
      go_quiet (fail)
      go_wp2_with fail
      go_roundw
      case rel => exact ⟨i + 1, by go_num, by omega, HB.out.trans (below_drewN _ _ _)⟩
      case measure => simp [intOf]; omega
    · have hlt2 : decide (i < N) = false := decide_eq_false hlt
      clear hb
      go_wp2_with fail
      go_ret
      exact ⟨rfl, HB.out⟩
end Go.Proofs.YtlboejdhmggjpaaGreat.Pp

/- PdC -/
namespace Go.Proofs.YtlboejdhmggjpaaGreat.Pp
open Go.RowKit Go.BigFrame Go.Proofs.YtlboejdhmggjpaaGreat
set_option linter.unusedVariables false

def renT (a b : Bs) (t : Ct) : Ct := if t.c = 2 ∧ t.t = a then ⟨t.c, b⟩ else t
def swapB (a b x : Bs) : Bs := if x = a then b else if x = b then a else x
theorem swapB_inv (a b x : Bs) : swapB a b (swapB a b x) = x := by
  unfold swapB
  by_cases h1 : x = a
  · subst h1
    simp only [if_true]
    by_cases h2 : b = x
    · simp [h2]
    · simp [h2]
  · by_cases h2 : x = b
    · subst h2
      simp [h1]
    · simp [h1, h2]
def mvR (a b : Bs) : Mv := ⟨0, swapB a b, [], []⟩
theorem renT_tok {a b : Bs} {t : Ct} (h : ¬ (t.c = 2 ∧ t.t = b)) : renT a b t = (mvR a b).tok t := by
  obtain ⟨c, x⟩ := t
  unfold renT Mv.tok mvR swapB
  simp only at h ⊢
  by_cases hc : c = 2
  · subst hc
    have hb : ¬ x = b := fun e => h ⟨rfl, e⟩
    by_cases ha : x = a
    · simp [ha]
    · simp [ha, hb]
  · simp [hc]
theorem ren_mk {a b : Bs} {L : List Ct} (ha : a ≠ []) (hb : b ≠ []) (hno : ∀ t ∈ L, ¬ (t.c = 2 ∧ t.t = b)) : Mk (mvR a b) L (L.map (renT a b)) (fun _ => false) (fun _ => false) where
  tok i := by
    show (L.map (renT a b)).getD (i + 0) ⟨0, []⟩ = _
    rw [Nat.add_zero]
    by_cases hi : i < L.length
    · rw [List.getD_eq_getElem?_getD, List.getElem?_eq_getElem (by simpa using hi), List.getD_eq_getElem?_getD, List.getElem?_eq_getElem hi]
      simp only [Option.getD_some, List.getElem_map]
      exact renT_tok (hno _ (List.getElem_mem hi))
    · rw [List.getD_eq_getElem?_getD, List.getElem?_eq_none (by simp; omega), List.getD_eq_getElem?_getD, List.getElem?_eq_none (by omega)]
      rfl
  len := by simp [mvR]
  inj x y h := by rw [← swapB_inv a b x, ← swapB_inv a b y]; exact congrArg _ h
  emp := by
    show swapB a b [] = []
    unfold swapB
    rw [if_neg (fun e => ha e.symm), if_neg (fun e => hb e.symm)]
  bas x := rfl
theorem ren_deep {a b : Bs} : ∀ (L : List Ct) (o : Nat), deepL (L.map (renT a b)) o = deepL L o
  | [], o => rfl
  | t :: r, o => by
    have ih := ren_deep (a := a) (b := b) r
    rw [List.map_cons]
    by_cases h : t.c = 2 ∧ t.t = a
    · have e : renT a b t = ⟨t.c, b⟩ := if_pos h
      rw [e]
      unfold deepL
      have hc : t.c ≠ 7 := by rw [h.1]; decide
      simp only [ne_eq, hc, not_false_eq_true, if_true]
      exact ih o
    · have e : renT a b t = t := if_neg h
      rw [e]
      unfold deepL
      simp only [ih]
theorem nd_id (m : Mv) (h : m.d = 0) (n : Nd) : m.nd n = n := by
  unfold Mv.nd
  rw [h]
  rfl
theorem ren_parse {a b : Bs} {L : List Ct} (ha : a ≠ []) (hb : b ≠ []) (hno : ∀ t ∈ L, ¬ (t.c = 2 ∧ t.t = b)) : parseP (L.map (renT a b)) (fun _ => false) = parseP L (fun _ => false) := by
  have K := ren_mk ha hb hno
  have hs := sim K (fu L) .unit (fun _ => ⟨rfl, rfl⟩) s0
  have hf : fu (L.map (renT a b)) = fu L := by unfold fu; rw [List.length_map]
  have h1 := (unit_good L (fun _ => false)).1
  have h2 := (unit_good (L.map (renT a b)) (fun _ => false)).1
  rw [hf] at h2
  have hst : (mvR a b).st s0 = s0 := rfl
  have htg : (mvR a b).tg .unit = .unit := rfl
  rw [hst, htg] at hs
  unfold parseP
  rw [hf]
  cases e1 : run L (fun _ => false) (fu L) .unit s0 with
  | out => exact absurd e1 h1
  | no =>
    rw [e1] at hs
    cases e2 : run (L.map (renT a b)) (fun _ => false) (fu L) .unit s0 with
    | out => exact absurd e2 h2
    | no => rfl
    | ok v s => rw [e2] at hs; exact hs.elim
  | ok v s =>
    rw [e1] at hs
    cases e2 : run (L.map (renT a b)) (fun _ => false) (fu L) .unit s0 with
    | out => exact absurd e2 h2
    | no => rw [e2] at hs; exact hs.elim
    | ok v2 s2 =>
      rw [e2] at hs
      obtain ⟨-, h⟩ := hs
      subst h
      show some (aheadP ([] ++ s.done.map (mvR a b).nd)) = some (aheadP s.done)
      rw [List.nil_append, show (mvR a b).nd = id from funext fun n => nd_id _ rfl n, List.map_id]
end Go.Proofs.YtlboejdhmggjpaaGreat.Pp

/- PkN -/
namespace Go.Proofs.YtlboejdhmggjpaaGreat

def prtsN : Nat → Bs → Nat → List Pt
 | 0, _, _ => []
 | n + 1, s, i => if i < s.length then ptAt s i :: prtsN n s (i + (ptAt s i).len) else []
theorem prtsN_eq : ∀ (n : Nat) (s : Bs) (i : Nat), s.length - i ≤ n → prts s i = prtsN n s i
 | 0, s, i, h => prts_ge (by omega)
 | n + 1, s, i, h => by
  by_cases c : i < s.length
  ·rw [prts_lt c, prtsN, if_pos c, prtsN_eq n s _ (by have := pt_pos s i; omega)]
  ·rw [prts_ge (by omega), prtsN, if_neg c]
def tksN : Nat → Bs → Nat → Nat → Bool → List Tk × Nat
 | 0, _, _, _, _ => ([], 0)
 | _ + 1, [], _, _, _ => ([], 0)
 | m + 1, c :: r, at', st, sp =>
  if isWhite c then tksN m r (at' + 1) st true
  else if (itm (c :: r) (st == 2)).2.2 ≠ 0 then ([], (itm (c :: r) (st == 2)).2.2)
  else
   (⟨(itm (c :: r) (st == 2)).1, (c :: r).take (itm (c :: r) (st == 2)).2.1, at', at' + (itm (c :: r) (st == 2)).2.1, sp⟩ :: (tksN m (r.drop ((itm (c :: r) (st == 2)).2.1 - 1)) (at' + (itm (c :: r) (st == 2)).2.1) (after st (itm (c :: r) (st == 2)).1 ((c :: r).take (itm (c :: r) (st == 2)).2.1)) false).1,
    (tksN m (r.drop ((itm (c :: r) (st == 2)).2.1 - 1)) (at' + (itm (c :: r) (st == 2)).2.1) (after st (itm (c :: r) (st == 2)).1 ((c :: r).take (itm (c :: r) (st == 2)).2.1)) false).2)
theorem tksN_eq : ∀ (n : Nat) (t : Bs) (at' st : Nat) (sp : Bool), t.length ≤ n → tks t at' st sp = tksN n t at' st sp
 | 0, [], at', st, sp, _ => by rw [tks]; rfl
 | 0, c :: r, at', st, sp, h => by simp at h
 | n + 1, [], at', st, sp, _ => by rw [tks]; rfl
 | n + 1, c :: r, at', st, sp, h => by
  have h' : r.length ≤ n := by simpa using h
  rw [tks, tksN]
  split
  ·exact tksN_eq n r _ _ _ h'
  split
  ·rfl
  ·dsimp only
   rw [tksN_eq n _ _ _ _ (by rw [List.length_drop]; omega)]
def chkN (s : Bs) : Nat := if 65536 < s.length then 3 else if (match (prtsN s.length s 0).getLast? with | none => false | some p => endBad p) then 10 else 0
def charsN (s : Bs) : List Pt := (prtsN s.length s 0).filter fun p => !p.spl
def scanN (s : Bs) : Nat × List Tk :=
 if chkN s ≠ 0 then (chkN s, [])
 else match tksN s.length ((charsN s).map (·.b)) 0 0 false with
  | (l, e) => if e ≠ 0 then (e, []) else (0, l.map (place (charsN s)))
theorem prtsN_len : ∀ (n : Nat) (s : Bs) (i : Nat), (prtsN n s i).length ≤ n
 | 0, s, i => Nat.le_refl _
 | n + 1, s, i => by
  rw [prtsN]
  split
  ·have := prtsN_len n s (i + (ptAt s i).len); simp; omega
  ·simp
theorem scanN_eq (s : Bs) : scanP s = scanN s := by
 have h1 : prts s 0 = prtsN s.length s 0 := prtsN_eq _ _ _ (by omega)
 have h2 : chk s = chkN s := by unfold chk chkN badEnd; rw [h1]; rfl
 have h3 : chars s = charsN s := by unfold chars charsN; rw [h1]
 have h4 : tks (logic s) 0 0 false = tksN s.length ((charsN s).map (·.b)) 0 0 false := by
  unfold logic
  rw [h3]
  refine tksN_eq _ _ _ _ _ ?_
  rw [List.length_map]
  unfold charsN
  exact Nat.le_trans (List.length_filter_le _ _) (prtsN_len _ _ _)
 unfold scanP scanN
 rw [h2, h3, h4]
end Go.Proofs.YtlboejdhmggjpaaGreat

/- WtD -/
namespace Go.Proofs.YtlboejdhmggjpaaGreat.Ct
set_option maxRecDepth 100000
set_option maxHeartbeats 16000000
open Go.RowKit Go.BigFrame Go.Proofs.YtlboejdhmggjpaaGreat Go.Proofs.YtlboejdhmggjpaaGreat.Pp Go.Proofs.YtlboejdhmggjpaaGreat.Ww

theorem own_rowAt {α : Type} {n : Nat} {f : α → List Value} (hf : ∀ x, (f x).length = n) {w : World} {X e : Nat} {a : Option Addr} {c : Nat} {l : List α} (h : w.ownsRow X e n (.slice a l.length c) l.length (l.flatMap f)) : RowAt n f w a l := by
 rcases Nat.eq_zero_or_pos l.length with h0 | h0
 ·exact .inl (List.length_eq_zero_iff.1 h0)
 ·obtain ⟨g, c', he, h1, h2, h3⟩ := row_block h h0
  cases he
  refine .inr ⟨g, 0, rfl, h2, fun i hi j v hv => ?_⟩
  have hj : j < n := by have := (List.getElem?_eq_some_iff.1 hv).1; rw [hf] at this; exact this
  rw [Nat.zero_add, h.cellAt _ (by
   have : (i + 1) * n ≤ l.length * n := Nat.mul_le_mul_right _ hi
   rw [Nat.succ_mul] at this
   omega), flat_get n f hf l i j hi hj]
  exact hv
theorem scan (s : ByteArray) (w : World) (hs : s.size ≤ 1000000000) (hm : Mx w) : Calls Tryz.prog 42 #[.string s] w (ScPost s w) := by
 by_cases h : chk (dl s) = 0
 ·exact Sc.scanOk s w hs h hm
 ·exact Sc.scanBad s w hs h
theorem mx_below {w w' : World} (h : Mx w) (hb : Below w.heap.size w w') : Mx w' := by
 obtain ⟨m, hm⟩ := h
 exact ⟨m, (hb.cell (World.block_lt_of_cell? _ _ hm)).trans hm⟩
def cls1 (k : Nat) (t : Bs) : Option Ct := if k = 1 then some ⟨if isKw t then 1 else 2, t⟩ else if k = 5 then some ⟨7, canon t⟩ else none
theorem cls1_ok {k : Nat} {t : Bs} (h : k = 1 ∨ k = 5) : ClsOk k t (cls1 k t) := by
 rcases h with rfl | rfl
 ·exact class_word t
 ·exact class_punct t
theorem toksF (cls : Nat → Bs → Option Ct) (t : Bs) (C : List Ct) (w : World) (hm : Mx w) (hl : t.length ≤ 10000) (h0 : (scanP (t ++ [10])).1 = 0) (hn : (scanP (t ++ [10])).2.length ≤ 1000000) (hc : ∀ x ∈ bare (scanP (t ++ [10])).2, ClsOk x.kind x.text (cls x.kind x.text)) (hC : clsL cls (bare (scanP (t ++ [10])).2) = (C, true)) :
  Calls Tryz.prog 28 #[.string (str t)] w fun e w' => ∃ v, e = .returned v ∧ Below w.heap.size w w' ∧ w'.ownsRow w.heap.size 54 2 v C.length (C.flatMap ctC) := by
 obtain ⟨S, hS⟩ : ∃ S, str (t ++ [10]) = S := ⟨_, rfl⟩
 have hdl : dl S = t ++ [10] := by rw [← hS]; exact dl_str _
 have hap : str t ++ ⟨#[10]⟩ = S := by rw [← hS]; exact str_append t [10]
 have hsz : S.size ≤ 1000000000 := by rw [← hS, str_size, List.length_append]; simp; omega
 have hsc := scan S w hsz hm
 obtain ⟨st, hst⟩ : ∃ st : ByteArray, str t = st := ⟨_, rfl⟩
 rw [hst] at hap ⊢
 unfold ScPost at hsc
 rw [hdl, h0] at hsc
 simp only [if_true] at hsc
 obtain ⟨l, hlL⟩ : ∃ l, (scanP (t ++ [10])).2 = l := ⟨_, rfl⟩
 rw [hlL] at hsc hn hc hC
 have HSC := Lib.hid hsc
 have HC := Lib.hid hc
 have HCC := Lib.hid hC
 have HM := Lib.hid hm
 have HN := Lib.hid hn
 have hs1 : ¬ (9223372036854775807 < st.size + 1) := by rw [← hst, str_size]; omega
 clear hsc hc hC hm hn hlL h0 hst hdl hS hl
 go_enter Tryz.func28, Tryz.ntmps28
 go_wp2_with fail
 refine HSC.out.mono ?_
 rintro e w1 ⟨hb1, v, rfl, hown⟩
 obtain ⟨a, c, rfl⟩ := Pp.row_shape hown
 have htk := tokens cls a c l w1 (mx_below HM.out hb1) (own_rowAt (n := 5) (f := tkC) (fun _ => rfl) hown) HN.out HC.out
 obtain ⟨n, hn⟩ : ∃ n, l.length = n := ⟨_, rfl⟩
 rw [hn] at htk ⊢
 have HTK := Lib.hid htk
 have HB1 := Lib.hid hb1
 clear htk hb1 hown hn hap
 go_wp2_with fail
 refine HTK.out.mono ?_
 intro e w2 he
 unfold TokPost at he
 rw [HCC.out] at he
 obtain ⟨hb2, ⟨-, v2, rfl, hown2⟩ | ⟨h, -⟩⟩ := he
 case' inr => cases h
 have HB2 := Lib.hid hb2
 have HO2 := Lib.hid hown2
 clear hb2 hown2
 go_wp2_with fail
 go_ret
 exact ⟨v2, rfl, HB1.out.trans (HB2.out.mono HB1.out.size), own_base HO2.out HB1.out.size⟩
def TxtIs (cls : Nat → Bs → Option Ct) (ok : Tk → Bool) (t : Bs) (C : List Ct) : Prop :=
 (decide (t.length ≤ 10000) && decide ((scanN (t ++ [10])).1 = 0) && decide ((scanN (t ++ [10])).2.length ≤ 1000000) && (bare (scanN (t ++ [10])).2).all ok && decide (clsL cls (bare (scanN (t ++ [10])).2) = (C, true))) = true
theorem toks_is {cls : Nat → Bs → Option Ct} {ok : Tk → Bool} (hok : ∀ x, ok x = true → ClsOk x.kind x.text (cls x.kind x.text)) {t : Bs} {C : List Ct} (h : TxtIs cls ok t C) (w : World) (hm : Mx w) :
  Calls Tryz.prog 28 #[.string (str t)] w fun e w' => ∃ v, e = .returned v ∧ Below w.heap.size w w' ∧ w'.ownsRow w.heap.size 54 2 v C.length (C.flatMap ctC) := by
 unfold TxtIs at h
 simp only [Bool.and_eq_true, decide_eq_true_eq, List.all_eq_true, ← scanN_eq] at h
 obtain ⟨⟨⟨⟨h1, h2⟩, h3⟩, h4⟩, h5⟩ := h
 exact toksF cls t C w hm h1 h2 h3 (fun x hx => hok x (h4 x hx)) h5
def ok1 (x : Tk) : Bool := decide (x.kind = 1 ∨ x.kind = 5)
theorem ok1_ok (x : Tk) (h : ok1 x = true) : ClsOk x.kind x.text (cls1 x.kind x.text) := cls1_ok (of_decide_eq_true h)
def intX : List Ct := [⟨1, [105, 110, 116]⟩, ⟨2, [120]⟩, ⟨7, [59]⟩]
theorem intX_is : TxtIs cls1 ok1 [105, 110, 116, 32, 120, 59] intX := by
 unfold TxtIs
 decide +kernel
end Go.Proofs.YtlboejdhmggjpaaGreat.Ct

/- WtE -/
namespace Go.Proofs.YtlboejdhmggjpaaGreat.Pp
set_option maxRecDepth 100000
set_option maxHeartbeats 16000000
open Go.RowKit Go.BigFrame Go.Proofs.YtlboejdhmggjpaaGreat

def intXP : List Nd := [⟨1, 0, 3, 5⟩, ⟨3, 0, 3, 4⟩, ⟨5, 0, 1, 1⟩, ⟨13, 1, 2, 2⟩, ⟨14, 1, 2, 1⟩]
theorem intX_parse : parseP Ct.intX (fun _ => false) = some intXP := by decide +kernel
theorem intX_deep : deepL Ct.intX 0 = false := by decide +kernel
theorem nd_eq (a b c d : Int) (w : World) : (binOp .eql 38 (.agg #[.int .i64 a, .int .i64 b, .int .i64 c, .int .i64 d]) (.agg #[.int .i64 a, .int .i64 b, .int .i64 c, .int .i64 d])).run Tryz.prog w = .ok (.bool true) w := by
 simp [go_sem]
theorem wk_alive (w : World) (hm : Ww.Mx w) : Calls Tryz.prog 24 #[] w fun e w' => e = .returned (.bool true) ∧ Below w.heap.size w w' := by
 have ht := Ct.toks_is Ct.ok1_ok Ct.intX_is w hm
 have HT := Lib.hid ht
 have NE := nd_eq
 have hb0 : Tryz.prog.built 38 [(0, Value.int .i64 1), (2, Value.int .i64 3), (3, Value.int .i64 5)] = some #[.int .i64 1, .int .i64 0, .int .i64 3, .int .i64 5] := by kernel_rfl
 have hb1 : Tryz.prog.built 38 [(0, Value.int .i64 3), (2, Value.int .i64 3), (3, Value.int .i64 4)] = some #[.int .i64 3, .int .i64 0, .int .i64 3, .int .i64 4] := by kernel_rfl
 have hb2 : Tryz.prog.built 38 [(0, Value.int .i64 5), (2, Value.int .i64 1), (3, Value.int .i64 1)] = some #[.int .i64 5, .int .i64 0, .int .i64 1, .int .i64 1] := by kernel_rfl
 have hb3 : Tryz.prog.built 38 [(0, Value.int .i64 13), (1, Value.int .i64 1), (2, Value.int .i64 2), (3, Value.int .i64 2)] = some #[.int .i64 13, .int .i64 1, .int .i64 2, .int .i64 2] := by kernel_rfl
 have hb4 : Tryz.prog.built 38 [(0, Value.int .i64 14), (1, Value.int .i64 1), (2, Value.int .i64 2), (3, Value.int .i64 1)] = some #[.int .i64 14, .int .i64 1, .int .i64 2, .int .i64 1] := by kernel_rfl
 clear ht hm
 go_enter Tryz.func24, Tryz.ntmps24
 go_wp2_with fail
 rw [show (⟨#[105, 110, 116, 32, 120, 59]⟩ : ByteArray) = str [105, 110, 116, 32, 120, 59] from rfl]
 refine HT.out.mono ?_
 rintro e w1 ⟨v, rfl, hb1, hown⟩
 obtain ⟨a, c, rfl⟩ := row_shape hown
 have hp := wk_Parse Ct.intX a c w1 (Ct.own_rowAt (n := 2) (f := ctC) (fun _ => rfl) hown) (by decide) (fun t ht => by
  unfold maxLen
  have : ∀ t ∈ Ct.intX, t.t.length ≤ 3 := by decide
  have := this t ht
  omega)
 have HP := Lib.hid hp
 have HB1 := Lib.hid hb1
 clear hp hb1 hown
 go_wp2_with fail
 refine HP.out.mono ?_
 rintro e w2 ⟨v2, z, rfl, hb2, h⟩
 rcases h with ⟨h, -⟩ | ⟨-, h, -⟩ | ⟨P, -, h, rfl, hown2⟩
 ·rw [intX_deep] at h; cases h
 ·rw [intX_parse] at h; cases h
 rw [intX_parse] at h
 cases h
 obtain ⟨g, cc, rfl, hg1, hg2, hg3⟩ := row_block hown2 (by decide)
 have hrow := Ct.own_rowAt (n := 4) (f := ndC) (fun _ => rfl) hown2
 have HC := Lib.hid (show ∀ (i : Nat) (n : Nd), intXP[i]? = some n → CellsAt w2 g (i * 4) (ndC n) from fun i n hi => by
  obtain ⟨b, off, he, h1, h2⟩ := hrow.at (by decide)
  cases he
  obtain ⟨hi', rfl⟩ := List.getElem?_eq_some_iff.1 hi
  have := h2 i hi'
  rwa [Nat.zero_add] at this)
 have HB2 := Lib.hid hb2
 have hlen : intXP.length = 5 := rfl
 rw [hlen]
 clear hown2 hg1 hg2 hg3 hrow hb2 hlen
 have q00 : w2.cell? ⟨g, 0, none⟩ = some (.int .i64 1) := HC.out 0 _ rfl 0 _ rfl
 have q01 : w2.cell? ⟨g, 1, none⟩ = some (.int .i64 0) := HC.out 0 _ rfl 1 _ rfl
 have q02 : w2.cell? ⟨g, 2, none⟩ = some (.int .i64 3) := HC.out 0 _ rfl 2 _ rfl
 have q03 : w2.cell? ⟨g, 3, none⟩ = some (.int .i64 5) := HC.out 0 _ rfl 3 _ rfl
 have q10 : w2.cell? ⟨g, 4, none⟩ = some (.int .i64 3) := HC.out 1 _ rfl 0 _ rfl
 have q11 : w2.cell? ⟨g, 5, none⟩ = some (.int .i64 0) := HC.out 1 _ rfl 1 _ rfl
 have q12 : w2.cell? ⟨g, 6, none⟩ = some (.int .i64 3) := HC.out 1 _ rfl 2 _ rfl
 have q13 : w2.cell? ⟨g, 7, none⟩ = some (.int .i64 4) := HC.out 1 _ rfl 3 _ rfl
 have q20 : w2.cell? ⟨g, 8, none⟩ = some (.int .i64 5) := HC.out 2 _ rfl 0 _ rfl
 have q21 : w2.cell? ⟨g, 9, none⟩ = some (.int .i64 0) := HC.out 2 _ rfl 1 _ rfl
 have q22 : w2.cell? ⟨g, 10, none⟩ = some (.int .i64 1) := HC.out 2 _ rfl 2 _ rfl
 have q23 : w2.cell? ⟨g, 11, none⟩ = some (.int .i64 1) := HC.out 2 _ rfl 3 _ rfl
 have q30 : w2.cell? ⟨g, 12, none⟩ = some (.int .i64 13) := HC.out 3 _ rfl 0 _ rfl
 have q31 : w2.cell? ⟨g, 13, none⟩ = some (.int .i64 1) := HC.out 3 _ rfl 1 _ rfl
 have q32 : w2.cell? ⟨g, 14, none⟩ = some (.int .i64 2) := HC.out 3 _ rfl 2 _ rfl
 have q33 : w2.cell? ⟨g, 15, none⟩ = some (.int .i64 2) := HC.out 3 _ rfl 3 _ rfl
 have q40 : w2.cell? ⟨g, 16, none⟩ = some (.int .i64 14) := HC.out 4 _ rfl 0 _ rfl
 have q41 : w2.cell? ⟨g, 17, none⟩ = some (.int .i64 1) := HC.out 4 _ rfl 1 _ rfl
 have q42 : w2.cell? ⟨g, 18, none⟩ = some (.int .i64 2) := HC.out 4 _ rfl 2 _ rfl
 have q43 : w2.cell? ⟨g, 19, none⟩ = some (.int .i64 1) := HC.out 4 _ rfl 3 _ rfl
 clear HC
 go_wp2_with fail
 go_ret
 exact ⟨rfl, HB1.out.trans (HB2.out.mono HB1.out.size)⟩
end Go.Proofs.YtlboejdhmggjpaaGreat.Pp

/- Plain: a text's tokens, by fuel (so that they can be reckoned). -/
import Derived.Test.YtlboejdhmggjpaaGreatWkA
import Derived.Test.YtlboejdhmggjpaaGreatWtC
import Derived.Test.YtlboejdhmggjpaaGreatWnJ
import Derived.Laws.StructEq
import Derived.Test.YtlboejdhmggjpaaGreatPdB
import Derived.BigQuiet
set_option linter.all false
namespace Go.Proofs.YtlboejdhmggjpaaGreat

def prtsN : Nat → Bs → Nat → List Pt
 | 0, _, _ => []
 | n + 1, s, i => if i < s.length then ptAt s i :: prtsN n s (i + (ptAt s i).len) else []
theorem prtsN_eq : ∀ (n : Nat) (s : Bs) (i : Nat), s.length - i ≤ n → prts s i = prtsN n s i
 | 0, s, i, h => prts_ge (by omega)
 | n + 1, s, i, h => by
  by_cases c : i < s.length
  ·rw [prts_lt c, prtsN, if_pos c, prtsN_eq n s _ (by have := pt_pos s i; omega)]
  ·rw [prts_ge (by omega), prtsN, if_neg c]
def tksN : Nat → Bs → Nat → Nat → Bool → List Tk × Nat
 | 0, _, _, _, _ => ([], 0)
 | _ + 1, [], _, _, _ => ([], 0)
 | m + 1, c :: r, at', st, sp =>
  if isWhite c then tksN m r (at' + 1) st true
  else if (itm (c :: r) (st == 2)).2.2 ≠ 0 then ([], (itm (c :: r) (st == 2)).2.2)
  else
   (⟨(itm (c :: r) (st == 2)).1, (c :: r).take (itm (c :: r) (st == 2)).2.1, at', at' + (itm (c :: r) (st == 2)).2.1, sp⟩ :: (tksN m (r.drop ((itm (c :: r) (st == 2)).2.1 - 1)) (at' + (itm (c :: r) (st == 2)).2.1) (after st (itm (c :: r) (st == 2)).1 ((c :: r).take (itm (c :: r) (st == 2)).2.1)) false).1,
    (tksN m (r.drop ((itm (c :: r) (st == 2)).2.1 - 1)) (at' + (itm (c :: r) (st == 2)).2.1) (after st (itm (c :: r) (st == 2)).1 ((c :: r).take (itm (c :: r) (st == 2)).2.1)) false).2)
theorem tksN_eq : ∀ (n : Nat) (t : Bs) (at' st : Nat) (sp : Bool), t.length ≤ n → tks t at' st sp = tksN n t at' st sp
 | 0, [], at', st, sp, _ => by rw [tks]; rfl
 | 0, c :: r, at', st, sp, h => by simp at h
 | n + 1, [], at', st, sp, _ => by rw [tks]; rfl
 | n + 1, c :: r, at', st, sp, h => by
  have h' : r.length ≤ n := by simpa using h
  rw [tks, tksN]
  split
  ·exact tksN_eq n r _ _ _ h'
  split
  ·rfl
  ·dsimp only
   rw [tksN_eq n _ _ _ _ (by rw [List.length_drop]; omega)]
def chkN (s : Bs) : Nat := if 65536 < s.length then 3 else if (match (prtsN s.length s 0).getLast? with | none => false | some p => endBad p) then 10 else 0
def charsN (s : Bs) : List Pt := (prtsN s.length s 0).filter fun p => !p.spl
def scanN (s : Bs) : Nat × List Tk :=
 if chkN s ≠ 0 then (chkN s, [])
 else match tksN s.length ((charsN s).map (·.b)) 0 0 false with
  | (l, e) => if e ≠ 0 then (e, []) else (0, l.map (place (charsN s)))
theorem prtsN_len : ∀ (n : Nat) (s : Bs) (i : Nat), (prtsN n s i).length ≤ n
 | 0, s, i => Nat.le_refl _
 | n + 1, s, i => by
  rw [prtsN]
  split
  ·have := prtsN_len n s (i + (ptAt s i).len); simp; omega
  ·simp
theorem scanN_eq (s : Bs) : scanP s = scanN s := by
 have h1 : prts s 0 = prtsN s.length s 0 := prtsN_eq _ _ _ (by omega)
 have h2 : chk s = chkN s := by unfold chk chkN badEnd; rw [h1]; rfl
 have h3 : chars s = charsN s := by unfold chars charsN; rw [h1]
 have h4 : tks (logic s) 0 0 false = tksN s.length ((charsN s).map (·.b)) 0 0 false := by
  unfold logic
  rw [h3]
  refine tksN_eq _ _ _ _ _ ?_
  rw [List.length_map]
  unfold charsN
  exact Nat.le_trans (List.length_filter_le _ _) (prtsN_len _ _ _)
 unfold scanP scanN
 rw [h2, h3, h4]
end Go.Proofs.YtlboejdhmggjpaaGreat

/- WtD -/
namespace Go.Proofs.YtlboejdhmggjpaaGreat.Ct
set_option maxRecDepth 100000
set_option maxHeartbeats 16000000
open Go.RowKit Go.BigFrame Go.Proofs.YtlboejdhmggjpaaGreat Go.Proofs.YtlboejdhmggjpaaGreat.Pp Go.Proofs.YtlboejdhmggjpaaGreat.Ww

theorem own_rowAt {α : Type} {n : Nat} {f : α → List Value} (hf : ∀ x, (f x).length = n) {w : World} {X e : Nat} {a : Option Addr} {c : Nat} {l : List α} (h : w.ownsRow X e n (.slice a l.length c) l.length (l.flatMap f)) : RowAt n f w a l := by
 rcases Nat.eq_zero_or_pos l.length with h0 | h0
 ·exact .inl (List.length_eq_zero_iff.1 h0)
 ·obtain ⟨g, c', he, h1, h2, h3⟩ := row_block h h0
  cases he
  refine .inr ⟨g, 0, rfl, h2, fun i hi j v hv => ?_⟩
  have hj : j < n := by have := (List.getElem?_eq_some_iff.1 hv).1; rw [hf] at this; exact this
  rw [Nat.zero_add, h.cellAt _ (by
   have : (i + 1) * n ≤ l.length * n := Nat.mul_le_mul_right _ hi
   rw [Nat.succ_mul] at this
   omega), flat_get n f hf l i j hi hj]
  exact hv
theorem scan (s : ByteArray) (w : World) (hs : s.size ≤ 1000000000) (hm : Mx w) : Calls Tryz.prog 42 #[.string s] w (ScPost s w) := by
 by_cases h : chk (dl s) = 0
 ·exact Sc.scanOk s w hs h hm
 ·exact Sc.scanBad s w hs h
theorem mx_below {w w' : World} (h : Mx w) (hb : Below w.heap.size w w') : Mx w' := by
 obtain ⟨m, hm⟩ := h
 exact ⟨m, (hb.cell (World.block_lt_of_cell? _ _ hm)).trans hm⟩
def cls1 (k : Nat) (t : Bs) : Option Ct := if k = 1 then some ⟨if isKw t then 1 else 2, t⟩ else if k = 5 then some ⟨7, canon t⟩ else none
theorem cls1_ok {k : Nat} {t : Bs} (h : k = 1 ∨ k = 5) : ClsOk k t (cls1 k t) := by
 rcases h with rfl | rfl
 ·exact class_word t
 ·exact class_punct t
theorem toksF (cls : Nat → Bs → Option Ct) (t : Bs) (C : List Ct) (w : World) (hm : Mx w) (hl : t.length ≤ 10000) (h0 : (scanP (t ++ [10])).1 = 0) (hn : (scanP (t ++ [10])).2.length ≤ 1000000) (hc : ∀ x ∈ bare (scanP (t ++ [10])).2, ClsOk x.kind x.text (cls x.kind x.text)) (hC : clsL cls (bare (scanP (t ++ [10])).2) = (C, true)) :
  Calls Tryz.prog 28 #[.string (str t)] w fun e w' => ∃ v, e = .returned v ∧ Below w.heap.size w w' ∧ w'.ownsRow w.heap.size 54 2 v C.length (C.flatMap ctC) := by
 obtain ⟨S, hS⟩ : ∃ S, str (t ++ [10]) = S := ⟨_, rfl⟩
 have hdl : dl S = t ++ [10] := by rw [← hS]; exact dl_str _
 have hap : str t ++ ⟨#[10]⟩ = S := by rw [← hS]; exact str_append t [10]
 have hsz : S.size ≤ 1000000000 := by rw [← hS, str_size, List.length_append]; simp; omega
 have hsc := scan S w hsz hm
 obtain ⟨st, hst⟩ : ∃ st : ByteArray, str t = st := ⟨_, rfl⟩
 rw [hst] at hap ⊢
 unfold ScPost at hsc
 rw [hdl, h0] at hsc
 simp only [if_true] at hsc
 obtain ⟨l, hlL⟩ : ∃ l, (scanP (t ++ [10])).2 = l := ⟨_, rfl⟩
 rw [hlL] at hsc hn hc hC
 have HSC := Lib.hid hsc
 have HC := Lib.hid hc
 have HCC := Lib.hid hC
 have HM := Lib.hid hm
 have HN := Lib.hid hn
 have hs1 : ¬ (9223372036854775807 < st.size + 1) := by rw [← hst, str_size]; omega
 clear hsc hc hC hm hn hlL h0 hst hdl hS hl
 go_enter Tryz.func28, Tryz.ntmps28
 go_wp2_with fail
 refine HSC.out.mono ?_
 rintro e w1 ⟨hb1, v, rfl, hown⟩
 obtain ⟨a, c, rfl⟩ := Pp.row_shape hown
 have htk := tokens cls a c l w1 (mx_below HM.out hb1) (own_rowAt (n := 5) (f := tkC) (fun _ => rfl) hown) HN.out HC.out
 obtain ⟨n, hn⟩ : ∃ n, l.length = n := ⟨_, rfl⟩
 rw [hn] at htk ⊢
 have HTK := Lib.hid htk
 have HB1 := Lib.hid hb1
 clear htk hb1 hown hn hap
 go_wp2_with fail
 refine HTK.out.mono ?_
 intro e w2 he
 unfold TokPost at he
 rw [HCC.out] at he
 obtain ⟨hb2, ⟨-, v2, rfl, hown2⟩ | ⟨h, -⟩⟩ := he
 case' inr => cases h
 have HB2 := Lib.hid hb2
 have HO2 := Lib.hid hown2
 clear hb2 hown2
 go_wp2_with fail
 go_ret
 exact ⟨v2, rfl, HB1.out.trans (HB2.out.mono HB1.out.size), own_base HO2.out HB1.out.size⟩
def TxtIs (cls : Nat → Bs → Option Ct) (ok : Tk → Bool) (t : Bs) (C : List Ct) : Prop :=
 (decide (t.length ≤ 10000) && decide ((scanN (t ++ [10])).1 = 0) && decide ((scanN (t ++ [10])).2.length ≤ 1000000) && (bare (scanN (t ++ [10])).2).all ok && decide (clsL cls (bare (scanN (t ++ [10])).2) = (C, true))) = true
theorem toks_is {cls : Nat → Bs → Option Ct} {ok : Tk → Bool} (hok : ∀ x, ok x = true → ClsOk x.kind x.text (cls x.kind x.text)) {t : Bs} {C : List Ct} (h : TxtIs cls ok t C) (w : World) (hm : Mx w) :
  Calls Tryz.prog 28 #[.string (str t)] w fun e w' => ∃ v, e = .returned v ∧ Below w.heap.size w w' ∧ w'.ownsRow w.heap.size 54 2 v C.length (C.flatMap ctC) := by
 unfold TxtIs at h
 simp only [Bool.and_eq_true, decide_eq_true_eq, List.all_eq_true, ← scanN_eq] at h
 obtain ⟨⟨⟨⟨h1, h2⟩, h3⟩, h4⟩, h5⟩ := h
 exact toksF cls t C w hm h1 h2 h3 (fun x hx => hok x (h4 x hx)) h5
def ok1 (x : Tk) : Bool := decide (x.kind = 1 ∨ x.kind = 5)
theorem ok1_ok (x : Tk) (h : ok1 x = true) : ClsOk x.kind x.text (cls1 x.kind x.text) := cls1_ok (of_decide_eq_true h)
def intX : List Ct := [⟨1, [105, 110, 116]⟩, ⟨2, [120]⟩, ⟨7, [59]⟩]
theorem intX_is : TxtIs cls1 ok1 [105, 110, 116, 32, 120, 59] intX := by
 unfold TxtIs
 decide +kernel
end Go.Proofs.YtlboejdhmggjpaaGreat.Ct

/- WtE -/
namespace Go.Proofs.YtlboejdhmggjpaaGreat.Pp
set_option maxRecDepth 100000
set_option maxHeartbeats 16000000
open Go.RowKit Go.BigFrame Go.Proofs.YtlboejdhmggjpaaGreat

def intXP : List Nd := [⟨1, 0, 3, 5⟩, ⟨3, 0, 3, 4⟩, ⟨5, 0, 1, 1⟩, ⟨13, 1, 2, 2⟩, ⟨14, 1, 2, 1⟩]
theorem intX_parse : parseP Ct.intX (fun _ => false) = some intXP := by decide +kernel
theorem intX_deep : deepL Ct.intX 0 = false := by decide +kernel
theorem nd_eq (a b c d : Int) (w : World) : (binOp .eql 38 (.agg #[.int .i64 a, .int .i64 b, .int .i64 c, .int .i64 d]) (.agg #[.int .i64 a, .int .i64 b, .int .i64 c, .int .i64 d])).run Tryz.prog w = .ok (.bool true) w := by
 simp [go_sem]
theorem wk_alive (w : World) (hm : Ww.Mx w) : Calls Tryz.prog 24 #[] w fun e w' => e = .returned (.bool true) ∧ Below w.heap.size w w' := by
 have ht := Ct.toks_is Ct.ok1_ok Ct.intX_is w hm
 have HT := Lib.hid ht
 have NE := nd_eq
 have hb0 : Tryz.prog.built 38 [(0, Value.int .i64 1), (2, Value.int .i64 3), (3, Value.int .i64 5)] = some #[.int .i64 1, .int .i64 0, .int .i64 3, .int .i64 5] := by kernel_rfl
 have hb1 : Tryz.prog.built 38 [(0, Value.int .i64 3), (2, Value.int .i64 3), (3, Value.int .i64 4)] = some #[.int .i64 3, .int .i64 0, .int .i64 3, .int .i64 4] := by kernel_rfl
 have hb2 : Tryz.prog.built 38 [(0, Value.int .i64 5), (2, Value.int .i64 1), (3, Value.int .i64 1)] = some #[.int .i64 5, .int .i64 0, .int .i64 1, .int .i64 1] := by kernel_rfl
 have hb3 : Tryz.prog.built 38 [(0, Value.int .i64 13), (1, Value.int .i64 1), (2, Value.int .i64 2), (3, Value.int .i64 2)] = some #[.int .i64 13, .int .i64 1, .int .i64 2, .int .i64 2] := by kernel_rfl
 have hb4 : Tryz.prog.built 38 [(0, Value.int .i64 14), (1, Value.int .i64 1), (2, Value.int .i64 2), (3, Value.int .i64 1)] = some #[.int .i64 14, .int .i64 1, .int .i64 2, .int .i64 1] := by kernel_rfl
 clear ht hm
 go_enter Tryz.func24, Tryz.ntmps24
 go_wp2_with fail
 rw [show (⟨#[105, 110, 116, 32, 120, 59]⟩ : ByteArray) = str [105, 110, 116, 32, 120, 59] from rfl]
 refine HT.out.mono ?_
 rintro e w1 ⟨v, rfl, hb1, hown⟩
 obtain ⟨a, c, rfl⟩ := row_shape hown
 have hp := wk_Parse Ct.intX a c w1 (Ct.own_rowAt (n := 2) (f := ctC) (fun _ => rfl) hown) (by decide) (fun t ht => by
  unfold maxLen
  have : ∀ t ∈ Ct.intX, t.t.length ≤ 3 := by decide
  have := this t ht
  omega)
 have HP := Lib.hid hp
 have HB1 := Lib.hid hb1
 clear hp hb1 hown
 go_wp2_with fail
 refine HP.out.mono ?_
 rintro e w2 ⟨v2, z, rfl, hb2, h⟩
 rcases h with ⟨h, -⟩ | ⟨-, h, -⟩ | ⟨P, -, h, rfl, hown2⟩
 ·rw [intX_deep] at h; cases h
 ·rw [intX_parse] at h; cases h
 rw [intX_parse] at h
 cases h
 obtain ⟨g, cc, rfl, hg1, hg2, hg3⟩ := row_block hown2 (by decide)
 have hrow := Ct.own_rowAt (n := 4) (f := ndC) (fun _ => rfl) hown2
 have HC := Lib.hid (show ∀ (i : Nat) (n : Nd), intXP[i]? = some n → CellsAt w2 g (i * 4) (ndC n) from fun i n hi => by
  obtain ⟨b, off, he, h1, h2⟩ := hrow.at (by decide)
  cases he
  obtain ⟨hi', rfl⟩ := List.getElem?_eq_some_iff.1 hi
  have := h2 i hi'
  rwa [Nat.zero_add] at this)
 have HB2 := Lib.hid hb2
 have hlen : intXP.length = 5 := rfl
 rw [hlen]
 clear hown2 hg1 hg2 hg3 hrow hb2 hlen
 have q00 : w2.cell? ⟨g, 0, none⟩ = some (.int .i64 1) := HC.out 0 _ rfl 0 _ rfl
 have q01 : w2.cell? ⟨g, 1, none⟩ = some (.int .i64 0) := HC.out 0 _ rfl 1 _ rfl
 have q02 : w2.cell? ⟨g, 2, none⟩ = some (.int .i64 3) := HC.out 0 _ rfl 2 _ rfl
 have q03 : w2.cell? ⟨g, 3, none⟩ = some (.int .i64 5) := HC.out 0 _ rfl 3 _ rfl
 have q10 : w2.cell? ⟨g, 4, none⟩ = some (.int .i64 3) := HC.out 1 _ rfl 0 _ rfl
 have q11 : w2.cell? ⟨g, 5, none⟩ = some (.int .i64 0) := HC.out 1 _ rfl 1 _ rfl
 have q12 : w2.cell? ⟨g, 6, none⟩ = some (.int .i64 3) := HC.out 1 _ rfl 2 _ rfl
 have q13 : w2.cell? ⟨g, 7, none⟩ = some (.int .i64 4) := HC.out 1 _ rfl 3 _ rfl
 have q20 : w2.cell? ⟨g, 8, none⟩ = some (.int .i64 5) := HC.out 2 _ rfl 0 _ rfl
 have q21 : w2.cell? ⟨g, 9, none⟩ = some (.int .i64 0) := HC.out 2 _ rfl 1 _ rfl
 have q22 : w2.cell? ⟨g, 10, none⟩ = some (.int .i64 1) := HC.out 2 _ rfl 2 _ rfl
 have q23 : w2.cell? ⟨g, 11, none⟩ = some (.int .i64 1) := HC.out 2 _ rfl 3 _ rfl
 have q30 : w2.cell? ⟨g, 12, none⟩ = some (.int .i64 13) := HC.out 3 _ rfl 0 _ rfl
 have q31 : w2.cell? ⟨g, 13, none⟩ = some (.int .i64 1) := HC.out 3 _ rfl 1 _ rfl
 have q32 : w2.cell? ⟨g, 14, none⟩ = some (.int .i64 2) := HC.out 3 _ rfl 2 _ rfl
 have q33 : w2.cell? ⟨g, 15, none⟩ = some (.int .i64 2) := HC.out 3 _ rfl 3 _ rfl
 have q40 : w2.cell? ⟨g, 16, none⟩ = some (.int .i64 14) := HC.out 4 _ rfl 0 _ rfl
 have q41 : w2.cell? ⟨g, 17, none⟩ = some (.int .i64 1) := HC.out 4 _ rfl 1 _ rfl
 have q42 : w2.cell? ⟨g, 18, none⟩ = some (.int .i64 2) := HC.out 4 _ rfl 2 _ rfl
 have q43 : w2.cell? ⟨g, 19, none⟩ = some (.int .i64 1) := HC.out 4 _ rfl 3 _ rfl
 clear HC
 go_wp2_with fail
 go_ret
 exact ⟨rfl, HB1.out.trans (HB2.out.mono HB1.out.size)⟩
end Go.Proofs.YtlboejdhmggjpaaGreat.Pp

/- WxE -/
namespace Go.Proofs.YtlboejdhmggjpaaGreat.Ct
open Go.RowKit Go.BigFrame Go.Proofs.YtlboejdhmggjpaaGreat Go.Proofs.YtlboejdhmggjpaaGreat.Pp Go.Proofs.YtlboejdhmggjpaaGreat.Ww
set_option linter.unusedVariables false

set_option maxRecDepth 100000 in
set_option maxHeartbeats 8000000 in
theorem class_call (k cl f : Nat) (t : Bs) (w : World) (hm : Mx w) (hk : (k = 2 ∧ cl = 3 ∧ ∀ W, Below w.heap.size w W → Calls Tryz.prog 111 #[.string (str t)] W fun e w' => (∃ u v, e = .returned (.tuple #[u, v, .int .i64 0])) ∧ Below W.heap.size W w') ∨
    (k = 4 ∧ cl = 6 ∧ ∀ W, Below w.heap.size w W → Calls Tryz.prog 114 #[.string (str t)] W fun e w' => (∃ v, e = .returned (.tuple #[v, .int .i64 0])) ∧ Below W.heap.size W w')) :
    Calls Tryz.prog 70 #[.int .i64 k, .string (str t)] w (ClsPost (some ⟨cl, t⟩) w) := by
  obtain ⟨st, hst⟩ : ∃ st : ByteArray, str t = st := ⟨_, rfl⟩
  rw [hst] at hk ⊢
  obtain ⟨R, hR⟩ : ∃ R, R = ClsPost (some ⟨cl, t⟩) w := ⟨_, rfl⟩
  rw [← hR]
  have HR := Lib.hid hR
  have HST := Lib.hid hst
  clear hR hst
  have fin : ∀ (w2 : World), Below (w.alloc (.cells #[.int .i64 0, .string ⟨#[]⟩] 54)).heap.size (w.alloc (.cells #[.int .i64 0, .string ⟨#[]⟩] 54)) w2 → w2.heap[w.heap.size]? = some (.cells #[.int .i64 0, .string ⟨#[]⟩] 54 (0, 0)) ∧ Below w.heap.size w w2 := fun w2 h => ⟨heap_below h (heap_alloc_new _ _) (by simp), (below_alloc _ _).trans (h.mono (by simp))⟩
  have HF := Lib.hid fin
  clear fin
  rcases hk with ⟨rfl, rfl, hc⟩ | ⟨rfl, rfl, hc⟩
  · have HC := Lib.hid hc
    clear hc
    go_enter Tryz.func70, Tryz.ntmps70
    go_wp2_with fail
    refine (HC.out _ (below_alloc _ _)).mono ?_
    rintro e w2 ⟨⟨u, v, rfl⟩, hb⟩
    obtain ⟨h1, h2⟩ := HF.out _ hb
    have z0 : ∀ i, w2.frozen? ⟨w.heap.size, i, none⟩ = false := fun i => Lib.frozen_of_heap h1 i
    have d0 : w2.cell? ⟨w.heap.size, 0, none⟩ = some (.int .i64 0) := by simp [World.cell?, h1]
    have d1 : w2.cell? ⟨w.heap.size, 1, none⟩ = some (.string ⟨#[]⟩) := by simp [World.cell?, h1]
    have H1 := Lib.hid h1
    have H2 := Lib.hid h2
    clear hb h1 h2
    go_wp2_with fail
    have hb3 := (H2.out.setCell (p := ⟨w.heap.size, 0, none⟩) (by simp) (.int .i64 3)).setCell (p := ⟨w.heap.size, 1, none⟩) (by simp) (.string st)
    have q := heap_setCell_same _ w.heap.size 1 _ _ (.string st) (heap_setCell_same w2 w.heap.size 0 _ _ (.int .i64 3) H1.out)
    obtain ⟨W3, hW3⟩ : ∃ W, W = (w2.setCell ⟨w.heap.size, 0, none⟩ (.int .i64 3)).setCell ⟨w.heap.size, 1, none⟩ (.string st) := ⟨_, rfl⟩
    rw [← hW3] at q hb3 ⊢
    have p0 : W3.cell? ⟨w.heap.size, 0, none⟩ = some (.int .i64 3) := by simp [World.cell?, q]
    have p1 : W3.cell? ⟨w.heap.size, 1, none⟩ = some (.string st) := by simp [World.cell?, q]
    clear hW3
    refine bodyPost_ret (v := .tuple #[.agg #[.int .i64 3, .string st], .int .i64 0]) (by simp [results, Tryz.results70, go_sem, p0, p1]) rfl ?_
    rw [HR.out]
    exact ⟨by rw [← HST.out]; rfl, hb3⟩
  · have HC := Lib.hid hc
    clear hc
    go_enter Tryz.func70, Tryz.ntmps70
    go_wp2_with fail
    refine (HC.out _ (below_alloc _ _)).mono ?_
    rintro e w2 ⟨⟨v, rfl⟩, hb⟩
    obtain ⟨h1, h2⟩ := HF.out _ hb
    have z0 : ∀ i, w2.frozen? ⟨w.heap.size, i, none⟩ = false := fun i => Lib.frozen_of_heap h1 i
    have d0 : w2.cell? ⟨w.heap.size, 0, none⟩ = some (.int .i64 0) := by simp [World.cell?, h1]
    have d1 : w2.cell? ⟨w.heap.size, 1, none⟩ = some (.string ⟨#[]⟩) := by simp [World.cell?, h1]
    have H1 := Lib.hid h1
    have H2 := Lib.hid h2
    clear hb h1 h2
    go_wp2_with fail
    have hb3 := (H2.out.setCell (p := ⟨w.heap.size, 0, none⟩) (by simp) (.int .i64 6)).setCell (p := ⟨w.heap.size, 1, none⟩) (by simp) (.string st)
    have q := heap_setCell_same _ w.heap.size 1 _ _ (.string st) (heap_setCell_same w2 w.heap.size 0 _ _ (.int .i64 6) H1.out)
    obtain ⟨W3, hW3⟩ : ∃ W, W = (w2.setCell ⟨w.heap.size, 0, none⟩ (.int .i64 6)).setCell ⟨w.heap.size, 1, none⟩ (.string st) := ⟨_, rfl⟩
    rw [← hW3] at q hb3 ⊢
    have p0 : W3.cell? ⟨w.heap.size, 0, none⟩ = some (.int .i64 6) := by simp [World.cell?, q]
    have p1 : W3.cell? ⟨w.heap.size, 1, none⟩ = some (.string st) := by simp [World.cell?, q]
    clear hW3
    refine bodyPost_ret (v := .tuple #[.agg #[.int .i64 6, .string st], .int .i64 0]) (by simp [results, Tryz.results70, go_sem, p0, p1]) rfl ?_
    rw [HR.out]
    exact ⟨by rw [← HST.out]; rfl, hb3⟩
theorem class_num (c : UInt8) (h1 : 49 ≤ c.toNat) (h2 : c.toNat ≤ 57) : ClsOk 2 [c] (some ⟨3, [c]⟩) := fun w hm =>
  class_call 2 3 111 [c] w hm (.inl ⟨rfl, rfl, fun W hW => (Dg.int c W h1 h2).mono fun e w' ⟨he, hb⟩ => ⟨⟨_, _, he⟩, hb⟩⟩)
theorem class_str (c : UInt8) (hc : c.toNat ≠ 92) (hits : its [34, c, 34] 0 0 = [⟨4, 0, 3, 0⟩]) : ClsOk 4 [34, c, 34] (some ⟨6, [34, c, 34]⟩) := fun w hm =>
  class_call 4 6 114 [34, c, 34] w hm (.inr ⟨rfl, rfl, fun W hW => El.str c hc W (hm.of hW hm.pos) hits⟩)
def cls2 (k : Nat) (t : Bs) : Option Ct := if k = 1 then some ⟨if isKw t then 1 else 2, t⟩ else if k = 5 then some ⟨7, canon t⟩ else if k = 2 then some ⟨3, t⟩ else if k = 4 then some ⟨6, t⟩ else none
def ok2 (x : Tk) : Bool := decide (x.kind = 1 ∨ x.kind = 5) || decide (x.kind = 2 ∧ (x.text = [49] ∨ x.text = [50] ∨ x.text = [51])) || decide (x.kind = 4 ∧ (x.text = [34, 97, 34] ∨ x.text = [34, 98, 34]))
theorem ok2_ok (x : Tk) (h : ok2 x = true) : ClsOk x.kind x.text (cls2 x.kind x.text) := by
  unfold ok2 at h
  simp only [Bool.or_eq_true, decide_eq_true_eq] at h
  rcases h with ((h | h) | ⟨h, ht⟩) | ⟨h, ht⟩
  · rw [h]; exact class_word _
  · rw [h]; exact class_punct _
  · rw [h]
    rcases ht with ht | ht | ht <;> rw [ht] <;> exact class_num _ (by decide) (by decide)
  · rw [h]
    have e : ∀ c : UInt8, (c = 97 ∨ c = 98) → its [34, c, 34] 0 0 = [⟨4, 0, 3, 0⟩] := fun c hc => by
      rcases hc with rfl | rfl
      · rw [its_tok (t := [34, 97, 34]) rfl (by decide) (by decide +kernel)]
        rw [show itm [34, 97, 34] ((0 : Nat) == 2) = (4, 3, 0) by decide +kernel]
        simp [its_nil]
      · rw [its_tok (t := [34, 98, 34]) rfl (by decide) (by decide +kernel)]
        rw [show itm [34, 98, 34] ((0 : Nat) == 2) = (4, 3, 0) by decide +kernel]
        simp [its_nil]
    rcases ht with ht | ht <;> rw [ht] <;> exact class_str _ (by decide) (e _ (by simp))
end Go.Proofs.YtlboejdhmggjpaaGreat.Ct

/- WxF -/
namespace Go.Proofs.YtlboejdhmggjpaaGreat.Pp
open Go.RowKit Go.BigFrame Go.Proofs.YtlboejdhmggjpaaGreat
set_option linter.unusedVariables false

/-- A text's tokens. -/
def tkC (t : Bs) : List Ct := (Ct.clsL Ct.cls2 (bare (scanN (t ++ [10])).2)).1
/-- The kinds of a text's nodes. -/
def kdP (t : Bs) : List Int := if deepL (tkC t) 0 = true then [-111] else match parseP (tkC t) (fun _ => false) with
  | none => [-110]
  | some P => P.map fun n => (n.k : Int)
def goodT (t : Bs) (want : List Int) : Bool :=
  decide (t.length ≤ 10000) && decide ((scanN (t ++ [10])).1 = 0) && decide ((scanN (t ++ [10])).2.length ≤ 1000000) && (bare (scanN (t ++ [10])).2).all Ct.ok2 && decide ((Ct.clsL Ct.cls2 (bare (scanN (t ++ [10])).2)).2 = true) &&
    decide ((tkC t).length ≤ 1000) && (tkC t).all (fun x => decide (x.t.length ≤ 1000)) && decide (kdP t = want)
def intC (z : Int) : List Value := [.int .i64 z]
theorem goodT_toks {t : Bs} {K : List Int} (h : goodT t K = true) : Ct.TxtIs Ct.cls2 Ct.ok2 t (tkC t) ∧ (tkC t).length ≤ 1000 ∧ (∀ x ∈ tkC t, x.t.length ≤ maxLen) ∧ kdP t = K := by
  unfold goodT at h
  simp only [Bool.and_eq_true, decide_eq_true_eq, List.all_eq_true] at h
  obtain ⟨⟨⟨⟨⟨⟨⟨h1, h2⟩, h3⟩, h4⟩, h5⟩, h6⟩, h7⟩, h8⟩ := h
  refine ⟨?_, h6, fun x hx => Nat.le_trans (h7 x hx) (by decide), h8⟩
  unfold Ct.TxtIs
  simp only [Bool.and_eq_true, decide_eq_true_eq, List.all_eq_true]
  exact ⟨⟨⟨⟨h1, h2⟩, h3⟩, h4⟩, Prod.ext rfl h5⟩
theorem lit_end {w w2 : World} {z : Int} (hb : Below w.heap.size w w2) : ∃ v, Ending.returned (.slice (some ⟨w2.heap.size, 0, none⟩) 1 1) = Ending.returned v ∧ Below w.heap.size w (w2.alloc (.cells #[.int .i64 z] 3)) ∧ (w2.alloc (.cells #[.int .i64 z] 3)).ownsRow w.heap.size 3 1 v [z].length ([z].flatMap intC) :=
  ⟨_, rfl, hb.alloc hb.size _, rfl, .inr ⟨w2.heap.size, 1, _, rfl, hb.size, new_cells _ _ _, Nat.le_refl _, by decide, rfl, rfl⟩⟩
theorem one_cell (w : World) (v : Value) (ty : TypeId) : ∀ j u, [v][j]? = some u → (w.alloc (.cells #[v] ty)).cell? ((⟨w.heap.size, 0, none⟩ : Addr).add j) = some u := fun j u hj => by
  match j, hj with
  | 0, hj => simp at hj; subst hj; simp [Addr.add]
set_option maxRecDepth 100000 in
set_option maxHeartbeats 8000000 in
theorem wk_kinds (t : Bs) (K : List Int) (w : World) (hm : Ww.Mx w) (hg : goodT t K = true) :
    Calls Tryz.prog 41 #[.string (str t)] w fun e w' => ∃ v, e = .returned v ∧ Below w.heap.size w w' ∧ w'.ownsRow w.heap.size 3 1 v K.length (K.flatMap intC) := by
  obtain ⟨h1, h2, h3, h4⟩ := goodT_toks hg
  have ht := Ct.toks_is Ct.ok2_ok h1 w hm
  obtain ⟨st, hst⟩ : ∃ s : ByteArray, str t = s := ⟨_, rfl⟩
  rw [hst] at ht ⊢
  obtain ⟨C, hC⟩ : ∃ C, tkC t = C := ⟨_, rfl⟩
  unfold kdP at h4
  rw [hC] at ht h2 h3 h4
  have HT := Lib.hid ht
  have H3 := Lib.hid h3
  have H4 := Lib.hid h4
  obtain ⟨i0, hi0, hz0, hz1, hz2⟩ := info_parts3 info3
  have HI := Lib.hid hi0
  have HZ0 := Lib.hid hz0
  have HZ1 := Lib.hid hz1
  have HZ2 := Lib.hid hz2
  clear hi0 hz0 hz1 hz2 ht h1 h3 h4 hm hg hC hst
  go_enter Tryz.func41, Tryz.ntmps41
  go_wp2_with fail
  refine HT.out.mono ?_
  rintro e w1 ⟨v, rfl, hb1, hown⟩
  obtain ⟨a, c, rfl⟩ := row_shape hown
  have hp := wk_Parse C a c w1 (Ct.own_rowAt (n := 2) (f := ctC) (fun _ => rfl) hown) (by omega) H3.out
  obtain ⟨N, hN⟩ : ∃ n, C.length = n := ⟨_, rfl⟩
  rw [hN] at hp ⊢
  have HP := Lib.hid hp
  have HB1 := Lib.hid hb1
  clear hp hb1 hown
  go_wp2_with fail
  refine HP.out.mono ?_
  rintro e w2 ⟨v2, z, rfl, hb2, h⟩
  have HB2 := Lib.hid (HB1.out.trans (hb2.mono HB1.out.size))
  clear hb2
  rcases h with ⟨h, rfl, rfl⟩ | ⟨h0, h, rfl, rfl⟩ | ⟨P, h0, h, rfl, hown2⟩
  · have hK : K = [-111] := by rw [← H4.out, h]; rfl
    subst hK
    go_wp2_with fail
    go_ret
    exact lit_end HB2.out
  · have hK : K = [-110] := by rw [← H4.out, h0, h]; rfl
    subst hK
    go_wp2_with fail
    go_ret
    exact lit_end HB2.out
  · have hK : K = P.map fun n => (n.k : Int) := by rw [← H4.out, h0, h]; rfl
    have hPl : P.length ≤ 1000000 := by
      unfold parseP at h
      cases hr : run C (fun _ => false) (fu C) .unit s0 with
      | out => rw [hr] at h; cases h
      | no => rw [hr] at h; cases h
      | ok v s =>
        rw [hr] at h
        cases h
        obtain ⟨ht, -, -⟩ := (unit_good C (fun _ => false)).2 _ _ hr
        obtain ⟨-, -, -, hlen, -⟩ := ht.ahead
        show (aheadP s.done).length ≤ _
        rw [hlen]
        have := ht.len
        omega
    obtain ⟨a2, c2, rfl⟩ := row_shape hown2
    obtain ⟨M, hM⟩ : ∃ m, P.length = m := ⟨_, rfl⟩
    obtain ⟨g, hg⟩ : ∃ g, w2.heap.size = g := ⟨_, rfl⟩
    have HO := Lib.hid hown2
    have HM := Lib.hid hM
    have HG := Lib.hid hg
    have HK := Lib.hid hK
    rw [hM] at hPl ⊢
    clear hK h h0 hown2 hM hg
    go_wp2_with fail
    go_loopw [5, 6] (fun s5 s6 wr => ∃ i : Nat, i ≤ M ∧ s6 = .int .i64 i ∧ Below g w2 wr ∧ wr.ownsRow g 3 1 s5 i (((P.take i).map fun n => (n.k : Int)).flatMap intC)) (fun s5 s6 _ => M - (intOf s6).toNat)
    case atStart => exact ⟨0, Nat.zero_le _, rfl, by rw [← HG.out]; exact Below.refl _ _, World.ownsRow_nil _ _ _ _⟩
    case round =>
      obtain ⟨i, hi, rfl, hb, hrow⟩ := hrel
      obtain ⟨oa, oc, rfl⟩ := row_shape hrow
      have hgs : g ≤ wr.heap.size := by rw [← HG.out]; exact hb.size
      have HB := Lib.hid hb
      have HR := Lib.hid hrow
      by_cases hlt : i < M
      · have hlt2 : decide (i < M) = true := decide_eq_true hlt
        have hip : i < P.length := by rw [HM.out]; exact hlt
        have hx := ownsRow_ext HO.out (by rw [HG.out]; exact hb : Below w2.heap.size w2 wr)
        obtain ⟨ga, ca, he, -⟩ := row_block hx (by omega)
        cases he
        obtain ⟨c1, -⟩ := nd_cell hx hip
        obtain ⟨nk, hnk⟩ : ∃ k : Nat, (P.getD i n0).k = k := ⟨_, rfl⟩
        rw [hnk] at c1
        have HNK := Lib.hid hnk
        have HONE := Lib.hid (one_cell wr (.int .i64 nk) 3)
        clear hb hrow hx hnk
        go_wp2_with (first | (at_builtin; refine wpList_append_own _ rfl _ _ 61 rfl g 3 i0 (.int .i64 0) 1 8 Tryz.underlying61 HI.out HZ0.out HZ1.out HZ2.out rfl (by decide) _ i _ rfl (HR.out.alloc _) ⟨wr.heap.size, 0, none⟩ 1 1 [.int .i64 nk] rfl rfl HONE.out (fun u hu => by simp at hu; subst hu; rfl) (by unfold maxLen; omega) (by omega) (by simp; omega) ?_; intro v' w5 hown' hgrow _) | fail)
        have HOWN' := Lib.hid hown'
        have HBE' := Lib.hid ((HB.out.alloc hgs (.cells #[.int .i64 nk] 3)).grown hgrow (by simp; omega) (fun k hk => (HR.out.lt k hk).1))
        clear hown' hgrow
        go_wp2_with fail
        go_roundw
        case rel =>
          refine ⟨i + 1, by omega, by go_num, HBE'.out, ?_⟩
          rw [List.take_add_one, List.getElem?_eq_getElem hip, List.map_append, List.flatMap_append]
          have h := HOWN'.out
          have e : (P.getD i n0).k = P[i].k := by rw [List.getD_eq_getElem?_getD, List.getElem?_eq_getElem hip]; rfl
          rw [HNK.out] at e
          simpa [intC, e] using h
        case measure => simp [intOf]; omega
      · obtain rfl : i = M := by omega
        have hlt2 : decide (i < i) = false := decide_eq_false hlt
        clear hb hrow
        go_wp2_with fail
        go_ret
        have h := HR.out
        rw [← HM.out, List.take_length, ← HK.out, HM.out] at h
        have hl : K.length = i := by rw [HK.out, List.length_map, HM.out]
        refine ⟨_, rfl, HB2.out.trans ((by rw [HG.out]; exact HB.out : Below w2.heap.size w2 wr).mono HB2.out.size), ?_⟩
        rw [hl]
        exact Ct.own_base h (by rw [← HG.out]; exact HB2.out.size)
end Go.Proofs.YtlboejdhmggjpaaGreat.Pp

/- WxG -/
namespace Go.Proofs.YtlboejdhmggjpaaGreat.Pp
open Go.RowKit Go.BigFrame Go.Proofs.YtlboejdhmggjpaaGreat
set_option linter.unusedVariables false

set_option maxRecDepth 100000 in
set_option maxHeartbeats 8000000 in
theorem wk_are (t : Bs) (K : List Int) (a : Option Addr) (c : Nat) (w : World) (hm : Ww.Mx w) (hg : goodT t K = true) (hK : K.length ≤ 1000) (hrow : RowAt 1 intC w a K) :
    Calls Tryz.prog 25 #[.string (str t), .slice a K.length c] w fun e w' => e = .returned (.bool true) ∧ Below w.heap.size w w' := by
  have hk := wk_kinds t K w hm hg
  obtain ⟨st, hst⟩ : ∃ s : ByteArray, str t = s := ⟨_, rfl⟩
  rw [hst] at hk ⊢
  obtain ⟨N, hN⟩ : ∃ n, K.length = n := ⟨_, rfl⟩
  rw [hN] at hk hK ⊢
  have HKI := Lib.hid hk
  have HN := Lib.hid hN
  have HROW := Lib.hid hrow
  clear hk hN hrow hm hg hst
  go_enter Tryz.func25, Tryz.ntmps25
  go_wp2_with fail
  refine HKI.out.mono ?_
  rintro e w1 ⟨v, rfl, hb1, hown⟩
  obtain ⟨a1, c1, rfl⟩ := row_shape hown
  have HB1 := Lib.hid hb1
  have HO := Lib.hid hown
  clear hb1 hown
  go_wp2_with fail
  go_loopw [6] (fun s6 wr => ∃ i : Nat, i ≤ N ∧ s6 = .int .i64 i ∧ Below w1.heap.size w1 wr) (fun s6 _ => N - (intOf s6).toNat)
  case atStart => exact ⟨0, Nat.zero_le _, rfl, Below.refl _ _⟩
  case round =>
    obtain ⟨i, hi, rfl, hb⟩ := hrel
    have HB := Lib.hid hb
    by_cases hlt : i < N
    · have hlt2 : decide (i < N) = true := decide_eq_true hlt
      have hip : i < K.length := by rw [HN.out]; exact hlt
      have hrow1 := Ct.own_rowAt (n := 1) (f := intC) (fun _ => rfl) (l := K) (by rw [HN.out]; exact ownsRow_ext HO.out hb : wr.ownsRow w.heap.size 3 1 (.slice a1 K.length c1) K.length (K.flatMap intC))
      obtain ⟨g1, o1, rfl, h2, h3⟩ := hrow1.at (by rintro e; rw [e] at hip; simp at hip)
      have d1 : wr.cell? ⟨g1, o1 + i, none⟩ = some (.int .i64 K[i]) := by have := h3 i hip 0 _ rfl; simpa using this
      obtain ⟨g2, o2, rfl, h4, h5⟩ := HROW.out.at (by rintro e; rw [e] at hip; simp at hip)
      have d2 : wr.cell? ⟨g2, o2 + i, none⟩ = some (.int .i64 K[i]) := by
        have := ((h5 i hip).below (HB1.out.trans (hb.mono HB1.out.size)) h4) 0 _ rfl
        simpa using this
      obtain ⟨z, hz⟩ : ∃ z, K[i] = z := ⟨_, rfl⟩
      rw [hz] at d1 d2
      clear hb hrow1 h2 h3 h4 h5 hz
      go_wp2_with fail
      go_quiet (fail)
      go_wp2_with fail
      go_roundw
      case rel => exact ⟨i + 1, by omega, by go_num, HB.out.trans ((Mod.drewN (fun _ => False) wr nq).below HB.out.size (fun k hk => hk.elim))⟩
      case measure => simp [intOf]; omega
    · obtain rfl : i = N := by omega
      have hlt2 : decide (i < i) = false := decide_eq_false hlt
      clear hb
      go_wp2_with fail
      go_ret
      exact ⟨rfl, HB1.out.trans (HB.out.mono HB1.out.size)⟩
theorem lit_row {w : World} {K : List Int} (h : (w.alloc (.cells (K.flatMap intC).toArray 3)).heap[w.heap.size]? = some (.cells (K.flatMap intC).toArray 3 (0, 0))) : RowAt 1 intC (w.alloc (.cells (K.flatMap intC).toArray 3)) (some ⟨w.heap.size, 0, none⟩) K := by
  refine .inr ⟨w.heap.size, 0, rfl, by simp, fun i hi j v hv => ?_⟩
  have hj : j = 0 := by
    have := (List.getElem?_eq_some_iff.1 hv).1
    simp [intC] at this
    exact this
  subst hj
  have e := Ww.flat_get 1 intC (fun _ => rfl) K i 0 hi (by decide)
  rw [hv] at e
  simp only [World.cell?]
  rw [show (0 + i * 1 + 0) = i * 1 + 0 by omega, h]
  simpa using e
set_option maxRecDepth 100000 in
set_option maxHeartbeats 8000000 in
theorem wk_none (t : Bs) (w : World) (hm : Ww.Mx w) (hg : goodT t [-110] = true) :
    Calls Tryz.prog 26 #[.string (str t)] w fun e w' => e = .returned (.bool true) ∧ Below w.heap.size w w' := by
  have hb := below_alloc w (.cells #[.int .i64 (-110)] 3)
  have hk := wk_are t [-110] (some ⟨w.heap.size, 0, none⟩) 1 (w.alloc (.cells #[.int .i64 (-110)] 3)) (hm.of hb hm.pos) hg (by decide) (lit_row (K := [-110]) (new_cells _ _ _))
  obtain ⟨st, hst⟩ : ∃ s : ByteArray, str t = s := ⟨_, rfl⟩
  rw [hst] at hk ⊢
  have HK := Lib.hid hk
  have HB := Lib.hid hb
  clear hk hb hm hg hst
  go_enter Tryz.func26, Tryz.ntmps26
  go_wp2_with fail
  refine HK.out.mono ?_
  rintro e w1 ⟨rfl, hb1⟩
  go_wp2_with fail
  go_ret
  exact ⟨rfl, HB.out.trans (hb1.mono HB.out.size)⟩
def brL (n : Nat) : List Ct := List.replicate n ⟨7, [40]⟩
set_option maxRecDepth 100000 in
set_option maxHeartbeats 8000000 in
theorem wk_brackets (n : Nat) (w : World) (hn : n ≤ 1000) :
    Calls Tryz.prog 27 #[.int .i64 n] w fun e w' => ∃ v, e = .returned v ∧ Below w.heap.size w w' ∧ w'.ownsRow w.heap.size 54 2 v n ((brL n).flatMap ctC) := by
  obtain ⟨i0, hi, hz0, hz1, hz2⟩ := info_parts3 Ct.info54
  have HI := Lib.hid hi
  have HZ0 := Lib.hid hz0
  have HZ1 := Lib.hid hz1
  have HZ2 := Lib.hid hz2
  obtain ⟨g, hg⟩ : ∃ g, w.heap.size = g := ⟨_, rfl⟩
  have HG := Lib.hid hg
  clear hi hz0 hz1 hz2 hg
  go_enter Tryz.func27, Tryz.ntmps27
  go_wp2_with fail
  go_loopw [3, 4] (fun s3 s4 wr => ∃ i : Nat, i ≤ n ∧ s4 = .int .i64 i ∧ Below g w wr ∧ wr.ownsRow g 54 2 s3 i ((brL i).flatMap ctC)) (fun s3 s4 _ => n - (intOf s4).toNat)
  case atStart => exact ⟨0, Nat.zero_le _, rfl, by rw [← HG.out]; exact Below.refl _ _, World.ownsRow_nil _ _ _ _⟩
  case round =>
    obtain ⟨i, hi, rfl, hb, hrow⟩ := hrel
    obtain ⟨oa, oc, rfl⟩ := row_shape hrow
    have hgs : g ≤ wr.heap.size := by rw [← HG.out]; exact hb.size
    have HB := Lib.hid hb
    have HR := Lib.hid hrow
    clear hb hrow
    by_cases hlt : i < n
    · have hlt2 : decide (i < n) = true := decide_eq_true hlt
      have HTWO := Lib.hid (Ct.two_cells wr (.int .i64 7) (.string ⟨#[40]⟩) 54)
      go_wp2_with (first | (at_builtin; refine wpList_append_own _ rfl _ _ 22 rfl g 54 i0 (.agg #[.int .i64 0, .string ⟨#[]⟩]) 2 24 Tryz.underlying22 HI.out HZ0.out HZ1.out HZ2.out rfl (by decide) _ i _ rfl (HR.out.alloc _) ⟨wr.heap.size, 0, none⟩ 1 1 [.int .i64 7, .string ⟨#[40]⟩] rfl rfl HTWO.out (fun u hu => by simp at hu; rcases hu with rfl | rfl <;> rfl) (by unfold maxLen; omega) (by omega) (by simp; omega) ?_; intro v' w5 hown' hgrow _) | fail)
      have HOWN' := Lib.hid hown'
      have HBE' := Lib.hid ((HB.out.alloc hgs (.cells #[.int .i64 7, .string ⟨#[40]⟩] 54)).grown hgrow (by simp; omega) (fun k hk => (HR.out.lt k hk).1))
      clear hown' hgrow
      go_wp2_with fail
      go_roundw
      case rel =>
        refine ⟨i + 1, by omega, by go_num, HBE'.out, ?_⟩
        have e : (brL (i + 1)).flatMap ctC = (brL i).flatMap ctC ++ [.int .i64 7, .string ⟨#[40]⟩] := by
          unfold brL
          rw [List.replicate_succ', List.flatMap_append]; rfl
        rw [e]
        exact HOWN'.out
      case measure => simp [intOf]; omega
    · obtain rfl : i = n := by omega
      have hlt2 : decide (i < i) = false := decide_eq_false hlt
      go_wp2_with fail
      go_ret
      rw [HG.out]
      exact ⟨_, rfl, HB.out, HR.out⟩
end Go.Proofs.YtlboejdhmggjpaaGreat.Pp

/- Plain: a text's tokens, by fuel (so that they can be reckoned). -/
import Derived.Test.YtlboejdhmggjpaaGreatWkA
import Derived.Test.YtlboejdhmggjpaaGreatPdB
import Derived.Test.YtlboejdhmggjpaaGreatWnJ
import Derived.Laws.StructEq
set_option linter.all false
namespace Go.Proofs.YtlboejdhmggjpaaGreat

def prtsN : Nat → Bs → Nat → List Pt
 | 0, _, _ => []
 | n + 1, s, i => if i < s.length then ptAt s i :: prtsN n s (i + (ptAt s i).len) else []
theorem prtsN_eq : ∀ (n : Nat) (s : Bs) (i : Nat), s.length - i ≤ n → prts s i = prtsN n s i
 | 0, s, i, h => prts_ge (by omega)
 | n + 1, s, i, h => by
  by_cases c : i < s.length
  ·rw [prts_lt c, prtsN, if_pos c, prtsN_eq n s _ (by have := pt_pos s i; omega)]
  ·rw [prts_ge (by omega), prtsN, if_neg c]
def tksN : Nat → Bs → Nat → Nat → Bool → List Tk × Nat
 | 0, _, _, _, _ => ([], 0)
 | _ + 1, [], _, _, _ => ([], 0)
 | m + 1, c :: r, at', st, sp =>
  if isWhite c then tksN m r (at' + 1) st true
  else if (itm (c :: r) (st == 2)).2.2 ≠ 0 then ([], (itm (c :: r) (st == 2)).2.2)
  else
   (⟨(itm (c :: r) (st == 2)).1, (c :: r).take (itm (c :: r) (st == 2)).2.1, at', at' + (itm (c :: r) (st == 2)).2.1, sp⟩ :: (tksN m (r.drop ((itm (c :: r) (st == 2)).2.1 - 1)) (at' + (itm (c :: r) (st == 2)).2.1) (after st (itm (c :: r) (st == 2)).1 ((c :: r).take (itm (c :: r) (st == 2)).2.1)) false).1,
    (tksN m (r.drop ((itm (c :: r) (st == 2)).2.1 - 1)) (at' + (itm (c :: r) (st == 2)).2.1) (after st (itm (c :: r) (st == 2)).1 ((c :: r).take (itm (c :: r) (st == 2)).2.1)) false).2)
theorem tksN_eq : ∀ (n : Nat) (t : Bs) (at' st : Nat) (sp : Bool), t.length ≤ n → tks t at' st sp = tksN n t at' st sp
 | 0, [], at', st, sp, _ => by rw [tks]; rfl
 | 0, c :: r, at', st, sp, h => by simp at h
 | n + 1, [], at', st, sp, _ => by rw [tks]; rfl
 | n + 1, c :: r, at', st, sp, h => by
  have h' : r.length ≤ n := by simpa using h
  rw [tks, tksN]
  split
  ·exact tksN_eq n r _ _ _ h'
  split
  ·rfl
  ·dsimp only
   rw [tksN_eq n _ _ _ _ (by rw [List.length_drop]; omega)]
def chkN (s : Bs) : Nat := if 65536 < s.length then 3 else if (match (prtsN s.length s 0).getLast? with | none => false | some p => endBad p) then 10 else 0
def charsN (s : Bs) : List Pt := (prtsN s.length s 0).filter fun p => !p.spl
def scanN (s : Bs) : Nat × List Tk :=
 if chkN s ≠ 0 then (chkN s, [])
 else match tksN s.length ((charsN s).map (·.b)) 0 0 false with
  | (l, e) => if e ≠ 0 then (e, []) else (0, l.map (place (charsN s)))
theorem prtsN_len : ∀ (n : Nat) (s : Bs) (i : Nat), (prtsN n s i).length ≤ n
 | 0, s, i => Nat.le_refl _
 | n + 1, s, i => by
  rw [prtsN]
  split
  ·have := prtsN_len n s (i + (ptAt s i).len); simp; omega
  ·simp
theorem scanN_eq (s : Bs) : scanP s = scanN s := by
 have h1 : prts s 0 = prtsN s.length s 0 := prtsN_eq _ _ _ (by omega)
 have h2 : chk s = chkN s := by unfold chk chkN badEnd; rw [h1]; rfl
 have h3 : chars s = charsN s := by unfold chars charsN; rw [h1]
 have h4 : tks (logic s) 0 0 false = tksN s.length ((charsN s).map (·.b)) 0 0 false := by
  unfold logic
  rw [h3]
  refine tksN_eq _ _ _ _ _ ?_
  rw [List.length_map]
  unfold charsN
  exact Nat.le_trans (List.length_filter_le _ _) (prtsN_len _ _ _)
 unfold scanP scanN
 rw [h2, h3, h4]
end Go.Proofs.YtlboejdhmggjpaaGreat

/- WtD -/
namespace Go.Proofs.YtlboejdhmggjpaaGreat.Ct
set_option maxRecDepth 100000
set_option maxHeartbeats 16000000
open Go.RowKit Go.BigFrame Go.Proofs.YtlboejdhmggjpaaGreat Go.Proofs.YtlboejdhmggjpaaGreat.Pp Go.Proofs.YtlboejdhmggjpaaGreat.Ww

theorem own_rowAt {α : Type} {n : Nat} {f : α → List Value} (hf : ∀ x, (f x).length = n) {w : World} {X e : Nat} {a : Option Addr} {c : Nat} {l : List α} (h : w.ownsRow X e n (.slice a l.length c) l.length (l.flatMap f)) : RowAt n f w a l := by
 rcases Nat.eq_zero_or_pos l.length with h0 | h0
 ·exact .inl (List.length_eq_zero_iff.1 h0)
 ·obtain ⟨g, c', he, h1, h2, h3⟩ := row_block h h0
  cases he
  refine .inr ⟨g, 0, rfl, h2, fun i hi j v hv => ?_⟩
  have hj : j < n := by have := (List.getElem?_eq_some_iff.1 hv).1; rw [hf] at this; exact this
  rw [Nat.zero_add, h.cellAt _ (by
   have : (i + 1) * n ≤ l.length * n := Nat.mul_le_mul_right _ hi
   rw [Nat.succ_mul] at this
   omega), flat_get n f hf l i j hi hj]
  exact hv
theorem scan (s : ByteArray) (w : World) (hs : s.size ≤ 1000000000) (hm : Mx w) : Calls Tryz.prog 42 #[.string s] w (ScPost s w) := by
 by_cases h : chk (dl s) = 0
 ·exact Sc.scanOk s w hs h hm
 ·exact Sc.scanBad s w hs h
theorem mx_below {w w' : World} (h : Mx w) (hb : Below w.heap.size w w') : Mx w' := by
 obtain ⟨m, hm⟩ := h
 exact ⟨m, (hb.cell (World.block_lt_of_cell? _ _ hm)).trans hm⟩
def cls1 (k : Nat) (t : Bs) : Option Ct := if k = 1 then some ⟨if isKw t then 1 else 2, t⟩ else if k = 5 then some ⟨7, canon t⟩ else none
theorem cls1_ok {k : Nat} {t : Bs} (h : k = 1 ∨ k = 5) : ClsOk k t (cls1 k t) := by
 rcases h with rfl | rfl
 ·exact class_word t
 ·exact class_punct t
theorem toksF (cls : Nat → Bs → Option Ct) (t : Bs) (C : List Ct) (w : World) (hm : Mx w) (hl : t.length ≤ 10000) (h0 : (scanP (t ++ [10])).1 = 0) (hn : (scanP (t ++ [10])).2.length ≤ 1000000) (hc : ∀ x ∈ bare (scanP (t ++ [10])).2, ClsOk x.kind x.text (cls x.kind x.text)) (hC : clsL cls (bare (scanP (t ++ [10])).2) = (C, true)) :
  Calls Tryz.prog 28 #[.string (str t)] w fun e w' => ∃ v, e = .returned v ∧ Below w.heap.size w w' ∧ w'.ownsRow w.heap.size 54 2 v C.length (C.flatMap ctC) := by
 obtain ⟨S, hS⟩ : ∃ S, str (t ++ [10]) = S := ⟨_, rfl⟩
 have hdl : dl S = t ++ [10] := by rw [← hS]; exact dl_str _
 have hap : str t ++ ⟨#[10]⟩ = S := by rw [← hS]; exact str_append t [10]
 have hsz : S.size ≤ 1000000000 := by rw [← hS, str_size, List.length_append]; simp; omega
 have hsc := scan S w hsz hm
 obtain ⟨st, hst⟩ : ∃ st : ByteArray, str t = st := ⟨_, rfl⟩
 rw [hst] at hap ⊢
 unfold ScPost at hsc
 rw [hdl, h0] at hsc
 simp only [if_true] at hsc
 obtain ⟨l, hlL⟩ : ∃ l, (scanP (t ++ [10])).2 = l := ⟨_, rfl⟩
 rw [hlL] at hsc hn hc hC
 have HSC := Lib.hid hsc
 have HC := Lib.hid hc
 have HCC := Lib.hid hC
 have HM := Lib.hid hm
 have HN := Lib.hid hn
 have hs1 : ¬ (9223372036854775807 < st.size + 1) := by rw [← hst, str_size]; omega
 clear hsc hc hC hm hn hlL h0 hst hdl hS hl
 go_enter Tryz.func28, Tryz.ntmps28
 go_wp2_with fail
 refine HSC.out.mono ?_
 rintro e w1 ⟨hb1, v, rfl, hown⟩
 obtain ⟨a, c, rfl⟩ := Pp.row_shape hown
 have htk := tokens cls a c l w1 (mx_below HM.out hb1) (own_rowAt (n := 5) (f := tkC) (fun _ => rfl) hown) HN.out HC.out
 obtain ⟨n, hn⟩ : ∃ n, l.length = n := ⟨_, rfl⟩
 rw [hn] at htk ⊢
 have HTK := Lib.hid htk
 have HB1 := Lib.hid hb1
 clear htk hb1 hown hn hap
 go_wp2_with fail
 refine HTK.out.mono ?_
 intro e w2 he
 unfold TokPost at he
 rw [HCC.out] at he
 obtain ⟨hb2, ⟨-, v2, rfl, hown2⟩ | ⟨h, -⟩⟩ := he
 case' inr => cases h
 have HB2 := Lib.hid hb2
 have HO2 := Lib.hid hown2
 clear hb2 hown2
 go_wp2_with fail
 go_ret
 exact ⟨v2, rfl, HB1.out.trans (HB2.out.mono HB1.out.size), own_base HO2.out HB1.out.size⟩
def TxtIs (cls : Nat → Bs → Option Ct) (ok : Tk → Bool) (t : Bs) (C : List Ct) : Prop :=
 (decide (t.length ≤ 10000) && decide ((scanN (t ++ [10])).1 = 0) && decide ((scanN (t ++ [10])).2.length ≤ 1000000) && (bare (scanN (t ++ [10])).2).all ok && decide (clsL cls (bare (scanN (t ++ [10])).2) = (C, true))) = true
theorem toks_is {cls : Nat → Bs → Option Ct} {ok : Tk → Bool} (hok : ∀ x, ok x = true → ClsOk x.kind x.text (cls x.kind x.text)) {t : Bs} {C : List Ct} (h : TxtIs cls ok t C) (w : World) (hm : Mx w) :
  Calls Tryz.prog 28 #[.string (str t)] w fun e w' => ∃ v, e = .returned v ∧ Below w.heap.size w w' ∧ w'.ownsRow w.heap.size 54 2 v C.length (C.flatMap ctC) := by
 unfold TxtIs at h
 simp only [Bool.and_eq_true, decide_eq_true_eq, List.all_eq_true, ← scanN_eq] at h
 obtain ⟨⟨⟨⟨h1, h2⟩, h3⟩, h4⟩, h5⟩ := h
 exact toksF cls t C w hm h1 h2 h3 (fun x hx => hok x (h4 x hx)) h5
def ok1 (x : Tk) : Bool := decide (x.kind = 1 ∨ x.kind = 5)
theorem ok1_ok (x : Tk) (h : ok1 x = true) : ClsOk x.kind x.text (cls1 x.kind x.text) := cls1_ok (of_decide_eq_true h)
def intX : List Ct := [⟨1, [105, 110, 116]⟩, ⟨2, [120]⟩, ⟨7, [59]⟩]
theorem intX_is : TxtIs cls1 ok1 [105, 110, 116, 32, 120, 59] intX := by
 unfold TxtIs
 decide +kernel
end Go.Proofs.YtlboejdhmggjpaaGreat.Ct

/- WtE -/
namespace Go.Proofs.YtlboejdhmggjpaaGreat.Pp
set_option maxRecDepth 100000
set_option maxHeartbeats 16000000
open Go.RowKit Go.BigFrame Go.Proofs.YtlboejdhmggjpaaGreat

def intXP : List Nd := [⟨1, 0, 3, 5⟩, ⟨3, 0, 3, 4⟩, ⟨5, 0, 1, 1⟩, ⟨13, 1, 2, 2⟩, ⟨14, 1, 2, 1⟩]
theorem intX_parse : parseP Ct.intX (fun _ => false) = some intXP := by decide +kernel
theorem intX_deep : deepL Ct.intX 0 = false := by decide +kernel
theorem nd_eq (a b c d : Int) (w : World) : (binOp .eql 38 (.agg #[.int .i64 a, .int .i64 b, .int .i64 c, .int .i64 d]) (.agg #[.int .i64 a, .int .i64 b, .int .i64 c, .int .i64 d])).run Tryz.prog w = .ok (.bool true) w := by
 simp [go_sem]
theorem wk_alive (w : World) (hm : Ww.Mx w) : Calls Tryz.prog 24 #[] w fun e w' => e = .returned (.bool true) ∧ Below w.heap.size w w' := by
 have ht := Ct.toks_is Ct.ok1_ok Ct.intX_is w hm
 have HT := Lib.hid ht
 have NE := nd_eq
 have hb0 : Tryz.prog.built 38 [(0, Value.int .i64 1), (2, Value.int .i64 3), (3, Value.int .i64 5)] = some #[.int .i64 1, .int .i64 0, .int .i64 3, .int .i64 5] := by kernel_rfl
 have hb1 : Tryz.prog.built 38 [(0, Value.int .i64 3), (2, Value.int .i64 3), (3, Value.int .i64 4)] = some #[.int .i64 3, .int .i64 0, .int .i64 3, .int .i64 4] := by kernel_rfl
 have hb2 : Tryz.prog.built 38 [(0, Value.int .i64 5), (2, Value.int .i64 1), (3, Value.int .i64 1)] = some #[.int .i64 5, .int .i64 0, .int .i64 1, .int .i64 1] := by kernel_rfl
 have hb3 : Tryz.prog.built 38 [(0, Value.int .i64 13), (1, Value.int .i64 1), (2, Value.int .i64 2), (3, Value.int .i64 2)] = some #[.int .i64 13, .int .i64 1, .int .i64 2, .int .i64 2] := by kernel_rfl
 have hb4 : Tryz.prog.built 38 [(0, Value.int .i64 14), (1, Value.int .i64 1), (2, Value.int .i64 2), (3, Value.int .i64 1)] = some #[.int .i64 14, .int .i64 1, .int .i64 2, .int .i64 1] := by kernel_rfl
 clear ht hm
 go_enter Tryz.func24, Tryz.ntmps24
 go_wp2_with fail
 rw [show (⟨#[105, 110, 116, 32, 120, 59]⟩ : ByteArray) = str [105, 110, 116, 32, 120, 59] from rfl]
 refine HT.out.mono ?_
 rintro e w1 ⟨v, rfl, hb1, hown⟩
 obtain ⟨a, c, rfl⟩ := row_shape hown
 have hp := wk_Parse Ct.intX a c w1 (Ct.own_rowAt (n := 2) (f := ctC) (fun _ => rfl) hown) (by decide) (fun t ht => by
  unfold maxLen
  have : ∀ t ∈ Ct.intX, t.t.length ≤ 3 := by decide
  have := this t ht
  omega)
 have HP := Lib.hid hp
 have HB1 := Lib.hid hb1
 clear hp hb1 hown
 go_wp2_with fail
 refine HP.out.mono ?_
 rintro e w2 ⟨v2, z, rfl, hb2, h⟩
 rcases h with ⟨h, -⟩ | ⟨-, h, -⟩ | ⟨P, -, h, rfl, hown2⟩
 ·rw [intX_deep] at h; cases h
 ·rw [intX_parse] at h; cases h
 rw [intX_parse] at h
 cases h
 obtain ⟨g, cc, rfl, hg1, hg2, hg3⟩ := row_block hown2 (by decide)
 have hrow := Ct.own_rowAt (n := 4) (f := ndC) (fun _ => rfl) hown2
 have HC := Lib.hid (show ∀ (i : Nat) (n : Nd), intXP[i]? = some n → CellsAt w2 g (i * 4) (ndC n) from fun i n hi => by
  obtain ⟨b, off, he, h1, h2⟩ := hrow.at (by decide)
  cases he
  obtain ⟨hi', rfl⟩ := List.getElem?_eq_some_iff.1 hi
  have := h2 i hi'
  rwa [Nat.zero_add] at this)
 have HB2 := Lib.hid hb2
 have hlen : intXP.length = 5 := rfl
 rw [hlen]
 clear hown2 hg1 hg2 hg3 hrow hb2 hlen
 have q00 : w2.cell? ⟨g, 0, none⟩ = some (.int .i64 1) := HC.out 0 _ rfl 0 _ rfl
 have q01 : w2.cell? ⟨g, 1, none⟩ = some (.int .i64 0) := HC.out 0 _ rfl 1 _ rfl
 have q02 : w2.cell? ⟨g, 2, none⟩ = some (.int .i64 3) := HC.out 0 _ rfl 2 _ rfl
 have q03 : w2.cell? ⟨g, 3, none⟩ = some (.int .i64 5) := HC.out 0 _ rfl 3 _ rfl
 have q10 : w2.cell? ⟨g, 4, none⟩ = some (.int .i64 3) := HC.out 1 _ rfl 0 _ rfl
 have q11 : w2.cell? ⟨g, 5, none⟩ = some (.int .i64 0) := HC.out 1 _ rfl 1 _ rfl
 have q12 : w2.cell? ⟨g, 6, none⟩ = some (.int .i64 3) := HC.out 1 _ rfl 2 _ rfl
 have q13 : w2.cell? ⟨g, 7, none⟩ = some (.int .i64 4) := HC.out 1 _ rfl 3 _ rfl
 have q20 : w2.cell? ⟨g, 8, none⟩ = some (.int .i64 5) := HC.out 2 _ rfl 0 _ rfl
 have q21 : w2.cell? ⟨g, 9, none⟩ = some (.int .i64 0) := HC.out 2 _ rfl 1 _ rfl
 have q22 : w2.cell? ⟨g, 10, none⟩ = some (.int .i64 1) := HC.out 2 _ rfl 2 _ rfl
 have q23 : w2.cell? ⟨g, 11, none⟩ = some (.int .i64 1) := HC.out 2 _ rfl 3 _ rfl
 have q30 : w2.cell? ⟨g, 12, none⟩ = some (.int .i64 13) := HC.out 3 _ rfl 0 _ rfl
 have q31 : w2.cell? ⟨g, 13, none⟩ = some (.int .i64 1) := HC.out 3 _ rfl 1 _ rfl
 have q32 : w2.cell? ⟨g, 14, none⟩ = some (.int .i64 2) := HC.out 3 _ rfl 2 _ rfl
 have q33 : w2.cell? ⟨g, 15, none⟩ = some (.int .i64 2) := HC.out 3 _ rfl 3 _ rfl
 have q40 : w2.cell? ⟨g, 16, none⟩ = some (.int .i64 14) := HC.out 4 _ rfl 0 _ rfl
 have q41 : w2.cell? ⟨g, 17, none⟩ = some (.int .i64 1) := HC.out 4 _ rfl 1 _ rfl
 have q42 : w2.cell? ⟨g, 18, none⟩ = some (.int .i64 2) := HC.out 4 _ rfl 2 _ rfl
 have q43 : w2.cell? ⟨g, 19, none⟩ = some (.int .i64 1) := HC.out 4 _ rfl 3 _ rfl
 clear HC
 go_wp2_with fail
 go_ret
 exact ⟨rfl, HB1.out.trans (HB2.out.mono HB1.out.size)⟩
end Go.Proofs.YtlboejdhmggjpaaGreat.Pp

/- The document's answer for told: Parse, what is known of the lists on the way. -/
import Derived.Test.YtodjhgalbaelkaaDoorTrK
import Derived.Test.YtodjhgalbaelkaaDoorChn
import Derived.Deep.DeepCutAuto
import Derived.Maps.AppendAt
namespace Go.Proofs.YtodjhgalbaelkaaDoor
open Go.RowKit Go.BigFrame Go.Shelf
set_option linter.unusedVariables false

theorem info69 : (Tryd.prog.info? 69).map (fun i => (i.zero, i.size, i.bytes)) = some (some (.agg #[.string ⟨#[]⟩, .slice none 0 0]), 2, 40) := by kernel_rfl
theorem line_in {l x : Bs} (h : x ∈ lines l) : x.length ≤ l.length := by
  have h1 : (lines l).flatten.length = l.length := by rw [lines_flat]
  obtain ⟨a, b, hab⟩ := List.append_of_mem h
  rw [hab] at h1
  simp at h1
  omega
theorem line_ne {l x : Bs} (h : x ∈ lines l) : x ≠ [] := by
  rcases lines_form l with ⟨h1, _⟩ | ⟨i, z, h1, h2, hz, _, _, _⟩
  · have := h1 x h
    rintro rfl
    obtain ⟨u, hu, _⟩ := this
    simp at hu
  · rw [h1] at h
    rcases List.mem_append.1 h with h | h
    · have := h2 x h
      rintro rfl
      obtain ⟨u, hu, _⟩ := this
      simp at hu
    · rw [List.mem_singleton] at h
      rw [h]; exact hz
theorem Sim.mle {s : ByteArray} (i : Nat) : ((lines (dl s)).take i).flatten.length ≤ s.size := by
  have h1 : (lines (dl s)).flatten.length = s.size := by rw [lines_flat, ← size_dl]
  have h2 := congrArg (fun l : List Bs => l.flatten.length) (List.take_append_drop i (lines (dl s)))
  simp only [List.flatten_append, List.length_append] at h2
  omega
theorem Sim.bd {s : ByteArray} {i : Nat} {l : List Pc} {left : Nat} {prev : Bs} (h : Sim s i l left prev) : l.length ≤ s.size ∧ (∀ c ∈ l, c.2.length ≤ s.size) ∧ left ≤ 65536 := by
  obtain ⟨_, P, h1, h2, ⟨g1, g2, g3⟩, h4, h5⟩ := h
  have hm := Sim.mle (s := s) i
  have hs := sz_set (t := P.text) h4.l h4.es
  refine ⟨?_, fun c hc => ?_, h5⟩
  · rw [g2]; split
    · have := hs.1; omega
    · have := h4.l; omega
  · rw [g2] at hc
    split at hc
    · have := hs.2 c hc; omega
    · have := h4.es c hc; omega
theorem Sim.wants {s : ByteArray} {i : Nat} {l : List Pc} {left : Nat} {prev : Bs} (h : Sim s i l left prev) (hl : 0 < left) : ∃ d n es x, l = d ++ [(n, es ++ [x])] ∧ x.t.size ≤ s.size := by
  obtain ⟨_, P, h1, h2, ⟨g1, g2, g3⟩, h4, h5⟩ := h
  have hm := Sim.mle (s := s) i
  rcases h2 with ⟨h0, _⟩ | ⟨h0, d, n, es, a, b, k, hpl, _⟩
  · omega
  · rw [if_pos h0, hpl, setTxt_at] at g2
    refine ⟨d, n, es, _, g2, ?_⟩
    rw [size_dl, dl_str]
    have := h4.tx
    omega
theorem Sim.opens {s : ByteArray} {i : Nat} {l : List Pc} {left : Nat} {prev : Bs} (h : Sim s i l left prev) (hl : left = 0) (hp : prev.head? = some 43) (hn : prev ≠ [43, 10]) :
    ∃ d n es x, l = d ++ [(n, es ++ [x])] ∧ 0 < x.t.size ∧ x.t.size ≤ s.size := by
  obtain ⟨_, P, h1, h2, ⟨g1, g2, g3⟩, h4, h5⟩ := h
  have hm := Sim.mle (s := s) i
  rcases h2 with ⟨h0, _, _, ho⟩ | ⟨h0, _⟩
  · have hop : P.opn = true := by rw [g3 h0, hp]; simpa using hn
    obtain ⟨d, n, es, x, u, hpl, hx, hli, hu, ht⟩ := ho hop
    rw [if_neg (by omega), hpl] at g2
    refine ⟨d, n, es, x, g2, ?_, ?_⟩
    · rw [size_dl, hx, ht]; simp
    · rw [size_dl, hx]
      have := h4.tx
      omega
  · omega
theorem pcs_lastR {lc : List Chg} {d : List Pc} {n : ByteArray} {es : List Edi} (h : pcs lc = d ++ [(n, es)]) : ∃ d' ea ec, lc = d' ++ [⟨n, ea, ec, es⟩] ∧ pcs d' = d := by
  rcases last_cases lc with rfl | ⟨d', c, rfl⟩
  · simp [pcs] at h
  · unfold pcs at h
    rw [List.map_append] at h
    obtain ⟨h1, h2⟩ := List.append_inj' h rfl
    obtain ⟨cn, ea, ec, ces⟩ := c
    simp only [List.map_cons, List.map_nil, List.cons.injEq, Prod.mk.injEq, and_true] at h2
    obtain ⟨rfl, rfl⟩ := h2
    exact ⟨d', ea, ec, rfl, h1⟩
/-- What a line without its end comes to. -/
theorem sim_err {s : ByteArray} {i : Nat} {l : List Pc} {left : Nat} {prev t : Bs} (h : Sim s i l left prev) (hi : i < (lines (dl s)).length) (ht : (lines (dl s))[i] = t) (hn : rStep l left prev t = none) {w w' : World} (hb : Below w.heap.size w w') :
    RefPost s w (.returned (.tuple #[.slice none 0 0, .int .i64 ((i : Int) + 1), .int .i64 240])) w' := by
  refine ⟨hb, ?_⟩
  rw [(h.step hi ht).1 hn]
  simp only
  congr 4
theorem prev_succ {s : ByteArray} {i : Nat} {t : Bs} (hi : i < (lines (dl s)).length) (ht : (lines (dl s))[i] = t) : prevL s (i + 1) = t := by
  show (lines (dl s)).getD i [] = t
  rw [List.getD_eq_getElem?_getD, List.getElem?_eq_getElem hi, ht]; rfl
theorem prev_at {s : ByteArray} {i : Nat} (hi : i < (lines (dl s)).length) (h0 : 0 < i) : prevL s i = (lines (dl s))[i - 1]'(by omega) := by
  obtain ⟨k, rfl⟩ : ∃ k, i = k + 1 := ⟨i - 1, by omega⟩
  exact prev_succ (by omega) rfl
def fst8 (u : ByteArray) : Nat := match (dl u)[0]? with | some b => b.toNat | none => 0
theorem fst8_pos {u : ByteArray} (h : 0 < u.size) : fst8 u = u[0].toNat := by unfold fst8; rw [dl_zero h]
theorem fst8_nil {u : ByteArray} (h : ¬ 0 < u.size) : fst8 u = 0 := by
  unfold fst8; rw [List.getElem?_eq_none (by rw [← size_dl]; omega)]
theorem fst8_is {u : ByteArray} {b : UInt8} (hb : b ≠ 0) : fst8 u = b.toNat ↔ (dl u)[0]? = some b := by
  unfold fst8
  cases h : (dl u)[0]? with
  | none =>
    simp only [reduceCtorEq, iff_false]
    intro h2
    exact hb (UInt8.toNat_inj.1 h2.symm)
  | some c =>
    simp only [Option.some.injEq]
    exact UInt8.toNat_inj
theorem end_of {t : ByteArray} (h1 : 1 ≤ t.size) (h : t.size - 1 < t.size) (h10 : (t[t.size - 1]'h).toNat = 10) : dl t = dl (t.extract 0 (t.size - 1)) ++ [10] := by
  have hb : t[t.size - 1]'h = 10 := UInt8.toNat_inj.1 h10
  have h2 := drop_at h
  rw [hb, show t.size - 1 + 1 = t.size from by omega, List.drop_eq_nil_iff.2 (show (dl t).length ≤ t.size by rw [← size_dl]; exact Nat.le_refl _)] at h2
  rw [ext_betw, dl_str]
  unfold betw
  rw [List.drop_zero, Nat.sub_zero, ← h2, List.take_append_drop]
theorem end_no {t : ByteArray} (h1 : 1 ≤ t.size) (h : t.size - 1 < t.size) (h10 : ¬ (t[t.size - 1]'h).toNat = 10) : ends (dl t) = false := by
  cases he : ends (dl t) with
  | false => rfl
  | true =>
    exfalso
    obtain ⟨u, hu⟩ := ends_back he
    have h2 := drop_at h
    rw [hu] at h2
    have hl : t.size - 1 = u.length := by rw [size_dl, hu]; simp
    rw [List.drop_append, List.drop_eq_nil_iff.2 (by omega)] at h2
    simp [hl] at h2
    exact h10 (by simp only [hl]; rw [← h2]; rfl)
theorem ext_size {t : ByteArray} : (t.extract 0 (t.size - 1)).size = t.size - 1 := by simp
theorem sim_next {s : ByteArray} {i : Nat} {l : List Pc} {left left' : Nat} {prev t : Bs} {lc' : List Chg} (h : Sim s i l left prev) (hi : ∃ hi : i < (lines (dl s)).length, (lines (dl s))[i] = t) (hr : rStep l left prev t = some (pcs lc', left')) :
    Sim s (i + 1) (pcs lc') left' (prevL s (i + 1)) := by
  obtain ⟨h1, h2⟩ := hi
  rw [prev_succ h1 h2]
  exact (h.step h1 h2).2 _ hr
theorem sim_bad {s : ByteArray} {i : Nat} {l : List Pc} {left : Nat} {prev t : Bs} (h : Sim s i l left prev) (hi : ∃ hi : i < (lines (dl s)).length, (lines (dl s))[i] = t) (hn : rStep l left prev t = none) {w w' : World} (hb : Below w.heap.size w w') :
    RefPost s w (.returned (.tuple #[.slice none 0 0, .int .i64 ((i : Int) + 1), .int .i64 240])) w' := by
  obtain ⟨h1, h2⟩ := hi
  exact sim_err h h1 h2 hn hb
theorem sim_zero {s : ByteArray} {i : Nat} {l : List Pc} {left : Nat} {prev : Bs} (h : Sim s i l left prev) (hne : ∀ d c, l = d ++ [c] → c.2 = []) : left = 0 := by
  rcases Nat.eq_zero_or_pos left with h0 | h0
  · exact h0
  · obtain ⟨d, n, es, x, e, _⟩ := h.wants h0
    have := hne d _ e
    simp at this
theorem drop_dl {u v : ByteArray} {k : Nat} (h : v = u.extract k u.size) : dl v = (dl u).drop k := by rw [h, ext_to, dl_str]
/-- What a round begins with. -/
structure Rnd (s : ByteArray) (B : Nat) (i left K : Nat) (s6 : Value) (lc : List Chg) (xs : List ByteArray) (rows : Value) (w wr : World) : Prop where
  sim : Sim s i (pcs lc) left (prevL s i)
  rf : RfC B K s6 lc wr
  row : wr.ownsRow B 9 1 rows xs.length (xs.map Value.string)
  bel : Below B w wr
/-- A change is pushed: the round's end. -/
theorem Rnd.push {s : ByteArray} {i left K : Nat} {s6 : Value} {lc : List Chg} {xs : List ByteArray} {rows : Value} {w wr W w6 : World} {v : ByteArray} {t u : Bs} {v' : Value}
    (h : Rnd s w.heap.size i left K s6 lc xs rows w wr) (hi : ∃ hi : i < (lines (dl s)).length, (lines (dl s))[i] = t) (ht : t = u ++ [10]) (h0 : left = 0) (hd : dl v = u.drop 2)
    (hz : rZero (pcs lc) (prevL s i) u = some (pcs lc ++ [(str (u.drop 2), [])], 0)) (hb : Below wr.heap.size wr W) (hg : W.grownBy w6 s6.ownBlock)
    (hown : w6.ownsRow w.heap.size 69 2 v' (lc.length + 1) (lc.flatMap Chg.f ++ [.string v, .slice none 0 0])) :
    Rnd s w.heap.size (i + 1) left w6.heap.size v' (lc ++ [⟨v, none, 0, []⟩]) xs rows w w6 := by
  have h1 := h.rf.on hb
  refine ⟨?_, h1.push hg hown, other_row (own_on h.row hb) h1.row (by decide) hg, (h.bel.trans (hb.mono h.bel.size)).grown hg (by have := h.bel.size; have := hb.size; omega) (fun k hk => (row_cells h1.row hk).1)⟩
  refine sim_next h.sim hi ?_
  rw [ht, rStep_zero h0, hz, h0]
  have hvs : v = str (u.drop 2) := by rw [← hd]; exact (str_dl v).symm
  unfold pcs
  rw [List.map_append, ← hvs]
  rfl
theorem sim_first {s : ByteArray} {l : List Pc} {left : Nat} {prev : Bs} (h : Sim s 0 l left prev) : l = [] := by
  obtain ⟨_, P, h1, h2, ⟨g1, g2, g3⟩, h4, h5⟩ := h
  simp only [List.take_zero, runL, Option.some.injEq] at h1
  subst h1
  exact g2
theorem cut_last (d : List Pc) (n : ByteArray) (es : List Edi) (a b : Int) (t : ByteArray) : d ++ [(n, es ++ [(⟨a, b, str (tlB (dl t))⟩ : Edi)])] = d ++ [(n, es ++ [(⟨a, b, t.extract 0 (t.size - 1)⟩ : Edi)])] := by
  rw [ext_betw]
  unfold betw tlB
  rw [List.drop_zero, Nat.sub_zero, ← size_dl]
theorem cat_last (d : List Pc) (n : ByteArray) (es : List Edi) (a b : Int) (t v : ByteArray) : d ++ [(n, es ++ [(⟨a, b, str (dl t ++ (dl v ++ [10]))⟩ : Edi)])] = d ++ [(n, es ++ [(⟨a, b, t ++ v ++ ⟨#[10]⟩⟩ : Edi)])] := by
  have : str (dl t ++ (dl v ++ [10])) = t ++ v ++ ⟨#[10]⟩ := by
    rw [← str_dl (t ++ v ++ ⟨#[10]⟩)]
    congr 1
    simp [dl]
  rw [this]
end Go.Proofs.YtodjhgalbaelkaaDoor

/- TrN -/
namespace Go.Proofs.YtodjhgalbaelkaaDoor
open Go.RowKit Go.BigFrame Go.Shelf
set_option linter.unusedVariables false

theorem pcs_edit (d : List Chg) (n : ByteArray) (ea : Option Addr) (ec : Nat) (es : List Edi) : pcs (d ++ [⟨n, ea, ec, es⟩]) = pcs d ++ [(n, es)] := by unfold pcs; simp
theorem ev_block {w : World} {K : Nat} {c : Chg} {n : Nat} {xs : List Value} (h : w.ownsRow K 50 3 c.ev n xs) : ∀ k, c.ev.ownBlock = some k → k < w.heap.size := fun k hk => by
  obtain ⟨_, cur, hc⟩ := row_cells h hk
  exact (Array.getElem?_eq_some_iff.1 hc).1
/-- The worlds of "out[c].Edits = append(out[c].Edits, e)" ahead of its store. -/
theorem edit_worlds {B K G cap q : Nat} {d : List Chg} {c : Chg} {x : Edi} {w : World} (h : RfC B K (.slice (some ⟨G, 0, none⟩) (d.length + 1) cap) (d ++ [c]) w) (hel : c.es.length ≤ 4000000)
    (hq : w.heap[q]? = some (.cells #[.int .i64 x.a, .int .i64 x.b, .string x.t] 50 (0, 0))) (hqn : c.ev.ownBlock ≠ some q) :
    ∃ (V : Nat → World) (w2 : World) (a' : Option Addr) (c' : Nat), V 0 = w.drew ∧ V 1 = w.drew.alloc (.cells #[.int .i64 x.a, .int .i64 x.b, .string x.t] 50) ∧ (∀ j, 2 ≤ j → V j = w2) ∧
      (Builtin.append_ #[46, 46] 46 #[c.ev, .slice (some ⟨w.heap.size, 0, none⟩) 1 1]).run Tryd.prog (V 1) = .ok (.slice a' (c.es.length + 1) c') w2 ∧
      (∀ j, (V j).cell? ⟨G, d.length * 2 + 1, none⟩ = some c.ev) ∧ (∀ j, (V j).cell? ⟨q, 0, none⟩ = some (.int .i64 x.a)) ∧ (∀ j, (V j).cell? ⟨q, 1, none⟩ = some (.int .i64 x.b)) ∧ (∀ j, (V j).cell? ⟨q, 2, none⟩ = some (.string x.t)) ∧
      w2.frozen? ⟨G, d.length * 2 + 1, none⟩ = false ∧ (V 1).grownBy w2 c.ev.ownBlock ∧ w2.ownsRow K 50 3 (.slice a' (c.es.length + 1) c') (c.es.length + 1) (c.es.flatMap Edi.f ++ Edi.f x) := by
  obtain ⟨j0, hj, hy0, hy1, hy2⟩ := info_parts infoEdi
  obtain ⟨W1, hW1⟩ : ∃ W1, W1 = w.drew.alloc (.cells #[.int .i64 x.a, .int .i64 x.b, .string x.t] 50) := ⟨_, rfl⟩
  have hb1 : Below w.heap.size w W1 := by
    rw [hW1]
    exact (Below.drew (Below.refl _ _)).alloc (Nat.le_refl _) _
  have hlit : W1.heap[w.heap.size]? = some (.cells #[.int .i64 x.a, .int .i64 x.b, .string x.t] 50 (0, 0)) := by rw [hW1]; exact heap_alloc_new w.drew _
  have h1 := h.on hb1
  have hc1 := h1.new c (by simp)
  obtain ⟨v', w2, hrun, hown, hg, _, hat⟩ := run_append_own_at (P := Tryd.prog) W1 K 46 46 50 j0 (.agg #[.int .i64 0, .int .i64 0, .string ⟨#[]⟩]) 3 32 Tryd.underlying46 hj hy0 hy1 hy2 rfl (by decide) c.ev c.es.length (c.es.flatMap Edi.f)
    hc1 ⟨w.heap.size, 0, none⟩ 1 1 [.int .i64 x.a, .int .i64 x.b, .string x.t] rfl (by intro j u hu; rw [addr_add]; exact (CellsAt.of_heap hlit) j u (by simpa using hu)) (by intro u hu; simp at hu; rcases hu with rfl | rfl | rfl <;> rfl) (by unfold maxLen; omega) (by omega) h1.leK
  obtain ⟨a', c', rfl⟩ := row_shape hown
  have hrow2 := other_row h1.row hc1 (by decide) hg
  have hlen : (d ++ [c]).length = d.length + 1 := by simp
  have e1 := (chg_flat d c).2
  have hrow0 := h.row
  have hrow1 := h1.row
  rw [hlen] at hrow0 hrow1 hrow2
  have hqs : q < w.heap.size := (Array.getElem?_eq_some_iff.1 hq).1
  have hq1 : W1.heap[q]? = some (.cells #[.int .i64 x.a, .int .i64 x.b, .string x.t] 50 (0, 0)) := heap_below hb1 hq hqs
  have hq2 : w2.heap[q]? = some (.cells #[.int .i64 x.a, .int .i64 x.b, .string x.t] 50 (0, 0)) := by
    rw [hg.block q (by have := hb1.size; omega) (fun e => hqn e.symm)]
    exact hq1
  have hV : ∀ (P : World → Prop), P w.drew → P W1 → P w2 → ∀ j : Nat, P (match j with | 0 => w.drew | 1 => W1 | _ => w2) := fun P p0 p1 p2 j => by
    match j with
    | 0 => exact p0
    | 1 => exact p1
    | _ + 2 => exact p2
  have cq : ∀ {W : World}, W.heap[q]? = some (.cells #[.int .i64 x.a, .int .i64 x.b, .string x.t] 50 (0, 0)) → W.cell? ⟨q, 0, none⟩ = some (.int .i64 x.a) ∧ W.cell? ⟨q, 1, none⟩ = some (.int .i64 x.b) ∧ W.cell? ⟨q, 2, none⟩ = some (.string x.t) := fun hW => by
    refine ⟨?_, ?_, ?_⟩ <;> simp [World.cell?, hW]
  have hq0 : w.drew.heap[q]? = some (.cells #[.int .i64 x.a, .int .i64 x.b, .string x.t] 50 (0, 0)) := hq
  refine ⟨fun j => match j with | 0 => w.drew | 1 => W1 | _ => w2, w2, a', c', rfl, hW1, fun j hj => ?_, hrun, ?_, ?_, ?_, ?_, hrow2.frozenAt _, hg, by simpa [Edi.f] using hown⟩
  · match j, hj with
    | j + 2, _ => rfl
  · refine hV (fun W => W.cell? ⟨G, d.length * 2 + 1, none⟩ = some c.ev) ?_ ?_ ?_
    · show w.cell? ⟨G, d.length * 2 + 1, none⟩ = _
      rw [hrow0.cellAt _ (by omega), e1]
    · rw [hrow1.cellAt _ (by omega), e1]
    · rw [hrow2.cellAt _ (by omega), e1]
  · exact hV (fun W => W.cell? ⟨q, 0, none⟩ = _) (cq hq0).1 (cq hq1).1 (cq hq2).1
  · exact hV (fun W => W.cell? ⟨q, 1, none⟩ = _) (cq hq0).2.1 (cq hq1).2.1 (cq hq2).2.1
  · exact hV (fun W => W.cell? ⟨q, 2, none⟩ = _) (cq hq0).2.2 (cq hq1).2.2 (cq hq2).2.2
/-- An edit is pushed: the round's end. -/
theorem Rnd.edit {s : ByteArray} {i left m K G cap : Nat} {d : List Chg} {c : Chg} {x : Edi} {xs : List ByteArray} {rows : Value} {w wr W w2 : World} {t u : Bs} {a' : Option Addr} {c' : Nat}
    (h : Rnd s w.heap.size i left K (.slice (some ⟨G, 0, none⟩) (d.length + 1) cap) (d ++ [c]) xs rows w wr) (hi : ∃ hi : i < (lines (dl s)).length, (lines (dl s))[i] = t) (ht : t = u ++ [10]) (h0 : left = 0)
    (hz : rZero (pcs (d ++ [c])) (prevL s i) u = some (pcs d ++ [(c.n, c.es ++ [x])], m)) (hb : Below wr.heap.size wr W) (hg : W.grownBy w2 c.ev.ownBlock)
    (hown : w2.ownsRow K 50 3 (.slice a' (c.es.length + 1) c') (c.es.length + 1) (c.es.flatMap Edi.f ++ Edi.f x)) :
    Rnd s w.heap.size (i + 1) m K (.slice (some ⟨G, 0, none⟩) (d.length + 1) cap) (d ++ [⟨c.n, a', c', c.es ++ [x]⟩]) xs rows w (w2.setCell ⟨G, d.length * 2 + 1, none⟩ (.slice a' (c.es.length + 1) c')) := by
  have h1 := h.rf.on hb
  have hc1 := h1.new c (by simp)
  have hrow2 := other_row h1.row hc1 (by decide) hg
  obtain ⟨hBG, cur, hG⟩ := row_cells hrow2 rfl
  refine ⟨?_, h1.grow hg hown, str_set (cs := []) (other_row (own_on h.row hb) hc1 (by decide) hg) hG (by decide), ?_⟩
  · refine sim_next h.sim hi ?_
    rw [ht, rStep_zero h0, hz, pcs_edit]
  · exact ((h.bel.trans (hb.mono h.bel.size)).grown hg (by have := h.bel.size; have := hb.size; omega) (fun k hk => Nat.le_trans h.rf.leB (row_cells hc1 hk).1)).setCell (p := ⟨G, d.length * 2 + 1, none⟩) hBG _
end Go.Proofs.YtodjhgalbaelkaaDoor

/- TrO -/
namespace Go.Proofs.YtodjhgalbaelkaaDoor
open Go.RowKit Go.BigFrame Go.Shelf
set_option linter.unusedVariables false

theorem RfC.chs {B K : Nat} {lv : Value} {l : List Chg} {w : World} (h : RfC B K lv l w) : ∃ a cap, lv = .slice a l.length cap ∧ ChsAt w a l := by
  obtain ⟨a, cap, rfl⟩ := row_shape h.row
  refine ⟨a, cap, rfl, (rowAt_owns (f := Chg.f) (fun g => rfl) h.row rfl).2, fun c hc => ?_⟩
  rcases last_cases l with rfl | ⟨d, x, rfl⟩
  · cases hc
  · rcases List.mem_append.1 hc with hc | hc
    · exact (rowAt_owns (f := Edi.f) (fun g => rfl) (h.old c (by rw [List.dropLast_concat]; exact hc)).1 rfl).2
    · rw [List.mem_singleton] at hc
      subst hc
      exact (rowAt_owns (f := Edi.f) (fun g => rfl) (h.new c (by simp)) rfl).2
def RefParse : Prop := ∀ (s : ByteArray) (w : World), s.size ≤ 4000000 → Calls Tryd.prog 14 #[.string s] w (RefPost s w)
set_option maxRecDepth 100000 in
set_option maxHeartbeats 16000000 in
theorem Td.textsOf (RP : RefParse) (b : Option Addr) (cb : Nat) (c : List Chg) (s : ByteArray) (w : World) (hc : ChsAt w b c) (hcb : c.length ≤ cb) (hcm : cb ≤ maxLen) (hb : Bnd c) (hw : wt c ≤ 1048576) (hs : s.size ≤ 2000000) (ht : Tab w) :
    Calls Tryd.prog 4 #[.slice b c.length cb, .string s] w fun e w' => e = .returned (.bool true) ∧ Below w.heap.size w w' := by
  have HC := Lib.hid hc
  have HB := Lib.hid hb
  have HT := Lib.hid ht
  have HW := Lib.hid hw
  have HRP := Lib.hid RP
  have hcl := hb.len
  clear hc hb ht hw RP
  go_enter Tryd.func4, Tryd.ntmps4
  go_wp2_with fail
  refine (Td.greatN b cb c w HC.out hcl HB.out.es (by have := (gN_wt c).1; have := HW.out; omega)).mono ?_
  rintro e w2 ⟨rfl, b2⟩
  have hc2 := HC.out.below b2
  have HC2 := Lib.hid hc2
  have HT2 := Lib.hid (HT.out.on b2)
  have B2 := Lib.hid b2
  clear b2 hc2 HC HT
  by_cases hg : (2000 : Int) < (gN c : Int)
  · have hg' : decide ((2000 : Int) < (gN c : Int)) = true := decide_eq_true hg
    rw [hg']
    clear hg hg'
    go_wp2_with fail
    go_ret
    exact ⟨rfl, B2.out⟩
  · have hg' : decide ((2000 : Int) < (gN c : Int)) = false := decide_eq_false hg
    rw [hg']
    have HG : Hid (gN c ≤ 2000) := Lib.hid (by omega)
    clear hg hg'
    by_cases hsz : (2000 : Int) < (s.size : Int)
    · go_wp2_with fail
      go_ret
      exact ⟨rfl, B2.out⟩
    · go_wp2_with fail
      refine (Td.text b cb c w2 HC2.out HB.out (by have := HW.out; omega) HT2.out).mono ?_
      rintro e w3 ⟨rfl, b3⟩
      have hc3 := HC2.out.below b3
      have HC3 := Lib.hid hc3
      have B3 := Lib.hid (B2.out.trans (b3.mono B2.out.size))
      clear b3 hc3 HC2 HT2 B2
      obtain ⟨TX, EX, hV⟩ : ∃ (TX : ByteArray) (EX : Int), textV c = .tuple #[.string TX, .int .i64 EX] := by
        unfold textV; split
        · exact ⟨_, 0, rfl⟩
        · exact ⟨_, 2, rfl⟩
      rw [hV]
      have HV := Lib.hid hV
      clear hV
      go_wp2_with fail
      refine (Td.twin b cb c w3 HC3.out.1 hcl).mono ?_
      rintro e w4 ⟨v4, rfl, hown4, b4⟩
      obtain ⟨a4, c4, rfl, hr4⟩ := twin_at hown4
      have hc4 : ChsAt w4 a4 c := ⟨hr4, fun x hx => (HC3.out.2 x hx).below b4 (Nat.le_refl _) b4.size⟩
      have HC4 := Lib.hid hc4
      have B4 := Lib.hid (B3.out.trans (b4.mono B3.out.size))
      clear hown4 hr4 hc4 b4 HC3 B3
      go_wp2_with fail
      refine (Rf.text a4 c4 c w4 HC4.out HB.out (by have := HW.out; omega)).mono ?_
      rintro e w5 ⟨rfl, b5⟩
      rw [HV.out]
      have B5 := Lib.hid (B4.out.trans (b5.mono B4.out.size))
      clear b5 HC4 B4
      go_wp2_with fail
      refine (Td.parse s w5 (by omega)).mono ?_
      rintro e w6 ⟨b6, hpost⟩
      have B6 := Lib.hid (B5.out.trans (b6.mono B5.out.size))
      clear b6 B5
      rcases parse_cases s with ⟨n, hp⟩ | ⟨st, hp, hok, htx⟩
      · rw [hp] at hpost
        subst hpost
        have HP := Lib.hid hp
        clear hp
        go_wp2_with fail
        refine (HRP.out s w6 (by omega)).mono ?_
        rintro e w7 ⟨b7, hpost⟩
        rw [HP.out] at hpost
        subst hpost
        have B7 := Lib.hid (B6.out.trans (b7.mono B6.out.size))
        clear b7 B6
        go_wp2_with fail
        have A := Td.same none none 0 0 [] [] w7 ⟨.inl rfl, fun x hx => by cases hx⟩ ⟨.inl rfl, fun x hx => by cases hx⟩ rfl (by simp) (fun x hx => by cases hx)
        rw [List.length_nil] at A
        refine A.mono ?_
        clear A
        rintro e w8 ⟨rfl, b8⟩
        have B8 := Lib.hid (B7.out.trans (b8.mono B7.out.size))
        clear b8 B7
        go_wp2_with fail
        go_ret
        exact ⟨by simp, B8.out⟩
      · rw [hp] at hpost
        obtain ⟨K6, lv6, tv6, l6, hl6, rfl, hrd6⟩ := hpost
        obtain ⟨a6, c6, rfl, hc6⟩ := hrd6.chs
        have HP := Lib.hid hp
        have HL6 := Lib.hid hl6
        have HC6 := Lib.hid hc6
        rw [← hl6] at hok htx
        obtain ⟨hk6, hu6, hbn6, hwt6⟩ := back_text l6 s hok htx (by omega)
        have HBN6 := Lib.hid hbn6
        clear hp hl6 hc6 hrd6 hok htx hk6 hu6 hbn6 hwt6
        go_wp2_with fail
        refine (HRP.out s w6 (by omega)).mono ?_
        rintro e w7 ⟨b7, hpost⟩
        rw [HP.out] at hpost
        obtain ⟨K7, lv7, l7, hl7, rfl, hrf7⟩ := hpost
        obtain ⟨a7, c7, rfl, hc7⟩ := hrf7.chs
        have hc67 := HC6.out.below b7
        have HC67 := Lib.hid hc67
        have HC7 := Lib.hid hc7
        have HPL : Hid (pcs l6 = pcs l7) := Lib.hid (by rw [HL6.out, hl7])
        have B7 := Lib.hid (B6.out.trans (b7.mono B6.out.size))
        clear b7 B6 hl7 hrf7 hc7 hc67 HC6
        go_wp2_with fail
        refine (Td.same a6 a7 c6 c7 l6 l7 w7 HC67.out HC7.out HPL.out HBN6.out.len HBN6.out.es).mono ?_
        rintro e w8 ⟨rfl, b8⟩
        have B8 := Lib.hid (B7.out.trans (b8.mono B7.out.size))
        clear b8 B7
        go_wp2_with fail
        go_ret
        exact ⟨by simp, B8.out⟩
end Go.Proofs.YtodjhgalbaelkaaDoor

/- told: arguments opened, and how much they hold. -/
import Derived.Test.YtodjhgalbaelkaaDoorRows
import Derived.Test.YtodjhgalbaelkaaDoorOpn
import Derived.Test.YtodjhgalbaelkaaDoorTwO
namespace Go.Proofs.YtodjhgalbaelkaaDoor
open Go.RowKit Go.ChangeShapes Go.WideShapes Go.Deep
set_option linter.unusedVariables false

theorem bulk_append {H : Type} (l r : List (DataW H)) : Rows.uptoBulkAll (l ++ r) = Rows.uptoBulkAll l + Rows.uptoBulkAll r := by
  induction l with
  | nil => simp [Rows.uptoBulkAll]
  | cons x l ih => simp only [List.cons_append, Rows.uptoBulkAll, ih]; omega
theorem bulk_range {H α : Type} (m : α → Nat) (D : Nat → DataW H) (l : List α) (h : ∀ i (hi : i < l.length), m l[i] ≤ Rows.uptoBulk (D i)) : ∀ n, n ≤ l.length → ((l.take n).map m).sum ≤ Rows.uptoBulkAll ((List.range n).map D)
  | 0, _ => by simp
  | n + 1, hn => by
    have ih := bulk_range m D l h n (by omega)
    rw [List.take_succ_eq_append_getElem (by omega), List.range_succ, List.map_append, List.map_append, bulk_append, List.sum_append]
    have := h n (by omega)
    simp only [List.map_cons, List.map_nil, List.sum_cons, List.sum_nil, Rows.uptoBulkAll]
    omega

section
variable {H : Type} {enc : TypeId × Value → H} {w : World} {base : Nat} {spare : Nat → Bool} {held : Bool}

theorem rdb_slice {α : Type} {P : Program} {t e : TypeId} {fuel : Nat} {cs : List Value} {x : DataW H × List MemPlace} (n : Nat) (f : α → List Value) (G : α → Prop) (m : α → Nat) (ht : P.underlying t = some (.slice e)) (hC : P.cellsOf e = n) (hn : 0 < n)
    (elem : ∀ fuel cs x, DataW.trod enc P w base spare held fuel e cs = some x → ∃ g, cs = f g ∧ G g ∧ m g ≤ Rows.uptoBulk x.1) (h : DataW.trod enc P w base spare held fuel t cs = some x) :
    ∃ a cap l, cs = [.slice a l.length cap] ∧ l.length ≤ cap ∧ cap ≤ maxLen ∧ (a = none → l = [] ∧ cap = 0) ∧ RowAt n f w a l ∧ (∀ g ∈ l, G g) ∧ (l.map m).sum + 1 ≤ Rows.uptoBulk x.1 := by
  rcases open_slice ht h with ⟨hcs, rfl⟩ | ⟨a, len, cap, m', k, D, Pl, hcs, _, hl, hm, hmm, hx, he⟩
  · exact ⟨none, 0, [], hcs, Nat.le_refl _, Nat.zero_le _, fun _ => ⟨rfl, rfl⟩, .inl rfl, (fun g hg => by cases hg), by simp [Rows.uptoBulk]⟩
  · have hlm : len ≤ m' := by rw [hmm]; split <;> omega
    obtain ⟨l, hll, hp⟩ := exists_list (p := fun i g => w.cells? base (a.add (i * n)) n = some (f g) ∧ G g ∧ m g ≤ Rows.uptoBulk (D i)) len (fun i hi => by
      obtain ⟨cs', hc, ht'⟩ := he i (by omega)
      obtain ⟨g, hg, hG, hB⟩ := elem _ _ _ ht'
      rw [hC] at hc
      exact ⟨g, by rw [hc, hg], hG, hB⟩)
    subst hll
    refine ⟨some a, cap, l, hcs, hl, hm, (fun h => by cases h), ?_, fun g hg => ?_, ?_⟩
    · by_cases h0 : l = []
      · exact .inl h0
      · right
        have hpos : 0 < l.length := List.length_pos_iff.2 h0
        obtain ⟨_, hlen0, hc0⟩ := World.cells?_some (hp 0 hpos).1
        have hc00 := hc0 0 hn
        obtain ⟨v, hv⟩ : ∃ v, (f l[0])[0]? = some v := ⟨(f l[0])[0]'(by omega), List.getElem?_eq_getElem _⟩
        rw [hv] at hc00
        have hsp := World.cell?_spot hc00
        have hbl := World.block_lt_of_cell? w _ hc00
        obtain ⟨b, off, spot⟩ := a
        have hspot : spot = none := by simpa [Addr.add] using hsp
        subst hspot
        refine ⟨b, off, rfl, by simpa [Addr.add] using hbl, fun i hi j u hu => ?_⟩
        obtain ⟨_, hlen, hcc⟩ := World.cells?_some (hp i hi).1
        have hj : j < n := by rw [← hlen]; exact (List.getElem?_eq_some_iff.1 hu).1
        have := hcc j hj
        rw [hu] at this
        rwa [addr_add, addr_add] at this
    · obtain ⟨i, hi, rfl⟩ := List.mem_iff_getElem.1 hg
      exact (hp i hi).2.1
    · have := bulk_range m D l (fun i hi => (hp i hi).2.2) l.length (Nat.le_refl _)
      rw [List.take_length] at this
      rw [hx]
      simp only [Rows.uptoBulk]
      omega

theorem Cel.c3 : Tryd.prog.cellsOf 3 = 1 := by kernel_rfl
theorem Cel.c9 : Tryd.prog.cellsOf 9 = 1 := by kernel_rfl
theorem Cel.c46 : Tryd.prog.cellsOf 46 = 1 := by kernel_rfl
theorem Cel.c50 : Tryd.prog.cellsOf 50 = 3 := by kernel_rfl
theorem Cel.c48 : Tryd.prog.cellsOf 48 = 2 := by kernel_rfl
theorem Cel.c26 : Tryd.prog.cellsOf 26 = 2 := by kernel_rfl

theorem rdb_int {fuel : Nat} {cs : List Value} {x : DataW H × List MemPlace} (h : DataW.trod enc Tryd.prog w base spare held fuel 3 cs = some x) : ∃ n : Int, cs = [.int .i64 n] :=
  let ⟨n, h, _, _⟩ := DataW.trod_int Tryd.underlying3 h
  ⟨n, h⟩
theorem rdb_string {fuel : Nat} {cs : List Value} {x : DataW H × List MemPlace} (h : DataW.trod enc Tryd.prog w base spare held fuel 9 cs = some x) : ∃ s : ByteArray, cs = [.string s] ∧ s.size + 1 ≤ Rows.uptoBulk x.1 := by
  obtain ⟨s, hs, rfl, _⟩ := DataW.trod_string Tryd.underlying9 h
  refine ⟨s, hs, ?_⟩
  simp [Rows.uptoBulk]
set_option maxRecDepth 100000 in
theorem rdb_fil {fuel : Nat} {cs : List Value} {x : DataW H × List MemPlace} (h : DataW.trod enc Tryd.prog w base spare held fuel 26 cs = some x) : ∃ f : Fil, cs = Fil.f f ∧ True ∧ f.n.size + f.t.size + 1 ≤ Rows.uptoBulk x.1 := by
  obtain ⟨xs, n, _, rfl, hl, hlen, hf⟩ := DataW.trod_struct Tryd.underlying26 h
  rw [Cel.c26] at hl
  match xs, hlen, cs, hl with
  | [y0, y1], _, [v0, v1], _ =>
    have f0 : DataW.trod enc Tryd.prog w base spare held n 9 (([v0, v1].drop 0).take (Tryd.prog.cellsOf 9)) = some y0 := hf 0 _ rfl
    have f1 : DataW.trod enc Tryd.prog w base spare held n 9 (([v0, v1].drop 1).take (Tryd.prog.cellsOf 9)) = some y1 := hf 1 _ rfl
    simp only [Cel.c9] at f0 f1
    obtain ⟨s0, e0, b0⟩ := rdb_string f0
    obtain ⟨s1, e1, b1⟩ := rdb_string f1
    simp at e0 e1
    refine ⟨⟨s0, s1⟩, by simp [Fil.f, e0, e1], trivial, ?_⟩
    simp [Rows.uptoBulk, Rows.uptoBulkAll]
    omega
set_option maxRecDepth 100000 in
theorem rdb_edi {fuel : Nat} {cs : List Value} {x : DataW H × List MemPlace} (h : DataW.trod enc Tryd.prog w base spare held fuel 50 cs = some x) : ∃ f : Edi, cs = Edi.f f ∧ True ∧ f.t.size + 1 ≤ Rows.uptoBulk x.1 := by
  obtain ⟨xs, n, _, rfl, hl, hlen, hf⟩ := DataW.trod_struct Tryd.underlying50 h
  rw [Cel.c50] at hl
  match xs, hlen, cs, hl with
  | [y0, y1, y2], _, [v0, v1, v2], _ =>
    have f0 : DataW.trod enc Tryd.prog w base spare held n 3 (([v0, v1, v2].drop 0).take (Tryd.prog.cellsOf 3)) = some y0 := hf 0 _ rfl
    have f1 : DataW.trod enc Tryd.prog w base spare held n 3 (([v0, v1, v2].drop 1).take (Tryd.prog.cellsOf 3)) = some y1 := hf 1 _ rfl
    have f2 : DataW.trod enc Tryd.prog w base spare held n 9 (([v0, v1, v2].drop 2).take (Tryd.prog.cellsOf 9)) = some y2 := hf 2 _ rfl
    simp only [Cel.c9, Cel.c3] at f0 f1 f2
    obtain ⟨s0, e0⟩ := rdb_int f0
    obtain ⟨s1, e1⟩ := rdb_int f1
    obtain ⟨s2, e2, b2⟩ := rdb_string f2
    simp at e0 e1 e2
    refine ⟨⟨s0, s1, s2⟩, by simp [Edi.f, e0, e1, e2], trivial, ?_⟩
    simp [Rows.uptoBulk, Rows.uptoBulkAll]
    omega
theorem rdb_fils {fuel : Nat} {cs : List Value} {x : DataW H × List MemPlace} (h : DataW.trod enc Tryd.prog w base spare held fuel 22 cs = some x) :
    ∃ a cap l, cs = [.slice a l.length cap] ∧ l.length ≤ cap ∧ cap ≤ maxLen ∧ (a = none → l = [] ∧ cap = 0) ∧ RowAt 2 Fil.f w a l ∧ (∀ g ∈ l, True) ∧ (l.map (fun f => f.n.size + f.t.size + 1)).sum + 1 ≤ Rows.uptoBulk x.1 :=
  rdb_slice 2 Fil.f (fun _ => True) _ Tryd.underlying22 Cel.c26 (by omega) (fun _ _ _ h => rdb_fil h) h
theorem rdb_edis {fuel : Nat} {cs : List Value} {x : DataW H × List MemPlace} (h : DataW.trod enc Tryd.prog w base spare held fuel 46 cs = some x) :
    ∃ a cap l, cs = [.slice a l.length cap] ∧ l.length ≤ cap ∧ cap ≤ maxLen ∧ (a = none → l = [] ∧ cap = 0) ∧ RowAt 3 Edi.f w a l ∧ (∀ g ∈ l, True) ∧ (l.map (fun f => f.t.size + 1)).sum + 1 ≤ Rows.uptoBulk x.1 :=
  rdb_slice 3 Edi.f (fun _ => True) _ Tryd.underlying46 Cel.c50 (by omega) (fun _ _ _ h => rdb_edi h) h
def GChg (w : World) (c : Chg) : Prop := RowAt 3 Edi.f w c.ea c.es ∧ c.es.length ≤ c.ec ∧ c.ec ≤ maxLen ∧ (c.ea = none → c.es = [] ∧ c.ec = 0)
set_option maxRecDepth 100000 in
theorem rdb_chg {fuel : Nat} {cs : List Value} {x : DataW H × List MemPlace} (h : DataW.trod enc Tryd.prog w base spare held fuel 48 cs = some x) : ∃ f : Chg, cs = Chg.f f ∧ GChg w f ∧ f.n.size + 1 + wtE f.es ≤ Rows.uptoBulk x.1 := by
  obtain ⟨xs, n, _, rfl, hl, hlen, hf⟩ := DataW.trod_struct Tryd.underlying48 h
  rw [Cel.c48] at hl
  match xs, hlen, cs, hl with
  | [y0, y1], _, [v0, v1], _ =>
    have f0 : DataW.trod enc Tryd.prog w base spare held n 9 (([v0, v1].drop 0).take (Tryd.prog.cellsOf 9)) = some y0 := hf 0 _ rfl
    have f1 : DataW.trod enc Tryd.prog w base spare held n 46 (([v0, v1].drop 1).take (Tryd.prog.cellsOf 46)) = some y1 := hf 1 _ rfl
    simp only [Cel.c9, Cel.c46] at f0 f1
    obtain ⟨s0, e0, b0⟩ := rdb_string f0
    obtain ⟨a, cap, l, e1, c1, c2, c3, c4, _, b1⟩ := rdb_edis f1
    simp at e0 e1
    refine ⟨⟨s0, a, cap, l⟩, by simp [Chg.f, e0, e1], ⟨c4, c1, c2, c3⟩, ?_⟩
    simp [Rows.uptoBulk, Rows.uptoBulkAll]
    unfold wtE
    omega
theorem rdb_chgs {fuel : Nat} {cs : List Value} {x : DataW H × List MemPlace} (h : DataW.trod enc Tryd.prog w base spare held fuel 23 cs = some x) :
    ∃ a cap l, cs = [.slice a l.length cap] ∧ l.length ≤ cap ∧ cap ≤ maxLen ∧ (a = none → l = [] ∧ cap = 0) ∧ RowAt 2 Chg.f w a l ∧ (∀ g ∈ l, GChg w g) ∧ wt l + 1 ≤ Rows.uptoBulk x.1 :=
  rdb_slice 2 Chg.f (GChg w) _ Tryd.underlying23 Cel.c48 (by omega) (fun _ _ _ h => rdb_chg h) h
end
theorem wtE_mem {l : List Edi} {x : Edi} (h : x ∈ l) : x.t.size + 1 ≤ wtE l := by
  induction l with
  | nil => cases h
  | cons y l ih =>
    simp only [wtE, List.map_cons, List.sum_cons] at *
    rcases List.mem_cons.1 h with rfl | h
    · omega
    · have := ih h; omega
theorem wtE_len (l : List Edi) : l.length ≤ wtE l := by
  induction l with
  | nil => simp [wtE]
  | cons y l ih => simp only [wtE, List.map_cons, List.sum_cons, List.length_cons] at *; omega
theorem wt_mem {l : List Chg} {x : Chg} (h : x ∈ l) : x.n.size + 1 + wtE x.es ≤ wt l := by
  induction l with
  | nil => cases h
  | cons y l ih =>
    simp only [wt, List.map_cons, List.sum_cons] at *
    rcases List.mem_cons.1 h with rfl | h
    · omega
    · have := ih h; omega
theorem wt_len (l : List Chg) : l.length ≤ wt l := by
  induction l with
  | nil => simp [wt]
  | cons y l ih => simp only [wt, List.map_cons, List.sum_cons, List.length_cons] at *; omega
theorem edS_wt (l : List Edi) : edS l ≤ wtE l := by
  induction l with
  | nil => simp [edS, wtE]
  | cons y l ih => simp only [edS, wtE, List.map_cons, List.sum_cons] at *; omega
theorem chS_wt (l : List Chg) : chS l ≤ wt l := by
  induction l with
  | nil => simp [chS, wt]
  | cons y l ih => simp only [chS, wt, List.map_cons, List.sum_cons] at *; have := edS_wt y.es; omega
theorem bnd_of {l : List Chg} (h : wt l ≤ 2000000) : Bnd l :=
  ⟨by have := wt_len l; omega, fun c hc => by have := wt_mem hc; omega, fun c hc => by have := wt_mem hc; have := wtE_len c.es; omega, fun c hc x hx => by have := wt_mem hc; have := wtE_mem hx; omega⟩
theorem fils_mem {l : List Fil} {x : Fil} (h : x ∈ l) : x.n.size + x.t.size + 1 ≤ (l.map (fun f => f.n.size + f.t.size + 1)).sum := by
  induction l with
  | nil => cases h
  | cons y l ih =>
    simp only [List.map_cons, List.sum_cons] at *
    rcases List.mem_cons.1 h with rfl | h
    · omega
    · have := ih h; omega
theorem fils_len (l : List Fil) : l.length ≤ (l.map (fun f => f.n.size + f.t.size + 1)).sum := by
  induction l with
  | nil => simp
  | cons y l ih => simp only [List.map_cons, List.sum_cons, List.length_cons] at *; omega
end Go.Proofs.YtodjhgalbaelkaaDoor

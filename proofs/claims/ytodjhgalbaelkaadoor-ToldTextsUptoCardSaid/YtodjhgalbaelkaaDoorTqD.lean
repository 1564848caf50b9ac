/- told, plain: the text of changes is read as them. -/
import Derived.Test.YtodjhgalbaelkaaDoorTqC
namespace Go.Proofs.YtodjhgalbaelkaaDoor
open Go.RowKit Go.Shelf
set_option linter.unusedVariables false

def textPc (c : Pc) : Bs := eqB c.1 ++ c.2.flatMap tellB
def textP (l : List Pc) : Bs := l.flatMap textPc
theorem textB_pcs (l : List Chg) : textB l = textP (pcs l) := by
  unfold textB textP pcs
  rw [List.flatMap_map]
  rfl
def okPc (p : Option ByteArray) (c : Pc) : Bool := isPath (dl c.1) && !(c.2.length == 0) && (match p with | none => true | some q => !(leB (dl c.1) (dl q))) && okEs (-1) c.2
def okP : Option ByteArray → List Pc → Bool
  | _, [] => true
  | p, c :: r => okPc p c && okP (some c.1) r
theorem okCs_pcs : ∀ (l : List Chg) (p : Option ByteArray), okCs p l = okP p (pcs l)
  | [], _ => rfl
  | c :: l, p => by
    rw [okCs, okCs_pcs l]
    rfl
theorem okP_append : ∀ (l m : List Pc) (p : Option ByteArray), okP p (l ++ m) = (okP p l && okP (match l.getLast? with | none => p | some c => some c.1) m)
  | [], m, p => by simp [okP]
  | c :: l, m, p => by
    rw [List.cons_append, okP, okP_append l m, okP, Bool.and_assoc]
    cases l with
    | nil => rfl
    | cons d l => rw [List.getLast?_cons_cons]; cases h : (d :: l).getLast? with
      | none => simp at h
      | some x => rfl
theorem okEs_append : ∀ (l m : List Edi) (last : Int), okEs last (l ++ m) = (okEs last l && okEs (match l.getLast? with | none => last | some x => x.b) m)
  | [], m, last => by simp [okEs]
  | x :: l, m, last => by
    rw [List.cons_append, okEs, okEs_append l m, okEs, Bool.and_assoc]
    cases l with
    | nil => rfl
    | cons d l => rw [List.getLast?_cons_cons]; cases h : (d :: l).getLast? with
      | none => simp at h
      | some x => rfl
theorem dl_nil : dl (⟨#[]⟩ : ByteArray) = [] := rfl
theorem str_dl (s : ByteArray) : str (dl s) = s := str_of s
theorem dl_inj {a b : ByteArray} (h : dl a = dl b) : a = b := by rw [← str_dl a, ← str_dl b, h]

/-! Lines of a name, of an edit's head, of a text. -/
theorem name_not {x : Bs} (h : isName x = true) : ∀ c ∈ x, c ≠ 10 ∧ c ≠ 32 := by
  rw [isName_eq, Bool.and_eq_true] at h
  intro c hc
  have := List.all_eq_true.1 h.2 c hc
  unfold okc at this
  simp only [Bool.and_eq_true, decide_eq_true_eq] at this
  constructor
  · rintro rfl; simp at this
  · rintro rfl; simp at this
theorem parts_mem : ∀ (l : Bs) (c : UInt8), c ∈ l → c = 47 ∨ ∃ x ∈ parts l, c ∈ x
  | [], c, h => by cases h
  | d :: l, c, h => by
    rw [parts_cons]
    rcases List.mem_cons.1 h with rfl | h
    · by_cases hc : c = 47
      · exact .inl hc
      · right
        rw [if_neg hc]
        cases hp : parts l with
        | nil => exact ⟨[c], by simp, by simp⟩
        | cons x r => exact ⟨c :: x, by simp, by simp⟩
    · rcases parts_mem l c h with rfl | ⟨x, hx, hcx⟩
      · exact .inl rfl
      · right
        split
        · exact ⟨x, List.mem_cons_of_mem _ hx, hcx⟩
        · cases hp : parts l with
          | nil => rw [hp] at hx; cases hx
          | cons y r =>
            rw [hp] at hx
            rcases List.mem_cons.1 hx with rfl | hx
            · exact ⟨d :: x, by simp, by simp [hcx]⟩
            · exact ⟨x, by simp [hx], hcx⟩
theorem path_not {l : Bs} (h : isPath l = true) : (10 : UInt8) ∉ l := by
  intro hm
  unfold isPath at h
  rw [Bool.and_eq_true] at h
  rcases parts_mem l 10 hm with e | ⟨x, hx, hc⟩
  · cases e
  · exact (name_not (List.all_eq_true.1 h.2 x hx) 10 hc).1 rfl
theorem line_eq {n : ByteArray} (h : isPath (dl n) = true) : isLine (eqB n) := ⟨[61, 32] ++ dl n, by simp [eqB], by have := path_not h; simp [this]⟩
/-- An edit's head. -/
def hedB (a b : Int) (n : Nat) : Bs := [64, 32] ++ (Lib.itoa (a + 1) ++ (32 :: (Lib.itoa (b - a) ++ (32 :: (Lib.itoa (n : Int) ++ [10])))))
theorem itoa_of {a : Int} (h : 0 ≤ a) : Lib.itoa a = Lib.decDigits a.toNat := by
  unfold Lib.itoa
  rw [if_neg (by omega)]
theorem dec_not (u : Nat) (c : UInt8) (h : c.toNat < 48 ∨ 57 < c.toNat) : c ∉ Lib.decDigits u := fun hm => by have := dec_mem u c hm; omega
theorem line_hed {a b : Int} {n : Nat} (h1 : 0 ≤ a) (h2 : a ≤ b) : isLine (hedB a b n) := by
  refine ⟨[64, 32] ++ (Lib.itoa (a + 1) ++ (32 :: (Lib.itoa (b - a) ++ (32 :: Lib.itoa (n : Int))))), by simp [hedB], ?_⟩
  rw [itoa_of (by omega : 0 ≤ a + 1), itoa_of (by omega : 0 ≤ b - a), itoa_of (by omega : (0 : Int) ≤ n)]
  have k := fun u => dec_not u 10 (by decide)
  simp [k]
/-- A text's lines as they are told. -/
def fulB (l : Bs) : Bs := if ends l = true then l else l ++ [10]
def bodyL (t : Bs) : List Bs := (lines t).map fulB
def tailL (t : Bs) : List Bs := if t ≠ [] ∧ ends t = false then [[45, 10]] else []
theorem bodyL_line (t : Bs) : ∀ x ∈ bodyL t, isLine x := by
  intro x hx
  obtain ⟨y, hy, rfl⟩ := List.mem_map.1 hx
  unfold fulB
  rcases lines_form t with ⟨h1, _⟩ | ⟨i, z, h1, h2, h3, h4, _, _⟩
  · have := h1 y hy
    rw [if_pos (ends_isLine this)]; exact this
  · rw [h1] at hy
    rcases List.mem_append.1 hy with hy | hy
    · have := h2 y hy
      rw [if_pos (ends_isLine this)]; exact this
    · rw [List.mem_singleton] at hy
      subst hy
      rw [if_neg]
      · exact ⟨y, rfl, h4⟩
      · intro e
        obtain ⟨u, rfl⟩ := ends_back e
        exact h4 (by simp)
theorem line_plus {x : Bs} (h : isLine x) : isLine (43 :: x) := by
  obtain ⟨u, rfl, hu⟩ := h
  exact ⟨43 :: u, rfl, by simp [hu]⟩
/-- The lines of an edit. -/
def ediL (x : Edi) : List Bs := hedB x.a x.b (lines (dl x.t)).length :: ((bodyL (dl x.t)).map (43 :: ·) ++ tailL (dl x.t))
theorem map_full {l : List Bs} (h : ∀ x ∈ l, isLine x) : l.map fulB = l := by
  conv => rhs; rw [← List.map_id l]
  refine List.map_congr_left fun x hx => ?_
  unfold fulB
  rw [if_pos (ends_isLine (h x hx))]; rfl
theorem no_ends {z : Bs} (h : (10 : UInt8) ∉ z) : ends z = false := by
  cases he : ends z
  · rfl
  · obtain ⟨u, rfl⟩ := ends_back he
    exact absurd (by simp) h
theorem flatMap43 (l : List Bs) : l.flatMap (fun l => (43 : UInt8) :: l) = (l.map (43 :: ·)).flatten := by rw [List.flatMap_def]
theorem size_ne (t : ByteArray) : t.size ≠ 0 ↔ dl t ≠ [] := by
  rw [size_dl]
  constructor
  · intro h e; rw [e] at h; exact h rfl
  · intro h e; exact h (List.length_eq_zero_iff.1 e)
theorem tellB_body (x : Edi) : (lines (dl x.t)).flatMap (fun l => 43 :: l) ++ (if x.t.size ≠ 0 ∧ ends (dl x.t) = false then [10, 45, 10] else []) = ((bodyL (dl x.t)).map (43 :: ·)).flatten ++ (tailL (dl x.t)).flatten := by
  rw [flatMap43]
  unfold bodyL tailL
  rcases lines_form (dl x.t) with ⟨h1, h2⟩ | ⟨i, z, h1, h2, h3, h4, h5, h6⟩
  · rw [map_full h1, if_neg, if_neg]
    · rfl
    · rintro ⟨a, b⟩
      rcases h2 with h2 | h2
      · exact a h2
      · rw [h2] at b; cases b
    · rintro ⟨a, b⟩
      rw [size_ne] at a
      rcases h2 with h2 | h2
      · exact a h2
      · rw [h2] at b; cases b
  · rw [if_pos ⟨(size_ne _).2 h5, h6⟩, if_pos ⟨h5, h6⟩, h1, List.map_append, List.map_append, map_full h2]
    have : fulB z = z ++ [10] := by unfold fulB; rw [if_neg]; rw [no_ends h4]; decide
    simp [this]
theorem tellB_lines (x : Edi) : tellB x = (ediL x).flatten := by
  unfold tellB
  rw [tellB_body]
  unfold ediL hedB
  simp only [List.flatten_cons, List.flatten_append, List.append_assoc, List.cons_append, List.nil_append]
theorem ediL_line {x : Edi} (h1 : 0 ≤ x.a) (h2 : x.a ≤ x.b) : ∀ y ∈ ediL x, isLine y := by
  intro y hy
  unfold ediL at hy
  rcases List.mem_cons.1 hy with rfl | hy
  · exact line_hed h1 h2
  · rcases List.mem_append.1 hy with hy | hy
    · obtain ⟨z, hz, rfl⟩ := List.mem_map.1 hy
      exact line_plus (bodyL_line _ z hz)
    · unfold tailL at hy
      split at hy
      · rw [List.mem_singleton] at hy
        subst hy
        exact ⟨[45], rfl, by decide⟩
      · cases hy
def chgL (c : Pc) : List Bs := eqB c.1 :: c.2.flatMap ediL
theorem textPc_lines (c : Pc) : textPc c = (chgL c).flatten := by
  unfold textPc chgL
  rw [List.flatten_cons]
  congr 1
  rw [List.flatMap_def, List.flatMap_def]
  induction c.2 with
  | nil => rfl
  | cons x l ih => simp only [List.map_cons, List.flatten_cons, List.flatten_append]; rw [tellB_lines, ih]
theorem okEs_in : ∀ (l : List Edi) (last : Int), okEs last l = true → ∀ x ∈ l, InR x := okEs_mem
theorem chgL_line {p : Option ByteArray} {c : Pc} (h : okPc p c = true) : ∀ y ∈ chgL c, isLine y := by
  unfold okPc at h
  simp only [Bool.and_eq_true] at h
  intro y hy
  rcases List.mem_cons.1 hy with rfl | hy
  · exact line_eq h.1.1.1
  · obtain ⟨x, hx, hy⟩ := List.mem_flatMap.1 hy
    have := okEs_in _ _ h.2 x hx
    exact ediL_line this.1 this.2.1 y hy

/-! The run. -/
theorem hp_cons (p l : Bs) : Lib.hasPrefix (p ++ l) p = true := List.isPrefixOf_iff_prefix.2 ⟨l, rfl⟩
theorem step_want {s : St} {u : Bs} (h : 0 < s.want) : stepL s (43 :: (u ++ [10])) = some (wantP s u) := by
  unfold stepL
  have h1 : (43 : UInt8) :: (u ++ [10]) = (43 :: u) ++ [10] := rfl
  rw [h1, ends_snoc, tlB_snoc, if_neg (by decide), if_pos h, if_pos (show Lib.hasPrefix (43 :: u) [43] = true from hp_cons [43] u)]
  rfl
theorem run_body : ∀ (ls : List Bs) (s : St) (d : List Pc) (n : ByteArray) (es : List Edi) (a b : Int) (t0 : ByteArray), (∀ x ∈ ls, isLine x) → ls ≠ [] → s.want = ls.length → s.l = d ++ [(n, es ++ [⟨a, b, t0⟩])] →
    runL s (ls.map (43 :: ·)) = some ⟨d ++ [(n, es ++ [⟨a, b, str (s.text ++ ls.flatten)⟩])], s.last, 0, s.text ++ ls.flatten, !(ls.getLast? == some [10])⟩
  | [], s, d, n, es, a, b, t0, _, h, _, _ => absurd rfl h
  | x :: ls, s, d, n, es, a, b, t0, hl, _, hw, hs => by
    obtain ⟨u, rfl, hu⟩ := hl x List.mem_cons_self
    rw [List.map_cons, runL, step_want (by rw [hw]; simp), Option.bind_some]
    cases ls with
    | nil =>
      have h1 : s.want = 1 := hw
      rw [List.map_nil, runL]
      unfold wantP
      rw [if_pos h1, hs, setTxt_at]
      have hb : (u == []) = (List.getLast? [u ++ [10]] == some [10]) := by
        rw [Bool.eq_iff_iff]
        simp
      simp only [List.flatten_cons, List.flatten_nil, List.append_nil, List.append_assoc, ← hb]
    | cons y ls =>
      have h1 : ¬ s.want = 1 := by rw [hw]; simp
      have hws : wantP s u = { s with want := s.want - 1, text := s.text ++ u ++ [10], opn := false } := by unfold wantP; rw [if_neg h1]
      rw [hws, run_body (y :: ls) { s with want := s.want - 1, text := s.text ++ u ++ [10], opn := false } d n es a b t0 (fun z hz => hl z (List.mem_cons_of_mem _ hz)) (by simp) (by show s.want - 1 = _; rw [hw]; simp) hs]
      simp only [List.flatten_cons, List.append_assoc, List.getLast?_cons_cons]
theorem flat_full {t : Bs} : (bodyL t).flatten = if t ≠ [] ∧ ends t = false then t ++ [10] else t := by
  unfold bodyL
  rcases lines_form t with ⟨h1, h2⟩ | ⟨i, z, h1, h2, h3, h4, h5, h6⟩
  · rw [map_full h1, lines_flat, if_neg]
    rintro ⟨a, b⟩
    rcases h2 with h2 | h2
    · exact a h2
    · rw [h2] at b; cases b
  · rw [if_pos ⟨h5, h6⟩, h1, List.map_append, map_full h2]
    have hz : fulB z = z ++ [10] := by unfold fulB; rw [if_neg]; rw [no_ends h4]; decide
    have hf := lines_flat t
    rw [h1] at hf
    conv => rhs; rw [← hf]
    simp [hz]
theorem nextB_of {last : Int} {x : Edi} (h : okE last x = true) : nextB last x.a x.b (lines (dl x.t)).length = true := h
theorem step_hed {s : St} {c : Pc} {d : List Pc} {a b : Int} {n : Nat} (hs : s.l = d ++ [c]) (hw : s.want = 0) (hn : nextB s.last a b n = true) :
    stepL s (hedB a b n) = some { s with l := d ++ [(c.1, c.2 ++ [⟨a, b, ⟨#[]⟩⟩])], last := b, want := n, text := [], opn := false } := by
  have hin := nextB_in hn
  have hline : hedB a b n = ([64, 32] ++ (Lib.itoa (a + 1) ++ (32 :: (Lib.itoa (b - a) ++ (32 :: Lib.itoa (n : Int)))))) ++ [10] := by simp [hedB]
  have e1 : Lib.itoa (a + 1) = Lib.decDigits (a + 1).toNat := itoa_of (by omega)
  have e2 : Lib.itoa (b - a) = Lib.decDigits (b - a).toNat := itoa_of (by omega)
  have e3 : Lib.itoa (n : Int) = Lib.decDigits n := by rw [itoa_of (by omega)]; rfl
  unfold stepL
  rw [hline, ends_snoc, tlB_snoc, if_neg (by decide), if_neg (by omega), if_neg (by rintro ⟨h, _⟩; simp at h)]
  rw [if_neg (by simp [Lib.hasPrefix, List.isPrefixOf]), if_pos (hp_cons [64, 32] _)]
  show editP _ (Lib.itoa (a + 1) ++ (32 :: (Lib.itoa (b - a) ++ (32 :: Lib.itoa (n : Int))))) = _
  have hed : editR s.last (Lib.itoa (a + 1) ++ (32 :: (Lib.itoa (b - a) ++ (32 :: Lib.itoa (n : Int))))) = some (⟨a, b, ⟨#[]⟩⟩, n) := by
    unfold editR
    rw [e1, e2, e3, cutB_at _ _ (dec_not _ 32 (by decide))]
    simp only [Option.getD_some]
    rw [cutB_at _ _ (dec_not _ 32 (by decide))]
    simp only [Option.getD_some]
    rw [numB_dec (by omega), numB_dec (by omega), numB_dec (by omega)]
    simp only
    rw [show (((a + 1).toNat : Nat) : Int) - 1 = a by omega, show a + (((b - a).toNat : Nat) : Int) = b by omega, if_pos hn]
  unfold editP
  simp only [hs, List.getLast?_append, List.getLast?_singleton, Option.some_or]
  rw [hed]
  simp
theorem step_minus {s : St} {d : List Pc} {n : ByteArray} {es : List Edi} {a b : Int} {t0 : ByteArray} {u : Bs} (hs : s.l = d ++ [(n, es ++ [⟨a, b, t0⟩])]) (hw : s.want = 0) (ho : s.opn = true) (ht : s.text = u ++ [10]) :
    stepL s [45, 10] = some { s with l := d ++ [(n, es ++ [⟨a, b, str u⟩])], opn := false } := by
  unfold stepL
  rw [show ([45, 10] : Bs) = [45] ++ [10] from rfl, ends_snoc, tlB_snoc, if_neg (by decide), if_neg (by omega), if_pos ⟨rfl, ho⟩, hs, setTxt_at, ht]
  simp
theorem run_edi {s : St} {d : List Pc} {n : ByteArray} {es : List Edi} {x : Edi} (hs : s.l = d ++ [(n, es)]) (hw : s.want = 0) (hk : okE s.last x = true) :
    ∃ tx o, runL s (ediL x) = some ⟨d ++ [(n, es ++ [x])], x.b, 0, tx, o⟩ := by
  unfold ediL
  rw [runL, step_hed hs hw (nextB_of hk), Option.bind_some, runL_append]
  by_cases hne : lines (dl x.t) = []
  · have ht := lines_nil.1 hne
    have hxt : x.t = ⟨#[]⟩ := dl_inj (by rw [ht])
    rw [hne]
    unfold bodyL tailL
    rw [hne, if_neg (by rw [ht]; rintro ⟨h, _⟩; exact h rfl)]
    refine ⟨[], false, ?_⟩
    obtain ⟨xa, xb, xt⟩ := x
    simp only at hxt
    subst hxt
    rfl
  · have hb : bodyL (dl x.t) ≠ [] := by unfold bodyL; simpa using hne
    have hlen : (lines (dl x.t)).length = (bodyL (dl x.t)).length := by unfold bodyL; simp
    rw [run_body (bodyL (dl x.t)) _ d n es x.a x.b ⟨#[]⟩ (bodyL_line _) hb hlen rfl, Option.bind_some]
    simp only [List.nil_append]
    rw [flat_full]
    unfold tailL
    by_cases ho : dl x.t ≠ [] ∧ ends (dl x.t) = false
    · rw [if_pos ho, if_pos ho, runL]
      have hop : (!((bodyL (dl x.t)).getLast? == some [10])) = true := by
        rcases lines_form (dl x.t) with ⟨h1, h2⟩ | ⟨i, z, h1, h2, h3, h4, h5, h6⟩
        · rcases h2 with h2 | h2
          · exact absurd h2 ho.1
          · rw [h2] at ho; cases ho.2
        · unfold bodyL
          have hz : fulB z = z ++ [10] := by unfold fulB; rw [if_neg]; rw [no_ends h4]; decide
          rw [h1, List.map_append, List.map_singleton, List.getLast?_append, List.getLast?_singleton, hz]
          simp [h3]
      rw [step_minus (u := dl x.t) rfl rfl hop rfl, Option.bind_some]
      refine ⟨dl x.t ++ [10], false, ?_⟩
      rw [runL, str_dl]
    · rw [if_neg ho, if_neg ho]
      refine ⟨dl x.t, !((bodyL (dl x.t)).getLast? == some [10]), ?_⟩
      rw [runL, str_dl]
theorem run_edis : ∀ (es2 : List Edi) (s : St) (d : List Pc) (n : ByteArray) (es : List Edi), s.l = d ++ [(n, es)] → s.want = 0 → okEs s.last es2 = true →
    ∃ last tx o, runL s (es2.flatMap ediL) = some ⟨d ++ [(n, es ++ es2)], last, 0, tx, o⟩
  | [], s, d, n, es, hs, hw, _ => ⟨s.last, s.text, s.opn, by rw [List.flatMap_nil, runL, List.append_nil, ← hs, ← hw]⟩
  | x :: es2, s, d, n, es, hs, hw, hk => by
    rw [okEs, Bool.and_eq_true] at hk
    obtain ⟨tx, o, h1⟩ := run_edi hs hw hk.1
    rw [List.flatMap_cons, runL_append, h1, Option.bind_some]
    obtain ⟨last, tx2, o2, h2⟩ := run_edis es2 ⟨d ++ [(n, es ++ [x])], x.b, 0, tx, o⟩ d n (es ++ [x]) rfl rfl hk.2
    exact ⟨last, tx2, o2, by rw [h2]; simp⟩
def lastN (l : List Pc) : Option ByteArray := l.getLast?.map (·.1)
theorem step_eq {s : St} {n : ByteArray} (hw : s.want = 0) (hk : headOkP s.l (dl n) = true) :
    stepL s (eqB n) = some { s with l := s.l ++ [(n, [])], last := -1, opn := false } := by
  have hline : eqB n = ([61, 32] ++ dl n) ++ [10] := by simp [eqB]
  unfold stepL
  rw [hline, ends_snoc, tlB_snoc, if_neg (by decide), if_neg (by omega), if_neg (by rintro ⟨h, _⟩; simp at h), if_pos (hp_cons [61, 32] _)]
  show headP _ (dl n) = _
  unfold headP
  rw [if_pos hk, str_dl]
theorem run_chg {s : St} {c : Pc} (hw : s.want = 0) (hl : ∀ x, s.l.getLast? = some x → x.2.length ≠ 0) (hk : okPc (lastN s.l) c = true) :
    ∃ last tx o, runL s (chgL c) = some ⟨s.l ++ [c], last, 0, tx, o⟩ := by
  unfold okPc at hk
  simp only [Bool.and_eq_true] at hk
  have hh : headOkP s.l (dl c.1) = true := by
    unfold headOkP
    unfold lastN at hk
    cases hg : s.l.getLast? with
    | none => rw [hg] at hk; simpa using hk.1.1.1
    | some x =>
      rw [hg] at hk
      have := hl x hg
      simp only [Option.map_some] at hk
      simp only [Bool.and_eq_true]
      exact ⟨⟨by simpa using this, hk.1.2⟩, hk.1.1.1⟩
  unfold chgL
  rw [runL, step_eq hw hh, Option.bind_some]
  obtain ⟨last, tx, o, h⟩ := run_edis c.2 { s with l := s.l ++ [(c.1, [])], last := -1, opn := false } s.l c.1 [] rfl hw hk.2
  exact ⟨last, tx, o, by rw [h]; simp⟩
theorem okPc_ne {p : Option ByteArray} {c : Pc} (h : okPc p c = true) : c.2.length ≠ 0 := by
  unfold okPc at h
  simp only [Bool.and_eq_true] at h
  simpa using h.1.1.2
theorem run_chgs : ∀ (l : List Pc) (s : St), s.want = 0 → (∀ x, s.l.getLast? = some x → x.2.length ≠ 0) → okP (lastN s.l) l = true →
    ∃ last tx o, runL s (l.flatMap chgL) = some ⟨s.l ++ l, last, 0, tx, o⟩
  | [], s, hw, _, _ => ⟨s.last, s.text, s.opn, by rw [List.flatMap_nil, runL, List.append_nil, ← hw]⟩
  | c :: l, s, hw, hl, hk => by
    rw [okP, Bool.and_eq_true] at hk
    obtain ⟨last, tx, o, h1⟩ := run_chg hw hl hk.1
    rw [List.flatMap_cons, runL_append, h1, Option.bind_some]
    obtain ⟨last2, tx2, o2, h2⟩ := run_chgs l ⟨s.l ++ [c], last, 0, tx, o⟩ rfl (fun x hx => by
      simp only [List.getLast?_append, List.getLast?_singleton, Option.some_or, Option.some.injEq] at hx
      subst hx
      exact okPc_ne hk.1) (by
      have : lastN (s.l ++ [c]) = some c.1 := by unfold lastN; simp
      show okP (lastN (s.l ++ [c])) l = true
      rw [this]; exact hk.2)
    exact ⟨last2, tx2, o2, by rw [h2]; simp⟩
theorem okP_mem : ∀ (l : List Pc) (p : Option ByteArray), okP p l = true → ∀ c ∈ l, ∃ q, okPc q c = true
  | [], _, _, c, h => by cases h
  | x :: l, p, hk, c, h => by
    rw [okP, Bool.and_eq_true] at hk
    rcases List.mem_cons.1 h with rfl | h
    · exact ⟨p, hk.1⟩
    · exact okP_mem l _ hk.2 c h
theorem textP_lines (l : List Pc) : textP l = (l.flatMap chgL).flatten := by
  unfold textP
  induction l with
  | nil => rfl
  | cons c l ih => rw [List.flatMap_cons, List.flatMap_cons, List.flatten_append, ← ih, textPc_lines]
theorem lines_textP {l : List Pc} {p : Option ByteArray} (h : okP p l = true) : lines (textP l) = l.flatMap chgL := by
  rw [textP_lines]
  have := lines_of (l.flatMap chgL) [] (fun x hx => by
    obtain ⟨c, hc, hx⟩ := List.mem_flatMap.1 hx
    obtain ⟨q, hq⟩ := okP_mem l p h c hc
    exact chgL_line hq x hx)
  rw [List.append_nil] at this
  rw [this]
  show l.flatMap chgL ++ [] = _
  rw [List.append_nil]
/-- The text of changes is read as them. -/
theorem parse_text {l : List Pc} (h : okP none l = true) : ∃ st, parseB (textP l) = .inr st ∧ st.l = l := by
  obtain ⟨last, tx, o, h1⟩ := run_chgs l st0 rfl (fun x hx => by cases hx) h
  refine ⟨⟨l, last, 0, tx, o⟩, ?_, rfl⟩
  unfold parseB
  rw [lines_textP h, h1]
  have hd : doneP (⟨st0.l ++ l, last, 0, tx, o⟩ : St) = true := by
    unfold doneP
    simp only [Bool.and_eq_true]
    refine ⟨rfl, ?_⟩
    show (match l.getLast? with | none => true | some c => !(c.2.length == 0)) = true
    cases hg : l.getLast? with
    | none => rfl
    | some c =>
      obtain ⟨q, hq⟩ := okP_mem l _ h c (List.mem_of_getLast? hg)
      have := okPc_ne hq
      simpa using this
  simp only [hd, if_true]
  rfl
end Go.Proofs.YtodjhgalbaelkaaDoor

/- told, plain: what a text says has that text. -/
import Derived.Test.YtodjhgalbaelkaaDoorTqD
namespace Go.Proofs.YtodjhgalbaelkaaDoor
open Go.RowKit Go.Shelf
set_option linter.unusedVariables false

/-- Changes, the last of which may have no edits yet. -/
def okL (l : List Pc) (last : Int) : Prop := (l = [] ∨ ∃ d n es, l = d ++ [(n, es)] ∧ okP none d = true ∧ isPath (dl n) = true ∧ (∀ q, lastN d = some q → leB (dl n) (dl q) = false) ∧ okEs (-1) es = true ∧ last = (match es.getLast? with | none => -1 | some x => x.b))
/-- What has been read: m. -/
def Inv (st : St) (m : Bs) : Prop :=
  (st.want = 0 ∧ okL st.l st.last ∧ m = textP st.l ∧ (st.opn = true → ∃ d n es x u, st.l = d ++ [(n, es ++ [x])] ∧ dl x.t = st.text ∧ (∃ i, lines st.text = i ++ [u ++ [10]]) ∧ u ≠ [] ∧ st.text = (st.text.take (st.text.length - 1)) ++ [10])) ∨
  (0 < st.want ∧ ∃ d n es a b, ∃ k : Nat, st.l = d ++ [(n, es ++ [⟨a, b, ⟨#[]⟩⟩])] ∧ okL (d ++ [(n, es)]) (match es.getLast? with | none => -1 | some x => x.b) ∧ nextB (match es.getLast? with | none => -1 | some x => x.b) a b k = true ∧ st.last = b ∧ (∀ y ∈ lines st.text, isLine y) ∧ (lines st.text).length + st.want = k ∧
    m = textP (d ++ [(n, es)]) ++ hedB a b k ++ ((lines st.text).map (43 :: ·)).flatten)
theorem textP_append (l m : List Pc) : textP (l ++ m) = textP l ++ textP m := by unfold textP; rw [List.flatMap_append]
theorem textP_edi (d : List Pc) (n : ByteArray) (es : List Edi) (x : Edi) : textP (d ++ [(n, es ++ [x])]) = textP (d ++ [(n, es)]) ++ tellB x := by
  rw [textP_append, textP_append, List.append_assoc]
  congr 1
  unfold textP textPc
  simp
theorem okL_ok {l : List Pc} {last : Int} (h : okL l last) (hl : ∀ x, l.getLast? = some x → x.2.length ≠ 0) : okP none l = true := by
  rcases h with rfl | ⟨d, n, es, rfl, h1, h2, h3, h4, _⟩
  · rfl
  · rw [okP_append, h1, Bool.true_and, okP, okP, Bool.and_true]
    have hes := hl (n, es) (by simp)
    unfold okPc
    simp only [Bool.and_eq_true]
    refine ⟨⟨⟨h2, by simpa using hes⟩, ?_⟩, h4⟩
    unfold lastN at h3
    cases hg : d.getLast? with
    | none => rfl
    | some c =>
      rw [hg] at h3
      have := h3 c.1 rfl
      simp only [this]; rfl
theorem okL_edi {d : List Pc} {n : ByteArray} {es : List Edi} {x : Edi} (h : okL (d ++ [(n, es)]) (match es.getLast? with | none => -1 | some x => x.b)) (hx : okE (match es.getLast? with | none => -1 | some x => x.b) x = true) : okL (d ++ [(n, es ++ [x])]) x.b := by
  rcases h with h | ⟨d', n', es', he, h1, h2, h3, h4, h5⟩
  · simp at h
  · obtain ⟨rfl, he2⟩ := List.append_inj' he rfl
    obtain ⟨rfl, rfl⟩ : n = n' ∧ es = es' := by simpa using he2
    refine .inr ⟨d, n, es ++ [x], rfl, h1, h2, h3, ?_, by simp⟩
    rw [okEs_append, h4, Bool.true_and, okEs, okEs, Bool.and_true]
    exact hx
theorem flatten_whole {l : Bs} (u : Bs) (h : ∀ y ∈ lines l, isLine y) (hu : (10 : UInt8) ∉ u) : lines (l ++ (u ++ [10])) = lines l ++ [u ++ [10]] := by
  have h1 := lines_of (lines l) (u ++ [10]) h
  rw [lines_flat] at h1
  rw [h1]
  have := lines_line u [] hu
  rw [this]
  rfl
theorem whole_ends {l : Bs} (h : ∀ y ∈ lines l, isLine y) (hne : l ≠ []) : ends l = true := by
  rcases lines_form l with ⟨_, h2⟩ | ⟨i, z, h1, _, _, h4, _, _⟩
  · exact h2.resolve_left hne
  · have := h z (by rw [h1]; simp)
    obtain ⟨u, rfl, _⟩ := this
    exact absurd (by simp) h4
theorem ediL_whole {a b : Int} {t : Bs} (h : ∀ y ∈ lines t, isLine y) : tellB ⟨a, b, str t⟩ = hedB a b (lines t).length ++ ((lines t).map (43 :: ·)).flatten := by
  rw [tellB_lines]
  unfold ediL
  simp only [dl_str]
  rw [List.flatten_cons, List.flatten_append]
  congr 1
  unfold bodyL tailL
  rw [map_full h, if_neg]
  · simp
  · rintro ⟨h1, h2⟩
    rw [whole_ends h h1] at h2
    cases h2
theorem inv_want {st : St} {m u : Bs} (h : Inv st m) (hw : 0 < st.want) (hu : (10 : UInt8) ∉ u) : Inv (wantP st u) (m ++ (43 :: (u ++ [10]))) := by
  rcases h with ⟨h0, _⟩ | ⟨_, d, n, es, a, b, k, hl, hok, hn, hlast, hws, hk, hm⟩
  · omega
  have hlines : lines (st.text ++ u ++ [10]) = lines st.text ++ [u ++ [10]] := by rw [List.append_assoc]; exact flatten_whole u hws hu
  have hws2 : ∀ y ∈ lines (st.text ++ u ++ [10]), isLine y := by
    rw [hlines]
    intro y hy
    rcases List.mem_append.1 hy with hy | hy
    · exact hws y hy
    · rw [List.mem_singleton] at hy; subst hy; exact ⟨u, rfl, hu⟩
  have hflat : m ++ (43 :: (u ++ [10])) = textP (d ++ [(n, es)]) ++ hedB a b k ++ ((lines (st.text ++ u ++ [10])).map (43 :: ·)).flatten := by
    rw [hm, hlines, List.map_append, List.flatten_append]
    simp
  unfold wantP
  by_cases h1 : st.want = 1
  · rw [if_pos h1]
    left
    have hk2 : (lines (st.text ++ u ++ [10])).length = k := by rw [hlines, List.length_append, ← hk, h1]; rfl
    have hx : okE (match es.getLast? with | none => -1 | some x => x.b) ⟨a, b, str (st.text ++ u ++ [10])⟩ = true := by
      unfold okE
      simp only [dl_str, hk2]
      exact hn
    refine ⟨rfl, ?_, ?_, ?_⟩
    · show okL (setTxt st.l _) st.last
      rw [hl, setTxt_at, hlast]
      exact okL_edi hok hx
    · show _ = textP (setTxt st.l _)
      rw [hflat, hl, setTxt_at, textP_edi, ediL_whole hws2, hk2, List.append_assoc]
    · intro ho
      have hune : u ≠ [] := by
        have ho : (!(u == [])) = true := ho
        intro e; subst e; cases ho
      refine ⟨d, n, es, ⟨a, b, str (st.text ++ u ++ [10])⟩, u, by show setTxt st.l _ = _; rw [hl, setTxt_at], dl_str _, ⟨lines st.text, hlines⟩, hune, ?_⟩
      exact (congrArg (· ++ [10]) (tlB_snoc (st.text ++ u) 10)).symm
  · rw [if_neg h1]
    right
    refine ⟨by show 0 < st.want - 1; omega, d, n, es, a, b, k, hl, hok, hn, hlast, hws2, ?_, hflat⟩
    show (lines (st.text ++ u ++ [10])).length + (st.want - 1) = k
    rw [hlines, List.length_append]
    simp; omega
theorem inv_open {st : St} {m : Bs} (h : Inv st m) (hw : st.want = 0) (ho : st.opn = true) : Inv { st with l := setTxt st.l (st.text.take (st.text.length - 1)), opn := false } (m ++ [45, 10]) := by
  rcases h with ⟨_, hok, hm, h⟩ | ⟨h0, _⟩
  rotate_left
  · omega
  obtain ⟨d, n, es, x, u, hl, hx, ⟨i, hi⟩, hu, ht⟩ := h ho
  obtain ⟨a, b, xt⟩ := x
  simp only at hx
  obtain ⟨v, hv⟩ : ∃ v, v = st.text.take (st.text.length - 1) := ⟨_, rfl⟩
  rw [← hv] at ht ⊢
  have hil : ∀ y ∈ i, isLine y := by
    intro y hy
    rcases lines_form st.text with ⟨h1, _⟩ | ⟨i', z, h1, h2, _, _, _, _⟩
    · exact h1 y (by rw [hi]; exact List.mem_append_left _ hy)
    · rw [hi] at h1
      obtain ⟨rfl, _⟩ := List.append_inj' h1 rfl
      exact h2 y hy
  have hu10 : (10 : UInt8) ∉ u := by
    rcases lines_form st.text with ⟨h1, _⟩ | ⟨i', z, h1, h2, _, h4, h5, h6⟩
    · obtain ⟨w, hw', hn'⟩ := h1 (u ++ [10]) (by rw [hi]; simp)
      have := (List.append_inj' hw' rfl).1
      rw [this]; exact hn'
    · rw [hi] at h1
      obtain ⟨_, he⟩ := List.append_inj' h1 rfl
      have : z = u ++ [10] := by simpa using he.symm
      rw [this] at h4
      exact absurd (by simp) h4
  have hvf : v = i.flatten ++ u := by
    have h1 := lines_flat st.text
    rw [hi, ht] at h1
    simp only [List.flatten_append, List.flatten_cons, List.flatten_nil, List.append_nil, ← List.append_assoc] at h1
    exact ((List.append_inj' h1 rfl).1).symm
  have hlv : lines v = i ++ [u] := by
    rw [hvf, lines_of i u hil]
    congr 1
    have := lines_form u
    rcases this with ⟨h1, h2⟩ | ⟨j, z, h1, h2, h3, h4, h5, h6⟩
    · rcases h2 with h2 | h2
      · exact absurd h2 hu
      · obtain ⟨w, rfl⟩ := ends_back h2
        exact absurd (by simp) hu10
    · have hf := lines_flat u
      cases j with
      | nil => rw [h1] at hf ⊢; simpa using hf
      | cons y j =>
        obtain ⟨w, hw', _⟩ := h2 y List.mem_cons_self
        rw [h1, hw'] at hf
        exact absurd (by rw [← hf]; simp) hu10
  have hvn : v ≠ [] := by
    intro e
    rw [e] at hvf
    have := congrArg List.length hvf
    have hp := List.length_pos_iff.2 hu
    simp at this; omega
  have hve : ends v = false := by
    cases he : ends v
    · rfl
    · obtain ⟨w, hw'⟩ := ends_back he
      exfalso
      rcases List.eq_nil_or_concat u with hu0 | ⟨u', c, hc⟩
      · exact hu hu0
      · rw [List.concat_eq_append] at hc
        rw [hc, ← List.append_assoc] at hvf
        rw [hvf] at hw'
        have := (List.append_inj' hw' rfl).2
        have : c = 10 := by simpa using this
        rw [hc, this] at hu10
        exact hu10 (by simp)
  have hfull : (lines st.text).map fulB = lines st.text := map_full (fun y hy => by
    rw [hi] at hy
    rcases List.mem_append.1 hy with hy | hy
    · exact hil y hy
    · rw [List.mem_singleton] at hy; subst hy; exact ⟨u, rfl, hu10⟩)
  have hbody : bodyL v = lines st.text := by
    unfold bodyL
    rw [hlv, List.map_append, map_full hil, hi, List.map_singleton]
    unfold fulB
    rw [if_neg (by rw [no_ends hu10]; decide)]
  have hlen : (lines v).length = (lines st.text).length := by rw [hlv, hi]; simp
  have hxt : xt = str st.text := by rw [← hx, str_dl]
  have hlw : ∀ y ∈ lines st.text, isLine y := by
    intro y hy
    rw [hi] at hy
    rcases List.mem_append.1 hy with hy | hy
    · exact hil y hy
    · rw [List.mem_singleton] at hy; subst hy; exact ⟨u, rfl, hu10⟩
  left
  refine ⟨hw, ?_, ?_, fun e => by cases e⟩
  · show okL (setTxt st.l v) st.last
    rw [hl, setTxt_at]
    rcases hok with hok | ⟨d', n', es', he, h1, h2, h3, h4, h5⟩
    · rw [hl] at hok; simp at hok
    · rw [hl] at he
      obtain ⟨rfl, he2⟩ := List.append_inj' he rfl
      obtain ⟨rfl, rfl⟩ : n = n' ∧ es ++ [⟨a, b, xt⟩] = es' := by simpa using he2
      refine .inr ⟨d, n, es ++ [⟨a, b, str v⟩], rfl, h1, h2, h3, ?_, by rw [h5]; simp⟩
      rw [okEs_append, Bool.and_eq_true] at h4 ⊢
      refine ⟨h4.1, ?_⟩
      have h6 := h4.2
      rw [okEs, okEs, Bool.and_true] at h6 ⊢
      unfold okE at h6 ⊢
      simp only [hxt, dl_str] at h6 ⊢
      rw [hlen]; exact h6
  · show _ = textP (setTxt st.l v)
    rw [hm, hl, setTxt_at, textP_edi, textP_edi, List.append_assoc, hxt, ediL_whole hlw]
    congr 1
    rw [tellB_lines]
    unfold ediL
    simp only [dl_str]
    rw [hlen, hbody, List.flatten_cons, List.flatten_append, List.append_assoc]
    unfold tailL
    rw [if_pos ⟨hvn, hve⟩]
    simp
theorem hasP {p l : Bs} (h : Lib.hasPrefix l p = true) : ∃ r, l = p ++ r := by
  obtain ⟨r, hr⟩ := List.isPrefixOf_iff_prefix.1 h
  exact ⟨r, hr.symm⟩
theorem inv_head {st st' : St} {m name : Bs} (h : Inv st m) (hw : st.want = 0) (hh : headP { st with opn := false } name = some st') : Inv st' (m ++ (61 :: 32 :: name ++ [10])) := by
  rcases h with ⟨_, hok, hm, _⟩ | ⟨h0, _⟩
  rotate_left
  · omega
  unfold headP at hh
  split at hh
  · rename_i hk
    cases hh
    have hk : headOkP st.l name = true := hk
    unfold headOkP at hk
    rw [Bool.and_eq_true] at hk
    left
    have hne : ∀ x, st.l.getLast? = some x → x.2.length ≠ 0 := fun x hx => by
      rw [hx] at hk
      have := hk.1
      simp only [Bool.and_eq_true] at this
      simpa using this.1
    refine ⟨hw, .inr ⟨st.l, str name, [], rfl, okL_ok hok hne, by rw [dl_str]; exact hk.2, ?_, rfl, rfl⟩, ?_, fun e => by cases e⟩
    · intro q hq
      unfold lastN at hq
      cases hg : st.l.getLast? with
      | none => rw [hg] at hq; cases hq
      | some c =>
        rw [hg] at hq hk
        have hq : c.1 = q := by simpa using hq
        have := hk.1
        simp only [Bool.and_eq_true] at this
        rw [dl_str, ← hq]
        simpa using this.2
    · show _ = textP (st.l ++ [(str name, [])])
      rw [textP_append, hm]
      unfold textP textPc eqB
      simp [dl_str]
  · cases hh
theorem inv_edit {st st' : St} {m t : Bs} (h : Inv st m) (hw : st.want = 0) (hh : editP { st with opn := false } t = some st') : Inv st' (m ++ (64 :: 32 :: t ++ [10])) := by
  rcases h with ⟨_, hok, hm, _⟩ | ⟨h0, _⟩
  rotate_left
  · omega
  unfold editP at hh
  split at hh
  · cases hh
  rename_i c hc
  split at hh
  · cases hh
  rename_i x nn hx
  cases hh
  have hc : st.l.getLast? = some c := hc
  have hx : editR st.last t = some (x, nn) := hx
  obtain ⟨d, hd⟩ : ∃ d, st.l = d ++ [c] := by
    rcases List.eq_nil_or_concat st.l with e | ⟨d, c', e⟩
    · rw [e] at hc; cases hc
    · rw [List.concat_eq_append] at e
      rw [e] at hc
      have : c' = c := by simpa using hc
      exact ⟨d, by rw [e, this]⟩
  unfold editR at hx
  split at hx
  · cases hx
  rename_i f hf
  split at hx
  · cases hx
  rename_i o ho
  split at hx
  · cases hx
  rename_i n hn'
  split at hx
  rotate_left
  · cases hx
  rename_i hnext
  simp only [Option.some.injEq, Prod.mk.injEq] at hx
  obtain ⟨rfl, hnn⟩ := hx
  subst hnn
  have hin := nextB_in hnext
  -- the text is the numerals'
  have e1 := dec_of_num hf
  have e2 := dec_of_num ho
  have e3 := dec_of_num hn'
  have hsome1 : (cutB t).2 = some ((cutB t).2.getD []) := by
    cases h2 : (cutB t).2 with
    | none =>
      rw [h2] at ho
      exfalso
      simp only [Option.getD_none] at ho
      have : numB (cutB []).1 = none := by unfold cutB numB; simp
      rw [this] at ho; cases ho
    | some r => rfl
  have hsome2 : (cutB ((cutB t).2.getD [])).2 = some ((cutB ((cutB t).2.getD [])).2.getD []) := by
    cases h2 : (cutB ((cutB t).2.getD [])).2 with
    | none =>
      rw [h2] at hn'
      exfalso
      simp only [Option.getD_none] at hn'
      have : numB [] = none := by unfold numB; simp
      rw [this] at hn'; cases hn'
    | some r => rfl
  have ht : t = Lib.decDigits f ++ 32 :: (Lib.decDigits o ++ 32 :: Lib.decDigits n) := by
    have h1 := cutB_back t
    rw [hsome1, e1] at h1
    have h2 := cutB_back ((cutB t).2.getD [])
    rw [hsome2, e2, e3] at h2
    simp only at h1 h2
    rw [h1]
    congr 2
  have hhed : 64 :: 32 :: t ++ [10] = hedB ((f : Int) - 1) ((f : Int) - 1 + o) n := by
    unfold hedB
    rw [ht, itoa_of (by omega : (0 : Int) ≤ (f : Int) - 1 + 1), itoa_of (by omega : (0 : Int) ≤ (f : Int) - 1 + o - ((f : Int) - 1)), itoa_of (by omega : (0 : Int) ≤ (n : Int))]
    rw [show ((f : Int) - 1 + 1).toNat = f by omega, show ((f : Int) - 1 + o - ((f : Int) - 1)).toNat = o by omega, show ((n : Int)).toNat = n by omega]
    simp
  rw [hhed]
  have hdrop : st.l.dropLast = d := by rw [hd]; simp
  have hlast : st.last = (match c.2.getLast? with | none => -1 | some x => x.b) := by
    rcases hok with hok | ⟨d', n', es', he, h1, h2, h3, h4, h5⟩
    · rw [hd] at hok; simp at hok
    · rw [hd] at he
      obtain ⟨_, he2⟩ := List.append_inj' he rfl
      have : c = (n', es') := by simpa using he2
      rw [h5, this]
  have hok2 : okL (d ++ [(c.1, c.2)]) (match c.2.getLast? with | none => -1 | some x => x.b) := by
    rw [← hlast, ← hd]; exact hok
  rw [hlast] at hnext
  by_cases hn0 : n = 0
  · left
    subst hn0
    refine ⟨rfl, ?_, ?_, fun e => by cases e⟩
    · show okL (st.l.dropLast ++ _) ((f : Int) - 1 + o)
      rw [hdrop]
      exact okL_edi (x := ⟨(f : Int) - 1, (f : Int) - 1 + o, ⟨#[]⟩⟩) hok2 hnext
    · show _ = textP (st.l.dropLast ++ _)
      rw [hdrop, textP_edi, hm, hd]
      congr 1
  · right
    refine ⟨by show 0 < n; omega, d, c.1, c.2, _, _, n, by show st.l.dropLast ++ _ = _; rw [hdrop], hok2, hnext, rfl, by simp [lines], by simp [lines], ?_⟩
    rw [hm, hd]
    simp [lines]
theorem inv_step {st st' : St} {m x : Bs} (h : Inv st m) (hx : isLine x ∨ (10 : UInt8) ∉ x) (hs : stepL st x = some st') : Inv st' (m ++ x) := by
  unfold stepL at hs
  split at hs
  · cases hs
  rename_i he
  have he : ends x = true := by simpa using he
  have hx : isLine x := hx.resolve_right (fun hn => by rw [no_ends hn] at he; cases he)
  obtain ⟨u, rfl, hu⟩ := hx
  rw [tlB_snoc] at hs
  split at hs
  · rename_i hw
    split at hs
    · rename_i hp
      obtain ⟨r, rfl⟩ := hasP hp
      cases hs
      have := inv_want (u := r) h hw (fun hm => hu (by simp [hm]))
      simpa using this
    · cases hs
  rename_i hw
  have hw : st.want = 0 := by omega
  split at hs
  · rename_i hm
    obtain ⟨rfl, ho⟩ := hm
    cases hs
    exact inv_open h hw ho
  split at hs
  · rename_i hp
    obtain ⟨r, rfl⟩ := hasP hp
    have := inv_head h hw hs
    simpa using this
  split at hs
  · rename_i hp
    obtain ⟨r, rfl⟩ := hasP hp
    have := inv_edit h hw hs
    simpa using this
  · cases hs
theorem inv_run : ∀ (l : List Bs) (st st' : St) (m : Bs), Inv st m → (∀ x ∈ l, isLine x ∨ (10 : UInt8) ∉ x) → runL st l = some st' → Inv st' (m ++ l.flatten)
  | [], st, st', m, h, _, hr => by cases hr; simpa using h
  | x :: l, st, st', m, h, hl, hr => by
    rw [runL] at hr
    cases hs : stepL st x with
    | none => rw [hs] at hr; cases hr
    | some s1 =>
      rw [hs] at hr
      have := inv_run l s1 st' (m ++ x) (inv_step h (hl x List.mem_cons_self) hs) (fun y hy => hl y (List.mem_cons_of_mem _ hy)) hr
      simpa using this
theorem text_parse {s : Bs} {st : St} (h : parseB s = .inr st) : okP none st.l = true ∧ textP st.l = s := by
  unfold parseB at h
  cases hr : runL st0 (lines s) with
  | none => rw [hr] at h; cases h
  | some s1 =>
    rw [hr] at h
    simp only at h
    split at h
    rotate_left
    · cases h
    rename_i hd
    cases h
    have hi := inv_run (lines s) st0 st [] (.inl ⟨rfl, .inl rfl, rfl, fun e => by cases e⟩) (fun x hx => by
      rcases lines_form s with ⟨h1, _⟩ | ⟨i, z, h1, h2, _, h4, _, _⟩
      · exact .inl (h1 x hx)
      · rw [h1] at hx
        rcases List.mem_append.1 hx with hx | hx
        · exact .inl (h2 x hx)
        · rw [List.mem_singleton] at hx; subst hx; exact .inr h4) hr
    rw [List.nil_append, lines_flat] at hi
    unfold doneP at hd
    rw [Bool.and_eq_true] at hd
    have hw : st.want = 0 := by simpa using hd.1
    rcases hi with ⟨_, hok, hm, _⟩ | ⟨h0, _⟩
    · refine ⟨okL_ok hok (fun x hx => ?_), hm.symm⟩
      have := hd.2
      rw [hx] at this
      simpa using this
    · omega
end Go.Proofs.YtodjhgalbaelkaaDoor

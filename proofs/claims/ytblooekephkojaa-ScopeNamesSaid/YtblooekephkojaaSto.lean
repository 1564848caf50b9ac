/- A drawn region that only reads but for one store, which may come up amid the reads. -/
import Derived.Test.YtblooekephkojaaHed
import Derived.Deep.Quiet
namespace Go.Proofs.Ytblooekephkojaa
open Go
set_option linter.unusedVariables false

section
variable {P : Program} {ops : Array Oper} {md : Region.Mode} {E : Nat → Oper → Act → Value → Prop}

/-- Operation i leaves v. -/
def YldE (ops : Array Oper) (E : Nat → Oper → Act → Value → Prop) (i : Nat) (o : Oper) (v : Value) (a : Act) : Prop :=
  (Region.wanted o (yielded ops a.tmps) = true ∧ E i o a v) ∨ (Region.wanted o (yielded ops a.tmps) = false ∧ v = undef)
def eOp (ops : Array Oper) (E : Nat → Oper → Act → Value → Prop) (i : Nat) (K : Act → Prop) (a : Act) : Prop :=
  ∀ o, ops[i]? = some o → ∃ v, YldE ops E i o v a ∧ K (a.put o.dst v)
def anyE (md : Region.Mode) (ops : Array Oper) (E : Nat → Oper → Act → Value → Prop) (Q : Act → Prop) : Nat → Array Bool → Act → Prop
  | 0, listed, a => Region.ready md ops listed = [] ∧ Q a
  | fuel + 1, listed, a => (Region.ready md ops listed = [] → Q a) ∧ ∀ i ∈ Region.ready md ops listed, eOp ops E i (anyE md ops E Q fuel (listed.setIfInBounds i true)) a
def seqE (ops : Array Oper) (E : Nat → Oper → Act → Value → Prop) (Q : Act → Prop) : Nat → List Oper → Act → Prop
  | _, [], a => Q a
  | i, o :: rest, a => ∃ v, YldE ops E i o v a ∧ seqE ops E Q (i + 1) rest (a.put o.dst v)

theorem eOp_mono {i : Nat} {K K' : Act → Prop} {a : Act} (h : ∀ a, K a → K' a) (hh : eOp ops E i K a) : eOp ops E i K' a :=
  fun o ho => let ⟨v, h1, h2⟩ := hh o ho; ⟨v, h1, h _ h2⟩

theorem YldE.same (hE : ∀ i o a a' v, execOp a'.eval o = execOp a.eval o → E i o a v → E i o a' v) {i : Nat} {o : Oper} {v : Value} {a a' : Act} (h : YldE ops E i o v a) (he : execOp a'.eval o = execOp a.eval o)
    (hw : Region.wanted o (yielded ops a'.tmps) = Region.wanted o (yielded ops a.tmps)) : YldE ops E i o v a' := by
  rcases h with ⟨h1, h2⟩ | ⟨h1, h2⟩
  · exact .inl ⟨by rw [hw]; exact h1, hE _ _ _ _ _ he h2⟩
  · exact .inr ⟨by rw [hw]; exact h1, h2⟩

theorem eOp_put (hE : ∀ i o a a' v, execOp a'.eval o = execOp a.eval o → E i o a v → E i o a' v) {i j : Nat} {oi oj : Oper} {v : Value} (hj : ops[j]? = some oj) (hap : oi.apart ops oj = true)
    (hsi : ∀ cs b, oi.op ≠ .select cs b) (hsj : ∀ cs b, oj.op ≠ .select cs b) {K : Act → Prop} {a : Act} (hy : YldE ops E i oi v a) (h : eOp ops E j K (a.put oi.dst v)) :
    eOp ops E j (fun a' => YldE ops E i oi v a' ∧ K (a'.put oi.dst v)) a := by
  obtain ⟨h1, h2, h3⟩ := Oper.apart_spec hap
  intro o ho
  obtain rfl : oj = o := Option.some.inj (hj.symm.trans ho)
  obtain ⟨u, hu, hK⟩ := h oj hj
  refine ⟨u, hu.same hE (execOp_put oj hsj a oi.dst v h1).symm (wanted_put oj a oi.dst v h1).symm, hy.same hE (execOp_put oi hsi a oj.dst u h3) (wanted_put oi a oj.dst u h3), ?_⟩
  rw [← Act.put_comm a v u h2]; exact hK

theorem anyE_first (hE : ∀ i o a a' v, execOp a'.eval o = execOp a.eval o → E i o a v → E i o a' v) {Q : Act → Prop} {i : Nat} {oi : Oper} {v : Value} (hi : ops[i]? = some oi) (hsel : ∀ (j : Nat) (o : Oper) cs b, ops[j]? = some o → o.op ≠ .select cs b) :
    ∀ (fuel : Nat) (listed : Array Bool) (a : Act),
      (∀ j oj, ops[j]? = some oj → j ≠ i → listed.getD j true = false → (∀ e ∈ oj.after, Region.binds md e = true → e.on ≠ i) → oi.apart ops oj = true) →
      i ∈ Region.ready md ops listed → YldE ops E i oi v a →
      anyE md ops E Q fuel (listed.setIfInBounds i true) (a.put oi.dst v) → anyE md ops E Q (fuel + 1) listed a := by
  have self : ∀ {K : Act → Prop} {a : Act}, YldE ops E i oi v a → K (a.put oi.dst v) → eOp ops E i K a := fun hy hK o ho => by
    obtain rfl : oi = o := Option.some.inj (hi.symm.trans ho)
    exact ⟨v, hy, hK⟩
  intro fuel
  induction fuel with
  | zero =>
    intro listed a _ hr hy H
    refine ⟨fun h => (by rw [h] at hr; cases hr), fun j hj => ?_⟩
    by_cases hji : j = i
    · subst hji; exact self hy H
    · have := ready_mono hj hji
      rw [H.1] at this
      cases this
  | succ fuel ih =>
    intro listed a hfree hr hy H
    refine ⟨fun h => (by rw [h] at hr; cases hr), fun j hj => ?_⟩
    by_cases hji : j = i
    · subst hji; exact self hy H
    · have h1 := H.2 j (ready_mono hj hji)
      obtain ⟨hjun, oj, hoj, hall⟩ := mem_ready.1 hj
      have hnot : ∀ e ∈ oj.after, Region.binds md e = true → e.on ≠ i := fun e he hb heq => by
        have h1 := hall e he hb
        have h0 := (mem_ready.1 hr).1
        rw [heq] at h1
        rcases Nat.lt_or_ge i listed.size with h' | h'
        · simp [h'] at h0 h1; rw [h0] at h1; cases h1
        · simp [Array.getElem?_eq_none h'] at h1
      have h2 := eOp_put hE hoj (hfree j oj hoj hji hjun hnot) (fun cs b => hsel i oi cs b hi) (fun cs b => hsel j oj cs b hoj) hy h1
      refine eOp_mono (fun a' h3 => ih (listed.setIfInBounds j true) a' (fun k ok hk hki hun hno => hfree k ok hk hki ?_ hno) (ready_mono hr (Ne.symm hji)) h3.1 ?_) h2
      · by_cases hjk : j = k
        · subst hjk; exact hjun
        · rw [getD_set_ne true hjk] at hun; exact hun
      · rw [Array.setIfInBounds_comm _ _ hji]
        exact h3.2

theorem anyE_lex (hE : ∀ i o a a' v, execOp a'.eval o = execOp a.eval o → E i o a v → E i o a' v) {Q : Act → Prop} (hs : Region.noSelect ops = true) : ∀ (l : List Oper) (k : Nat) (listed : Array Bool) (a : Act), (∀ j, l[j]? = ops[k + j]?) →
    Region.lexFrom md ops l.length k listed = true → seqE ops E Q k l a → anyE md ops E Q l.length listed a
  | [], _, _, _, _, hB, h => ⟨by simpa [Region.lexFrom] using hB, h⟩
  | o :: l, k, listed, a, hl, hB, h => by
    have h0 : ops[k]? = some o := by simpa using (hl 0).symm
    simp only [List.length_cons, Region.lexFrom, Bool.and_eq_true] at hB
    obtain ⟨⟨hr, hf⟩, hB'⟩ := hB
    obtain ⟨v, hy, hK⟩ := h
    exact anyE_first hE h0 (Region.noSelect_spec hs) l.length listed a (Region.free_spec h0 hf) (by simpa using hr) hy
      (anyE_lex hE hs l (k + 1) _ _ (fun j => by have := hl (j + 1); simpa [Nat.add_assoc, Nat.add_comm 1 j] using this) hB' hK)

/-- Operation k stores: it brings w0 to w1; the others read, in either. -/
def stE (P : Program) (w0 w1 : World) (k : Nat) (i : Nat) (o : Oper) (a : Act) (v : Value) : Prop :=
  if i = k then (execOp a.eval o).run P w0 = .ok .skip w1 ∧ v = undef else ∀ w, (w = w0 ∨ w = w1) → (execOp a.eval o).run P w = .ok (.value v) w
theorem stE_same {w0 w1 : World} {k : Nat} : ∀ i o (a a' : Act) v, execOp a'.eval o = execOp a.eval o → stE P w0 w1 k i o a v → stE P w0 w1 k i o a' v := fun i o a a' v he h => by
  unfold stE at *; rw [he]; exact h

theorem wpAny_of_E {w0 w1 : World} {k : Nat} {l : List Oper} {Q : Act → Prop} {Q' : Exit → Act → World → Prop} (hk : k < l.length) (hg : ∀ o, l.toArray[k]? = some o → o.guard = none) (hB : headB md l l.length = true) (hQ : ∀ a, Q a → Q' .normal a w1) :
    ∀ (fuel : Nat) (listed : Array Bool) (a : Act) (w : World), listed.size = l.length → w = (if listed.getD k true = true then w1 else w0) → anyE md l.toArray (stE P w0 w1 k) Q fuel listed a → wpAny P md l.toArray Q' fuel listed a w := by
  have hend : ∀ (listed : Array Bool) (w : World), listed.size = l.length → w = (if listed.getD k true = true then w1 else w0) → Region.ready md l.toArray listed = [] → w = w1 := fun listed w hs hw hr => by
    have := head_done (n := l.length) (lh := listed) hB hs (by rw [List.take_length]; exact hr) k hk
    rw [hw, getD_tf (by omega), if_pos this]
  intro fuel
  induction fuel with
  | zero => exact fun listed a w hs hw h => ⟨h.1, by rw [hend listed w hs hw h.1]; exact hQ _ h.2⟩
  | succ fuel ih =>
    intro listed a w hs hw h
    refine ⟨fun h0 => by rw [hend listed w hs hw h0]; exact hQ _ (h.1 h0), fun i hi => ?_⟩
    obtain ⟨hun, o, ho, _⟩ := mem_ready.1 hi
    obtain ⟨v, hy, hK⟩ := h.2 i hi o ho
    have hil : i < l.length := by
      have := (Array.getElem?_eq_some_iff.1 ho).1
      simpa using this
    unfold wpOp
    simp only [ho]
    have hn : ∀ (w' : World), w' = (if i = k then w1 else w) → w' = (if (listed.setIfInBounds i true).getD k true = true then w1 else w0) := fun w' hw' => by
      by_cases hik : i = k
      · subst hik
        rw [hw', if_pos rfl, if_pos]
        simp [hs, hil]
      · rw [hw', if_neg hik, getD_set_ne true hik]; exact hw
    rcases hy with ⟨hw1, hE⟩ | ⟨hw1, rfl⟩
    · rw [if_pos hw1]
      left
      unfold stE at hE
      unfold Oper.wp
      by_cases hik : i = k
      · rw [if_pos hik] at hE
        have hw0 : w = w0 := by rw [hw, if_neg]; subst hik; rw [hun]; simp
        rw [hw0, hE.1]
        have := ih (listed.setIfInBounds i true) _ w1 (by simp [hs]) (hn w1 (by rw [if_pos hik])) hK
        rw [hE.2] at this
        exact this
      · rw [if_neg hik] at hE
        rw [hE w (by rw [hw]; split <;> simp)]
        exact ih _ _ w (by simp [hs]) (hn w (by rw [if_neg hik])) hK
    · rw [if_neg (by rw [hw1]; simp)]
      by_cases hik : i = k
      · subst hik
        have := hg o ho
        unfold Region.wanted at hw1
        rw [this] at hw1
        cases hw1
      · exact ih _ _ w (by simp [hs]) (hn w (by rw [if_neg hik])) hK

/-- Operations that only yield. -/
def plainB (o : Oper) : Bool := match o.op with
  | .move _ | .assign _ | .load _ _ | .nilCheck _ | .binOp _ _ _ _ _ | .unOp _ _ _ | .fieldAddr _ _ _ | .indexAddr _ _ _ => true
  | _ => false
theorem bind_ok {α β : Type} {x : Sem α} {f : α → Sem β} {w w' : World} {n : β} (h : (x >>= f).run P w = .ok n w') : ∃ v w1, (f v).run P w1 = .ok n w' := by
  rw [Sem.run_bind] at h
  cases hx : x.run P w with
  | ok v w1 => rw [hx] at h; exact ⟨v, w1, h⟩
  | halt e w1 => rw [hx] at h; cases h
theorem value_run {x : Sem Value} {w w' : World} {n : Next} (h : (do pure (Next.value (← x)) : Sem Next).run P w = .ok n w') : ∃ v, n = .value v := by
  rw [Sem.run_bind] at h
  cases hx : x.run P w with
  | ok v w1 =>
    rw [hx] at h
    simp only [Result.andThen_ok, Sem.run_pure] at h
    cases h
    exact ⟨_, rfl⟩
  | halt e w1 => rw [hx] at h; cases h
theorem plain_value {o : Oper} (hp : plainB o = true) {a : Act} {w w' : World} {n : Next} (h : (execOp a.eval o).run P w = .ok n w') : ∃ v, n = .value v := by
  unfold plainB at hp
  unfold execOp at h
  split at hp <;> rename_i hop <;> simp only [hop] at h
  · rw [Sem.run_pure] at h; cases h; exact ⟨_, rfl⟩
  · rw [Sem.run_pure] at h; cases h; exact ⟨_, rfl⟩
  · exact value_run h
  · have hpan : (runtimePanic .nilDeref : Sem Next).run P w = .ok n w' → ∃ v, n = .value v := fun hh => by simp [runtimePanic, goPanic] at hh
    split at h
    · exact hpan h
    · exact hpan h
    · exact hpan h
    · split at h
      · exact hpan h
      · obtain ⟨v1, w1, h⟩ := bind_ok h
        obtain ⟨v2, w2, h⟩ := bind_ok h
        split at h
        · obtain ⟨v3, w3, h⟩ := bind_ok h
          rw [Sem.run_pure] at h; cases h; exact ⟨_, rfl⟩
        · rw [Sem.run_pure] at h; cases h; exact ⟨_, rfl⟩
      · rw [Sem.run_pure] at h; cases h; exact ⟨_, rfl⟩
    · rw [Sem.run_pure] at h; cases h; exact ⟨_, rfl⟩
  · exact value_run h
  · exact value_run h
  · exact value_run h
  · exact value_run h
  · cases hp

theorem plain_quiet {C : World → Prop} {o : Oper} (hp : plainB o = true) {a : Act} {w : World} {v : Value} (h : o.quietAt P a C w v) : (execOp a.eval o).run P w = .ok (.value v) w := by
  unfold Oper.quietAt at h
  cases hr : (execOp a.eval o).run P w with
  | ok n w' =>
    obtain ⟨u, rfl⟩ := plain_value hp hr
    rw [hr] at h
    obtain ⟨rfl, rfl⟩ := h
    rfl
  | halt e w' => rw [hr] at h; exact h.elim

theorem seqE_of_quiet {w0 w1 : World} {k : Nat} {C : World → Prop} (hC0 : C w0) (hC1 : C w1) {Q Q' : Act → Prop} : ∀ (l rest : List Oper) (i : Nat) (a : Act), (∀ j, j < l.length → i + j ≠ k) → l.all plainB = true →
    (∀ a, Q a → seqE ops (stE P w0 w1 k) Q' (i + l.length) rest a) → wpQuiet P ops C Q l a → seqE ops (stE P w0 w1 k) Q' i (l ++ rest) a
  | [], rest, i, a, _, _, hQ, h => hQ a h
  | o :: l, rest, i, a, hk, hp, hQ, h => by
    simp only [List.all_cons, Bool.and_eq_true] at hp
    have hik : i ≠ k := by have := hk 0 (by simp); simpa using this
    have hrest : ∀ a', wpQuiet P ops C Q l a' → seqE ops (stE P w0 w1 k) Q' (i + 1) (l ++ rest) a' := fun a' h' =>
      seqE_of_quiet hC0 hC1 l rest (i + 1) a' (fun j hj => by have := hk (j + 1) (by simpa using hj); omega) hp.2 (fun a'' hq => by have := hQ a'' hq; simpa [Nat.add_assoc, Nat.add_comm 1] using this) h'
    unfold wpQuiet at h
    by_cases hw : Region.wanted o (yielded ops a.tmps) = true
    · rw [if_pos hw] at h
      obtain ⟨v, h1, h2⟩ := h
      refine ⟨v, .inl ⟨hw, ?_⟩, hrest _ h2⟩
      unfold stE
      rw [if_neg hik]
      rintro w (rfl | rfl)
      · exact plain_quiet hp.1 (h1 _ hC0)
      · exact plain_quiet hp.1 (h1 _ hC1)
    · rw [if_neg hw] at h
      exact ⟨undef, .inr ⟨by simpa using hw, rfl⟩, hrest _ h⟩

def storeAtB (o : Oper) : Bool := (match o.dst with | none => true | _ => false) && (match o.guard with | none => true | _ => false)
/-- The Bools of a region with one store amid reads (at k), and a forced tail from n on. -/
def storeB (l : List Oper) (k n : Nat) : Bool :=
  headTailB l n && headB .any (l.take n) (l.take n).length && Region.lexB .any (l.take n).toArray && decide (k < n) && (l.take k).all plainB && ((l.take n).drop (k + 1)).all plainB && (match l[k]? with | some o => storeAtB o | none => false)

theorem wp_region_store {Q : Exit → Act → World → Prop} {id : Nat} {a : Act} {w : World} {l : List Oper} (k n : Nat) (W : Bool → World) (hW : W false = World.drew w) (hm : P.follows .mixedOrders = true) (hB : storeB l k n = true)
    (h : wpQuiet P (l.take n).toArray (fun w' => ∃ b, w' = W b) (fun a1 => (∀ o, l[k]? = some o → (execOp a1.eval o).run P (W false) = .ok .skip (W true)) ∧
      wpQuiet P (l.take n).toArray (fun w' => ∃ b, w' = W b) (fun a2 => wpList P l.toArray Q (l.drop n) a2 (W true)) ((l.take n).drop (k + 1)) a1) (l.take k) a) : (Code.region id l.toArray true).wp P Q a w := by
  refine wp_region_any hm ?_
  show wpAny P .any l.toArray Q l.toArray.size (Array.replicate l.toArray.size false) a (World.drew w)
  simp only [storeB, headTailB, Bool.and_eq_true, decide_eq_true_eq] at hB
  obtain ⟨⟨⟨⟨⟨⟨⟨⟨⟨⟨h1, h2⟩, h3⟩, h4⟩, h6⟩, hb⟩, hlex⟩, hkn⟩, hp1⟩, hp2⟩, hst⟩ := hB
  have hln : (l.take n).length = n := by simp; omega
  cases hlk : l[k]? with
  | none => rw [hlk] at hst; cases hst
  | some ok =>
  rw [hlk] at hst
  simp only [storeAtB, Bool.and_eq_true] at hst
  have hdst : ok.dst = none := by
    have := hst.1
    split at this
    · assumption
    · cases this
  have hguard : ok.guard = none := by
    have := hst.2
    split at this
    · assumption
    · cases this
  have hlex2 := hlex
  simp only [Region.lexB, Bool.and_eq_true] at hlex2
  have hsplit : l.take n = l.take k ++ ok :: (l.take n).drop (k + 1) := by
    have e1 : l.take k = (l.take n).take k := by rw [List.take_take]; congr 1; omega
    have e2 : (l.take n)[k]? = some ok := by rw [List.getElem?_take, if_pos hkn]; exact hlk
    have hk2 : k < (l.take n).length := by omega
    rw [e1]
    have e3 : ok = (l.take n)[k] := by
      rw [List.getElem?_eq_getElem hk2] at e2; exact (Option.some.inj e2).symm
    rw [e3, ← List.drop_eq_getElem_cons hk2, List.take_append_drop]
  have hkl : (l.take k).length = k := by simp; omega
  have hseq : seqE (l.take n).toArray (stE P (W false) (W true) k) (fun a2 => wpList P l.toArray Q (l.drop n) a2 (W true)) 0 (l.take n) a := by
    generalize hops : (l.take n).toArray = ops at h ⊢
    rw [hsplit]
    refine seqE_of_quiet ⟨false, rfl⟩ ⟨true, rfl⟩ _ _ 0 a (fun j hj => by rw [hkl] at hj; omega) hp1 ?_ h
    rintro a1 ⟨hr, hq⟩
    refine ⟨undef, .inl ⟨by unfold Region.wanted; rw [hguard], ?_⟩, ?_⟩
    · unfold stE
      rw [if_pos (by rw [hkl]; omega)]
      exact ⟨hr ok hlk, rfl⟩
    · rw [hdst]
      show seqE _ _ _ _ _ a1
      have := seqE_of_quiet (ops := ops) (k := k) (w0 := W false) (w1 := W true) (C := fun w' => ∃ b, w' = W b) (Q' := fun a2 => wpList P l.toArray Q (l.drop n) a2 (W true)) ⟨false, rfl⟩ ⟨true, rfl⟩ ((l.take n).drop (k + 1)) [] (0 + (l.take k).length + 1) a1 (fun j hj => by rw [hkl]; omega) hp2 (fun a hq => hq) hq
      rwa [List.append_nil] at this
  have hany := anyE_lex (md := .any) stE_same hlex2.1 (l.take n) 0 (Array.replicate (l.take n).toArray.size false) a (by simp) (by simpa using hlex2.2) hseq
  have hany2 := wpAny_of_E (P := P) (md := .any) (w0 := W false) (w1 := W true) (k := k) (l := l.take n) (Q' := fun e a' w' => e = .normal ∧ wpList P l.toArray Q (l.drop n) a' w') (by omega)
    (fun o ho => by
      have : (l.take n)[k]? = some o := by simpa using ho
      rw [List.getElem?_take, if_pos hkn, hlk] at this
      cases this; exact hguard) hb (fun a' h' => ⟨rfl, h'⟩) _ (Array.replicate (l.take n).toArray.size false) a (World.drew w) (by simp) (by rw [hW]; rw [if_neg]; simp [hln, hkn]) hany
  have := wpAny_split (P := P) (md := .any) (Q := Q) (g := l.length - n) h1 h2 h3 h4 (Qh := fun e a' w' => e = .normal ∧ wpList P l.toArray Q (l.drop n) a' w') (fun e a w he hh => absurd hh.1 he)
    (fun a' w' hh => by
      have := wpAny_of_seq (md := .any) (P := P) (Q' := Q) (l.drop n) n (fullB l n) a' w' (fun j => by simp [List.getElem?_drop]) (by simpa using h6) hh.2
      simpa using this)
    _ (Array.replicate l.length false) (Array.replicate (l.take n).toArray.size false) a _
    ⟨by simp, by simpa using hln, fun i hi => by rw [getD_replicate_false, getD_replicate_false],
      ⟨by simp, fun j oj _ hl => (by rw [getD_replicate_false] at hl; cases hl), fun t _ ht => getD_in (by simpa using ht) (getD_replicate_false _ _)⟩⟩ hany2
  rw [hln] at this
  rw [show n + (l.length - n) = l.length from by omega] at this
  simpa using this
end
end Go.Proofs.Ytblooekephkojaa

/- A drawn region that only reads but for one store, which may come up amid the reads. -/
import Derived.Test.YtlboejdhmggjpaaGreatMon
import Derived.Deep.Quiet
set_option linter.all false
namespace Go.Proofs.YtlboejdhmggjpaaGreat
open Go

section
variable {P : Program} {ops : Array Oper} {md : Region.Mode} {E : Nat → Oper → Act → Value → Prop}

def YldE (ops : Array Oper) (E : Nat → Oper → Act → Value → Prop) (i : Nat) (o : Oper) (v : Value) (a : Act) : Prop :=
 (Region.wanted o (yielded ops a.tmps) = true ∧ E i o a v) ∨ (Region.wanted o (yielded ops a.tmps) = false ∧ v = undef)
def eOp (ops : Array Oper) (E : Nat → Oper → Act → Value → Prop) (i : Nat) (K : Act → Prop) (a : Act) : Prop :=
 ∀ o, ops[i]? = some o → ∃ v, YldE ops E i o v a ∧ K (a.put o.dst v)
def anyE (md : Region.Mode) (ops : Array Oper) (E : Nat → Oper → Act → Value → Prop) (Q : Act → Prop) : Nat → Array Bool → Act → Prop
 | 0, listed, a => Region.ready md ops listed = [] ∧ Q a
 | fuel + 1, listed, a => (Region.ready md ops listed = [] → Q a) ∧ ∀ i ∈ Region.ready md ops listed, eOp ops E i (anyE md ops E Q fuel (listed.setIfInBounds i true)) a
def seqE (ops : Array Oper) (E : Nat → Oper → Act → Value → Prop) (Q : Act → Prop) : Nat → List Oper → Act → Prop
 | _, [], a => Q a
 | i, o :: rest, a => ∃ v, YldE ops E i o v a ∧ seqE ops E Q (i + 1) rest (a.put o.dst v)

theorem eOp_mono {i : Nat} {K K' : Act → Prop} {a : Act} (h : ∀ a, K a → K' a) (hh : eOp ops E i K a) : eOp ops E i K' a :=
 fun o ho => let ⟨v, h1, h2⟩ := hh o ho; ⟨v, h1, h _ h2⟩

theorem YldE.same (hE : ∀ i o a a' v, execOp a'.eval o = execOp a.eval o → E i o a v → E i o a' v) {i : Nat} {o : Oper} {v : Value} {a a' : Act} (h : YldE ops E i o v a) (he : execOp a'.eval o = execOp a.eval o)
  (hw : Region.wanted o (yielded ops a'.tmps) = Region.wanted o (yielded ops a.tmps)) : YldE ops E i o v a' := by
 rcases h with ⟨h1, h2⟩ | ⟨h1, h2⟩
 ·exact .inl ⟨by rw [hw]; exact h1, hE _ _ _ _ _ he h2⟩
 ·exact .inr ⟨by rw [hw]; exact h1, h2⟩

theorem eOp_put (hE : ∀ i o a a' v, execOp a'.eval o = execOp a.eval o → E i o a v → E i o a' v) {i j : Nat} {oi oj : Oper} {v : Value} (hj : ops[j]? = some oj) (hap : oi.apart ops oj = true)
  (hsi : ∀ cs b, oi.op ≠ .select cs b) (hsj : ∀ cs b, oj.op ≠ .select cs b) {K : Act → Prop} {a : Act} (hy : YldE ops E i oi v a) (h : eOp ops E j K (a.put oi.dst v)) :
  eOp ops E j (fun a' => YldE ops E i oi v a' ∧ K (a'.put oi.dst v)) a := by
 obtain ⟨h1, h2, h3⟩ := Oper.apart_spec hap
 intro o ho
 obtain rfl : oj = o := Option.some.inj (hj.symm.trans ho)
 obtain ⟨u, hu, hK⟩ := h oj hj
 refine ⟨u, hu.same hE (execOp_put oj hsj a oi.dst v h1).symm (wanted_put oj a oi.dst v h1).symm, hy.same hE (execOp_put oi hsi a oj.dst u h3) (wanted_put oi a oj.dst u h3), ?_⟩
 rw [← Act.put_comm a v u h2]; exact hK

theorem anyE_first (hE : ∀ i o a a' v, execOp a'.eval o = execOp a.eval o → E i o a v → E i o a' v) {Q : Act → Prop} {i : Nat} {oi : Oper} {v : Value} (hi : ops[i]? = some oi) (hsel : ∀ (j : Nat) (o : Oper) cs b, ops[j]? = some o → o.op ≠ .select cs b) :
  ∀ (fuel : Nat) (listed : Array Bool) (a : Act),
   (∀ j oj, ops[j]? = some oj → j ≠ i → listed.getD j true = false → (∀ e ∈ oj.after, Region.binds md e = true → e.on ≠ i) → oi.apart ops oj = true) →
   i ∈ Region.ready md ops listed → YldE ops E i oi v a →
   anyE md ops E Q fuel (listed.setIfInBounds i true) (a.put oi.dst v) → anyE md ops E Q (fuel + 1) listed a := by
 have self : ∀ {K : Act → Prop} {a : Act}, YldE ops E i oi v a → K (a.put oi.dst v) → eOp ops E i K a := fun hy hK o ho => by
  obtain rfl : oi = o := Option.some.inj (hi.symm.trans ho)
  exact ⟨v, hy, hK⟩
 intro fuel
 induction fuel with
 | zero =>
  intro listed a _ hr hy H
  refine ⟨fun h => (by rw [h] at hr; cases hr), fun j hj => ?_⟩
  by_cases hji : j = i
  ·subst hji; exact self hy H
  ·have := ready_mono hj hji
   rw [H.1] at this
   cases this
 | succ fuel ih =>
  intro listed a hfree hr hy H
  refine ⟨fun h => (by rw [h] at hr; cases hr), fun j hj => ?_⟩
  by_cases hji : j = i
  ·subst hji; exact self hy H
  ·have h1 := H.2 j (ready_mono hj hji)
   obtain ⟨hjun, oj, hoj, hall⟩ := mem_ready.1 hj
   have hnot : ∀ e ∈ oj.after, Region.binds md e = true → e.on ≠ i := fun e he hb heq => by
    have h1 := hall e he hb
    have h0 := (mem_ready.1 hr).1
    rw [heq] at h1
    rcases Nat.lt_or_ge i listed.size with h' | h'
    ·simp [h'] at h0 h1; rw [h0] at h1; cases h1
    ·simp [Array.getElem?_eq_none h'] at h1
   have h2 := eOp_put hE hoj (hfree j oj hoj hji hjun hnot) (fun cs b => hsel i oi cs b hi) (fun cs b => hsel j oj cs b hoj) hy h1
   refine eOp_mono (fun a' h3 => ih (listed.setIfInBounds j true) a' (fun k ok hk hki hun hno => hfree k ok hk hki ?_ hno) (ready_mono hr (Ne.symm hji)) h3.1 ?_) h2
   ·by_cases hjk : j = k
    ·subst hjk; exact hjun
    ·rw [getD_set_ne true hjk] at hun; exact hun
   ·rw [Array.setIfInBounds_comm _ _ hji]
    exact h3.2

theorem anyE_lex (hE : ∀ i o a a' v, execOp a'.eval o = execOp a.eval o → E i o a v → E i o a' v) {Q : Act → Prop} (hs : Region.noSelect ops = true) : ∀ (l : List Oper) (k : Nat) (listed : Array Bool) (a : Act), (∀ j, l[j]? = ops[k + j]?) →
  Region.lexFrom md ops l.length k listed = true → seqE ops E Q k l a → anyE md ops E Q l.length listed a
 | [], _, _, _, _, hB, h => ⟨by simpa [Region.lexFrom] using hB, h⟩
 | o :: l, k, listed, a, hl, hB, h => by
  have h0 : ops[k]? = some o := by simpa using (hl 0).symm
  simp only [List.length_cons, Region.lexFrom, Bool.and_eq_true] at hB
  obtain ⟨⟨hr, hf⟩, hB'⟩ := hB
  obtain ⟨v, hy, hK⟩ := h
  exact anyE_first hE h0 (Region.noSelect_spec hs) l.length listed a (Region.free_spec h0 hf) (by simpa using hr) hy
   (anyE_lex hE hs l (k + 1) _ _ (fun j => by have := hl (j + 1); simpa [Nat.add_assoc, Nat.add_comm 1 j] using this) hB' hK)

def plainB (o : Oper) : Bool := match o.op with
 | .move _ | .assign _ | .load _ _ | .nilCheck _ | .binOp _ _ _ _ _ | .unOp _ _ _ | .fieldAddr _ _ _ | .indexAddr _ _ _ => true
 | _ => false
theorem bind_ok {α β : Type} {x : Sem α} {f : α → Sem β} {w w' : World} {n : β} (h : (x >>= f).run P w = .ok n w') : ∃ v w1, (f v).run P w1 = .ok n w' := by
 rw [Sem.run_bind] at h
 cases hx : x.run P w with
 | ok v w1 => rw [hx] at h; exact ⟨v, w1, h⟩
 | halt e w1 => rw [hx] at h; cases h
theorem value_run {x : Sem Value} {w w' : World} {n : Next} (h : (do pure (Next.value (← x)) : Sem Next).run P w = .ok n w') : ∃ v, n = .value v := by
 rw [Sem.run_bind] at h
 cases hx : x.run P w with
 | ok v w1 =>
  rw [hx] at h
  simp only [Result.andThen_ok, Sem.run_pure] at h
  cases h
  exact ⟨_, rfl⟩
 | halt e w1 => rw [hx] at h; cases h
theorem plain_value {o : Oper} (hp : plainB o = true) {a : Act} {w w' : World} {n : Next} (h : (execOp a.eval o).run P w = .ok n w') : ∃ v, n = .value v := by
 unfold plainB at hp
 unfold execOp at h
 split at hp <;> rename_i hop <;> simp only [hop] at h
 ·rw [Sem.run_pure] at h; cases h; exact ⟨_, rfl⟩
 ·rw [Sem.run_pure] at h; cases h; exact ⟨_, rfl⟩
 ·exact value_run h
 ·have hpan : (runtimePanic .nilDeref : Sem Next).run P w = .ok n w' → ∃ v, n = .value v := fun hh => by simp [runtimePanic, goPanic] at hh
  split at h
  ·exact hpan h
  ·exact hpan h
  ·exact hpan h
  ·split at h
   ·exact hpan h
   ·obtain ⟨v1, w1, h⟩ := bind_ok h
    obtain ⟨v2, w2, h⟩ := bind_ok h
    split at h
    ·obtain ⟨v3, w3, h⟩ := bind_ok h
     rw [Sem.run_pure] at h; cases h; exact ⟨_, rfl⟩
    ·rw [Sem.run_pure] at h; cases h; exact ⟨_, rfl⟩
   ·rw [Sem.run_pure] at h; cases h; exact ⟨_, rfl⟩
  ·rw [Sem.run_pure] at h; cases h; exact ⟨_, rfl⟩
 ·exact value_run h
 ·exact value_run h
 ·exact value_run h
 ·exact value_run h
 ·cases hp

end
end Go.Proofs.YtlboejdhmggjpaaGreat

/- Chn -/
namespace Go.Proofs.YtlboejdhmggjpaaGreat
open Go

section
variable {P : Program} {md : Region.Mode}

def chE (P : Program) (W : Nat → World) (ch : List Nat) (i : Nat) (o : Oper) (a : Act) (v : Value) : Prop :=
 match ch.idxOf? i with
 | some j => (execOp a.eval o).run P (W j) = .ok (.value v) (W (j + 1)) ∨ (execOp a.eval o).run P (W j) = .ok .skip (W (j + 1)) ∧ v = undef
 | none => ∀ j, j ≤ ch.length → (execOp a.eval o).run P (W j) = .ok (.value v) (W j)
theorem chE_same {W : Nat → World} {ch : List Nat} : ∀ i o (a a' : Act) v, execOp a'.eval o = execOp a.eval o → chE P W ch i o a v → chE P W ch i o a' v := fun i o a a' v he h => by
 unfold chE at *; rw [he]; exact h

def chainOkB (md : Region.Mode) (l : List Oper) (ch : List Nat) : Bool :=
 decide ch.Nodup && (List.range ch.length).all fun j => match ch[j]? with
  | none => false
  | some c => decide (c < l.length) && (match l[c]? with
   | none => false
   | some o => (match o.guard with | none => true | _ => false) && (decide (j = 0) || o.after.any fun e => Region.binds md e && decide (ch[j - 1]? = some e.on)))
theorem chainOk_spec {l : List Oper} {ch : List Nat} (h : chainOkB md l ch = true) (j : Nat) (hj : j < ch.length) :
  ∃ o, l[ch[j]]? = some o ∧ ch[j] < l.length ∧ o.guard = none ∧ (0 < j → ∃ e ∈ o.after, Region.binds md e = true ∧ ch[j - 1]? = some e.on) := by
 simp only [chainOkB, Bool.and_eq_true, List.all_eq_true] at h
 have h1 := h.2 j (List.mem_range.2 hj)
 rw [List.getElem?_eq_getElem hj] at h1
 simp only [Bool.and_eq_true, decide_eq_true_eq] at h1
 obtain ⟨h2, h3⟩ := h1
 cases ho : l[ch[j]]? with
 | none => rw [ho] at h3; cases h3
 | some o =>
  rw [ho] at h3
  simp only [Bool.and_eq_true, Bool.or_eq_true, decide_eq_true_eq] at h3
  refine ⟨o, rfl, h2, ?_, fun h0 => ?_⟩
  ·have := h3.1
   split at this
   ·assumption
   ·cases this
  ·rcases h3.2 with h4 | h4
   ·omega
   ·obtain ⟨i, hi, he⟩ := Array.any_eq_true.1 h4
    simp only [Bool.and_eq_true, decide_eq_true_eq] at he
    exact ⟨_, Array.getElem_mem hi, he.1, he.2⟩

theorem idx_some {ch : List Nat} {i j : Nat} (hn : ch.Nodup) (h : ch[j]? = some i) : ch.idxOf? i = some j := by
 obtain ⟨hj, rfl⟩ := List.getElem?_eq_some_iff.1 h
 rw [List.idxOf?_eq_some_iff]
 refine ⟨hj, rfl, fun k hk => ?_⟩
 intro he
 exact List.pairwise_iff_getElem.1 hn k j (by omega) hj hk he
theorem idx_spec {ch : List Nat} {i j : Nat} (h : ch.idxOf? i = some j) : ∃ hj : j < ch.length, ch[j] = i := by
 rw [List.idxOf?_eq_some_iff] at h
 obtain ⟨hj, he, _⟩ := h
 exact ⟨hj, he⟩

theorem wpAny_of_ch {W : Nat → World} {ch : List Nat} {l : List Oper} {Q : Act → Prop} {Q' : Exit → Act → World → Prop} (hB : headB md l l.length = true) (hc : chainOkB md l ch = true) (hQ : ∀ a, Q a → Q' .normal a (W ch.length)) :
  ∀ (fuel : Nat) (listed : Array Bool) (a : Act) (w : World), listed.size = l.length → (∃ j, j ≤ ch.length ∧ w = W j ∧ ∀ k (hk : k < ch.length), (listed.getD ch[k] true = true ↔ k < j)) →
   anyE md l.toArray (chE P W ch) Q fuel listed a → wpAny P md l.toArray Q' fuel listed a w := by
 have hnd : ch.Nodup := by
  simp only [chainOkB, Bool.and_eq_true, decide_eq_true_eq] at hc
  exact hc.1
 have hend : ∀ (listed : Array Bool) (w : World), listed.size = l.length → (∃ j, j ≤ ch.length ∧ w = W j ∧ ∀ k (hk : k < ch.length), (listed.getD ch[k] true = true ↔ k < j)) → Region.ready md l.toArray listed = [] → w = W ch.length := fun listed w hs ⟨j, hj, hw, hk⟩ hr => by
  have hall := head_done (n := l.length) (lh := listed) hB hs (by rw [List.take_length]; exact hr)
  by_cases hlt : j < ch.length
  ·obtain ⟨o, _, hcl, _⟩ := chainOk_spec hc j hlt
   have := (hk j hlt).1 (by rw [getD_tf (by omega)]; exact hall _ hcl)
   omega
  ·rw [hw]; congr 1; omega
 intro fuel
 induction fuel with
 | zero => exact fun listed a w hs hw h => ⟨h.1, by rw [hend listed w hs hw h.1]; exact hQ _ h.2⟩
 | succ fuel ih =>
  intro listed a w hs hw h
  refine ⟨fun h0 => by rw [hend listed w hs hw h0]; exact hQ _ (h.1 h0), fun i hi => ?_⟩
  obtain ⟨hun, o, ho, hall⟩ := mem_ready.1 hi
  obtain ⟨v, hy, hK⟩ := h.2 i hi o ho
  have hil : i < l.length := by simpa using (Array.getElem?_eq_some_iff.1 ho).1
  obtain ⟨j, hj, rfl, hk⟩ := hw
  unfold wpOp
  simp only [ho]
  cases hix : ch.idxOf? i with
  | some k =>
   obtain ⟨hkl, hki⟩ := idx_spec hix
   obtain ⟨o', ho', hcl, hgd, hprev⟩ := chainOk_spec hc k hkl
   have hoo : o' = o := by
    rw [hki] at ho'
    have : l[i]? = some o := by simpa using ho
    exact Option.some.inj (ho'.symm.trans this)
   subst hoo
   have hjk : j = k := by
    have h1 : ¬ k < j := fun hlt => by
     have := (hk k hkl).2 hlt
     rw [hki, hun] at this; cases this
    by_cases h0 : 0 < k
    ·obtain ⟨e, he, hb, hp⟩ := hprev h0
     have h2 := hall e he hb
     have hlt : k - 1 < ch.length := by omega
     have h3 : ch[k - 1] = e.on := by
      rw [List.getElem?_eq_getElem hlt] at hp; exact Option.some.inj hp
     obtain ⟨_, _, hcl2, _⟩ := chainOk_spec hc (k - 1) hlt
     have h4 := (hk (k - 1) hlt).1 (by rw [getD_tf (by omega), h3]; exact h2)
     omega
    ·omega
   subst hjk
   have hwt : Region.wanted o' (yielded l.toArray a.tmps) = true := by unfold Region.wanted; rw [hgd]
   have hinv : ∃ j', j' ≤ ch.length ∧ W (j + 1) = W j' ∧ ∀ k (hk : k < ch.length), ((listed.setIfInBounds i true).getD ch[k] true = true ↔ k < j') := by
    refine ⟨j + 1, by omega, rfl, fun k' hk' => ?_⟩
    by_cases hkk : k' = j
    ·subst hkk
     rw [hki]
     have : i < listed.size := by omega
     simp [this]
    ·have hne : i ≠ ch[k'] := by
      rw [← hki]
      intro he
      rcases Nat.lt_or_ge j k' with hlt | hge
      ·exact List.pairwise_iff_getElem.1 hnd j k' hkl hk' hlt he
      ·exact List.pairwise_iff_getElem.1 hnd k' j hk' hkl (by omega) he.symm
     rw [getD_set_ne true hne, hk k' hk']
     omega
   rcases hy with ⟨_, hE⟩ | ⟨hw1, _⟩
   ·rw [if_pos hwt]
    left
    unfold chE at hE
    rw [hix] at hE
    unfold Oper.wp
    rcases hE with hE | ⟨hE, rfl⟩
    ·rw [hE]
     exact ih _ _ _ (by simp [hs]) hinv hK
    ·rw [hE]
     exact ih _ _ _ (by simp [hs]) hinv hK
   ·rw [hwt] at hw1; cases hw1
  | none =>
   have hinv : ∃ j', j' ≤ ch.length ∧ W j = W j' ∧ ∀ k (hk : k < ch.length), ((listed.setIfInBounds i true).getD ch[k] true = true ↔ k < j') := by
    refine ⟨j, hj, rfl, fun k' hk' => ?_⟩
    have hne : i ≠ ch[k'] := fun he => by
     have := idx_some hnd (j := k') (i := i) (by rw [List.getElem?_eq_getElem hk', he])
     rw [hix] at this; cases this
    rw [getD_set_ne true hne]
    exact hk k' hk'
   rcases hy with ⟨hw1, hE⟩ | ⟨hw1, rfl⟩
   ·rw [if_pos hw1]
    left
    unfold chE at hE
    rw [hix] at hE
    unfold Oper.wp
    rw [hE j hj]
    exact ih _ _ _ (by simp [hs]) hinv hK
   ·rw [if_neg (by rw [hw1]; simp)]
    exact ih _ _ _ (by simp [hs]) hinv hK

def plain2B (o : Oper) : Bool := plainB o || match o.op with
 | .build _ _ | .slice _ _ _ _ _ | .extract _ _ | .lookup _ _ _ _ => true
 | .call c => (match c.callee with | .builtin .len => true | _ => false)
 | _ => false
theorem plain2_value {o : Oper} (hp : plain2B o = true) {a : Act} {w w' : World} {n : Next} (h : (execOp a.eval o).run P w = .ok n w') : ∃ v, n = .value v := by
 unfold plain2B at hp
 rw [Bool.or_eq_true] at hp
 rcases hp with hp | hp
 ·exact plain_value hp h
 ·unfold execOp at h
  split at hp <;> rename_i hop <;> simp only [hop] at h
  ·exact value_run h
  ·exact value_run h
  ·exact value_run h
  ·exact value_run h
  ·rename_i c
   split at hp
   ·rename_i hc
    unfold resolve at h
    simp only [hc, Sem.run_bind, Sem.run_pure, Result.andThen_ok, invoke, builtin] at h
    exact value_run (by rw [Sem.run_bind]; exact h)
   ·cases hp
  ·cases hp
theorem plain2_quiet {C : World → Prop} {o : Oper} (hp : plain2B o = true) {a : Act} {w : World} {v : Value} (h : o.quietAt P a C w v) : (execOp a.eval o).run P w = .ok (.value v) w := by
 unfold Oper.quietAt at h
 cases hr : (execOp a.eval o).run P w with
 | ok n w' =>
  obtain ⟨u, rfl⟩ := plain2_value hp hr
  rw [hr] at h
  obtain ⟨rfl, rfl⟩ := h
  rfl
 | halt e w' => rw [hr] at h; exact h.elim

theorem chain_reads {ops : Array Oper} {W : Nat → World} {ch : List Nat} {Q Q' : Act → Prop} : ∀ (l rest : List Oper) (i : Nat) (a : Act), ((List.range l.length).all fun j => (ch.idxOf? (i + j)).isNone) = true → l.all plain2B = true →
  (∀ a, Q a → seqE ops (chE P W ch) Q' (i + l.length) rest a) → wpQuiet P ops (fun w' => ∃ j, w' = W j) Q l a → seqE ops (chE P W ch) Q' i (l ++ rest) a
 | [], rest, i, a, _, _, hQ, h => hQ a h
 | o :: l, rest, i, a, hk, hp, hQ, h => by
  simp only [List.all_cons, Bool.and_eq_true] at hp
  rw [List.all_eq_true] at hk
  have hik : ch.idxOf? i = none := by
   have := hk 0 (by simp)
   simpa using this
  have hrest : ∀ a', wpQuiet P ops (fun w' => ∃ j, w' = W j) Q l a' → seqE ops (chE P W ch) Q' (i + 1) (l ++ rest) a' := fun a' h' =>
   chain_reads l rest (i + 1) a' (by
    rw [List.all_eq_true]
    intro j hj
    have := hk (j + 1) (by simp at hj ⊢; omega)
    rwa [show i + (j + 1) = i + 1 + j from by omega] at this) hp.2 (fun a'' hq => by have := hQ a'' hq; simpa [Nat.add_assoc, Nat.add_comm 1] using this) h'
  unfold wpQuiet at h
  by_cases hw : Region.wanted o (yielded ops a.tmps) = true
  ·rw [if_pos hw] at h
   obtain ⟨v, h1, h2⟩ := h
   refine ⟨v, .inl ⟨hw, ?_⟩, hrest _ h2⟩
   unfold chE
   rw [hik]
   intro j hj
   exact plain2_quiet hp.1 (h1 _ ⟨j, rfl⟩)
  ·rw [if_neg hw] at h
   exact ⟨undef, .inr ⟨by simpa using hw, rfl⟩, hrest _ h⟩
theorem chain_reads_at {ops : Array Oper} {W : Nat → World} {ch : List Nat} {Q' : Act → Prop} {l : List Oper} {i : Nat} {a : Act} (n : Nat) (hn : ((l.take n).length == n && ((List.range (l.take n).length).all fun j => (ch.idxOf? (i + j)).isNone) && (l.take n).all plain2B) = true)
  (h : wpQuiet P ops (fun w' => ∃ j, w' = W j) (fun a => seqE ops (chE P W ch) Q' (i + n) (l.drop n) a) (l.take n) a) : seqE ops (chE P W ch) Q' i l a := by
 simp only [Bool.and_eq_true, beq_iff_eq] at hn
 have := chain_reads (Q' := Q') (l.take n) (l.drop n) i a hn.1.2 hn.2 (fun a' hq => by rw [hn.1.1]; exact hq) h
 rwa [List.take_append_drop] at this
theorem exec_append {o : Oper} {a : Act} {w w' : World} {s x : Operand} {t : TypeId} {v u v' : Value} (ho : o.op = .call { callee := .builtin .append, args := #[s, x], argTypes := #[t, t] }) (hs : a.eval s = v) (hx : a.eval x = u)
  (hr : (Builtin.append_ #[t, t] o.type #[v, u]).run P w = .ok v' w') : (execOp a.eval o).run P w = .ok (.value v') w' := by
 unfold execOp
 simp only [ho, resolve, invoke, builtin, Sem.run_bind, Sem.run_pure, Result.andThen_ok, List.map_toArray, List.map_cons, List.map_nil, hs, hx, hr]
theorem exec_mapUpdate {o : Oper} {a : Act} {w w' : World} {m x v : Operand} {t : TypeId} {vm vx vv : Value} (ho : o.op = .mapUpdate t m x v) (hm : a.eval m = vm) (hx : a.eval x = vx) (hv : a.eval v = vv)
  (hr : (Instr.mapUpdate t vm vx vv).run P w = .ok () w') : (execOp a.eval o).run P w = .ok .skip w' := by
 unfold execOp
 simp only [ho, hm, hx, hv, Sem.run_bind, hr, Result.andThen_ok, Sem.run_pure]
theorem chain_op {ops : Array Oper} {W : Nat → World} {ch : List Nat} {Q' : Act → Prop} {o : Oper} {rest : List Oper} {i : Nat} {a : Act} (j : Nat) (v : Value) (hi : ch.idxOf? i = some j) (hg : o.guard = none)
  (hr : (execOp a.eval o).run P (W j) = .ok (.value v) (W (j + 1)) ∨ (execOp a.eval o).run P (W j) = .ok .skip (W (j + 1)) ∧ v = undef) (h : seqE ops (chE P W ch) Q' (i + 1) rest (a.put o.dst v)) : seqE ops (chE P W ch) Q' i (o :: rest) a :=
 ⟨v, .inl ⟨by unfold Region.wanted; rw [hg], by unfold chE; rw [hi]; exact hr⟩, h⟩

theorem chain_end {ops : Array Oper} {W : Nat → World} {ch : List Nat} {Q' : Act → Prop} {i : Nat} {a : Act} (h : Q' a) : seqE ops (chE P W ch) Q' i [] a := h
def chainB (l : List Oper) (ch : List Nat) : Bool := headB .any l l.length && Region.lexB .any l.toArray && chainOkB .any l ch
theorem wp_region_chain {Q : Exit → Act → World → Prop} {id : Nat} {a : Act} {w : World} {l : List Oper} (W : Nat → World) (ch : List Nat) (hW : W 0 = World.drew w) (hm : P.follows .mixedOrders = true) (hB : chainB l ch = true)
  (h : seqE l.toArray (chE P W ch) (fun a' => Q .normal a' (W ch.length)) 0 l a) : (Code.region id l.toArray true).wp P Q a w := by
 refine wp_region_any hm ?_
 simp only [chainB, Bool.and_eq_true] at hB
 obtain ⟨⟨h1, h2⟩, h3⟩ := hB
 have hlex := h2
 simp only [Region.lexB, Bool.and_eq_true] at hlex
 have hany := anyE_lex (md := .any) chE_same hlex.1 l 0 (Array.replicate l.toArray.size false) a (by simp) (by simpa using hlex.2) h
 have := wpAny_of_ch (P := P) (md := .any) (W := W) (ch := ch) (l := l) (Q' := Q) h1 h3 (fun a' h' => h') _ (Array.replicate l.toArray.size false) a (World.drew w) (by simp) ⟨0, Nat.zero_le _, hW.symm, fun k hk => by
  obtain ⟨o, _, hcl, _⟩ := chainOk_spec h3 k hk
  simp [hcl]⟩ hany
 simpa using this

theorem wp_region_chain_tail {Q : Exit → Act → World → Prop} {id : Nat} {a : Act} {w : World} {l : List Oper} (W : Nat → World) (ch : List Nat) (n : Nat) (hW : W 0 = World.drew w) (hm : P.follows .mixedOrders = true) (hB : (headTailB l n && chainB (l.take n) ch) = true)
  (h : seqE (l.take n).toArray (chE P W ch) (fun a' => wpList P l.toArray Q (l.drop n) a' (W ch.length)) 0 (l.take n) a) : (Code.region id l.toArray true).wp P Q a w := by
 refine wp_region_any hm ?_
 show wpAny P .any l.toArray Q l.toArray.size (Array.replicate l.toArray.size false) a (World.drew w)
 simp only [headTailB, chainB, Bool.and_eq_true, decide_eq_true_eq] at hB
 obtain ⟨⟨⟨⟨⟨h1, h2⟩, h3⟩, h4⟩, h6⟩, ⟨hb, hlex⟩, hch⟩ := hB
 have hln : (l.take n).length = n := by simp; omega
 have hlex2 := hlex
 simp only [Region.lexB, Bool.and_eq_true] at hlex2
 have hany := anyE_lex (md := .any) chE_same hlex2.1 (l.take n) 0 (Array.replicate (l.take n).toArray.size false) a (by simp) (by simpa using hlex2.2) h
 have hany2 := wpAny_of_ch (P := P) (md := .any) (W := W) (ch := ch) (l := l.take n) (Q' := fun e a' w' => e = .normal ∧ wpList P l.toArray Q (l.drop n) a' w') hb hch (fun a' h' => ⟨rfl, h'⟩) _ (Array.replicate (l.take n).toArray.size false) a (World.drew w) (by simp)
  ⟨0, Nat.zero_le _, hW.symm, fun k hk => by
   obtain ⟨o, _, hcl, _⟩ := chainOk_spec hch k hk
   rw [hln] at hcl
   simp [hln, hcl]⟩ hany
 have := wpAny_split (P := P) (md := .any) (Q := Q) (g := l.length - n) h1 h2 h3 h4 (Qh := fun e a' w' => e = .normal ∧ wpList P l.toArray Q (l.drop n) a' w') (fun e a w he hh => absurd hh.1 he)
  (fun a' w' hh => by
   have := wpAny_of_seq (md := .any) (P := P) (Q' := Q) (l.drop n) n (fullB l n) a' w' (fun j => by simp [List.getElem?_drop]) (by simpa using h6) hh.2
   simpa using this)
  _ (Array.replicate l.length false) (Array.replicate (l.take n).toArray.size false) a _
  ⟨by simp, by simpa using hln, fun i hi => by rw [getD_replicate_false, getD_replicate_false],
   ⟨by simp, fun j oj _ hl => (by rw [getD_replicate_false] at hl; cases hl), fun t _ ht => getD_in (by simpa using ht) (getD_replicate_false _ _)⟩⟩ hany2
 rw [hln] at this
 rw [show n + (l.length - n) = l.length from by omega] at this
 simpa using this
end
end Go.Proofs.YtlboejdhmggjpaaGreat

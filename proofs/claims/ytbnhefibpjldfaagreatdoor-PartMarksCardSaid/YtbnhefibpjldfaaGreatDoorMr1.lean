/- A drawn region in a round: a head whose operations make memory, each walked once, and a forced tail. -/
import Derived.Test.YtbnhefibpjldfaaGreatDoorMon
import Derived.Test.YtbnhefibpjldfaaGreatDoorTal
namespace Go.Proofs.YtbnhefibpjldfaaGreatDoor
open Go Go.RowKit
set_option linter.unusedVariables false

section
variable {P : Program} {Q : Exit → Act → World → Prop}


/-- A head of such operations, in whatever order, and a forced tail. -/
theorem wpAny_each_tail {a0 : Act} {W : World} {l : List Oper} (n : Nat) (S : Nat → Value → World → Prop) (hB : (headTailB l n && monB (l.take n)) = true)
    (hmono : ∀ i v w w', Below w.heap.size w w' → S i v w → S i v w')
    (hstep : ∀ i o, (l.take n)[i]? = some o → ∀ (v : Nat → Value) w, Below W.heap.size W w → (∀ j, (depsOf (l.take n) i).contains j = true → S j (v j) w) →
      ∀ K : Act → World → Prop, (∀ u w', S i u w' → Below w.heap.size w w' → K ((putAll v 0 (l.take n) a0).put o.dst u) w') → wpList P (l.take n).toArray (fun e a' w' => e = .normal ∧ K a' w') [o] (putAll v 0 (l.take n) a0) w)
    (hQ : ∀ (v : Nat → Value) w, Below W.heap.size W w → (∀ i, i < (l.take n).length → S i (v i) w) → wpList P l.toArray Q (l.drop n) (putAll v 0 (l.take n) a0) w) : wpAny P .any l.toArray Q l.toArray.size (Array.replicate l.toArray.size false) a0 (World.drew W) := by
  rw [Bool.and_eq_true] at hB
  obtain ⟨hB1, hmon⟩ := hB
  simp only [headTailB, Bool.and_eq_true, decide_eq_true_eq] at hB1
  obtain ⟨⟨⟨⟨h1, h2⟩, h3⟩, h4⟩, h6⟩ := hB1
  have hln : (l.take n).length = n := by simp; omega
  have hany := wpAny_mono (P := P) (Q := fun e a' w' => e = .normal ∧ wpList P l.toArray Q (l.drop n) a' w') (W := W) (a0 := a0) S hmon hmono (fun i hi v w hb hd => by
      have ho : (l.take n)[i]? = some (l.take n)[i] := List.getElem?_eq_getElem hi
      exact wpOp_of_list (o := (l.take n)[i]) (by rw [List.getElem?_toArray]; exact ho) (hstep i (l.take n)[i] ho v w hb (fun j hj => hd j (by simpa using hj)) (fun a' w' => ∃ u, a' = (putAll v 0 (l.take n) a0).put (dstOf (l.take n) i) u ∧ S i u w' ∧ Below w.heap.size w w')
        (fun u w' hS hB => ⟨u, by rw [show dstOf (l.take n) i = (l.take n)[i].dst from by unfold dstOf; rw [ho]], hS, hB⟩))) (fun v w hb hS => ⟨rfl, hQ v w hb hS⟩)
  have := wpAny_split (P := P) (md := .any) (Q := Q) (g := l.length - n) h1 h2 h3 h4 (Qh := fun e a' w' => e = .normal ∧ wpList P l.toArray Q (l.drop n) a' w') (fun e a w he hh => absurd hh.1 he)
    (fun a' w' hh => by
      have := wpAny_of_seq (md := .any) (P := P) (Q' := Q) (l.drop n) n (fullB l n) a' w' (fun j => by simp [List.getElem?_drop]) (by simpa using h6) hh.2
      simpa using this)
    _ (Array.replicate l.length false) (Array.replicate (l.take n).toArray.size false) a0 _
    ⟨by simp, by simpa using hln, fun i hi => by rw [getD_replicate_false, getD_replicate_false],
      ⟨by simp, fun j oj _ hl => (by rw [getD_replicate_false] at hl; cases hl), fun t _ ht => getD_in (by simpa using ht) (getD_replicate_false _ _)⟩⟩ hany
  rw [List.size_toArray, hln] at this
  rw [show n + (l.length - n) = l.length from by omega] at this
  simpa using this
theorem wpIn_region_each_tail {id r m : Nat} {a0 : Act} {W : World} {l : List Oper} (n : Nat) (S : Nat → Value → World → Prop) (hm : P.follows .mixedOrders = true) (hB : (headTailB l n && monB (l.take n)) = true) (hD : noDeferB l = true)
    (hmono : ∀ i v w w', Below w.heap.size w w' → S i v w → S i v w')
    (hstep : ∀ i o, (l.take n)[i]? = some o → ∀ (v : Nat → Value) w, Below W.heap.size W w → (∀ j, (depsOf (l.take n) i).contains j = true → S j (v j) w) →
      ∀ K : Act → World → Prop, (∀ u w', S i u w' → Below w.heap.size w w' → K ((putAll v 0 (l.take n) a0).put o.dst u) w') → wpList P (l.take n).toArray (fun e a' w' => e = .normal ∧ K a' w') [o] (putAll v 0 (l.take n) a0) w)
    (hQ : ∀ (v : Nat → Value) w, Below W.heap.size W w → (∀ i, i < (l.take n).length → S i (v i) w) → wpList P l.toArray (NoOut Q) (l.drop n) (putAll v 0 (l.take n) a0) w) : (Code.region id l.toArray true).wpIn (Fence.wide.inRound r) m P Q a0 W :=
  wpIn_region_any hm (wpAnyIn_of_any hD _ _ _ _ (wpAny_each_tail n S hB hmono hstep hQ))
end
end Go.Proofs.YtbnhefibpjldfaaGreatDoor

/- Mrl -/
namespace Go.Proofs.YtbnhefibpjldfaaGreatDoor
open Go Go.RowKit
set_option linter.unusedVariables false

section
variable {P : Program} {Q : Exit → Act → World → Prop}

theorem wpAny_rel {a0 : Act} {W : World} {l : List Oper} (Iv : World → Prop) (Rl : World → World → Prop) (S : Nat → Value → World → Prop) (hB : monB l = true)
    (h0 : Iv (World.drew W)) (hIR : ∀ w w', Iv w → Rl w w' → Iv w') (hmono : ∀ i v w w', Iv w → Rl w w' → S i v w → S i v w')
    (hstep : ∀ i, i < l.length → ∀ (v : Nat → Value) w, Iv w → (∀ j ∈ depsOf l i, S j (v j) w) →
      wpOp P l.toArray Q i (fun a' w' => ∃ u, a' = (putAll v 0 l a0).put (dstOf l i) u ∧ S i u w' ∧ Rl w w') (putAll v 0 l a0) w)
    (hQ : ∀ (v : Nat → Value) w, Iv w → (∀ i, i < l.length → S i (v i) w) → Q .normal (putAll v 0 l a0) w) : wpAny P .any l.toArray Q l.toArray.size (Array.replicate l.toArray.size false) a0 (World.drew W) := by
  simp only [monB, Bool.and_eq_true, decide_eq_true_eq, List.all_eq_true] at hB
  obtain ⟨⟨hh, hsome⟩, hnd⟩ := hB
  have hs : ∀ o ∈ l, o.dst ≠ none := fun o ho hn => by have := hsome o ho; rw [hn] at this; cases this
  have main : ∀ (fuel : Nat) (listed : Array Bool) (a : Act) (w : World), listed.size = l.length → cntF (fun i => !listed.getD i true) l.length ≤ fuel →
      (∃ v : Nat → Value, a = putAll v 0 l a0 ∧ Iv w ∧ ∀ i, i < l.length → listed.getD i true = true → S i (v i) w) → wpAny P .any l.toArray Q fuel listed a w := by
    have hend : ∀ (listed : Array Bool) (a : Act) (w : World), listed.size = l.length → (∃ v : Nat → Value, a = putAll v 0 l a0 ∧ Iv w ∧ ∀ i, i < l.length → listed.getD i true = true → S i (v i) w) →
        Region.ready .any l.toArray listed = [] → Q .normal a w := fun listed a w hsz ⟨v, ha, hb, hS⟩ hr => by
      have hall := head_done (n := l.length) (lh := listed) hh hsz (by rw [List.take_length]; exact hr)
      rw [ha]
      exact hQ v w hb (fun i hi => hS i hi (by rw [getD_tf (by omega)]; exact hall i hi))
    intro fuel
    induction fuel with
    | zero =>
      intro listed a w hsz hc hI
      have hz := cntF_zero _ _ (Nat.le_zero.1 hc)
      have hr : Region.ready .any l.toArray listed = [] := by
        apply List.eq_nil_iff_forall_not_mem.2
        intro i hi
        obtain ⟨hun, o, ho, _⟩ := mem_ready.1 hi
        have hil : i < l.length := by simpa using (Array.getElem?_eq_some_iff.1 ho).1
        have := hz i hil
        simp only [Bool.not_eq_false'] at this
        rw [hun] at this; cases this
      exact ⟨hr, hend listed a w hsz hI hr⟩
    | succ fuel ih =>
      intro listed a w hsz hc hI
      refine ⟨hend listed a w hsz hI, fun i hi => ?_⟩
      obtain ⟨v, rfl, hb, hS⟩ := hI
      obtain ⟨hun, o, ho, hall⟩ := mem_ready.1 hi
      have ho' : l[i]? = some o := by simpa using ho
      have hil : i < l.length := (List.getElem?_eq_some_iff.1 ho').1
      have hst := hstep i hil v w hb (fun j hj => by
        unfold depsOf at hj
        rw [ho'] at hj
        obtain ⟨e, he, rfl⟩ := List.mem_map.1 hj
        obtain ⟨he1, he2⟩ := List.mem_filter.1 he
        obtain ⟨o2, ho2, hafter, _⟩ := headB_spec hh hil
        obtain rfl : o2 = o := Option.some.inj (ho2.symm.trans ho')
        have hlt : e.on < i := hafter e (by simpa using he1) he2
        exact hS e.on (by omega) (by rw [getD_tf (by omega)]; exact hall e (by simpa using he1) he2))
      refine wpOp_mono (fun a' w' hK => ?_) hst
      obtain ⟨u, rfl, hSu, hbw⟩ := hK
      have hdst : dstOf l i = o.dst := by unfold dstOf; rw [ho']
      refine ih _ _ _ (by simp [hsz]) ?_ ⟨fun j => if j = i then u else v j, ?_, hIR _ _ hb hbw, fun j hj hl => ?_⟩
      · have := cntF_less (fun j => !listed.getD j true) (fun j => !(listed.setIfInBounds i true).getD j true) i (by rw [hun]; rfl) (by simp [hsz, hil]) (fun j hj => by rw [getD_set_ne true (Ne.symm hj)]) l.length hil
        omega
      · rw [hdst, putAll_upd v u l 0 i a0 o hnd hs ho']
        simp
      · by_cases hji : j = i
        · subst hji; simpa using hSu
        · show S j (if j = i then u else v j) _
          rw [if_neg hji]
          rw [getD_set_ne true (Ne.symm hji)] at hl
          exact hmono j _ _ _ hb hbw (hS j hj hl)
  refine main _ _ _ _ (by simp) (Nat.le_trans (cntF_le _ _) (by simp)) ⟨fun i => match l[i]? with | some o => (match o.dst with | some d => a0.tmps.getD d undef | none => undef) | none => undef, ?_, h0, fun i hi hl => ?_⟩
  · symm
    exact putAll_self a0 _ l 0 hs (fun k o d h1 h2 => by simp only [Nat.zero_add, h1, h2])
  · rw [getD_at (by simpa using hi)] at hl
    simp at hl

/-- A head of such operations, in whatever order, and a forced tail. -/
theorem wpAny_rel_tail {a0 : Act} {W : World} {l : List Oper} (n : Nat) (Iv : World → Prop) (Rl : World → World → Prop) (S : Nat → Value → World → Prop) (hB : (headTailB l n && monB (l.take n)) = true)
    (h0 : Iv (World.drew W)) (hIR : ∀ w w', Iv w → Rl w w' → Iv w') (hmono : ∀ i v w w', Iv w → Rl w w' → S i v w → S i v w')
    (hstep : ∀ i o, (l.take n)[i]? = some o → ∀ (v : Nat → Value) w, Iv w → (∀ j, (depsOf (l.take n) i).contains j = true → S j (v j) w) →
      ∀ K : Act → World → Prop, (∀ u w', S i u w' → Rl w w' → K ((putAll v 0 (l.take n) a0).put o.dst u) w') → wpList P (l.take n).toArray (fun e a' w' => e = .normal ∧ K a' w') [o] (putAll v 0 (l.take n) a0) w)
    (hQ : ∀ (v : Nat → Value) w, Iv w → (∀ i, i < (l.take n).length → S i (v i) w) → wpList P l.toArray Q (l.drop n) (putAll v 0 (l.take n) a0) w) : wpAny P .any l.toArray Q l.toArray.size (Array.replicate l.toArray.size false) a0 (World.drew W) := by
  rw [Bool.and_eq_true] at hB
  obtain ⟨hB1, hmon⟩ := hB
  simp only [headTailB, Bool.and_eq_true, decide_eq_true_eq] at hB1
  obtain ⟨⟨⟨⟨h1, h2⟩, h3⟩, h4⟩, h6⟩ := hB1
  have hln : (l.take n).length = n := by simp; omega
  have hany := wpAny_rel (P := P) (Q := fun e a' w' => e = .normal ∧ wpList P l.toArray Q (l.drop n) a' w') (W := W) (a0 := a0) Iv Rl S hmon h0 hIR hmono (fun i hi v w hb hd => by
      have ho : (l.take n)[i]? = some (l.take n)[i] := List.getElem?_eq_getElem hi
      exact wpOp_of_list (o := (l.take n)[i]) (by rw [List.getElem?_toArray]; exact ho) (hstep i (l.take n)[i] ho v w hb (fun j hj => hd j (by simpa using hj)) (fun a' w' => ∃ u, a' = (putAll v 0 (l.take n) a0).put (dstOf (l.take n) i) u ∧ S i u w' ∧ Rl w w')
        (fun u w' hS hB => ⟨u, by rw [show dstOf (l.take n) i = (l.take n)[i].dst from by unfold dstOf; rw [ho]], hS, hB⟩))) (fun v w hb hS => ⟨rfl, hQ v w hb hS⟩)
  have := wpAny_split (P := P) (md := .any) (Q := Q) (g := l.length - n) h1 h2 h3 h4 (Qh := fun e a' w' => e = .normal ∧ wpList P l.toArray Q (l.drop n) a' w') (fun e a w he hh => absurd hh.1 he)
    (fun a' w' hh => by
      have := wpAny_of_seq (md := .any) (P := P) (Q' := Q) (l.drop n) n (fullB l n) a' w' (fun j => by simp [List.getElem?_drop]) (by simpa using h6) hh.2
      simpa using this)
    _ (Array.replicate l.length false) (Array.replicate (l.take n).toArray.size false) a0 _
    ⟨by simp, by simpa using hln, fun i hi => by rw [getD_replicate_false, getD_replicate_false],
      ⟨by simp, fun j oj _ hl => (by rw [getD_replicate_false] at hl; cases hl), fun t _ ht => getD_in (by simpa using ht) (getD_replicate_false _ _)⟩⟩ hany
  rw [List.size_toArray, hln] at this
  rw [show n + (l.length - n) = l.length from by omega] at this
  simpa using this
theorem wpIn_region_rel_tail {id r m : Nat} {a0 : Act} {W : World} {l : List Oper} (n : Nat) (Iv : World → Prop) (Rl : World → World → Prop) (S : Nat → Value → World → Prop) (hm : P.follows .mixedOrders = true) (hB : (headTailB l n && monB (l.take n)) = true) (hD : noDeferB l = true)
    (h0 : Iv (World.drew W)) (hIR : ∀ w w', Iv w → Rl w w' → Iv w') (hmono : ∀ i v w w', Iv w → Rl w w' → S i v w → S i v w')
    (hstep : ∀ i o, (l.take n)[i]? = some o → ∀ (v : Nat → Value) w, Iv w → (∀ j, (depsOf (l.take n) i).contains j = true → S j (v j) w) →
      ∀ K : Act → World → Prop, (∀ u w', S i u w' → Rl w w' → K ((putAll v 0 (l.take n) a0).put o.dst u) w') → wpList P (l.take n).toArray (fun e a' w' => e = .normal ∧ K a' w') [o] (putAll v 0 (l.take n) a0) w)
    (hQ : ∀ (v : Nat → Value) w, Iv w → (∀ i, i < (l.take n).length → S i (v i) w) → wpList P l.toArray (NoOut Q) (l.drop n) (putAll v 0 (l.take n) a0) w) : (Code.region id l.toArray true).wpIn (Fence.wide.inRound r) m P Q a0 W :=
  wpIn_region_any hm (wpAnyIn_of_any hD _ _ _ _ (wpAny_rel_tail n Iv Rl S hB h0 hIR hmono hstep hQ))
theorem wp_region_rel_tail {id : Nat} {a0 : Act} {W : World} {l : List Oper} (n : Nat) (Iv : World → Prop) (Rl : World → World → Prop) (S : Nat → Value → World → Prop) (hm : P.follows .mixedOrders = true) (hB : (headTailB l n && monB (l.take n)) = true)
    (h0 : Iv (World.drew W)) (hIR : ∀ w w', Iv w → Rl w w' → Iv w') (hmono : ∀ i v w w', Iv w → Rl w w' → S i v w → S i v w')
    (hstep : ∀ i o, (l.take n)[i]? = some o → ∀ (v : Nat → Value) w, Iv w → (∀ j, (depsOf (l.take n) i).contains j = true → S j (v j) w) →
      ∀ K : Act → World → Prop, (∀ u w', S i u w' → Rl w w' → K ((putAll v 0 (l.take n) a0).put o.dst u) w') → wpList P (l.take n).toArray (fun e a' w' => e = .normal ∧ K a' w') [o] (putAll v 0 (l.take n) a0) w)
    (hQ : ∀ (v : Nat → Value) w, Iv w → (∀ i, i < (l.take n).length → S i (v i) w) → wpList P l.toArray Q (l.drop n) (putAll v 0 (l.take n) a0) w) : (Code.region id l.toArray true).wp P Q a0 W :=
  wp_region_any hm (wpAny_rel_tail n Iv Rl S hB h0 hIR hmono hstep hQ)
end
end Go.Proofs.YtbnhefibpjldfaaGreatDoor

/- Mr1 -/
namespace Go.Proofs.YtbnhefibpjldfaaGreatDoor
open Go Go.RowKit
set_option linter.unusedVariables false

section
variable {P : Program} {Q : Exit → Act → World → Prop}

theorem wpAny_one {a0 : Act} {W : World} {l : List Oper} (c : Nat) (Iv : Bool → World → Prop) (Rl : Nat → World → World → Prop) (S : Nat → Value → World → Prop) (hcl0 : c < l.length) (hB : monB l = true)
    (h0 : Iv false (World.drew W)) (hIR : ∀ i b w w', (i = c → b = false) → Iv b w → Rl i w w' → Iv (b || i == c) w') (hmono : ∀ j v i b w w', j ≠ i → (i = c → b = false) → Iv b w → Rl i w w' → S j v w → S j v w')
    (hstep : ∀ i, i < l.length → ∀ (v : Nat → Value) b w, (i = c → b = false) → Iv b w → (∀ j ∈ depsOf l i, S j (v j) w) →
      wpOp P l.toArray Q i (fun a' w' => ∃ u, a' = (putAll v 0 l a0).put (dstOf l i) u ∧ S i u w' ∧ Rl i w w') (putAll v 0 l a0) w)
    (hQ : ∀ (v : Nat → Value) w, Iv true w → (∀ i, i < l.length → S i (v i) w) → Q .normal (putAll v 0 l a0) w) : wpAny P .any l.toArray Q l.toArray.size (Array.replicate l.toArray.size false) a0 (World.drew W) := by
  simp only [monB, Bool.and_eq_true, decide_eq_true_eq, List.all_eq_true] at hB
  obtain ⟨⟨hh, hsome⟩, hnd⟩ := hB
  have hs : ∀ o ∈ l, o.dst ≠ none := fun o ho hn => by have := hsome o ho; rw [hn] at this; cases this
  have main : ∀ (fuel : Nat) (listed : Array Bool) (a : Act) (w : World), listed.size = l.length → cntF (fun i => !listed.getD i true) l.length ≤ fuel →
      (∃ v : Nat → Value, a = putAll v 0 l a0 ∧ Iv (listed.getD c true) w ∧ ∀ i, i < l.length → listed.getD i true = true → S i (v i) w) → wpAny P .any l.toArray Q fuel listed a w := by
    have hend : ∀ (listed : Array Bool) (a : Act) (w : World), listed.size = l.length → (∃ v : Nat → Value, a = putAll v 0 l a0 ∧ Iv (listed.getD c true) w ∧ ∀ i, i < l.length → listed.getD i true = true → S i (v i) w) →
        Region.ready .any l.toArray listed = [] → Q .normal a w := fun listed a w hsz ⟨v, ha, hb, hS⟩ hr => by
      have hall := head_done (n := l.length) (lh := listed) hh hsz (by rw [List.take_length]; exact hr)
      rw [ha]
      have hc1 : listed.getD c true = true := by
        by_cases hcl : c < l.length
        · rw [getD_tf (by omega)]; exact hall c hcl
        · simp [Array.getD, show ¬ c < listed.size by omega]
      rw [hc1] at hb
      exact hQ v w hb (fun i hi => hS i hi (by rw [getD_tf (by omega)]; exact hall i hi))
    intro fuel
    induction fuel with
    | zero =>
      intro listed a w hsz hc hI
      have hz := cntF_zero _ _ (Nat.le_zero.1 hc)
      have hr : Region.ready .any l.toArray listed = [] := by
        apply List.eq_nil_iff_forall_not_mem.2
        intro i hi
        obtain ⟨hun, o, ho, _⟩ := mem_ready.1 hi
        have hil : i < l.length := by simpa using (Array.getElem?_eq_some_iff.1 ho).1
        have := hz i hil
        simp only [Bool.not_eq_false'] at this
        rw [hun] at this; cases this
      exact ⟨hr, hend listed a w hsz hI hr⟩
    | succ fuel ih =>
      intro listed a w hsz hc hI
      refine ⟨hend listed a w hsz hI, fun i hi => ?_⟩
      obtain ⟨v, rfl, hb, hS⟩ := hI
      obtain ⟨hun, o, ho, hall⟩ := mem_ready.1 hi
      have ho' : l[i]? = some o := by simpa using ho
      have hil : i < l.length := (List.getElem?_eq_some_iff.1 ho').1
      have hcb : i = c → listed.getD c true = false := fun e => by
        rw [← e]; exact hun
      have hst := hstep i hil v _ w hcb hb (fun j hj => by
        unfold depsOf at hj
        rw [ho'] at hj
        obtain ⟨e, he, rfl⟩ := List.mem_map.1 hj
        obtain ⟨he1, he2⟩ := List.mem_filter.1 he
        obtain ⟨o2, ho2, hafter, _⟩ := headB_spec hh hil
        obtain rfl : o2 = o := Option.some.inj (ho2.symm.trans ho')
        have hlt : e.on < i := hafter e (by simpa using he1) he2
        exact hS e.on (by omega) (by rw [getD_tf (by omega)]; exact hall e (by simpa using he1) he2))
      refine wpOp_mono (fun a' w' hK => ?_) hst
      obtain ⟨u, rfl, hSu, hbw⟩ := hK
      have hdst : dstOf l i = o.dst := by unfold dstOf; rw [ho']
      refine ih _ _ _ (by simp [hsz]) ?_ ⟨fun j => if j = i then u else v j, ?_, ?_, fun j hj hl => ?_⟩
      · have := cntF_less (fun j => !listed.getD j true) (fun j => !(listed.setIfInBounds i true).getD j true) i (by rw [hun]; rfl) (by simp [hsz, hil]) (fun j hj => by rw [getD_set_ne true (Ne.symm hj)]) l.length hil
        omega
      · rw [hdst, putAll_upd v u l 0 i a0 o hnd hs ho']
        simp
      · have e : (listed.setIfInBounds i true).getD c true = (listed.getD c true || i == c) := by
          by_cases hic : i = c
          · subst hic
            simp [Array.getD, hsz, hil]
          · rw [getD_set_ne true hic]
            simp [hic]
        rw [e]
        exact hIR _ _ _ _ hcb hb hbw
      · by_cases hji : j = i
        · subst hji; simpa using hSu
        · show S j (if j = i then u else v j) _
          rw [if_neg hji]
          rw [getD_set_ne true (Ne.symm hji)] at hl
          exact hmono j _ _ _ _ _ hji hcb hb hbw (hS j hj hl)
  refine main _ _ _ _ (by simp) (Nat.le_trans (cntF_le _ _) (by simp)) ⟨fun i => match l[i]? with | some o => (match o.dst with | some d => a0.tmps.getD d undef | none => undef) | none => undef, ?_, ?_, fun i hi hl => ?_⟩
  · symm
    exact putAll_self a0 _ l 0 hs (fun k o d h1 h2 => by simp only [Nat.zero_add, h1, h2])
  · have e : (Array.replicate l.toArray.size false).getD c true = false := by simp [Array.getD, hcl0]
    rw [e]; exact h0
  · rw [getD_at (by simpa using hi)] at hl
    simp at hl

/-- A head of such operations, in whatever order, and a forced tail. -/
theorem wpAny_one_tail {a0 : Act} {W : World} {l : List Oper} (n : Nat) (c : Nat) (Iv : Bool → World → Prop) (Rl : Nat → World → World → Prop) (S : Nat → Value → World → Prop) (hcl0 : c < (l.take n).length) (hB : (headTailB l n && monB (l.take n)) = true)
    (h0 : Iv false (World.drew W)) (hIR : ∀ i b w w', (i = c → b = false) → Iv b w → Rl i w w' → Iv (b || i == c) w') (hmono : ∀ j v i b w w', j ≠ i → (i = c → b = false) → Iv b w → Rl i w w' → S j v w → S j v w')
    (hstep : ∀ i o, (l.take n)[i]? = some o → ∀ (v : Nat → Value) b w, (i = c → b = false) → Iv b w → (∀ j, (depsOf (l.take n) i).contains j = true → S j (v j) w) →
      ∀ K : Act → World → Prop, (∀ u w', S i u w' → Rl i w w' → K ((putAll v 0 (l.take n) a0).put o.dst u) w') → wpList P (l.take n).toArray (fun e a' w' => e = .normal ∧ K a' w') [o] (putAll v 0 (l.take n) a0) w)
    (hQ : ∀ (v : Nat → Value) w, Iv true w → (∀ i, i < (l.take n).length → S i (v i) w) → wpList P l.toArray Q (l.drop n) (putAll v 0 (l.take n) a0) w) : wpAny P .any l.toArray Q l.toArray.size (Array.replicate l.toArray.size false) a0 (World.drew W) := by
  rw [Bool.and_eq_true] at hB
  obtain ⟨hB1, hmon⟩ := hB
  simp only [headTailB, Bool.and_eq_true, decide_eq_true_eq] at hB1
  obtain ⟨⟨⟨⟨h1, h2⟩, h3⟩, h4⟩, h6⟩ := hB1
  have hln : (l.take n).length = n := by simp; omega
  have hany := wpAny_one (P := P) (Q := fun e a' w' => e = .normal ∧ wpList P l.toArray Q (l.drop n) a' w') (W := W) (a0 := a0) c Iv Rl S hcl0 hmon h0 hIR hmono (fun i hi v b w hcb hb hd => by
      have ho : (l.take n)[i]? = some (l.take n)[i] := List.getElem?_eq_getElem hi
      exact wpOp_of_list (o := (l.take n)[i]) (by rw [List.getElem?_toArray]; exact ho) (hstep i (l.take n)[i] ho v b w hcb hb (fun j hj => hd j (by simpa using hj)) (fun a' w' => ∃ u, a' = (putAll v 0 (l.take n) a0).put (dstOf (l.take n) i) u ∧ S i u w' ∧ Rl i w w')
        (fun u w' hS hB => ⟨u, by rw [show dstOf (l.take n) i = (l.take n)[i].dst from by unfold dstOf; rw [ho]], hS, hB⟩))) (fun v w hb hS => ⟨rfl, hQ v w hb hS⟩)
  have := wpAny_split (P := P) (md := .any) (Q := Q) (g := l.length - n) h1 h2 h3 h4 (Qh := fun e a' w' => e = .normal ∧ wpList P l.toArray Q (l.drop n) a' w') (fun e a w he hh => absurd hh.1 he)
    (fun a' w' hh => by
      have := wpAny_of_seq (md := .any) (P := P) (Q' := Q) (l.drop n) n (fullB l n) a' w' (fun j => by simp [List.getElem?_drop]) (by simpa using h6) hh.2
      simpa using this)
    _ (Array.replicate l.length false) (Array.replicate (l.take n).toArray.size false) a0 _
    ⟨by simp, by simpa using hln, fun i hi => by rw [getD_replicate_false, getD_replicate_false],
      ⟨by simp, fun j oj _ hl => (by rw [getD_replicate_false] at hl; cases hl), fun t _ ht => getD_in (by simpa using ht) (getD_replicate_false _ _)⟩⟩ hany
  rw [List.size_toArray, hln] at this
  rw [show n + (l.length - n) = l.length from by omega] at this
  simpa using this
theorem wpIn_region_one_tail {id r m : Nat} {a0 : Act} {W : World} {l : List Oper} (n : Nat) (c : Nat) (Iv : Bool → World → Prop) (Rl : Nat → World → World → Prop) (S : Nat → Value → World → Prop) (hm : P.follows .mixedOrders = true) (hcl0 : c < (l.take n).length) (hB : (headTailB l n && monB (l.take n)) = true) (hD : noDeferB l = true)
    (h0 : Iv false (World.drew W)) (hIR : ∀ i b w w', (i = c → b = false) → Iv b w → Rl i w w' → Iv (b || i == c) w') (hmono : ∀ j v i b w w', j ≠ i → (i = c → b = false) → Iv b w → Rl i w w' → S j v w → S j v w')
    (hstep : ∀ i o, (l.take n)[i]? = some o → ∀ (v : Nat → Value) b w, (i = c → b = false) → Iv b w → (∀ j, (depsOf (l.take n) i).contains j = true → S j (v j) w) →
      ∀ K : Act → World → Prop, (∀ u w', S i u w' → Rl i w w' → K ((putAll v 0 (l.take n) a0).put o.dst u) w') → wpList P (l.take n).toArray (fun e a' w' => e = .normal ∧ K a' w') [o] (putAll v 0 (l.take n) a0) w)
    (hQ : ∀ (v : Nat → Value) w, Iv true w → (∀ i, i < (l.take n).length → S i (v i) w) → wpList P l.toArray (NoOut Q) (l.drop n) (putAll v 0 (l.take n) a0) w) : (Code.region id l.toArray true).wpIn (Fence.wide.inRound r) m P Q a0 W :=
  wpIn_region_any hm (wpAnyIn_of_any hD _ _ _ _ (wpAny_one_tail n c Iv Rl S hcl0 hB h0 hIR hmono hstep hQ))
theorem wp_region_one_tail {id : Nat} {a0 : Act} {W : World} {l : List Oper} (n : Nat) (c : Nat) (Iv : Bool → World → Prop) (Rl : Nat → World → World → Prop) (S : Nat → Value → World → Prop) (hm : P.follows .mixedOrders = true) (hcl0 : c < (l.take n).length) (hB : (headTailB l n && monB (l.take n)) = true)
    (h0 : Iv false (World.drew W)) (hIR : ∀ i b w w', (i = c → b = false) → Iv b w → Rl i w w' → Iv (b || i == c) w') (hmono : ∀ j v i b w w', j ≠ i → (i = c → b = false) → Iv b w → Rl i w w' → S j v w → S j v w')
    (hstep : ∀ i o, (l.take n)[i]? = some o → ∀ (v : Nat → Value) b w, (i = c → b = false) → Iv b w → (∀ j, (depsOf (l.take n) i).contains j = true → S j (v j) w) →
      ∀ K : Act → World → Prop, (∀ u w', S i u w' → Rl i w w' → K ((putAll v 0 (l.take n) a0).put o.dst u) w') → wpList P (l.take n).toArray (fun e a' w' => e = .normal ∧ K a' w') [o] (putAll v 0 (l.take n) a0) w)
    (hQ : ∀ (v : Nat → Value) w, Iv true w → (∀ i, i < (l.take n).length → S i (v i) w) → wpList P l.toArray Q (l.drop n) (putAll v 0 (l.take n) a0) w) : (Code.region id l.toArray true).wp P Q a0 W :=
  wp_region_any hm (wpAny_one_tail n c Iv Rl S hcl0 hB h0 hIR hmono hstep hQ)
end
end Go.Proofs.YtbnhefibpjldfaaGreatDoor

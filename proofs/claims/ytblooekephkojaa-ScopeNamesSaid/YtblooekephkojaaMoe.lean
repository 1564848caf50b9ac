/- A drawn region of operations that read, call and make memory, with one that writes an own block, in whatever order they come, and a forced tail. -/
import Derived.Test.YtblooekephkojaaMon
import Derived.Test.YtblooekephkojaaLsB
namespace Go.Proofs.Ytblooekephkojaa
open Go Go.RowKit
set_option linter.unusedVariables false

section
variable {P : Program} {Q : Exit → Act → World → Prop}
theorem wpAny_mono_one {a0 : Act} {W : World} {l : List Oper} (S : Nat → Value → World → Prop) (g k : Nat) (I : Bool → World → Prop) (hkl : k < l.length) (hB : monB l = true) (hstart : I false (World.drew W))
    (hmono : ∀ i v w w', Below w.heap.size w w' → S i v w → S i v w') (hmonok : ∀ i v w w', Mod (fun x => x = g) w w' → S i v w → S i v w') (hI : ∀ b w w', Below w.heap.size w w' → I b w → I b w')
    (hstep : ∀ i, i < l.length → i ≠ k → ∀ (v : Nat → Value) b w, I b w → (∀ j ∈ depsOf l i, S j (v j) w) →
      wpOp P l.toArray Q i (fun a' w' => ∃ u, a' = (putAll v 0 l a0).put (dstOf l i) u ∧ S i u w' ∧ Below w.heap.size w w') (putAll v 0 l a0) w)
    (hstepk : ∀ (v : Nat → Value) w, I false w → (∀ j ∈ depsOf l k, S j (v j) w) →
      wpOp P l.toArray Q k (fun a' w' => ∃ u, a' = (putAll v 0 l a0).put (dstOf l k) u ∧ S k u w' ∧ Mod (fun x => x = g) w w' ∧ I true w') (putAll v 0 l a0) w)
    (hQ : ∀ (v : Nat → Value) w, I true w → (∀ i, i < l.length → S i (v i) w) → Q .normal (putAll v 0 l a0) w) : wpAny P .any l.toArray Q l.toArray.size (Array.replicate l.toArray.size false) a0 (World.drew W) := by
  simp only [monB, Bool.and_eq_true, decide_eq_true_eq, List.all_eq_true] at hB
  obtain ⟨⟨hh, hsome⟩, hnd⟩ := hB
  have hs : ∀ o ∈ l, o.dst ≠ none := fun o ho hn => by have := hsome o ho; rw [hn] at this; cases this
  have main : ∀ (fuel : Nat) (listed : Array Bool) (a : Act) (w : World), listed.size = l.length → cntF (fun i => !listed.getD i true) l.length ≤ fuel →
      (∃ v : Nat → Value, a = putAll v 0 l a0 ∧ I (listed.getD k true) w ∧ ∀ i, i < l.length → listed.getD i true = true → S i (v i) w) → wpAny P .any l.toArray Q fuel listed a w := by
    have hend : ∀ (listed : Array Bool) (a : Act) (w : World), listed.size = l.length → (∃ v : Nat → Value, a = putAll v 0 l a0 ∧ I (listed.getD k true) w ∧ ∀ i, i < l.length → listed.getD i true = true → S i (v i) w) →
        Region.ready .any l.toArray listed = [] → Q .normal a w := fun listed a w hsz ⟨v, ha, hb, hS⟩ hr => by
      have hall := head_done (n := l.length) (lh := listed) hh hsz (by rw [List.take_length]; exact hr)
      rw [ha]
      exact hQ v w (by rw [getD_tf (by omega), hall k hkl] at hb; exact hb) (fun i hi => hS i hi (by rw [getD_tf (by omega)]; exact hall i hi))
    intro fuel
    induction fuel with
    | zero =>
      intro listed a w hsz hc hI
      have hz := cntF_zero _ _ (Nat.le_zero.1 hc)
      have hr : Region.ready .any l.toArray listed = [] := by
        apply List.eq_nil_iff_forall_not_mem.2
        intro i hi
        obtain ⟨hun, o, ho, _⟩ := mem_ready.1 hi
        have hil : i < l.length := by simpa using (Array.getElem?_eq_some_iff.1 ho).1
        have := hz i hil
        simp only [Bool.not_eq_false'] at this
        rw [hun] at this; cases this
      exact ⟨hr, hend listed a w hsz hI hr⟩
    | succ fuel ih =>
      intro listed a w hsz hc hI
      refine ⟨hend listed a w hsz hI, fun i hi => ?_⟩
      obtain ⟨v, rfl, hb, hS⟩ := hI
      obtain ⟨hun, o, ho, hall⟩ := mem_ready.1 hi
      have ho' : l[i]? = some o := by simpa using ho
      have hil : i < l.length := (List.getElem?_eq_some_iff.1 ho').1
      have hdeps : ∀ j ∈ depsOf l i, S j (v j) w := (fun j hj => by
        unfold depsOf at hj
        rw [ho'] at hj
        obtain ⟨e, he, rfl⟩ := List.mem_map.1 hj
        obtain ⟨he1, he2⟩ := List.mem_filter.1 he
        obtain ⟨o2, ho2, hafter, _⟩ := headB_spec hh hil
        obtain rfl : o2 = o := Option.some.inj (ho2.symm.trans ho')
        have hlt : e.on < i := hafter e (by simpa using he1) he2
        exact hS e.on (by omega) (by rw [getD_tf (by omega)]; exact hall e (by simpa using he1) he2))
      have hdst : dstOf l i = o.dst := by unfold dstOf; rw [ho']
      have hgo : ∀ (a' : Act) (w' : World) (u : Value), a' = (putAll v 0 l a0).put (dstOf l i) u → S i u w' → (∀ j v, S j v w → S j v w') → I ((listed.setIfInBounds i true).getD k true) w' → wpAny P .any l.toArray Q fuel (listed.setIfInBounds i true) a' w' := fun a' w' u ha hSu hkeep hI' => by
        subst ha
        refine ih _ _ _ (by simp [hsz]) ?_ ⟨fun j => if j = i then u else v j, ?_, hI', fun j hj hl => ?_⟩
        · have := cntF_less (fun j => !listed.getD j true) (fun j => !(listed.setIfInBounds i true).getD j true) i (by rw [hun]; rfl) (by simp [hsz, hil]) (fun j hj => by rw [getD_set_ne true (Ne.symm hj)]) l.length hil
          omega
        · rw [hdst, putAll_upd v u l 0 i a0 o hnd hs ho']
          simp
        · by_cases hji : j = i
          · subst hji; simpa using hSu
          · show S j (if j = i then u else v j) _
            rw [if_neg hji]
            rw [getD_set_ne true (Ne.symm hji)] at hl
            exact hkeep j _ (hS j hj hl)
      by_cases hik : i = k
      · subst hik
        rw [hun] at hb
        refine wpOp_mono (fun a' w' hK => ?_) (hstepk v w hb hdeps)
        obtain ⟨u, ha, hSu, hmod, hI'⟩ := hK
        exact hgo a' w' u ha hSu (fun j v' hS' => hmonok j v' _ _ hmod hS') (by simp [hsz, hil]; exact hI')
      · refine wpOp_mono (fun a' w' hK => ?_) (hstep i hil hik v _ w hb hdeps)
        obtain ⟨u, ha, hSu, hbw⟩ := hK
        exact hgo a' w' u ha hSu (fun j v' hS' => hmono j v' _ _ hbw hS') (by rw [getD_set_ne true hik]; exact hI _ _ _ hbw hb)
  refine main _ _ _ _ (by simp) (Nat.le_trans (cntF_le _ _) (by simp)) ⟨fun i => match l[i]? with | some o => (match o.dst with | some d => a0.tmps.getD d undef | none => undef) | none => undef, ?_, by simpa [hkl] using hstart, fun i hi hl => ?_⟩
  · symm
    exact putAll_self a0 _ l 0 hs (fun k o d h1 h2 => by simp only [Nat.zero_add, h1, h2])
  · rw [getD_at (by simpa using hi)] at hl
    simp at hl


/-- The head is of operations that read, call and make memory, but for one (at k) that writes block g as well; the tail is forced. -/
theorem wp_region_each_one {id : Nat} {a0 : Act} {W : World} {l : List Oper} (n : Nat) (S : Nat → Value → World → Prop) (g k : Nat) (I : Bool → World → Prop) (hm : P.follows .mixedOrders = true) (hB : (headTailB l n && monB (l.take n) && decide (k < n)) = true) (hstart : I false (World.drew W))
    (hmono : ∀ i v w w', Below w.heap.size w w' → S i v w → S i v w') (hmonok : ∀ i v w w', Mod (fun x => x = g) w w' → S i v w → S i v w') (hI : ∀ b w w', Below w.heap.size w w' → I b w → I b w')
    (hstep : ∀ i o, (l.take n)[i]? = some o → i ≠ k → ∀ (v : Nat → Value) b w, I b w → (∀ j, (depsOf (l.take n) i).contains j = true → S j (v j) w) →
      ∀ K : Act → World → Prop, (∀ u w', S i u w' → Below w.heap.size w w' → K ((putAll v 0 (l.take n) a0).put o.dst u) w') → wpList P (l.take n).toArray (fun e a' w' => e = .normal ∧ K a' w') [o] (putAll v 0 (l.take n) a0) w)
    (hstepk : ∀ o, (l.take n)[k]? = some o → ∀ (v : Nat → Value) w, I false w → (∀ j, (depsOf (l.take n) k).contains j = true → S j (v j) w) →
      ∀ K : Act → World → Prop, (∀ u w', S k u w' → Mod (fun x => x = g) w w' → I true w' → K ((putAll v 0 (l.take n) a0).put o.dst u) w') → wpList P (l.take n).toArray (fun e a' w' => e = .normal ∧ K a' w') [o] (putAll v 0 (l.take n) a0) w)
    (hQ : ∀ (v : Nat → Value) w, I true w → (∀ i, i < (l.take n).length → S i (v i) w) → wpList P l.toArray Q (l.drop n) (putAll v 0 (l.take n) a0) w) : (Code.region id l.toArray true).wp P Q a0 W := by
  refine wp_region_any hm ?_
  show wpAny P .any l.toArray Q l.toArray.size (Array.replicate l.toArray.size false) a0 (World.drew W)
  rw [Bool.and_eq_true, Bool.and_eq_true, decide_eq_true_eq] at hB
  obtain ⟨⟨hB1, hmon⟩, hkn⟩ := hB
  simp only [headTailB, Bool.and_eq_true, decide_eq_true_eq] at hB1
  obtain ⟨⟨⟨⟨h1, h2⟩, h3⟩, h4⟩, h6⟩ := hB1
  have hln : (l.take n).length = n := by simp; omega
  have hdst : ∀ i (hi : i < (l.take n).length), dstOf (l.take n) i = (l.take n)[i].dst := fun i hi => by unfold dstOf; rw [List.getElem?_eq_getElem hi]
  have hany := wpAny_mono_one (P := P) (Q := fun e a' w' => e = .normal ∧ wpList P l.toArray Q (l.drop n) a' w') (W := W) (a0 := a0) S g k I (by omega) hmon hstart hmono hmonok hI (fun i hi hik v b w hb hd => by
      have ho : (l.take n)[i]? = some (l.take n)[i] := List.getElem?_eq_getElem hi
      exact wpOp_of_list (o := (l.take n)[i]) (by rw [List.getElem?_toArray]; exact ho) (hstep i (l.take n)[i] ho hik v b w hb (fun j hj => hd j (by simpa using hj)) (fun a' w' => ∃ u, a' = (putAll v 0 (l.take n) a0).put (dstOf (l.take n) i) u ∧ S i u w' ∧ Below w.heap.size w w')
        (fun u w' hS hB => ⟨u, by rw [hdst i hi], hS, hB⟩)))
    (fun v w hb hd => by
      have hi : k < (l.take n).length := by omega
      have ho : (l.take n)[k]? = some (l.take n)[k] := List.getElem?_eq_getElem hi
      exact wpOp_of_list (o := (l.take n)[k]) (by rw [List.getElem?_toArray]; exact ho) (hstepk (l.take n)[k] ho v w hb (fun j hj => hd j (by simpa using hj)) (fun a' w' => ∃ u, a' = (putAll v 0 (l.take n) a0).put (dstOf (l.take n) k) u ∧ S k u w' ∧ Mod (fun x => x = g) w w' ∧ I true w')
        (fun u w' hS hM hI => ⟨u, by rw [hdst k hi], hS, hM, hI⟩))) (fun v w hb hS => ⟨rfl, hQ v w hb hS⟩)
  have := wpAny_split (P := P) (md := .any) (Q := Q) (g := l.length - n) h1 h2 h3 h4 (Qh := fun e a' w' => e = .normal ∧ wpList P l.toArray Q (l.drop n) a' w') (fun e a w he hh => absurd hh.1 he)
    (fun a' w' hh => by
      have := wpAny_of_seq (md := .any) (P := P) (Q' := Q) (l.drop n) n (fullB l n) a' w' (fun j => by simp [List.getElem?_drop]) (by simpa using h6) hh.2
      simpa using this)
    _ (Array.replicate l.length false) (Array.replicate (l.take n).toArray.size false) a0 _
    ⟨by simp, by simpa using hln, fun i hi => by rw [getD_replicate_false, getD_replicate_false],
      ⟨by simp, fun j oj _ hl => (by rw [getD_replicate_false] at hl; cases hl), fun t _ ht => getD_in (by simpa using ht) (getD_replicate_false _ _)⟩⟩ hany
  rw [List.size_toArray, hln] at this
  rw [show n + (l.length - n) = l.length from by omega] at this
  simpa using this
end
end Go.Proofs.Ytblooekephkojaa

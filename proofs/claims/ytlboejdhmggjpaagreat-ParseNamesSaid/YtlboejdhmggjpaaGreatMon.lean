/- A drawn region whose head is walked in every order, its tail once. -/
import Derived.Test.YtlboejdhmggjpaaGreatTal
import Derived.RegionTactic
set_option linter.all false
namespace Go.Proofs.YtlboejdhmggjpaaGreat
open Go

section
variable {P : Program} {Q : Exit → Act → World → Prop}

def headTailB (l : List Oper) (n : Nat) : Bool :=
 headB .any l n && Region.sinkB .any l.toArray n && Region.chainB .any l.toArray n && decide (n < l.length) && Region.seqB .any l.toArray (l.length - n) n (fullB l n)

end
end Go.Proofs.YtlboejdhmggjpaaGreat

/- Mod -/
namespace Go.Proofs.YtlboejdhmggjpaaGreat
open Go.RowKit Go.BigFrame

structure Mod (S : Nat → Prop) (w w' : World) : Prop where
 os : w'.os = w.os
 tape : w'.tape = w.tape
 output : w'.output = w.output
 size : w.heap.size ≤ w'.heap.size
 block : ∀ k, k < w.heap.size → ¬ S k → w'.heap[k]? = w.heap[k]?
theorem Mod.refl (S : Nat → Prop) (w : World) : Mod S w w := ⟨rfl, rfl, rfl, Nat.le_refl _, fun _ _ _ => rfl⟩
theorem Mod.trans {S : Nat → Prop} {a b c : World} (h : Mod S a b) (k : Mod S b c) : Mod S a c :=
 ⟨k.os.trans h.os, k.tape.trans h.tape, k.output.trans h.output, Nat.le_trans h.size k.size, fun i hi hs => (k.block i (Nat.lt_of_lt_of_le hi h.size) hs).trans (h.block i hi hs)⟩
theorem Mod.mono {S T : Nat → Prop} {a b : World} (h : Mod S a b) (hST : ∀ k, k < a.heap.size → S k → T k) : Mod T a b :=
 ⟨h.os, h.tape, h.output, h.size, fun i hi hs => h.block i hi (fun hh => hs (hST i hi hh))⟩
theorem Mod.drewN (S : Nat → Prop) (w : World) (n : Nat) : Mod S w (w.drewN n) := ⟨rfl, rfl, rfl, Nat.le_refl _, fun _ _ _ => rfl⟩
theorem Mod.setCell {S : Nat → Prop} {a w : World} (h : Mod S a w) (p : Addr) (hp : a.heap.size ≤ p.block ∨ S p.block) (u : Value) : Mod S a (w.setCell p u) :=
 ⟨h.os, h.tape, h.output, by simpa using h.size, fun k hk hs => by
  rw [Below.heap_setCell _ _ _ _ (fun e => by
   subst e
   rcases hp with hp | hp
   ·omega
   ·exact hs hp)]
  exact h.block k hk hs⟩
theorem Mod.of_below {w w' : World} {S : Nat → Prop} (h : Below w.heap.size w w') : Mod S w w' := ⟨h.os, h.tape, h.output, h.size, fun k hk _ => h.block k hk⟩
theorem Mod.below {w w' : World} {S : Nat → Prop} {B : Nat} (h : Mod S w w') (hB : B ≤ w.heap.size) (hS : ∀ k, S k → B ≤ k) : Below B w w' :=
 ⟨h.os, h.tape, h.output, h.size, fun k hk => h.block k (by omega) (fun hs => by have := hS k hs; omega)⟩
theorem Mod.alloc {S : Nat → Prop} {a w : World} (h : Mod S a w) (o : Obj) : Mod S a (w.alloc o) :=
 ⟨h.os, h.tape, h.output, by have := h.size; simp; omega, fun k hk hs => (Below.heap_alloc w o k (by have := h.size; omega)).trans (h.block k hk hs)⟩
theorem Mod.keep {S : Nat → Prop} {w w' : World} (h : Mod S w w') {k : Nat} {o : Obj} (hk : w.heap[k]? = some o) (hs : ¬ S k) : w'.heap[k]? = some o :=
 (h.block k (Array.getElem?_eq_some_iff.1 hk).1 hs).trans hk

end Go.Proofs.YtlboejdhmggjpaaGreat

/- Mon -/
namespace Go.Proofs.YtlboejdhmggjpaaGreat
open Go Go.RowKit

section
variable {P : Program} {Q : Exit → Act → World → Prop}

def putAll (v : Nat → Value) : Nat → List Oper → Act → Act
 | _, [], a => a
 | i, o :: l, a => putAll v (i + 1) l (a.put o.dst (v i))

theorem put_twice (a : Act) (x : Option Tmp) (u v : Value) : (a.put x u).put x v = a.put x v := by
 cases x with
 | none => rfl
 | some d =>
  simp only [Act.put]
  congr 1
  apply Array.ext
  ·simp
  ·intro i h1 h2
   simp only [Array.size_setIfInBounds] at h1 h2
   by_cases hi : d = i
   ·subst hi; simp
   ·simp

theorem putAll_put (v : Nat → Value) (x : Option Tmp) (u : Value) : ∀ (l : List Oper) (i : Nat) (a : Act), (∀ o ∈ l, ∀ d, o.dst = some d → x ≠ some d) → putAll v i l (a.put x u) = (putAll v i l a).put x u
 | [], i, a, _ => rfl
 | o :: l, i, a, h => by
  unfold putAll
  rw [← putAll_put v x u l (i + 1) (a.put o.dst (v i)) (fun o' ho' => h o' (List.mem_cons_of_mem _ ho'))]
  congr 1
  exact (Act.put_comm a (v i) u (fun d hd => h o List.mem_cons_self d hd)).symm ▸ rfl

theorem putAll_congr (v v' : Nat → Value) : ∀ (l : List Oper) (i : Nat) (a : Act), (∀ j, i ≤ j → v j = v' j) → putAll v i l a = putAll v' i l a
 | [], i, a, _ => rfl
 | o :: l, i, a, h => by
  unfold putAll
  rw [h i (Nat.le_refl _)]
  exact putAll_congr v v' l (i + 1) _ (fun j hj => h j (by omega))

theorem putAll_upd (v : Nat → Value) (u : Value) : ∀ (l : List Oper) (i k : Nat) (a : Act) (o : Oper), (l.map (·.dst)).Nodup → (∀ o ∈ l, o.dst ≠ none) → l[k]? = some o → (putAll v i l a).put o.dst u = putAll (fun j => if j = i + k then u else v j) i l a
 | [], i, k, a, o, _, _, h => by simp at h
 | o' :: l, i, 0, a, o, hn, hs, h => by
  obtain rfl : o' = o := by simpa using h
  simp only [List.map_cons, List.nodup_cons] at hn
  unfold putAll
  rw [← putAll_put v o'.dst u l (i + 1) _ (fun o2 ho2 d hd heq => hn.1 (List.mem_map.2 ⟨o2, ho2, by rw [hd, heq]⟩)), put_twice]
  simp only [Nat.add_zero, if_true]
  exact putAll_congr v _ l (i + 1) _ (fun j hj => by rw [if_neg (by omega)])
 | o' :: l, i, k + 1, a, o, hn, hs, h => by
  simp only [List.map_cons, List.nodup_cons] at hn
  have ih := putAll_upd v u l (i + 1) k (a.put o'.dst (v i)) o hn.2 (fun o ho => hs o (List.mem_cons_of_mem _ ho)) (by simpa using h)
  unfold putAll
  rw [ih]
  have e1 : (if i = i + (k + 1) then u else v i) = v i := if_neg (by omega)
  rw [e1]
  exact putAll_congr _ _ l (i + 1) _ (fun j hj => by rw [show i + 1 + k = i + (k + 1) from by omega])

theorem put_self (a : Act) (d : Tmp) : a.put (some d) (a.tmps.getD d undef) = a := by
 cases a with
 | mk t df =>
  simp only [Act.put, Act.mk.injEq, and_true]
  apply Array.ext
  ·simp
  ·intro i h1 h2
   by_cases hi : d = i
   ·subst hi; simp [h2]
   ·exact Array.getElem_setIfInBounds_ne h2 hi
theorem putAll_self (a : Act) (v : Nat → Value) : ∀ (l : List Oper) (i : Nat), (∀ o ∈ l, o.dst ≠ none) → (∀ k o d, l[k]? = some o → o.dst = some d → v (i + k) = a.tmps.getD d undef) → putAll v i l a = a
 | [], i, _, _ => rfl
 | o :: l, i, hs, h => by
  unfold putAll
  cases hd : o.dst with
  | none => exact absurd hd (hs o List.mem_cons_self)
  | some d =>
   rw [show v i = a.tmps.getD d undef from h 0 o d rfl hd, put_self]
   exact putAll_self a v l (i + 1) (fun o ho => hs o (List.mem_cons_of_mem _ ho)) (fun k o d h1 h2 => by
    rw [show i + 1 + k = i + (k + 1) from by omega]; exact h (k + 1) o d (by simpa using h1) h2)

def cntF (f : Nat → Bool) : Nat → Nat
 | 0 => 0
 | n + 1 => cntF f n + (if f n = true then 1 else 0)
theorem cntF_le (f : Nat → Bool) : ∀ n, cntF f n ≤ n
 | 0 => Nat.le_refl _
 | n + 1 => by have := cntF_le f n; unfold cntF; split <;> omega
theorem cntF_zero (f : Nat → Bool) : ∀ n, cntF f n = 0 → ∀ i, i < n → f i = false
 | 0, _, i, hi => by omega
 | n + 1, h, i, hi => by
  unfold cntF at h
  by_cases hin : i = n
  ·subst hin
   cases hf : f i with
   | false => rfl
   | true => rw [hf] at h; simp at h
  ·exact cntF_zero f n (by omega) i (by omega)
theorem cntF_same (f g : Nat → Bool) : ∀ n, (∀ j, j < n → f j = g j) → cntF f n = cntF g n
 | 0, _ => rfl
 | n + 1, h => by unfold cntF; rw [cntF_same f g n (fun j hj => h j (by omega)), h n (by omega)]
theorem cntF_less (f g : Nat → Bool) (i : Nat) (hf : f i = true) (hg : g i = false) (h : ∀ j, j ≠ i → g j = f j) : ∀ n, i < n → cntF g n + 1 = cntF f n
 | 0, hi => by omega
 | n + 1, hi => by
  unfold cntF
  by_cases hin : i = n
  ·subst hin
   rw [hf, hg, cntF_same g f i (fun j hj => h j (by omega))]; simp
  ·rw [h n (by omega)]
   have := cntF_less f g i hf hg h n (by omega)
   omega

def monB (l : List Oper) : Bool := headB .any l l.length && l.all (fun o => o.dst.isSome) && decide ((l.map (·.dst)).Nodup)
def depsOf (l : List Oper) (i : Nat) : List Nat :=
 match l[i]? with
 | none => []
 | some o => (o.after.toList.filter (fun e => Region.binds .any e)).map (·.on)
def dstOf (l : List Oper) (i : Nat) : Option Tmp :=
 match l[i]? with
 | none => none
 | some o => o.dst

theorem wpAny_mono {a0 : Act} {W : World} {l : List Oper} (S : Nat → Value → World → Prop) (hB : monB l = true)
  (hmono : ∀ i v w w', Below w.heap.size w w' → S i v w → S i v w')
  (hstep : ∀ i, i < l.length → ∀ (v : Nat → Value) w, Below W.heap.size W w → (∀ j ∈ depsOf l i, S j (v j) w) →
   wpOp P l.toArray Q i (fun a' w' => ∃ u, a' = (putAll v 0 l a0).put (dstOf l i) u ∧ S i u w' ∧ Below w.heap.size w w') (putAll v 0 l a0) w)
  (hQ : ∀ (v : Nat → Value) w, Below W.heap.size W w → (∀ i, i < l.length → S i (v i) w) → Q .normal (putAll v 0 l a0) w) : wpAny P .any l.toArray Q l.toArray.size (Array.replicate l.toArray.size false) a0 (World.drew W) := by
 simp only [monB, Bool.and_eq_true, decide_eq_true_eq, List.all_eq_true] at hB
 obtain ⟨⟨hh, hsome⟩, hnd⟩ := hB
 have hs : ∀ o ∈ l, o.dst ≠ none := fun o ho hn => by have := hsome o ho; rw [hn] at this; cases this
 have main : ∀ (fuel : Nat) (listed : Array Bool) (a : Act) (w : World), listed.size = l.length → cntF (fun i => !listed.getD i true) l.length ≤ fuel →
   (∃ v : Nat → Value, a = putAll v 0 l a0 ∧ Below W.heap.size W w ∧ ∀ i, i < l.length → listed.getD i true = true → S i (v i) w) → wpAny P .any l.toArray Q fuel listed a w := by
  have hend : ∀ (listed : Array Bool) (a : Act) (w : World), listed.size = l.length → (∃ v : Nat → Value, a = putAll v 0 l a0 ∧ Below W.heap.size W w ∧ ∀ i, i < l.length → listed.getD i true = true → S i (v i) w) →
    Region.ready .any l.toArray listed = [] → Q .normal a w := fun listed a w hsz ⟨v, ha, hb, hS⟩ hr => by
   have hall := head_done (n := l.length) (lh := listed) hh hsz (by rw [List.take_length]; exact hr)
   rw [ha]
   exact hQ v w hb (fun i hi => hS i hi (by rw [getD_tf (by omega)]; exact hall i hi))
  intro fuel
  induction fuel with
  | zero =>
   intro listed a w hsz hc hI
   have hz := cntF_zero _ _ (Nat.le_zero.1 hc)
   have hr : Region.ready .any l.toArray listed = [] := by
    apply List.eq_nil_iff_forall_not_mem.2
    intro i hi
    obtain ⟨hun, o, ho, _⟩ := mem_ready.1 hi
    have hil : i < l.length := by simpa using (Array.getElem?_eq_some_iff.1 ho).1
    have := hz i hil
    simp only [Bool.not_eq_false'] at this
    rw [hun] at this; cases this
   exact ⟨hr, hend listed a w hsz hI hr⟩
  | succ fuel ih =>
   intro listed a w hsz hc hI
   refine ⟨hend listed a w hsz hI, fun i hi => ?_⟩
   obtain ⟨v, rfl, hb, hS⟩ := hI
   obtain ⟨hun, o, ho, hall⟩ := mem_ready.1 hi
   have ho' : l[i]? = some o := by simpa using ho
   have hil : i < l.length := (List.getElem?_eq_some_iff.1 ho').1
   have hst := hstep i hil v w hb (fun j hj => by
    unfold depsOf at hj
    rw [ho'] at hj
    obtain ⟨e, he, rfl⟩ := List.mem_map.1 hj
    obtain ⟨he1, he2⟩ := List.mem_filter.1 he
    obtain ⟨o2, ho2, hafter, _⟩ := headB_spec hh hil
    obtain rfl : o2 = o := Option.some.inj (ho2.symm.trans ho')
    have hlt : e.on < i := hafter e (by simpa using he1) he2
    exact hS e.on (by omega) (by rw [getD_tf (by omega)]; exact hall e (by simpa using he1) he2))
   refine wpOp_mono (fun a' w' hK => ?_) hst
   obtain ⟨u, rfl, hSu, hbw⟩ := hK
   have hdst : dstOf l i = o.dst := by unfold dstOf; rw [ho']
   refine ih _ _ _ (by simp [hsz]) ?_ ⟨fun j => if j = i then u else v j, ?_, hb.trans (hbw.mono hb.size), fun j hj hl => ?_⟩
   ·have := cntF_less (fun j => !listed.getD j true) (fun j => !(listed.setIfInBounds i true).getD j true) i (by rw [hun]; rfl) (by simp [hsz, hil]) (fun j hj => by rw [getD_set_ne true (Ne.symm hj)]) l.length hil
    omega
   ·rw [hdst, putAll_upd v u l 0 i a0 o hnd hs ho']
    simp
   ·by_cases hji : j = i
    ·subst hji; simpa using hSu
    ·show S j (if j = i then u else v j) _
     rw [if_neg hji]
     rw [getD_set_ne true (Ne.symm hji)] at hl
     exact hmono j _ _ _ hbw (hS j hj hl)
 refine main _ _ _ _ (by simp) (Nat.le_trans (cntF_le _ _) (by simp)) ⟨fun i => match l[i]? with | some o => (match o.dst with | some d => a0.tmps.getD d undef | none => undef) | none => undef, ?_, (Below.refl _ _).drew, fun i hi hl => ?_⟩
 ·symm
  exact putAll_self a0 _ l 0 hs (fun k o d h1 h2 => by simp only [Nat.zero_add, h1, h2])
 ·rw [getD_at (by simpa using hi)] at hl
  simp at hl

theorem wpOp_of_list {ops : Array Oper} {i : Nat} {o : Oper} {K : Act → World → Prop} {a : Act} {w : World} (h0 : ops[i]? = some o) (h : wpList P ops (fun e a' w' => e = .normal ∧ K a' w') [o] a w) : wpOp P ops Q i K a w := by
 unfold wpOp
 rw [h0]
 unfold wpList at h
 dsimp only
 split
 ·rename_i hwt
  rw [if_pos hwt] at h
  rcases h with h | ⟨hasks, a', w', hq⟩
  ·left
   unfold Oper.wp at *
   generalize (execOp a.eval o).run P w = r at *
   cases r with
   | ok x w' =>
    cases x <;> simp only [Oper.upon] at h ⊢ <;> try first | exact h.2 | exact h
    all_goals first
     | exact Calls.mono h (fun e w'' he => by
       cases e with
       | returned u => exact he.2
       | panicked c => cases he.1
       | outgrown => obtain ⟨a', w', hq⟩ := he; cases hq.1)
     | exact Rows.mono h (fun v w'' he => he.2)
   | halt x w' =>
    cases x <;> simp only [Oper.upon] at h ⊢ <;> first | exact h | (cases h.1)
  ·cases hq.1
 ·rename_i hwt
  rw [if_neg hwt] at h
  exact h.2

/-- A head of such operations, in whatever order, and a forced tail. -/
theorem wp_region_each_tail {id : Nat} {a0 : Act} {W : World} {l : List Oper} (n : Nat) (S : Nat → Value → World → Prop) (hm : P.follows .mixedOrders = true) (hB : (headTailB l n && monB (l.take n)) = true)
    (hmono : ∀ i v w w', Below w.heap.size w w' → S i v w → S i v w')
    (hstep : ∀ i o, (l.take n)[i]? = some o → ∀ (v : Nat → Value) w, Below W.heap.size W w → (∀ j, (depsOf (l.take n) i).contains j = true → S j (v j) w) →
      ∀ K : Act → World → Prop, (∀ u w', S i u w' → Below w.heap.size w w' → K ((putAll v 0 (l.take n) a0).put o.dst u) w') → wpList P (l.take n).toArray (fun e a' w' => e = .normal ∧ K a' w') [o] (putAll v 0 (l.take n) a0) w)
    (hQ : ∀ (v : Nat → Value) w, Below W.heap.size W w → (∀ i, i < (l.take n).length → S i (v i) w) → wpList P l.toArray Q (l.drop n) (putAll v 0 (l.take n) a0) w) : (Code.region id l.toArray true).wp P Q a0 W := by
  refine wp_region_any hm ?_
  show wpAny P .any l.toArray Q l.toArray.size (Array.replicate l.toArray.size false) a0 (World.drew W)
  rw [Bool.and_eq_true] at hB
  obtain ⟨hB1, hmon⟩ := hB
  simp only [headTailB, Bool.and_eq_true, decide_eq_true_eq] at hB1
  obtain ⟨⟨⟨⟨h1, h2⟩, h3⟩, h4⟩, h6⟩ := hB1
  have hln : (l.take n).length = n := by simp; omega
  have hany := wpAny_mono (P := P) (Q := fun e a' w' => e = .normal ∧ wpList P l.toArray Q (l.drop n) a' w') (W := W) (a0 := a0) S hmon hmono (fun i hi v w hb hd => by
      have ho : (l.take n)[i]? = some (l.take n)[i] := List.getElem?_eq_getElem hi
      exact wpOp_of_list (o := (l.take n)[i]) (by rw [List.getElem?_toArray]; exact ho) (hstep i (l.take n)[i] ho v w hb (fun j hj => hd j (by simpa using hj)) (fun a' w' => ∃ u, a' = (putAll v 0 (l.take n) a0).put (dstOf (l.take n) i) u ∧ S i u w' ∧ Below w.heap.size w w')
        (fun u w' hS hB => ⟨u, by rw [show dstOf (l.take n) i = (l.take n)[i].dst from by unfold dstOf; rw [ho]], hS, hB⟩))) (fun v w hb hS => ⟨rfl, hQ v w hb hS⟩)
  have := wpAny_split (P := P) (md := .any) (Q := Q) (g := l.length - n) h1 h2 h3 h4 (Qh := fun e a' w' => e = .normal ∧ wpList P l.toArray Q (l.drop n) a' w') (fun e a w he hh => absurd hh.1 he)
    (fun a' w' hh => by
      have := wpAny_of_seq (md := .any) (P := P) (Q' := Q) (l.drop n) n (fullB l n) a' w' (fun j => by simp [List.getElem?_drop]) (by simpa using h6) hh.2
      simpa using this)
    _ (Array.replicate l.length false) (Array.replicate (l.take n).toArray.size false) a0 _
    ⟨by simp, by simpa using hln, fun i hi => by rw [getD_replicate_false, getD_replicate_false],
      ⟨by simp, fun j oj _ hl => (by rw [getD_replicate_false] at hl; cases hl), fun t _ ht => getD_in (by simpa using ht) (getD_replicate_false _ _)⟩⟩ hany
  rw [List.size_toArray, hln] at this
  rw [show n + (l.length - n) = l.length from by omega] at this
  simpa using this
end
end Go.Proofs.YtlboejdhmggjpaaGreat

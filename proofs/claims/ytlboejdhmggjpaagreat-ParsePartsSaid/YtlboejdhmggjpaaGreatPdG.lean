/- Plain: nodes with parents behind their children, and ahead of them. -/
import Derived.Test.YtlboejdhmggjpaaGreatPbA
set_option linter.all false
namespace Go.Proofs.YtlboejdhmggjpaaGreat.Pp

inductive Bt : Nat → Nat → List Nd → List Nd → Prop
 | nil {a b : Nat} (h : a ≤ b) : Bt a b [] []
 | snoc {a m lo hi b k : Nat} {F F' K K' : List Nd} (h1 : Bt a m F F') (h2 : m ≤ lo) (h3 : Bt lo hi K K') (h4 : hi ≤ b) (h5 : 1 ≤ k ∧ k ≤ 58) : Bt a b (F ++ (K ++ [⟨k, lo, hi, K.length + 1⟩])) (F' ++ (⟨k, lo, hi, K.length + 1⟩ :: K'))
theorem Fo.both {a b : Nat} {L : List Nd} (h : Fo a b L) : ∃ P, Bt a b L P := by
 induction h with
 | nil h => exact ⟨[], .nil h⟩
 | snoc h1 h2 h3 h4 h5 i1 i3 =>
  obtain ⟨F', i1⟩ := i1
  obtain ⟨K', i3⟩ := i3
  exact ⟨_, .snoc i1 h2 i3 h4 h5⟩
theorem Bt.len {a b : Nat} {L P : List Nd} (h : Bt a b L P) : P.length = L.length := by
 induction h with
 | nil h => rfl
 | snoc h1 h2 h3 h4 h5 i1 i3 => simp only [List.length_append, List.length_cons, List.length_nil, i1, i3]
theorem Bt.le {a b : Nat} {L P : List Nd} (h : Bt a b L P) : a ≤ b := by
 induction h with
 | nil h => exact h
 | snoc h1 h2 h3 h4 h5 i1 i3 => omega
inductive Fp : Nat → Nat → List Nd → Prop
 | nil {a b : Nat} (h : a ≤ b) : Fp a b []
 | cons {a lo hi b k : Nat} {K R : List Nd} (h2 : a ≤ lo) (h3 : Fp lo hi K) (h4 : 1 ≤ k ∧ k ≤ 58) (h5 : Fp hi b R) : Fp a b (⟨k, lo, hi, K.length + 1⟩ :: (K ++ R))
theorem Fp.le {a b : Nat} {L : List Nd} (h : Fp a b L) : a ≤ b := by
 induction h with
 | nil h => exact h
 | cons h2 h3 h4 h5 i3 i5 => omega
theorem Fp.mono {a b b' : Nat} {L : List Nd} (h : Fp a b L) : b ≤ b' → Fp a b' L := by
 induction h with
 | nil h => exact fun hb => .nil (Nat.le_trans h hb)
 | cons h2 h3 h4 h5 i3 i5 => exact fun hb => .cons h2 h3 h4 (i5 hb)
theorem Fp.less {a a' b : Nat} {L : List Nd} (h : Fp a b L) (ha : a' ≤ a) : Fp a' b L := by
 cases h with
 | nil h => exact .nil (Nat.le_trans ha h)
 | cons h2 h3 h4 h5 => exact .cons (Nat.le_trans ha h2) h3 h4 h5
theorem Fp.append {a m b : Nat} {F L : List Nd} (h : Fp a m F) : Fp m b L → Fp a b (F ++ L) := by
 induction h with
 | nil h => exact fun k => k.less h
 | cons h2 h3 h4 h5 i3 i5 =>
  intro k
  rw [List.cons_append, List.append_assoc]
  exact .cons h2 h3 h4 (i5 k)
theorem Bt.pre {a b : Nat} {L P : List Nd} (h : Bt a b L P) : Fp a b P := by
 induction h with
 | nil h => exact .nil h
 | @snoc a m lo hi b k F F' K K' h1 h2 h3 h4 h5 i1 i3 =>
  refine i1.append ?_
  have := Fp.cons (k := k) h2 i3 h5 (.nil h4)
  rwa [List.append_nil, h3.len] at this
theorem Fp.at' {a b : Nat} {P : List Nd} (h : Fp a b P) : ∀ i, i < P.length → ∃ X r K R, P = X ++ r :: (K ++ R) ∧ X.length = i ∧ r.sz = K.length + 1 ∧ Fp r.lo r.hi K ∧ 1 ≤ r.k ∧ r.k ≤ 58 := by
 induction h with
 | nil h => intro i hi; simp at hi
 | @cons a lo hj b k K R h2 h3 h4 h5 i3 i5 =>
  intro i hi
  cases i with
  | zero => exact ⟨[], _, K, R, rfl, rfl, rfl, h3, h4.1, h4.2⟩
  | succ i =>
   by_cases hK : i < K.length
   ·obtain ⟨X, r, K1, R1, e, hX, q⟩ := i3 i hK
    refine ⟨⟨k, lo, hj, K.length + 1⟩ :: X, r, K1, R1 ++ R, ?_, by simp [hX], q⟩
    show _ :: (K ++ R) = _ :: X ++ r :: (K1 ++ (R1 ++ R))
    rw [List.cons_append]
    congr 1
    rw [e]
    simp [List.append_assoc]
   ·have hR : i - K.length < R.length := by simp only [List.length_cons, List.length_append] at hi; omega
    obtain ⟨X, r, K1, R1, e, hX, q⟩ := i5 _ hR
    refine ⟨⟨k, lo, hj, K.length + 1⟩ :: (K ++ X), r, K1, R1, ?_, ?_, q⟩
    ·rw [e]; simp [List.append_assoc]
    ·simp only [List.length_cons, List.length_append, hX]; omega

def n0 : Nd := ⟨0, 0, 0, 0⟩
def kidL (W : List Nd) : Nat → Nat → Nat → List Nat
 | 0, _, _ => []
 | n + 1, left, k => if left = 0 then [] else k :: kidL W n (left - (W.getD k n0).sz) (k - (W.getD k n0).sz)
def putK (W : List Nd) : List Nat → Nat → List Nat → List Nat
 | [], _, pl => pl
 | k :: ks, e, pl => putK W ks (e - (W.getD k n0).sz) (pl.set k (e - (W.getD k n0).sz))
def ahS (W : List Nd) (i : Nat) (st : List Nat × List Nd) : List Nat × List Nd :=
 (putK W (kidL W ((W.getD i n0).sz - 1) ((W.getD i n0).sz - 1) (i - 1)) (st.1.getD i 0 + (W.getD i n0).sz) st.1, st.2.set (st.1.getD i 0) (W.getD i n0))
def ahN (W : List Nd) : Nat → Nat → List Nat × List Nd → List Nat × List Nd
 | 0, _, st => st
 | m + 1, t, st => ahN W m (t - 1) (ahS W (t - 1) st)
theorem ahN_add (W : List Nd) : ∀ (m1 m2 t : Nat) (st : List Nat × List Nd), ahN W (m1 + m2) t st = ahN W m2 (t - m1) (ahN W m1 t st)
 | 0, m2, t, st => by rw [Nat.zero_add]; rfl
 | m1 + 1, m2, t, st => by
  rw [show m1 + 1 + m2 = (m1 + m2) + 1 by omega]
  show ahN W (m1 + m2) (t - 1) _ = _
  rw [ahN_add W m1 m2 (t - 1), show t - 1 - m1 = t - (m1 + 1) by omega]
  rfl
theorem putK_len (W : List Nd) : ∀ (ks : List Nat) (e : Nat) (pl : List Nat), (putK W ks e pl).length = pl.length
 | [], _, _ => rfl
 | k :: ks, e, pl => by unfold putK; rw [putK_len W ks, List.length_set]
theorem ahS_len (W : List Nd) (i : Nat) (st : List Nat × List Nd) : (ahS W i st).1.length = st.1.length ∧ (ahS W i st).2.length = st.2.length := ⟨putK_len _ _ _ _, List.length_set⟩
theorem ahN_len (W : List Nd) : ∀ (m t : Nat) (st : List Nat × List Nd), (ahN W m t st).1.length = st.1.length ∧ (ahN W m t st).2.length = st.2.length
 | 0, _, _ => ⟨rfl, rfl⟩
 | m + 1, t, st => by
  have h := ahN_len W m (t - 1) (ahS W (t - 1) st)
  have h2 := ahS_len W (t - 1) st
  exact ⟨h.1.trans h2.1, h.2.trans h2.2⟩
inductive Rt (pl : List Nat) (c o : Nat) : List Nd → Prop
 | nil : Rt pl c o []
 | snoc {F K : List Nd} {r : Nd} (h1 : Rt pl c o F) (h2 : pl[c + F.length + K.length]? = some (o + F.length)) (h3 : r.sz = K.length + 1) : Rt pl c o (F ++ (K ++ [r]))
theorem Rt.inv {pl : List Nat} {c o : Nat} {F K : List Nd} {r : Nd} (h : Rt pl c o (F ++ (K ++ [r]))) (hr : r.sz = K.length + 1) : Rt pl c o F ∧ pl[c + F.length + K.length]? = some (o + F.length) := by
 generalize hL : F ++ (K ++ [r]) = L at h
 cases h with
 | nil => simp at hL
 | @snoc F1 K1 r1 h1 h2 h3 =>
  rw [← List.append_assoc, ← List.append_assoc] at hL
  obtain ⟨e1, e2⟩ := List.append_inj' hL rfl
  simp only [List.cons.injEq, and_true] at e2
  subst e2
  obtain ⟨e3, e4⟩ := List.append_inj' e1 (by omega)
  subst e3 e4
  exact ⟨h1, h2⟩
theorem Rt.congr {pl pl' : List Nat} {c o : Nat} {F : List Nd} (h : Rt pl c o F) : (∀ j, c ≤ j → j < c + F.length → pl'[j]? = pl[j]?) → Rt pl' c o F := by
 induction h with
 | nil => exact fun _ => .nil
 | @snoc F K r h1 h2 h3 i1 =>
  intro hj
  simp only [List.length_append, List.length_cons, List.length_nil] at hj
  refine .snoc (i1 fun j a b => hj j a (by omega)) ?_ h3
  rw [hj _ (by omega) (by omega)]
  exact h2
theorem getD_mid {A B : List Nd} {r : Nd} (W : List Nd) (i : Nat) (h : W = A ++ r :: B) (hi : i = A.length) : W.getD i n0 = r := by
 subst h hi
 simp
theorem kids_rt {a b : Nat} {K K' : List Nd} (h : Bt a b K K') : ∀ (A B W : List Nd) (n o : Nat) (pl : List Nat), W = A ++ (K ++ B) → K.length ≤ n → pl.length = W.length →
  Rt (putK W (kidL W n K.length (A.length + K.length - 1)) (o + K.length) pl) A.length o K ∧ ∀ j, (j < A.length ∨ A.length + K.length ≤ j) → (putK W (kidL W n K.length (A.length + K.length - 1)) (o + K.length) pl)[j]? = pl[j]? := by
 induction h with
 | nil h =>
  intro A B W n o pl hW hn hl
  have : kidL W n (List.length ([] : List Nd)) (A.length + List.length ([] : List Nd) - 1) = [] := by cases n <;> rfl
  rw [this]
  exact ⟨.nil, fun j _ => rfl⟩
 | @snoc a m lo hi b k F F' M M' h1 h2 h3 h4 h5 i1 i3 =>
  intro A B W n o pl hW hn hl
  have hlen : (F ++ (M ++ [(⟨k, lo, hi, M.length + 1⟩ : Nd)])).length = F.length + M.length + 1 := by simp only [List.length_append, List.length_cons, List.length_nil]; omega
  rw [hlen] at hn ⊢
  obtain ⟨n', rfl⟩ : ∃ n', n = n' + 1 := ⟨n - 1, by omega⟩
  have hWl : W.length = A.length + F.length + M.length + 1 + B.length := by rw [hW]; simp only [List.length_append, List.length_cons, List.length_nil]; omega
  have hr : W.getD (A.length + (F.length + M.length + 1) - 1) n0 = ⟨k, lo, hi, M.length + 1⟩ := getD_mid (A := A ++ (F ++ M)) (B := B) W _ (by rw [hW]; simp [List.append_assoc]) (by simp only [List.length_append]; omega)
  have hk : kidL W (n' + 1) (F.length + M.length + 1) (A.length + (F.length + M.length + 1) - 1) = (A.length + F.length + M.length) :: kidL W n' F.length (A.length + F.length - 1) := by
   conv => lhs; unfold kidL
   rw [if_neg (by omega), hr]
   show (A.length + (F.length + M.length + 1) - 1) :: kidL W n' (F.length + M.length + 1 - (M.length + 1)) (A.length + (F.length + M.length + 1) - 1 - (M.length + 1)) = _
   congr 1
   ·omega
   ·congr 1 <;> omega
  have hr2 : W.getD (A.length + F.length + M.length) n0 = ⟨k, lo, hi, M.length + 1⟩ := by rw [← hr]; congr 1; omega
  have hp : putK W ((A.length + F.length + M.length) :: kidL W n' F.length (A.length + F.length - 1)) (o + (F.length + M.length + 1)) pl = putK W (kidL W n' F.length (A.length + F.length - 1)) (o + F.length) (pl.set (A.length + F.length + M.length) (o + F.length)) := by
   conv => lhs; unfold putK
   rw [hr2]
   show putK W _ (o + (F.length + M.length + 1) - (M.length + 1)) (pl.set _ (o + (F.length + M.length + 1) - (M.length + 1))) = _
   rw [show o + (F.length + M.length + 1) - (M.length + 1) = o + F.length by omega]
  rw [hk, hp]
  obtain ⟨q1, q2⟩ := i1 A (M ++ [⟨k, lo, hi, M.length + 1⟩] ++ B) W n' o (pl.set (A.length + F.length + M.length) (o + F.length)) (by rw [hW]; simp [List.append_assoc]) (by omega) (by rw [List.length_set]; exact hl)
  refine ⟨.snoc q1 ?_ rfl, fun j hj => ?_⟩
  ·rw [q2 _ (.inr (by omega)), List.getElem?_set_self (by omega)]
  ·rw [q2 j (by omega), List.getElem?_set_ne (by omega)]
theorem ahead_seg {a b : Nat} {L P : List Nd} (h : Bt a b L P) : ∀ (A B W : List Nd) (o : Nat) (st : List Nat × List Nd), W = A ++ (L ++ B) → Rt st.1 A.length o L → st.1.length = W.length → o + L.length ≤ st.2.length →
  (∀ j, (ahN W L.length (A.length + L.length) st).2[j]? = if o ≤ j ∧ j < o + L.length then P[j - o]? else st.2[j]?) ∧ ∀ j, (j < A.length ∨ A.length + L.length ≤ j) → (ahN W L.length (A.length + L.length) st).1[j]? = st.1[j]? := by
 induction h with
 | nil h =>
  intro A B W o st hW hR hl ho
  refine ⟨fun j => ?_, fun j _ => rfl⟩
  rw [if_neg (by simp only [List.length_nil]; omega)]
  rfl
 | @snoc a m lo hi b k F F' K K' h1 h2 h3 h4 h5 i1 i3 =>
  intro A B W o st hW hR hl ho
  have hlen : (F ++ (K ++ [(⟨k, lo, hi, K.length + 1⟩ : Nd)])).length = 1 + (K.length + F.length) := by simp only [List.length_append, List.length_cons, List.length_nil]; omega
  obtain ⟨hRF, hRr⟩ := hR.inv rfl
  rw [hlen] at ho ⊢
  have hWl : W.length = A.length + F.length + K.length + 1 + B.length := by rw [hW]; simp only [List.length_append, List.length_cons, List.length_nil]; omega
  have hi0 : A.length + (1 + (K.length + F.length)) - 1 = A.length + F.length + K.length := by omega
  have hr : W.getD (A.length + F.length + K.length) n0 = ⟨k, lo, hi, K.length + 1⟩ := getD_mid (A := A ++ (F ++ K)) (B := B) W _ (by rw [hW]; simp [List.append_assoc]) (by simp only [List.length_append]; omega)
  have hpr : st.1.getD (A.length + F.length + K.length) 0 = o + F.length := by rw [List.getD_eq_getElem?_getD, hRr]; rfl
  rw [ahN_add, ahN_add]
  have e1 : ahN W 1 (A.length + (1 + (K.length + F.length))) st = ahS W (A.length + F.length + K.length) st := by
   show ahS W (A.length + (1 + (K.length + F.length)) - 1) st = _
   rw [hi0]
  rw [e1]
  obtain ⟨st1, hst1⟩ : ∃ st1, ahS W (A.length + F.length + K.length) st = st1 := ⟨_, rfl⟩
  have hl1 := ahS_len W (A.length + F.length + K.length) st
  rw [hst1] at hl1 ⊢
  have hst := hst1
  unfold ahS at hst
  rw [hr, hpr] at hst
  have hk := kids_rt h3 (A ++ F) ([⟨k, lo, hi, K.length + 1⟩] ++ B) W K.length (o + F.length + 1) st.1 (by rw [hW]; simp [List.append_assoc]) (Nat.le_refl _) hl
  have e2 : putK W (kidL W K.length K.length ((A ++ F).length + K.length - 1)) (o + F.length + 1 + K.length) st.1 = st1.1 := by
   rw [← hst]
   show _ = putK W (kidL W (K.length + 1 - 1) (K.length + 1 - 1) (A.length + F.length + K.length - 1)) (o + F.length + (K.length + 1)) st.1
   rw [List.length_append, Nat.add_sub_cancel, show o + F.length + (K.length + 1) = o + F.length + 1 + K.length by omega]
  rw [e2] at hk
  have e3 : st1.2 = st.2.set (o + F.length) ⟨k, lo, hi, K.length + 1⟩ := by rw [← hst]
  rw [List.length_append] at hk
  have t1 : A.length + (1 + (K.length + F.length)) - 1 = A.length + F.length + K.length := by omega
  have t2 : A.length + F.length + K.length - K.length = A.length + F.length := by omega
  rw [t1, t2]
  obtain ⟨k1, k2⟩ := i3 (A ++ F) ([⟨k, lo, hi, K.length + 1⟩] ++ B) W (o + F.length + 1) st1 (by rw [hW]; simp [List.append_assoc]) (by rw [List.length_append]; exact hk.1) (by omega) (by omega)
  rw [List.length_append] at k1 k2
  obtain ⟨st2, hst2⟩ : ∃ st2, ahN W K.length (A.length + F.length + K.length) st1 = st2 := ⟨_, rfl⟩
  have hl2 := ahN_len W K.length (A.length + F.length + K.length) st1
  rw [hst2] at k1 k2 hl2 ⊢
  obtain ⟨f1, f2⟩ := i1 A (K ++ [⟨k, lo, hi, K.length + 1⟩] ++ B) W o st2 (by rw [hW]; simp [List.append_assoc]) (hRF.congr fun j a b => by rw [k2 j (.inl b), hk.2 j (.inl b)]) (by omega) (by omega)
  have hF' := h1.len
  have hK' := h3.len
  refine ⟨fun j => ?_, fun j hj => ?_⟩
  ·rw [f1 j]
   by_cases c1 : o ≤ j ∧ j < o + F.length
   ·rw [if_pos c1, if_pos (by omega), List.getElem?_append_left (by omega)]
   rw [if_neg c1, k1 j]
   by_cases c2 : o + F.length + 1 ≤ j ∧ j < o + F.length + 1 + K.length
   ·rw [if_pos c2, if_pos (by omega), List.getElem?_append_right (by omega), show j - o - F'.length = (j - (o + F.length + 1)) + 1 by omega, List.getElem?_cons_succ]
   rw [if_neg c2, e3]
   by_cases c3 : j = o + F.length
   ·subst c3
    rw [List.getElem?_set_self (by omega), if_pos (by omega), List.getElem?_append_right (by omega), show o + F.length - o - F'.length = 0 by omega, List.getElem?_cons_zero]
   ·rw [List.getElem?_set_ne (fun e => c3 e.symm), if_neg (by omega)]
  ·rw [f2 j (by omega), k2 j (by omega), hk.2 j (by omega)]
def aheadP (W : List Nd) : List Nd := (ahN W W.length W.length (List.replicate W.length 0, List.replicate W.length n0)).2
theorem ahead_pre {a b lo hi k : Nat} {K P : List Nd} (h : Bt a b (K ++ [⟨k, lo, hi, K.length + 1⟩]) P) : aheadP (K ++ [⟨k, lo, hi, K.length + 1⟩]) = P := by
 have hlen : (K ++ [(⟨k, lo, hi, K.length + 1⟩ : Nd)]).length = K.length + 1 := by simp
 have hR : Rt (List.replicate (K ++ [(⟨k, lo, hi, K.length + 1⟩ : Nd)]).length 0) 0 0 (K ++ [⟨k, lo, hi, K.length + 1⟩]) := by
  refine Rt.snoc (F := []) .nil ?_ rfl
  rw [List.getElem?_replicate, if_pos (by simp)]
  simp
 have q := (ahead_seg h [] [] (K ++ [⟨k, lo, hi, K.length + 1⟩]) 0 (List.replicate (K ++ [(⟨k, lo, hi, K.length + 1⟩ : Nd)]).length 0, List.replicate (K ++ [(⟨k, lo, hi, K.length + 1⟩ : Nd)]).length n0) (by simp) hR (by simp) (by simp)).1
 refine List.ext_getElem? fun j => ?_
 have hj := q j
 simp only [List.length_nil, Nat.zero_add] at hj
 unfold aheadP
 rw [hj]
 by_cases c : j < (K ++ [(⟨k, lo, hi, K.length + 1⟩ : Nd)]).length
 ·rw [if_pos ⟨Nat.zero_le _, c⟩]; rfl
 ·rw [if_neg (fun e => c e.2), List.getElem?_replicate, if_neg c, List.getElem?_eq_none (by rw [h.len]; omega)]
end Go.Proofs.YtlboejdhmggjpaaGreat.Pp

/- PdD -/
namespace Go.Proofs.YtlboejdhmggjpaaGreat.Pp
set_option linter.unusedVariables false
set_option maxRecDepth 100000

/-- Alike, or the fuel was out. -/
def Lk {α : Type} (x x' : Pm α) : Prop := ∀ s, x s = .out ∨ x s = x' s
theorem lk_refl {α : Type} {x : Pm α} : Lk x x := fun s => .inr rfl
theorem lk_bind {α β : Type} {x x' : Pm α} {k k' : α → Pm β} (h : Lk x x') (h2 : ∀ a, Lk (k a) (k' a)) : Lk (x >>= k) (x' >>= k') := by
  intro s
  show Pm.bind x k s = _ ∨ Pm.bind x k s = Pm.bind x' k' s
  unfold Pm.bind
  rcases h s with e | e
  · rw [e]; exact .inl rfl
  · rw [e]
    cases x' s with
    | out => exact .inl rfl
    | no => exact .inr rfl
    | ok a s1 => exact h2 a s1
theorem lk_ite {α : Type} {p : Prop} [Decidable p] {x x' y y' : Pm α} (h : p → Lk x x') (h2 : ¬ p → Lk y y') : Lk (if p then x else y) (if p then x' else y') := by
  by_cases hp : p
  · rw [if_pos hp, if_pos hp]; exact h hp
  · rw [if_neg hp, if_neg hp]; exact h2 hp
set_option maxHeartbeats 16000000 in
theorem same_fuel (l : List Ct) (base : Bs → Bool) : ∀ (n n' : Nat), n ≤ n' → ∀ tg : Tg, Lk (run l base n tg) (run l base n' tg)
  | 0, _, _, _ => fun s => .inl rfl
  | _ + 1, 0, h, _ => absurd h (by omega)
  | n + 1, n' + 1, h, tg => by
    have ih := same_fuel l base n n' (by omega)
    cases tg
    all_goals
      rw [run, run]
      generalize run l base n = R at ih ⊢
      generalize run l base n' = R' at ih ⊢
      repeat' (first
        | exact ih _
        | with_reducible exact lk_refl
        | with_reducible refine lk_bind (ih _) fun v => ?_
        | with_reducible refine lk_bind lk_refl fun v => ?_
        | with_reducible refine lk_ite (fun hc => ?_) (fun hc => ?_)
        | with_reducible refine lk_bind ?_ fun v => ?_
        | split
        | dsimp only
        | refine lk_bind lk_refl fun v => ?_
        | exact lk_refl)
theorem fuel_more {l : List Ct} {base : Bs → Bool} {n n' : Nat} {tg : Tg} {s : Ps} (hn : n ≤ n') (h : run l base n tg s ≠ .out) : run l base n tg s = run l base n' tg s := by
  rcases same_fuel l base n n' hn tg s with e | e
  · exact absurd e h
  · exact e
end Go.Proofs.YtlboejdhmggjpaaGreat.Pp

/- PdG -/
namespace Go.Proofs.YtlboejdhmggjpaaGreat.Pp
set_option linter.unusedVariables false
set_option maxRecDepth 100000

def NoE (s : Ps) : Prop := ∀ p ∈ s.nm.ch, p.1 ≠ []
def Kq {α : Type} (x : Pm α) : Prop := ∀ s v s', NoE s → x s = .ok v s' → NoE s'
theorem kq_bind {α β : Type} {x : Pm α} {k : α → Pm β} (h : Kq x) (h2 : ∀ a, Kq (k a)) : Kq (x >>= k) := by
  intro s v s' hs e
  change Pm.bind x k s = _ at e
  unfold Pm.bind at e
  cases e1 : x s with
  | out => rw [e1] at e; cases e
  | no => rw [e1] at e; cases e
  | ok a s1 => rw [e1] at e; exact h2 a s1 v s' (h s a s1 hs e1) e
theorem kq_ite {α : Type} {p : Prop} [Decidable p] {x y : Pm α} (h : p → Kq x) (h2 : ¬ p → Kq y) : Kq (if p then x else y) := by
  by_cases hp : p
  · rw [if_pos hp]; exact h hp
  · rw [if_neg hp]; exact h2 hp
/-- What leaves the names as they are. -/
theorem kq_nm {α : Type} {x : Pm α} (h : ∀ s v s', x s = .ok v s' → s'.nm.ch = s.nm.ch) : Kq x := fun s v s' hs e p hp => hs p (by rw [← h s v s' e]; exact hp)
theorem kq_declare (l : List Ct) (x : Bs) (b : Bool) : Kq (declare l x b) := by
  intro s v s' hs e
  unfold declare at e
  split at e
  · cases e
    intro p hp
    unfold Ns.declare at hp
    simp only at hp
    split at hp
    · exact hs p hp
    · rename_i hx
      rcases List.mem_append.1 hp with hp | hp
      · exact hs p hp
      · simp at hp; subst hp; exact hx
  · cases e
theorem kq_declareAll (l : List Ct) : ∀ r, Kq (declareAll l r)
  | [] => kq_nm fun s v s' e => by cases e; rfl
  | p :: r => kq_bind (kq_declare l _ _) fun _ => kq_declareAll l r
theorem kq_close : Kq close' := by
  intro s v s' hs e
  unfold close' at e
  split at e
  · split at e
    · cases e
      intro p hp
      exact hs p (List.mem_of_mem_take hp)
    · cases e
  · cases e
set_option maxHeartbeats 16000000 in
theorem run_noE (l : List Ct) (base : Bs → Bool) : ∀ (n : Nat) (tg : Tg), Kq (run l base n tg)
  | 0, _ => fun s v s' hs e => by rw [run] at e; cases e
  | n + 1, tg => by
    have ih := run_noE l base n
    cases tg
    all_goals
      rw [run]
      generalize run l base n = R at ih ⊢
      repeat' (first
        | exact ih _
        | with_reducible exact kq_declare _ _ _
        | with_reducible exact kq_declareAll _ _
        | with_reducible exact kq_close
        | with_reducible refine kq_ite (fun hc => ?_) (fun hc => ?_)
        | with_reducible refine kq_bind ?_ fun v => ?_
        | (refine kq_nm fun s v s' e => ?_
           simp only [get', here, step, node, open', Ns.opened, peek, sign, word, took, tookWord, need, name', bSpec, bLess, typeAhead, declares, labelled, level, assigns, quals, strings, fail', out', pure] at e
           repeat' split at e
           all_goals first | (cases e; rfl) | (cases e; done)
           done)
        | exact kq_nm fun s v s' e => by cases e; rfl
        | split
        | dsimp only
        | refine kq_bind ?_ fun v => ?_)
end Go.Proofs.YtlboejdhmggjpaaGreat.Pp

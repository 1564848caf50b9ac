/- Plain: the parser ends. -/
import Derived.Test.YtlboejdhmggjpaaGreatPbB
import Derived.Test.YtlboejdhmggjpaaGreatPbC
import Derived.Test.YtlboejdhmggjpaaGreatPbD
import Derived.Test.YtlboejdhmggjpaaGreatPbE
import Derived.Test.YtlboejdhmggjpaaGreatPbF
import Derived.Test.YtlboejdhmggjpaaGreatPbG
import Derived.Test.YtlboejdhmggjpaaGreatPbH
import Derived.Test.YtlboejdhmggjpaaGreatPbA
set_option linter.all false
namespace Go.Proofs.YtlboejdhmggjpaaGreat.Pp
theorem good (l : List Ct) (base : Bs → Bool) : ∀ n, Ih l base n
 | 0 => fun tg sh s _ _ _ hp => absurd hp.2.2.2.2.2.2 (Nat.not_lt_zero _)
 | n + 1 => fun tg sh s h1 h2 hT hp => by
  cases tg <;> first
   | exact goodB (good l base n) _ rfl sh s h1 h2 hT hp
   | exact goodC (good l base n) _ rfl sh s h1 h2 hT hp
   | exact goodD (good l base n) _ rfl sh s h1 h2 hT hp
   | exact goodE (good l base n) _ rfl sh s h1 h2 hT hp
   | exact goodF (good l base n) _ rfl sh s h1 h2 hT hp
   | exact goodG (good l base n) _ rfl sh s h1 h2 hT hp
   | exact goodH (good l base n) _ rfl sh s h1 h2 hT hp
   | exact good_assign (good l base n) sh s h1 h2 hT hp
   | exact good_size (good l base n) _ sh s h1 h2 hT hp
   | exact good_item (good l base n) sh s h1 h2 hT hp
   | exact good_itemR (good l base n) sh s h1 h2 hT hp
   | exact good_declarator (good l base n) _ sh s h1 h2 hT hp
   | exact good_starsR (good l base n) _ sh s h1 h2 hT hp
   | exact good_suffixes (good l base n) _ _ sh s h1 h2 hT hp
   | exact good_array (good l base n) sh s h1 h2 hT hp
   | exact good_param (good l base n) sh s h1 h2 hT hp
   | exact good_external (good l base n) sh s h1 h2 hT hp
   | exact good_body (good l base n) _ sh s h1 h2 hT hp
   | exact good_itemsR (good l base n) sh s h1 h2 hT hp
   | exact good_statement (good l base n) sh s h1 h2 hT hp
   | exact good_specsR (good l base n) _ _ _ _ sh s h1 h2 hT hp
   | exact good_typeName (good l base n) sh s h1 h2 hT hp
   | exact good_unit (good l base n) sh s h1 h2 hT hp
end Go.Proofs.YtlboejdhmggjpaaGreat.Pp

/- PdA -/
namespace Go.Proofs.YtlboejdhmggjpaaGreat.Pp

inductive Bt : Nat → Nat → List Nd → List Nd → Prop
 | nil {a b : Nat} (h : a ≤ b) : Bt a b [] []
 | snoc {a m lo hi b k : Nat} {F F' K K' : List Nd} (h1 : Bt a m F F') (h2 : m ≤ lo) (h3 : Bt lo hi K K') (h4 : hi ≤ b) (h5 : 1 ≤ k ∧ k ≤ 58) : Bt a b (F ++ (K ++ [⟨k, lo, hi, K.length + 1⟩])) (F' ++ (⟨k, lo, hi, K.length + 1⟩ :: K'))
theorem Fo.both {a b : Nat} {L : List Nd} (h : Fo a b L) : ∃ P, Bt a b L P := by
 induction h with
 | nil h => exact ⟨[], .nil h⟩
 | snoc h1 h2 h3 h4 h5 i1 i3 =>
  obtain ⟨F', i1⟩ := i1
  obtain ⟨K', i3⟩ := i3
  exact ⟨_, .snoc i1 h2 i3 h4 h5⟩
theorem Bt.len {a b : Nat} {L P : List Nd} (h : Bt a b L P) : P.length = L.length := by
 induction h with
 | nil h => rfl
 | snoc h1 h2 h3 h4 h5 i1 i3 => simp only [List.length_append, List.length_cons, List.length_nil, i1, i3]
theorem Bt.le {a b : Nat} {L P : List Nd} (h : Bt a b L P) : a ≤ b := by
 induction h with
 | nil h => exact h
 | snoc h1 h2 h3 h4 h5 i1 i3 => omega
inductive Fp : Nat → Nat → List Nd → Prop
 | nil {a b : Nat} (h : a ≤ b) : Fp a b []
 | cons {a lo hi b k : Nat} {K R : List Nd} (h2 : a ≤ lo) (h3 : Fp lo hi K) (h4 : 1 ≤ k ∧ k ≤ 58) (h5 : Fp hi b R) : Fp a b (⟨k, lo, hi, K.length + 1⟩ :: (K ++ R))
theorem Fp.le {a b : Nat} {L : List Nd} (h : Fp a b L) : a ≤ b := by
 induction h with
 | nil h => exact h
 | cons h2 h3 h4 h5 i3 i5 => omega
theorem Fp.mono {a b b' : Nat} {L : List Nd} (h : Fp a b L) : b ≤ b' → Fp a b' L := by
 induction h with
 | nil h => exact fun hb => .nil (Nat.le_trans h hb)
 | cons h2 h3 h4 h5 i3 i5 => exact fun hb => .cons h2 h3 h4 (i5 hb)
theorem Fp.less {a a' b : Nat} {L : List Nd} (h : Fp a b L) (ha : a' ≤ a) : Fp a' b L := by
 cases h with
 | nil h => exact .nil (Nat.le_trans ha h)
 | cons h2 h3 h4 h5 => exact .cons (Nat.le_trans ha h2) h3 h4 h5
theorem Fp.append {a m b : Nat} {F L : List Nd} (h : Fp a m F) : Fp m b L → Fp a b (F ++ L) := by
 induction h with
 | nil h => exact fun k => k.less h
 | cons h2 h3 h4 h5 i3 i5 =>
  intro k
  rw [List.cons_append, List.append_assoc]
  exact .cons h2 h3 h4 (i5 k)
theorem Bt.pre {a b : Nat} {L P : List Nd} (h : Bt a b L P) : Fp a b P := by
 induction h with
 | nil h => exact .nil h
 | @snoc a m lo hi b k F F' K K' h1 h2 h3 h4 h5 i1 i3 =>
  refine i1.append ?_
  have := Fp.cons (k := k) h2 i3 h5 (.nil h4)
  rwa [List.append_nil, h3.len] at this
theorem Fp.at' {a b : Nat} {P : List Nd} (h : Fp a b P) : ∀ i, i < P.length → ∃ X r K R, P = X ++ r :: (K ++ R) ∧ X.length = i ∧ r.sz = K.length + 1 ∧ Fp r.lo r.hi K ∧ 1 ≤ r.k ∧ r.k ≤ 58 := by
 induction h with
 | nil h => intro i hi; simp at hi
 | @cons a lo hj b k K R h2 h3 h4 h5 i3 i5 =>
  intro i hi
  cases i with
  | zero => exact ⟨[], _, K, R, rfl, rfl, rfl, h3, h4.1, h4.2⟩
  | succ i =>
   by_cases hK : i < K.length
   ·obtain ⟨X, r, K1, R1, e, hX, q⟩ := i3 i hK
    refine ⟨⟨k, lo, hj, K.length + 1⟩ :: X, r, K1, R1 ++ R, ?_, by simp [hX], q⟩
    show _ :: (K ++ R) = _ :: X ++ r :: (K1 ++ (R1 ++ R))
    rw [List.cons_append]
    congr 1
    rw [e]
    simp [List.append_assoc]
   ·have hR : i - K.length < R.length := by simp only [List.length_cons, List.length_append] at hi; omega
    obtain ⟨X, r, K1, R1, e, hX, q⟩ := i5 _ hR
    refine ⟨⟨k, lo, hj, K.length + 1⟩ :: (K ++ X), r, K1, R1, ?_, ?_, q⟩
    ·rw [e]; simp [List.append_assoc]
    ·simp only [List.length_cons, List.length_append, hX]; omega

def n0 : Nd := ⟨0, 0, 0, 0⟩
def kidL (W : List Nd) : Nat → Nat → Nat → List Nat
 | 0, _, _ => []
 | n + 1, left, k => if left = 0 then [] else k :: kidL W n (left - (W.getD k n0).sz) (k - (W.getD k n0).sz)
def putK (W : List Nd) : List Nat → Nat → List Nat → List Nat
 | [], _, pl => pl
 | k :: ks, e, pl => putK W ks (e - (W.getD k n0).sz) (pl.set k (e - (W.getD k n0).sz))
def ahS (W : List Nd) (i : Nat) (st : List Nat × List Nd) : List Nat × List Nd :=
 (putK W (kidL W ((W.getD i n0).sz - 1) ((W.getD i n0).sz - 1) (i - 1)) (st.1.getD i 0 + (W.getD i n0).sz) st.1, st.2.set (st.1.getD i 0) (W.getD i n0))
def ahN (W : List Nd) : Nat → Nat → List Nat × List Nd → List Nat × List Nd
 | 0, _, st => st
 | m + 1, t, st => ahN W m (t - 1) (ahS W (t - 1) st)
theorem ahN_add (W : List Nd) : ∀ (m1 m2 t : Nat) (st : List Nat × List Nd), ahN W (m1 + m2) t st = ahN W m2 (t - m1) (ahN W m1 t st)
 | 0, m2, t, st => by rw [Nat.zero_add]; rfl
 | m1 + 1, m2, t, st => by
  rw [show m1 + 1 + m2 = (m1 + m2) + 1 by omega]
  show ahN W (m1 + m2) (t - 1) _ = _
  rw [ahN_add W m1 m2 (t - 1), show t - 1 - m1 = t - (m1 + 1) by omega]
  rfl
theorem putK_len (W : List Nd) : ∀ (ks : List Nat) (e : Nat) (pl : List Nat), (putK W ks e pl).length = pl.length
 | [], _, _ => rfl
 | k :: ks, e, pl => by unfold putK; rw [putK_len W ks, List.length_set]
theorem ahS_len (W : List Nd) (i : Nat) (st : List Nat × List Nd) : (ahS W i st).1.length = st.1.length ∧ (ahS W i st).2.length = st.2.length := ⟨putK_len _ _ _ _, List.length_set⟩
theorem ahN_len (W : List Nd) : ∀ (m t : Nat) (st : List Nat × List Nd), (ahN W m t st).1.length = st.1.length ∧ (ahN W m t st).2.length = st.2.length
 | 0, _, _ => ⟨rfl, rfl⟩
 | m + 1, t, st => by
  have h := ahN_len W m (t - 1) (ahS W (t - 1) st)
  have h2 := ahS_len W (t - 1) st
  exact ⟨h.1.trans h2.1, h.2.trans h2.2⟩
inductive Rt (pl : List Nat) (c o : Nat) : List Nd → Prop
 | nil : Rt pl c o []
 | snoc {F K : List Nd} {r : Nd} (h1 : Rt pl c o F) (h2 : pl[c + F.length + K.length]? = some (o + F.length)) (h3 : r.sz = K.length + 1) : Rt pl c o (F ++ (K ++ [r]))
theorem Rt.inv {pl : List Nat} {c o : Nat} {F K : List Nd} {r : Nd} (h : Rt pl c o (F ++ (K ++ [r]))) (hr : r.sz = K.length + 1) : Rt pl c o F ∧ pl[c + F.length + K.length]? = some (o + F.length) := by
 generalize hL : F ++ (K ++ [r]) = L at h
 cases h with
 | nil => simp at hL
 | @snoc F1 K1 r1 h1 h2 h3 =>
  rw [← List.append_assoc, ← List.append_assoc] at hL
  obtain ⟨e1, e2⟩ := List.append_inj' hL rfl
  simp only [List.cons.injEq, and_true] at e2
  subst e2
  obtain ⟨e3, e4⟩ := List.append_inj' e1 (by omega)
  subst e3 e4
  exact ⟨h1, h2⟩
theorem Rt.congr {pl pl' : List Nat} {c o : Nat} {F : List Nd} (h : Rt pl c o F) : (∀ j, c ≤ j → j < c + F.length → pl'[j]? = pl[j]?) → Rt pl' c o F := by
 induction h with
 | nil => exact fun _ => .nil
 | @snoc F K r h1 h2 h3 i1 =>
  intro hj
  simp only [List.length_append, List.length_cons, List.length_nil] at hj
  refine .snoc (i1 fun j a b => hj j a (by omega)) ?_ h3
  rw [hj _ (by omega) (by omega)]
  exact h2
theorem getD_mid {A B : List Nd} {r : Nd} (W : List Nd) (i : Nat) (h : W = A ++ r :: B) (hi : i = A.length) : W.getD i n0 = r := by
 subst h hi
 simp
theorem kids_rt {a b : Nat} {K K' : List Nd} (h : Bt a b K K') : ∀ (A B W : List Nd) (n o : Nat) (pl : List Nat), W = A ++ (K ++ B) → K.length ≤ n → pl.length = W.length →
  Rt (putK W (kidL W n K.length (A.length + K.length - 1)) (o + K.length) pl) A.length o K ∧ ∀ j, (j < A.length ∨ A.length + K.length ≤ j) → (putK W (kidL W n K.length (A.length + K.length - 1)) (o + K.length) pl)[j]? = pl[j]? := by
 induction h with
 | nil h =>
  intro A B W n o pl hW hn hl
  have : kidL W n (List.length ([] : List Nd)) (A.length + List.length ([] : List Nd) - 1) = [] := by cases n <;> rfl
  rw [this]
  exact ⟨.nil, fun j _ => rfl⟩
 | @snoc a m lo hi b k F F' M M' h1 h2 h3 h4 h5 i1 i3 =>
  intro A B W n o pl hW hn hl
  have hlen : (F ++ (M ++ [(⟨k, lo, hi, M.length + 1⟩ : Nd)])).length = F.length + M.length + 1 := by simp only [List.length_append, List.length_cons, List.length_nil]; omega
  rw [hlen] at hn ⊢
  obtain ⟨n', rfl⟩ : ∃ n', n = n' + 1 := ⟨n - 1, by omega⟩
  have hWl : W.length = A.length + F.length + M.length + 1 + B.length := by rw [hW]; simp only [List.length_append, List.length_cons, List.length_nil]; omega
  have hr : W.getD (A.length + (F.length + M.length + 1) - 1) n0 = ⟨k, lo, hi, M.length + 1⟩ := getD_mid (A := A ++ (F ++ M)) (B := B) W _ (by rw [hW]; simp [List.append_assoc]) (by simp only [List.length_append]; omega)
  have hk : kidL W (n' + 1) (F.length + M.length + 1) (A.length + (F.length + M.length + 1) - 1) = (A.length + F.length + M.length) :: kidL W n' F.length (A.length + F.length - 1) := by
   conv => lhs; unfold kidL
   rw [if_neg (by omega), hr]
   show (A.length + (F.length + M.length + 1) - 1) :: kidL W n' (F.length + M.length + 1 - (M.length + 1)) (A.length + (F.length + M.length + 1) - 1 - (M.length + 1)) = _
   congr 1
   ·omega
   ·congr 1 <;> omega
  have hr2 : W.getD (A.length + F.length + M.length) n0 = ⟨k, lo, hi, M.length + 1⟩ := by rw [← hr]; congr 1; omega
  have hp : putK W ((A.length + F.length + M.length) :: kidL W n' F.length (A.length + F.length - 1)) (o + (F.length + M.length + 1)) pl = putK W (kidL W n' F.length (A.length + F.length - 1)) (o + F.length) (pl.set (A.length + F.length + M.length) (o + F.length)) := by
   conv => lhs; unfold putK
   rw [hr2]
   show putK W _ (o + (F.length + M.length + 1) - (M.length + 1)) (pl.set _ (o + (F.length + M.length + 1) - (M.length + 1))) = _
   rw [show o + (F.length + M.length + 1) - (M.length + 1) = o + F.length by omega]
  rw [hk, hp]
  obtain ⟨q1, q2⟩ := i1 A (M ++ [⟨k, lo, hi, M.length + 1⟩] ++ B) W n' o (pl.set (A.length + F.length + M.length) (o + F.length)) (by rw [hW]; simp [List.append_assoc]) (by omega) (by rw [List.length_set]; exact hl)
  refine ⟨.snoc q1 ?_ rfl, fun j hj => ?_⟩
  ·rw [q2 _ (.inr (by omega)), List.getElem?_set_self (by omega)]
  ·rw [q2 j (by omega), List.getElem?_set_ne (by omega)]
theorem ahead_seg {a b : Nat} {L P : List Nd} (h : Bt a b L P) : ∀ (A B W : List Nd) (o : Nat) (st : List Nat × List Nd), W = A ++ (L ++ B) → Rt st.1 A.length o L → st.1.length = W.length → o + L.length ≤ st.2.length →
  (∀ j, (ahN W L.length (A.length + L.length) st).2[j]? = if o ≤ j ∧ j < o + L.length then P[j - o]? else st.2[j]?) ∧ ∀ j, (j < A.length ∨ A.length + L.length ≤ j) → (ahN W L.length (A.length + L.length) st).1[j]? = st.1[j]? := by
 induction h with
 | nil h =>
  intro A B W o st hW hR hl ho
  refine ⟨fun j => ?_, fun j _ => rfl⟩
  rw [if_neg (by simp only [List.length_nil]; omega)]
  rfl
 | @snoc a m lo hi b k F F' K K' h1 h2 h3 h4 h5 i1 i3 =>
  intro A B W o st hW hR hl ho
  have hlen : (F ++ (K ++ [(⟨k, lo, hi, K.length + 1⟩ : Nd)])).length = 1 + (K.length + F.length) := by simp only [List.length_append, List.length_cons, List.length_nil]; omega
  obtain ⟨hRF, hRr⟩ := hR.inv rfl
  rw [hlen] at ho ⊢
  have hWl : W.length = A.length + F.length + K.length + 1 + B.length := by rw [hW]; simp only [List.length_append, List.length_cons, List.length_nil]; omega
  have hi0 : A.length + (1 + (K.length + F.length)) - 1 = A.length + F.length + K.length := by omega
  have hr : W.getD (A.length + F.length + K.length) n0 = ⟨k, lo, hi, K.length + 1⟩ := getD_mid (A := A ++ (F ++ K)) (B := B) W _ (by rw [hW]; simp [List.append_assoc]) (by simp only [List.length_append]; omega)
  have hpr : st.1.getD (A.length + F.length + K.length) 0 = o + F.length := by rw [List.getD_eq_getElem?_getD, hRr]; rfl
  rw [ahN_add, ahN_add]
  have e1 : ahN W 1 (A.length + (1 + (K.length + F.length))) st = ahS W (A.length + F.length + K.length) st := by
   show ahS W (A.length + (1 + (K.length + F.length)) - 1) st = _
   rw [hi0]
  rw [e1]
  obtain ⟨st1, hst1⟩ : ∃ st1, ahS W (A.length + F.length + K.length) st = st1 := ⟨_, rfl⟩
  have hl1 := ahS_len W (A.length + F.length + K.length) st
  rw [hst1] at hl1 ⊢
  have hst := hst1
  unfold ahS at hst
  rw [hr, hpr] at hst
  have hk := kids_rt h3 (A ++ F) ([⟨k, lo, hi, K.length + 1⟩] ++ B) W K.length (o + F.length + 1) st.1 (by rw [hW]; simp [List.append_assoc]) (Nat.le_refl _) hl
  have e2 : putK W (kidL W K.length K.length ((A ++ F).length + K.length - 1)) (o + F.length + 1 + K.length) st.1 = st1.1 := by
   rw [← hst]
   show _ = putK W (kidL W (K.length + 1 - 1) (K.length + 1 - 1) (A.length + F.length + K.length - 1)) (o + F.length + (K.length + 1)) st.1
   rw [List.length_append, Nat.add_sub_cancel, show o + F.length + (K.length + 1) = o + F.length + 1 + K.length by omega]
  rw [e2] at hk
  have e3 : st1.2 = st.2.set (o + F.length) ⟨k, lo, hi, K.length + 1⟩ := by rw [← hst]
  rw [List.length_append] at hk
  have t1 : A.length + (1 + (K.length + F.length)) - 1 = A.length + F.length + K.length := by omega
  have t2 : A.length + F.length + K.length - K.length = A.length + F.length := by omega
  rw [t1, t2]
  obtain ⟨k1, k2⟩ := i3 (A ++ F) ([⟨k, lo, hi, K.length + 1⟩] ++ B) W (o + F.length + 1) st1 (by rw [hW]; simp [List.append_assoc]) (by rw [List.length_append]; exact hk.1) (by omega) (by omega)
  rw [List.length_append] at k1 k2
  obtain ⟨st2, hst2⟩ : ∃ st2, ahN W K.length (A.length + F.length + K.length) st1 = st2 := ⟨_, rfl⟩
  have hl2 := ahN_len W K.length (A.length + F.length + K.length) st1
  rw [hst2] at k1 k2 hl2 ⊢
  obtain ⟨f1, f2⟩ := i1 A (K ++ [⟨k, lo, hi, K.length + 1⟩] ++ B) W o st2 (by rw [hW]; simp [List.append_assoc]) (hRF.congr fun j a b => by rw [k2 j (.inl b), hk.2 j (.inl b)]) (by omega) (by omega)
  have hF' := h1.len
  have hK' := h3.len
  refine ⟨fun j => ?_, fun j hj => ?_⟩
  ·rw [f1 j]
   by_cases c1 : o ≤ j ∧ j < o + F.length
   ·rw [if_pos c1, if_pos (by omega), List.getElem?_append_left (by omega)]
   rw [if_neg c1, k1 j]
   by_cases c2 : o + F.length + 1 ≤ j ∧ j < o + F.length + 1 + K.length
   ·rw [if_pos c2, if_pos (by omega), List.getElem?_append_right (by omega), show j - o - F'.length = (j - (o + F.length + 1)) + 1 by omega, List.getElem?_cons_succ]
   rw [if_neg c2, e3]
   by_cases c3 : j = o + F.length
   ·subst c3
    rw [List.getElem?_set_self (by omega), if_pos (by omega), List.getElem?_append_right (by omega), show o + F.length - o - F'.length = 0 by omega, List.getElem?_cons_zero]
   ·rw [List.getElem?_set_ne (fun e => c3 e.symm), if_neg (by omega)]
  ·rw [f2 j (by omega), k2 j (by omega), hk.2 j (by omega)]
def aheadP (W : List Nd) : List Nd := (ahN W W.length W.length (List.replicate W.length 0, List.replicate W.length n0)).2
theorem ahead_pre {a b lo hi k : Nat} {K P : List Nd} (h : Bt a b (K ++ [⟨k, lo, hi, K.length + 1⟩]) P) : aheadP (K ++ [⟨k, lo, hi, K.length + 1⟩]) = P := by
 have hlen : (K ++ [(⟨k, lo, hi, K.length + 1⟩ : Nd)]).length = K.length + 1 := by simp
 have hR : Rt (List.replicate (K ++ [(⟨k, lo, hi, K.length + 1⟩ : Nd)]).length 0) 0 0 (K ++ [⟨k, lo, hi, K.length + 1⟩]) := by
  refine Rt.snoc (F := []) .nil ?_ rfl
  rw [List.getElem?_replicate, if_pos (by simp)]
  simp
 have q := (ahead_seg h [] [] (K ++ [⟨k, lo, hi, K.length + 1⟩]) 0 (List.replicate (K ++ [(⟨k, lo, hi, K.length + 1⟩ : Nd)]).length 0, List.replicate (K ++ [(⟨k, lo, hi, K.length + 1⟩ : Nd)]).length n0) (by simp) hR (by simp) (by simp)).1
 refine List.ext_getElem? fun j => ?_
 have hj := q j
 simp only [List.length_nil, Nat.zero_add] at hj
 unfold aheadP
 rw [hj]
 by_cases c : j < (K ++ [(⟨k, lo, hi, K.length + 1⟩ : Nd)]).length
 ·rw [if_pos ⟨Nat.zero_le _, c⟩]; rfl
 ·rw [if_neg (fun e => c e.2), List.getElem?_replicate, if_neg c, List.getElem?_eq_none (by rw [h.len]; omega)]
end Go.Proofs.YtlboejdhmggjpaaGreat.Pp

/- PkA -/
namespace Go.Proofs.YtlboejdhmggjpaaGreat

abbrev Bs := List UInt8

def third (c : UInt8) : Option UInt8 :=
 if c = 61 then some 35 else if c = 47 then some 92 else if c = 39 then some 94 else if c = 40 then some 91 else if c = 41 then some 93 else if c = 33 then some 124 else if c = 60 then some 123 else if c = 62 then some 125 else if c = 45 then some 126 else none

structure Pt where
 b : UInt8
 pos : Nat
 len : Nat
 spl : Bool
deriving DecidableEq

def tri (s : Bs) (i : Nat) : Option UInt8 := if s[i]? = some 63 ∧ s[i + 1]? = some 63 then (s[i + 2]?).bind third else none
def bas (s : Bs) (i : Nat) : UInt8 × Nat := match tri s i with | some c => (c, 3) | none => (s.getD i 0, 1)
def isSpl (s : Bs) (i : Nat) : Bool := (bas s i).1 == 92 && s[i + (bas s i).2]? == some 10
def ptAt (s : Bs) (i : Nat) : Pt := if isSpl s i then ⟨0, i, (bas s i).2 + 1, true⟩ else ⟨(bas s i).1, i, (bas s i).2, false⟩

theorem bas_pos (s : Bs) (i : Nat) : 1 ≤ (bas s i).2 := by unfold bas; split <;> simp
theorem bas_le {s : Bs} {i : Nat} (h : i < s.length) : i + (bas s i).2 ≤ s.length := by
 unfold bas
 split
 ·rename_i c hc
  unfold tri at hc
  split at hc
  ·cases h2 : s[i + 2]? with
   | none => simp [h2] at hc
   | some x => have := (List.getElem?_eq_some_iff.1 h2).1; simp; omega
  ·simp at hc
 ·simp; omega
theorem pt_pos (s : Bs) (i : Nat) : 1 ≤ (ptAt s i).len := by unfold ptAt; have := bas_pos s i; split <;> simp <;> omega
theorem pt_le {s : Bs} {i : Nat} (h : i < s.length) : i + (ptAt s i).len ≤ s.length := by
 have h1 := bas_le h
 unfold ptAt
 split
 ·rename_i hs
  unfold isSpl at hs
  simp only [Bool.and_eq_true, beq_iff_eq] at hs
  have := (List.getElem?_eq_some_iff.1 hs.2).1
  simp; omega
 ·simpa using h1

def prts (s : Bs) (i : Nat) : List Pt := if h : i < s.length then ptAt s i :: prts s (i + (ptAt s i).len) else []
termination_by s.length - i
decreasing_by have := pt_pos s i; omega
theorem prts_lt {s : Bs} {i : Nat} (h : i < s.length) : prts s i = ptAt s i :: prts s (i + (ptAt s i).len) := by rw [prts, dif_pos h]
theorem prts_ge {s : Bs} {i : Nat} (h : s.length ≤ i) : prts s i = [] := by rw [prts, dif_neg (by omega)]

def endBad (p : Pt) : Bool := p.spl || p.b != 10
def badEnd (s : Bs) : Bool := match (prts s 0).getLast? with | none => false | some p => endBad p
def chk (s : Bs) : Nat := if 65536 < s.length then 3 else if badEnd s then 10 else 0
def chars (s : Bs) : List Pt := (prts s 0).filter fun p => !p.spl
def logic (s : Bs) : Bs := (chars s).map (·.b)

theorem prts_last {s : Bs} : ∀ {i : Nat}, i < s.length → ∃ k, (prts s i).getLast? = some (ptAt s k) ∧ k < s.length ∧ k + (ptAt s k).len = s.length := by
 intro i h
 induction hn : s.length - i using Nat.strongRecOn generalizing i with
 | _ n ih =>
  rw [prts_lt h]
  have h1 := pt_pos s i
  have h2 := pt_le h
  by_cases hl : i + (ptAt s i).len < s.length
  ·obtain ⟨k, hk, h3⟩ := ih (s.length - (i + (ptAt s i).len)) (by omega) hl rfl
   refine ⟨k, ?_, h3⟩
   rw [List.getLast?_cons, hk]; rfl
  ·rw [prts_ge (by omega)]
   exact ⟨i, rfl, h, by omega⟩
end Go.Proofs.YtlboejdhmggjpaaGreat

/- PkB -/
namespace Go.Proofs.YtlboejdhmggjpaaGreat

def isWhite (c : UInt8) : Bool := decide (c.toNat = 32) || decide (c.toNat = 9) || decide (c.toNat = 11) || decide (c.toNat = 12)
def letter (c : UInt8) : Bool := (decide (97 ≤ c.toNat) && decide (c.toNat ≤ 122)) || (decide (65 ≤ c.toNat) && decide (c.toNat ≤ 90)) || decide (c.toNat = 95)
def digit (c : UInt8) : Bool := decide (48 ≤ c.toNat) && decide (c.toNat ≤ 57)
def sign (c : UInt8) : Bool := decide (c.toNat = 43) || decide (c.toNat = 45)
def expo (c : UInt8) : Bool := decide (c.toNat = 101) || decide (c.toNat = 69) || decide (c.toNat = 112) || decide (c.toNat = 80)
def numc (c : UInt8) : Bool := digit c || letter c || decide (c.toNat = 46)

def wRun : Bs → Nat
 | [] => 0
 | c :: r => if letter c || digit c then wRun r + 1 else 0
def wLen : Bs → Nat
 | [] => 0
 | c :: r => if letter c then wRun r + 1 else 0
def nRun : Bs → Nat
 | [] => 0
 | [c] => if numc c then 1 else 0
 | c :: d :: r => if expo c && sign d then nRun r + 2 else if numc c then nRun (d :: r) + 1 else 0
def nLen : Bs → Nat
 | [] => 0
 | [c] => if digit c then 1 else 0
 | c :: d :: r => if c.toNat = 46 then (if digit d then nRun r + 2 else 0) else if digit c then nRun (d :: r) + 1 else 0
def qRun (q : UInt8) : Bs → Option Nat
 | [] => none
 | [c] => if c = 10 then none else if c = q then some 1 else none
 | c :: d :: r => if c = 10 then none else if c = q then some 1 else if c = 92 then (if d = 10 then none else (qRun q r).map (· + 2)) else (qRun q (d :: r)).map (· + 1)
def qPre (t : Bs) : Nat := if t.take 3 = [117, 56, 34] then 2 else if t.head? = some 117 ∨ t.head? = some 85 ∨ t.head? = some 76 then 1 else 0
def qLen (t : Bs) : Nat × Nat :=
 match t.drop (qPre t) with
 | [] => (0, 0)
 | q :: r => if q = 39 ∨ q = 34 then (match qRun q r with | none => (0, 0) | some m => if q = 34 then (4, qPre t + 1 + m) else if 1 < m then (3, qPre t + 1 + m) else (0, 0)) else (0, 0)
def puncts : List Bs := [[91], [93], [40], [41], [123], [125], [46], [45, 62], [43, 43], [45, 45], [38], [42], [43], [45], [126], [33],
 [47], [37], [60, 60], [62, 62], [60], [62], [60, 61], [62, 61], [61, 61], [33, 61], [94], [124], [38, 38], [124, 124],
 [63], [58], [59], [46, 46, 46], [61], [42, 61], [47, 61], [37, 61], [43, 61], [45, 61], [60, 60, 61], [62, 62, 61], [38, 61], [94, 61], [124, 61],
 [44], [35], [35, 35], [60, 58], [58, 62], [60, 37], [37, 62], [37, 58], [37, 58, 37, 58]]
def pDown (t : Bs) : Nat → Nat
 | 0 => 0
 | n + 1 => if puncts.contains (t.take (n + 1)) then n + 1 else pDown t n
def pLen (t : Bs) : Nat := pDown t (min 4 t.length)

def isWord : Bs → Bool
 | [] => false
 | c :: r => letter c && r.all fun x => letter x || digit x
def isNumR : Bs → Bool
 | [] => false
 | [a] => digit a
 | c :: b :: r => if r = [] ∧ b.toNat = 46 then digit c else if sign c then decide (r ≠ []) && expo b && isNumR r else numc c && isNumR (b :: r)
def isNum (t : Bs) : Bool := isNumR t.reverse
def isPcs (q : UInt8) : Bs → Bool
 | [] => true
 | [c] => c ≠ q && c ≠ 10 && c ≠ 92
 | c :: d :: r => if c = q ∨ c = 10 then false else if c = 92 then d ≠ 10 && isPcs q r else isPcs q (d :: r)
def litAt (q : UInt8) (p t : Bs) : Bool := decide (p.length + 2 ≤ t.length) && t.take p.length == p && t[p.length]? == some q && t.getLast? == some q && isPcs q ((t.drop (p.length + 1)).take (t.length - p.length - 2))
def isLit (q : UInt8) : List Bs → Bs → Bool
 | [], _ => false
 | p :: ps, t => if litAt q p t then (q == 34 || decide (p.length + 2 < t.length)) else isLit q ps t
def pre39 : List Bs := [[], [117], [85], [76]]
def pre34 : List Bs := [[], [117, 56], [117], [85], [76]]
def kindOf (t : Bs) : Nat :=
 if t = [10] then 9 else if isWord t then 1 else if isNum t then 2 else if isLit 39 pre39 t then 3 else if isLit 34 pre34 t then 4 else if puncts.contains t then 5 else 0
def toNl : Bs → Nat
 | [] => 0
 | c :: r => if c = 10 then 0 else toNl r + 1
def downK (t : Bs) : Nat → Nat × Nat
 | 0 => if t.head? = some 39 ∨ t.head? = some 34 then (0, 0) else (6, 1)
 | n + 1 => if 0 < kindOf (t.take (n + 1)) then (kindOf (t.take (n + 1)), n + 1) else downK t n
def longR (t : Bs) : Nat × Nat := if toNl t = 0 then (9, 1) else downK t (toNl t)
def best (a b : Nat × Nat) : Nat × Nat := if a.2 < b.2 then b else a
def longP (t : Bs) : Nat × Nat :=
 if t.head? = some 10 then (9, 1)
 else
  let b := best (best (best (best (0, 0) (qLen t)) (1, wLen t)) (2, nLen t)) (5, pLen t)
  if b.1 ≠ 0 then b else if t.head? = some 39 ∨ t.head? = some 34 then (0, 0) else (6, 1)

-- words
theorem wRun_le : ∀ r : Bs, wRun r ≤ toNl r
 | [] => by simp [wRun, toNl]
 | c :: r => by
  simp only [wRun, toNl]
  split
  ·rename_i h
   have hc : c ≠ 10 := by rintro rfl; revert h; decide
   simp [hc, wRun_le r]
  ·exact Nat.zero_le _
theorem wRun_take : ∀ r : Bs, (r.take (wRun r)).all (fun x => letter x || digit x) = true
 | [] => by simp [wRun]
 | c :: r => by
  simp only [wRun]
  split
  ·rename_i h
   simp only [List.take_succ_cons, List.all_cons, h, wRun_take r, Bool.and_self]
  ·simp
theorem wRun_ge : ∀ (r : Bs) (n : Nat), n ≤ r.length → (r.take n).all (fun x => letter x || digit x) = true → n ≤ wRun r
 | r, 0, _, _ => Nat.zero_le _
 | [], n + 1, h, _ => by simp at h
 | c :: r, n + 1, h, ha => by
  simp only [List.take_succ_cons, List.all_cons, Bool.and_eq_true] at ha
  simp only [wRun, ha.1, if_true]
  have := wRun_ge r n (by simpa using h) ha.2
  omega
theorem word_ge (t : Bs) (n : Nat) (hn : n ≤ t.length) (h : isWord (t.take n) = true) : n ≤ wLen t := by
 cases t with
 | nil => simp at hn; omega
 | cons c r =>
  cases n with
  | zero => exact Nat.zero_le _
  | succ n =>
   simp only [List.take_succ_cons, isWord, Bool.and_eq_true] at h
   simp only [wLen, h.1, if_true]
   have := wRun_ge r n (by simpa using hn) h.2
   omega
theorem word_end (t : Bs) (h : 0 < wLen t) : isWord (t.take (wLen t)) = true ∧ wLen t ≤ toNl t := by
 cases t with
 | nil => simp [wLen] at h
 | cons c r =>
  by_cases hl : letter c = true
  ·have hc : c ≠ 10 := by rintro rfl; revert hl; decide
   simp only [wLen, hl, if_true, List.take_succ_cons, isWord, Bool.true_and, wRun_take r, true_and, toNl, hc, if_false]
   have := wRun_le r; omega
  ·simp [wLen, hl] at h

-- numbers
inductive Rest : Bs → Prop
 | nil : Rest []
 | one {c : UInt8} {r : Bs} : numc c = true → Rest r → Rest (c :: r)
 | two {c d : UInt8} {r : Bs} : expo c = true → sign d = true → Rest r → Rest (c :: d :: r)
inductive Num : Bs → Prop
 | one {c : UInt8} {r : Bs} : digit c = true → Rest r → Num (c :: r)
 | two {c d : UInt8} {r : Bs} : c.toNat = 46 → digit d = true → Rest r → Num (c :: d :: r)
theorem Rest.app {x y : Bs} (h : Rest x) (k : Rest y) : Rest (x ++ y) := by
 induction h with
 | nil => exact k
 | one h _ ih => exact .one h ih
 | two h1 h2 _ ih => exact .two h1 h2 ih
theorem Num.app {x y : Bs} (h : Num x) (k : Rest y) : Num (x ++ y) := by
 cases h with
 | one h r => exact .one h (r.app k)
 | two h1 h2 r => exact .two h1 h2 (r.app k)
theorem Rest.last {x : Bs} (h : Rest x) : x = [] ∨ (∃ y c, x = y ++ [c] ∧ numc c = true ∧ Rest y) ∨ (∃ y c d, x = y ++ [c, d] ∧ expo c = true ∧ sign d = true ∧ Rest y) := by
 induction h with
 | nil => exact .inl rfl
 | @one c r h hr ih =>
  right
  rcases ih with rfl | ⟨y, e, rfl, he, hy⟩ | ⟨y, e, d, rfl, he, hd, hy⟩
  ·exact .inl ⟨[], c, rfl, h, .nil⟩
  ·exact .inl ⟨c :: y, e, rfl, he, .one h hy⟩
  ·exact .inr ⟨c :: y, e, d, rfl, he, hd, .one h hy⟩
 | @two c d r h1 h2 hr ih =>
  right
  rcases ih with rfl | ⟨y, e, rfl, he, hy⟩ | ⟨y, e, f, rfl, he, hf, hy⟩
  ·exact .inr ⟨[], c, d, rfl, h1, h2, .nil⟩
  ·exact .inl ⟨c :: d :: y, e, rfl, he, .two h1 h2 hy⟩
  ·exact .inr ⟨c :: d :: y, e, f, rfl, he, hf, .two h1 h2 hy⟩
theorem digit_numc {c : UInt8} (h : digit c = true) : numc c = true := by simp [numc, h]
theorem digit_dot {c : UInt8} (h : digit c = true) : c.toNat ≠ 46 := by simp only [digit, Bool.and_eq_true, decide_eq_true_eq] at h; omega
theorem digit_sign {c : UInt8} (h : numc c = true) : sign c = false := by
 simp only [numc, digit, letter, Bool.or_eq_true, Bool.and_eq_true, decide_eq_true_eq] at h
 simp only [sign, Bool.or_eq_false_iff, decide_eq_false_iff_not]
 omega
theorem sign_numc {c : UInt8} (h : sign c = true) : numc c = false ∧ expo c = false := by
 constructor
 ·cases hn : numc c with
  | false => rfl
  | true => rw [digit_sign hn] at h; cases h
 ·simp only [sign, Bool.or_eq_true, decide_eq_true_eq] at h
  simp only [expo, Bool.or_eq_false_iff, decide_eq_false_iff_not]
  omega
theorem Num.ne {x : Bs} (h : Num x) : x ≠ [] := by cases h <;> simp
theorem isNumR_num : ∀ (x : Bs), isNumR x = true → Num x.reverse
 | [], h => by simp [isNumR] at h
 | [a], h => .one (by simpa [isNumR] using h) .nil
 | c :: b :: r, h => by
  simp only [isNumR] at h
  split at h
  ·rename_i hr
   obtain ⟨rfl, hb⟩ := hr
   exact .two hb h .nil
  ·split at h
   ·simp only [Bool.and_eq_true, decide_eq_true_eq] at h
    rename_i hs
    have := (isNumR_num r h.2).app (.two h.1.2 hs .nil)
    simpa using this
   ·simp only [Bool.and_eq_true] at h
    have := (isNumR_num (b :: r) h.2).app (.one h.1 .nil)
    simpa using this
theorem isNum_snoc (x : Bs) (c : UInt8) (hx : isNum x = true) (hc : numc c = true) : isNum (x ++ [c]) = true := by
 unfold isNum at hx ⊢
 rw [List.reverse_append]
 cases hr : x.reverse with
 | nil => rw [hr] at hx; simp [isNumR] at hx
 | cons b r =>
  rw [hr] at hx
  show isNumR (c :: b :: r) = true
  simp only [isNumR, digit_sign hc, Bool.false_eq_true, if_false, hc, Bool.true_and, hx]
  split
  ·rename_i h
   obtain ⟨rfl, hb⟩ := h
   simp only [isNumR] at hx
   exact absurd hb (digit_dot hx)
  ·rfl
theorem isNum_two (x : Bs) (c d : UInt8) (hx : isNum x = true) (hc : expo c = true) (hd : sign d = true) : isNum (x ++ [c, d]) = true := by
 unfold isNum at hx ⊢
 rw [List.reverse_append]
 show isNumR (d :: c :: x.reverse) = true
 have hne : x.reverse ≠ [] := by rintro e; rw [e] at hx; simp [isNumR] at hx
 simp only [isNumR, hne, false_and, if_false, hd, if_true, hc, hx, ne_eq, not_false_eq_true, decide_true, Bool.and_self]
theorem num_isNum {x : Bs} (h : Num x) : isNum x = true := by
 have base : ∀ (s : Bs), isNum s = true → ∀ (n : Nat) (r : Bs), r.length ≤ n → Rest r → isNum (s ++ r) = true := by
  intro s hs n
  induction n with
  | zero => intro r hr _; rw [List.length_eq_zero_iff.1 (Nat.le_zero.1 hr), List.append_nil]; exact hs
  | succ n ih =>
   intro r hr hR
   rcases hR.last with rfl | ⟨y, e, rfl, he, hy⟩ | ⟨y, e, f, rfl, he, hf, hy⟩
   ·rw [List.append_nil]; exact hs
   ·rw [← List.append_assoc]
    exact isNum_snoc _ _ (ih y (by simp at hr; omega) hy) he
   ·rw [← List.append_assoc]
    exact isNum_two _ _ _ (ih y (by simp at hr; omega) hy) he hf
 cases h with
 | @one c r h hr => exact base [c] (by simpa [isNum, isNumR] using h) _ r (Nat.le_refl _) hr
 | @two c d r h1 h2 hr => exact base [c, d] (by simpa [isNum, isNumR, h1] using h2) _ r (Nat.le_refl _) hr
theorem isNum_iff (x : Bs) : isNum x = true ↔ Num x := ⟨fun h => by have := isNumR_num _ h; simpa using this, num_isNum⟩
theorem rest_ge {x : Bs} (h : Rest x) : ∀ y : Bs, x.length ≤ nRun (x ++ y) := by
 induction h with
 | nil => intro y; exact Nat.zero_le _
 | @one c r h hr ih =>
  intro y
  have h1 := ih y
  cases hry : r ++ y with
  | nil =>
   obtain rfl : r = [] := (List.append_eq_nil_iff.1 hry).1
   simp only [List.nil_append] at hry
   subst hry
   simp [nRun, h]
  | cons d z =>
   rw [hry] at h1
   simp only [List.cons_append, hry, nRun, h, if_true, List.length_cons]
   split
   ·rename_i hes
    simp only [Bool.and_eq_true] at hes
    have : r = [] := by
     cases hr with
     | nil => rfl
     | one h2 _ => obtain ⟨rfl, -⟩ := List.cons.inj hry; rw [(sign_numc hes.2).1] at h2; cases h2
     | two h2 _ _ => obtain ⟨rfl, -⟩ := List.cons.inj hry; rw [(sign_numc hes.2).2] at h2; cases h2
    subst this
    simp
   ·omega
 | @two c d r h1 h2 hr ih =>
  intro y
  have := ih y
  simp only [List.cons_append, nRun, h1, h2, Bool.and_self, if_true, List.length_cons]
  omega
theorem rest_run : ∀ r : Bs, Rest (r.take (nRun r)) ∧ nRun r ≤ toNl r
 | [] => ⟨.nil, Nat.le_refl _⟩
 | [c] => by
  simp only [nRun]
  split
  ·rename_i h
   have hc : c ≠ 10 := by rintro rfl; revert h; decide
   exact ⟨.one h .nil, by simp [toNl, hc]⟩
  ·exact ⟨.nil, Nat.zero_le _⟩
 | c :: d :: r => by
  simp only [nRun]
  split
  ·rename_i h
   simp only [Bool.and_eq_true] at h
   have hc : c ≠ 10 := by rintro rfl; revert h; simp [expo]
   have hd : d ≠ 10 := by rintro rfl; revert h; simp [sign]
   obtain ⟨h1, h2⟩ := rest_run r
   exact ⟨.two h.1 h.2 h1, by simp [toNl, hc, hd]; omega⟩
  ·split
   ·rename_i h
    have hc : c ≠ 10 := by rintro rfl; revert h; decide
    obtain ⟨h1, h2⟩ := rest_run (d :: r)
    refine ⟨.one h h1, ?_⟩
    rw [toNl]; simp [hc]; exact h2
   ·exact ⟨.nil, Nat.zero_le _⟩
theorem num_ge (t : Bs) (n : Nat) (hn : n ≤ t.length) (h : isNum (t.take n) = true) : n ≤ nLen t := by
 have hN := (isNum_iff _).1 h
 have hs : t = t.take n ++ t.drop n := (List.take_append_drop n t).symm
 have hl : (t.take n).length = n := by simp [hn]
 generalize t.take n = x at *
 generalize t.drop n = y at *
 subst hs
 cases hN with
 | @one c r hd hr =>
  have := rest_ge hr y
  simp only [List.length_cons] at hl
  cases hry : r ++ y with
  | nil => simp only [List.cons_append, hry, nLen, hd, if_true]; have := List.append_eq_nil_iff.1 hry; simp [this.1] at hl; omega
  | cons d z =>
   rw [hry] at this
   simp only [List.cons_append, hry, nLen, digit_dot hd, hd, if_true, if_false]
   omega
 | @two c d r hc hd hr =>
  have := rest_ge hr y
  simp only [List.length_cons] at hl
  simp only [List.cons_append, nLen, hc, hd, if_true]
  omega
theorem num_end (t : Bs) (h : 0 < nLen t) : isNum (t.take (nLen t)) = true ∧ nLen t ≤ toNl t := by
 rw [isNum_iff]
 match t with
 | [] => simp [nLen] at h
 | [c] =>
  by_cases hd : digit c = true
  ·have hc : c ≠ 10 := by rintro rfl; revert hd; decide
   simp only [nLen, hd, if_true]
   exact ⟨.one hd .nil, by simp [toNl, hc]⟩
  ·simp [nLen, hd] at h
 | c :: d :: r =>
  by_cases h46 : c.toNat = 46
  ·by_cases hd : digit d = true
   ·have hc : c ≠ 10 := by rintro rfl; revert h46; decide
    have hd2 : d ≠ 10 := by rintro rfl; revert hd; decide
    obtain ⟨h1, h2⟩ := rest_run r
    simp only [nLen, h46, hd, if_true]
    exact ⟨.two h46 hd h1, by simp [toNl, hc, hd2]; omega⟩
   ·simp [nLen, h46, hd] at h
  ·by_cases hd : digit c = true
   ·have hc : c ≠ 10 := by rintro rfl; revert hd; decide
    obtain ⟨h1, h2⟩ := rest_run (d :: r)
    simp only [nLen, h46, hd, if_true, if_false]
    refine ⟨.one hd h1, ?_⟩
    rw [toNl]; simp [hc]; exact h2
   ·simp [nLen, h46, hd] at h
end Go.Proofs.YtlboejdhmggjpaaGreat

/- reflow: the iterator over words. -/
import Derived.Test.YtbnhefibpjldfaaGreatDoorPzO
import Derived.Lib.OthersKept
import Derived.Test.YtbnhefibpjldfaaGreatDoorPyK
namespace Go.Proofs.YtbnhefibpjldfaaGreatDoor
open Go.RowKit Go.BigFrame Go.Shelf
set_option linter.unusedVariables false
attribute [local go_sem] Oper.semAt_some

/-- A box of a text stays, and so do iterators. -/
def KS (B : Nat) (a b : World) : Prop := a.heap.size ≤ b.heap.size ∧ (∀ cs, a.heap[B]? = some (.cells cs 9 (0, 0)) → b.heap[B]? = some (.cells cs 9 (0, 0))) ∧ ∀ (k : Nat) (o : Obj), a.heap[k]? = some o → o.isWalk = true → b.heap[k]? = some o
theorem KS.trans {B : Nat} {a b c : World} (h : KS B a b) (k : KS B b c) : KS B a c := ⟨Nat.le_trans h.1 k.1, fun cs x => k.2.1 cs (h.2.1 cs x), fun i o x y => k.2.2 i o (h.2.2 i o x y) y⟩
theorem KS.of_below {B : Nat} {w w' : World} (h : Below w.heap.size w w') : KS B w w' := ⟨h.size, fun cs x => heap_below h x (Array.getElem?_eq_some_iff.1 x).1, fun k o x _ => heap_below h x (Array.getElem?_eq_some_iff.1 x).1⟩
theorem KS.putObj {B : Nat} {w : World} {l : Nat} {o o' : Obj} (ho : w.heap[l]? = some o) (hc : o.isCells = false) (hw : o.isWalk = false) : KS B w (w.putObj l o') := ⟨by simp, fun cs x => by
  rw [World.putObj_heap_other (fun e => by
    subst e
    rw [ho] at x
    cases x
    cases hc)]
  exact x, fun k o2 x y => by
  rw [World.putObj_heap_other (fun e => by
    subst e
    rw [ho] at x
    cases x
    rw [hw] at y
    cases y)]
  exact x⟩
theorem Lw.words (s : ByteArray) (w : World) : Calls Tryz.prog 103 #[.string s] w fun e w' => e = .returned (.func (.func 123) #[] #[.pointer (some ⟨w.heap.size, 0, none⟩)]) ∧ w' = w.alloc (.cells #[.string s] 9) := by
  go_enter Tryz.func103, Tryz.ntmps103
  go_wp2
  go_ret
  exact ⟨rfl, rfl⟩
theorem white_r (r : Nat) (w : World) (b : Bool) (h : rune5 (r : Int) = b) : Calls Tryz.prog 122 #[.int .i32 (r : Int)] w fun e w' => e = .returned (.bool b) ∧ w' = w := h ▸ Re.whiteF r w
theorem ipos {w : World} {k : Nat} {s : ByteArray} {p : Nat} (h : w.heap[k]? = some (.stringIter s p)) : w.iterPos k = p := by simp [World.iterPos, h]
/-- Where a word has begun. -/
def stI : Option Nat → Int
  | none => -1
  | some a => a
/-- What is left of the words. -/
def lft (l : Bs) (st : Option Nat) (pos : Nat) : List Bs := fldsF white5 (openP l st pos) (l.drop pos)
theorem lft_more {s : ByteArray} {pos n : Nat} (h2 : pos + n ≤ s.size) (hq : ∀ j (hj : j < s.size), pos ≤ j → j < pos + n → white5 ((dl s)[j]'(by rw [← size_dl]; exact hj)) = false) :
    (lft (dl s) none pos = lft (dl s) (some pos) (pos + n)) ∧ ∀ a, a ≤ pos → lft (dl s) (some a) pos = lft (dl s) (some a) (pos + n) := by
  have hl : (dl s).length = s.size := (size_dl s).symm
  have hq' : ∀ c ∈ ((dl s).drop pos).take n, white5 c = false := fun c hc => by
    obtain ⟨k, hk, rfl⟩ := List.mem_iff_getElem.1 hc
    have hk' := hk
    rw [List.length_take, List.length_drop] at hk'
    rw [List.getElem_take, List.getElem_drop]
    exact hq (pos + k) (by omega) (by omega) (by omega)
  unfold lft
  refine ⟨?_, fun a ha => ?_⟩
  · rw [drop_cut (dl s) (by rw [hl]; exact h2), flds_skip white5 _ _ _ hq']
    congr 1
    simp [openP]
  · rw [drop_cut (dl s) (by rw [hl]; exact h2), flds_skip white5 _ _ _ hq', openP_more _ a pos n ha]
theorem lft_white {s : ByteArray} {pos : Nat} (h : pos < s.size) (hq : white5 ((dl s)[pos]'(by rw [← size_dl]; exact h)) = true) :
    (lft (dl s) none pos = lft (dl s) none (pos + 1)) ∧ ∀ a, a < pos → lft (dl s) (some a) pos = openP (dl s) (some a) pos :: lft (dl s) none (pos + 1) := by
  have hl : (dl s).length = s.size := (size_dl s).symm
  unfold lft
  rw [List.drop_eq_getElem_cons (by rw [hl]; exact h)]
  refine ⟨?_, fun a ha => ?_⟩
  · rw [fldsF, if_pos hq, if_pos (by rfl)]; rfl
  · rw [fldsF, if_pos hq, if_neg (openP_ne _ a pos ha (by omega))]; rfl
theorem lft_end {s : ByteArray} {pos : Nat} (h : pos = s.size) : lft (dl s) none pos = [] ∧ ∀ a, a < pos → lft (dl s) (some a) pos = [openP (dl s) (some a) pos] := by
  have hl : (dl s).length = s.size := (size_dl s).symm
  unfold lft
  rw [List.drop_eq_nil_of_le (by omega)]
  refine ⟨by rfl, fun a ha => ?_⟩
  rw [fldsF, if_neg (openP_ne _ a pos ha (by omega))]
theorem mod_iter {w : World} {k : Nat} {s : ByteArray} {p q M : Nat} (h : w.heap[k]? = some (.stringIter s p)) (hM : M ≤ k) : Mod (fun j => False ∨ (M ≤ j ∧ nc w j)) w (w.iterAt k s q) :=
  ⟨rfl, rfl, rfl, by rw [Lib.iterAt_size]; exact Nat.le_refl _, fun j _ hn => Lib.iterAt_other w k j s q (fun e => hn (.inr (by subst e; exact ⟨hM, _, h, rfl⟩)))⟩
set_option maxRecDepth 100000 in
set_option maxHeartbeats 8000000 in
theorem Lw.wseq (n B : Nat) (s : ByteArray) (w : World) (h0 : w.heap[B]? = some (.cells #[.string s] 9 (0, 0))) (hs : s.size ≤ 1000000000) :
    SeqG Fence.wide n Tryz.prog 123 #[.pointer (some ⟨B, 0, none⟩)] (fun x : Bs => #[.string (str x)]) (KS B) (fun pre x => ∃ r, flds white5 (dl s) = pre ++ x :: r) (fun _ => False)
      (fun zs => zs = flds white5 (dl s)) (fun zs => ∃ r, flds white5 (dl s) = zs ++ r) w := fun l J Jx W hW hJ hJx hY hj0 => by
  have g0 := heap_below hW h0 (Array.getElem?_eq_some_iff.1 h0).1
  have c00 : W.cell? ⟨B, 0, none⟩ = some (.string s) := by simp [World.cell?, g0]
  have hBW : B < W.heap.size := (Array.getElem?_eq_some_iff.1 g0).1
  obtain ⟨V, hV⟩ : ∃ V, flds white5 (dl s) = V := ⟨_, rfl⟩
  rw [hV] at hY ⊢
  have hV0 : V = [] ++ lft (dl s) none 0 := hV.symm
  have hj1 := hJ _ _ _ hj0 (Mod.of_below (below_alloc W (.stringIter s 0)))
  have g1 : (W.iter s 0).heap[B]? = some (.cells #[.string s] 9 (0, 0)) := (Lib.alloc_old W _ B hBW).trans g0
  have i1 := World.iter_heap W s 0
  have HV0 := Lib.hid hV0
  have HJ := Lib.hid hJ
  have HY := Lib.hid hY
  have HJ1 := Lib.hid hj1
  have G1 := Lib.hid g1
  have I1 := Lib.hid i1
  clear h0 hJ hJx g0 hY hj0 hV hV0 hj1 g1 i1
  refine callsIn_of_wp Tryz.func123 rfl trivial ?_ rfl
  simp only [Tryz.ntmps123, List.size_toArray, List.length_cons, List.length_nil, Nat.reduceAdd, Nat.reduceSub, Array.replicate_succ, Array.replicate_zero, List.push_toArray, List.append_toArray, List.nil_append, List.cons_append]
  gi_wp2_with (fail)
  gi_loopw [3] (fun s3 wr => ∃ (pre : List Bs) (pos : Nat) (st : Option Nat), V = pre ++ lft (dl s) st pos ∧ pos ≤ s.size ∧ (∀ a, st = some a → a < pos) ∧ s3 = .int .i64 (stI st) ∧ wr.heap[B]? = some (.cells #[.string s] 9 (0, 0)) ∧ wr.heap[W.heap.size]? = some (.stringIter s pos) ∧ J pre wr) (fun s3 wr => s.size + 1 - wr.iterPos W.heap.size)
  case atStart => exact ⟨[], 0, none, HV0.out, Nat.zero_le _, (fun a h => by cases h), rfl, G1.out, I1.out, HJ1.out⟩
  case round =>
    clear HJ1 G1 I1 HV0 c00
    obtain ⟨pre, pos, st, hpre, hi, hst, rfl, g0, i0, hjp⟩ := hrel
    have hipos := ipos i0
    have G0 := Lib.hid g0
    have I0 := Lib.hid i0
    have HJP := Lib.hid hjp
    have HIP := Lib.hid hipos
    by_cases hlt : pos < s.size
    · obtain ⟨r1, r2, r3, r4⟩ := rune_step byB5' s pos hlt
      have hnx := fun ty => Lib.run_next_any_at (P := Tryz.prog) wr W.heap.size s pos ty i0 hlt
      obtain ⟨W2, hW2⟩ : ∃ W2, W2 = wr.iterAt W.heap.size s (pos + (Utf8.decode s pos).2) := ⟨_, rfl⟩
      have hj2 : J pre W2 := by rw [hW2]; exact HJ.out _ _ _ hjp (mod_iter i0 (Nat.le_refl _))
      have g2 : W2.heap[B]? = some (.cells #[.string s] 9 (0, 0)) := by rw [hW2, Lib.iterAt_other _ _ _ _ _ (by omega)]; exact g0
      have i2 : W2.heap[W.heap.size]? = some (.stringIter s (pos + (Utf8.decode s pos).2)) := by rw [hW2]; exact Lib.iterAt_heap _ _ _ _ _ i0
      have c2 : W2.cell? ⟨B, 0, none⟩ = some (.string s) := by simp [World.cell?, g2]
      rw [← hW2] at hnx
      generalize (Utf8.decode s pos).2 = nn at *
      generalize (Utf8.decode s pos).1 = rr at *
      have HJ2 := Lib.hid hj2
      have G2 := Lib.hid g2
      have I2 := Lib.hid i2
      have hpos : (pos : Int) ≤ s.size := by omega
      have hpn : pos + nn ≤ s.size := r2
      clear g0 i0 hjp hW2 hj2 g2 i2 hipos
      cases hw : rune5 (rr : Int) with
      | false =>
        have hm := lft_more r2 (r4 hw)
        have HW := Lib.hid (fun u : World => white_r rr u false hw)
        clear r3 r4 hw
        cases st with
        | none =>
          rw [hm.1] at hpre
          have HPRE := Lib.hid hpre
          simp only [stI]
          clear hpre hm hst
          gi_wp2_with (fail)
          refine ⟨trivial, (fun hh => by cases hh), (callsIn_wide.2 (HW.out _)).mono ?_⟩
          rintro e w3 ⟨rfl, rfl⟩
          gi_wp2_with (fail)
          go_roundw
          case rel => exact ⟨pre, pos + nn, some pos, HPRE.out, hpn, (fun a h => by cases h; omega), rfl, G2.out, I2.out, HJ2.out⟩
          case measure => rw [ipos I2.out, HIP.out]; omega
        | some a =>
          have hap := hst a rfl
          rw [hm.2 a (by omega)] at hpre
          have HPRE := Lib.hid hpre
          have ha0 : ¬ (a : Int) < 0 := by omega
          simp only [stI]
          clear hpre hm hst
          gi_wp2_with (fail)
          refine ⟨trivial, (fun hh => by cases hh), (callsIn_wide.2 (HW.out _)).mono ?_⟩
          rintro e w3 ⟨rfl, rfl⟩
          gi_wp2_with (fail)
          go_roundw
          case rel => exact ⟨pre, pos + nn, some a, HPRE.out, hpn, (fun b h => by cases h; omega), rfl, G2.out, I2.out, HJ2.out⟩
          case measure => rw [ipos I2.out, HIP.out]; omega
      | true =>
        obtain ⟨rfl, hq⟩ := r3 hw
        have hm := lft_white hlt hq
        have HW := Lib.hid (fun u : World => white_r rr u true hw)
        clear r3 r4 hw hq
        cases st with
        | none =>
          rw [hm.1] at hpre
          have HPRE := Lib.hid hpre
          simp only [stI]
          clear hpre hm hst
          gi_wp2_with (fail)
          refine ⟨trivial, (fun hh => by cases hh), (callsIn_wide.2 (HW.out _)).mono ?_⟩
          rintro e w3 ⟨rfl, rfl⟩
          gi_wp2_with (fail)
          go_roundw
          case rel => exact ⟨pre, pos + 1, none, HPRE.out, hpn, (fun a h => by cases h), rfl, G2.out, I2.out, HJ2.out⟩
          case measure => rw [ipos I2.out, HIP.out]; omega
        | some a =>
          have hap := hst a rfl
          rw [hm.2 a hap] at hpre
          obtain ⟨x, hx⟩ : ∃ x, openP (dl s) (some a) pos = x := ⟨_, rfl⟩
          rw [hx] at hpre
          have hxs : str x = s.extract a pos := by rw [← hx, ← ext_open]; exact str_of _
          have HPRE := Lib.hid hpre
          have ha0 : (0 : Int) ≤ a := by omega
          have hap' : (a : Int) ≤ pos := by omega
          obtain ⟨fn1, tm1, as1, bo1, hyy1, hR1⟩ := HY.out pre x W2 HJ2.out ⟨_, HPRE.out⟩
          rw [hxs] at hyy1
          simp only [stI]
          clear hpre hm hst hx hxs
          gi_wp2_with (fail)
          refine ⟨trivial, (fun hh => by cases hh), (callsIn_wide.2 (HW.out _)).mono ?_⟩
          rintro e w3 ⟨rfl, rfl⟩
          gi_wp2_with (fail)
          refine ⟨(fun hh => by cases hh), hR1.mono ?_⟩
          rintro e W1 (⟨rfl, hJ1, hk1⟩ | ⟨rfl, hx1⟩)
          · have g1 := hk1.2.1 _ G2.out
            have i1 := hk1.2.2 _ _ I2.out rfl
            have HJ1 := Lib.hid hJ1
            have G1 := Lib.hid g1
            have I1 := Lib.hid i1
            clear g1 i1 hk1 hJ1 hyy1 hR1
            gi_wp2_with (fail)
            go_roundw
            case rel => exact ⟨pre ++ [x], pos + 1, none, by rw [List.append_assoc]; exact HPRE.out, hpn, (fun a h => by cases h), rfl, G1.out, I1.out, HJ1.out⟩
            case measure => rw [ipos I1.out, HIP.out]; omega
          · have HX1 := Lib.hid hx1
            clear hx1 hyy1 hR1
            gi_wp2_with (fail)
            refine bodyPost_ret (results_none rfl _ _ _) rfl ?_
            exact ⟨⟨_, rfl⟩, .inr ⟨_, ⟨_, by rw [List.append_assoc]; exact HPRE.out⟩, HX1.out⟩⟩
    · have hnx := fun ty => Lib.run_next_end_at (P := Tryz.prog) wr W.heap.size s pos ty i0 hlt
      obtain rfl : pos = s.size := by omega
      have hm := lft_end (s := s) rfl
      have c2 : wr.cell? ⟨B, 0, none⟩ = some (.string s) := by simp [World.cell?, g0]
      clear g0 i0 hjp hipos
      cases st with
      | none =>
        rw [hm.1, List.append_nil] at hpre
        have HPRE := Lib.hid hpre
        simp only [stI]
        clear hpre hm hst
        gi_wp2_with (fail)
        go_end0
        exact ⟨⟨_, rfl⟩, .inl ⟨_, HPRE.out.symm, HJP.out⟩⟩
      | some a =>
        have hap := hst a rfl
        rw [hm.2 a hap] at hpre
        obtain ⟨x, hx⟩ : ∃ x, openP (dl s) (some a) s.size = x := ⟨_, rfl⟩
        rw [hx] at hpre
        have hxs : str x = s.extract a s.size := by rw [← hx, ← ext_open]; exact str_of _
        have HPRE := Lib.hid hpre
        have ha0 : (0 : Int) ≤ a := by omega
        have hap' : (a : Int) ≤ s.size := by omega
        obtain ⟨fn1, tm1, as1, bo1, hyy1, hR1⟩ := HY.out pre x wr HJP.out ⟨_, HPRE.out⟩
        rw [hxs] at hyy1
        simp only [stI]
        clear hpre hm hst hx hxs
        gi_wp2_with (fail)
        refine ⟨(fun hh => by cases hh), hR1.mono ?_⟩
        rintro e W1 (⟨rfl, hJ1, hk1⟩ | ⟨rfl, hx1⟩)
        · have HJ1 := Lib.hid hJ1
          clear hk1 hJ1 hyy1 hR1
          gi_wp2_with (fail)
          go_end0
          exact ⟨⟨_, rfl⟩, .inl ⟨_, HPRE.out.symm, HJ1.out⟩⟩
        · have HX1 := Lib.hid hx1
          clear hx1 hyy1 hR1
          gi_wp2_with (fail)
          go_end0
          exact ⟨⟨_, rfl⟩, .inr ⟨_, ⟨[], by rw [List.append_nil]; exact HPRE.out⟩, HX1.out⟩⟩
end Go.Proofs.YtbnhefibpjldfaaGreatDoor

/- PzQ -/
namespace Go.Proofs.YtbnhefibpjldfaaGreatDoor
open Go.RowKit Go.BigFrame Go.Shelf
set_option linter.unusedVariables false

/-- Paragraphs with words more: behind the last one's (o), or as a new one. -/
def adW (Q : List (List Bs)) (o : Bool) (ws : List Bs) : List (List Bs) := if ws = [] then Q else if o then Q.dropLast ++ [Q.getLast?.getD [] ++ ws] else Q ++ [ws]
def stW (a : List (List Bs) × Bool) (ws : List Bs) : List (List Bs) × Bool := (adW a.1 a.2 ws, !ws.isEmpty)
def pst (ls : List (List Bs)) : List (List Bs) × Bool := ls.foldl stW ([], false)
theorem pst_snoc (ls : List (List Bs)) (ws : List Bs) : pst (ls ++ [ws]) = (adW (pst ls).1 (pst ls).2 ws, !ws.isEmpty) := by unfold pst; rw [List.foldl_append]; rfl
theorem stW_nil (a : List (List Bs) × Bool) : stW a [] = (a.1, false) := by simp [stW, adW]
theorem stW_new (P : List (List Bs)) {w : List Bs} (h : w ≠ []) : stW (P, false) w = (P ++ [w], true) := by
  cases w with
  | nil => exact absurd rfl h
  | cons a b => simp [stW, adW]
theorem stW_on (P : List (List Bs)) (now : List Bs) {w : List Bs} (h : w ≠ []) : stW (P ++ [now], true) w = (P ++ [now ++ w], true) := by
  cases w with
  | nil => exact absurd rfl h
  | cons a b => simp [stW, adW]
theorem pst_pars : ∀ (ls : List (List Bs)) (P : List (List Bs)) (now : List Bs),
    (now ≠ [] → (ls.foldl stW (P ++ [now], true)).1 = P ++ parsF now ls) ∧ (ls.foldl stW (P, false)).1 = P ++ parsF [] ls
  | [], P, now => by
    refine ⟨fun h => ?_, ?_⟩
    · simp [parsF, h]
    · simp [parsF]
  | w :: r, P, now => by
    refine ⟨fun h => ?_, ?_⟩
    · by_cases hw : w = []
      · subst hw
        rw [List.foldl_cons, stW_nil, (pst_pars r (P ++ [now]) now).2, parsF, if_pos rfl, if_neg h, List.append_assoc]; rfl
      · rw [List.foldl_cons, stW_on P now hw, (pst_pars r P (now ++ w)).1 (by simp [hw]), parsF, if_neg hw]
    · by_cases hw : w = []
      · subst hw
        rw [List.foldl_cons, stW_nil, (pst_pars r P now).2, parsF, if_pos rfl, if_pos rfl]
      · rw [List.foldl_cons, stW_new P hw, (pst_pars r P w).1 hw, parsF, if_neg hw]; rfl
theorem pst_eq (ls : List (List Bs)) : (pst ls).1 = parsF [] ls := by
  have := (pst_pars ls [] []).2
  simpa [pst] using this
theorem adW_ne {Q : List (List Bs)} {o : Bool} {ws : List Bs} (h : ws ≠ []) : adW Q o ws ≠ [] := by
  unfold adW
  rw [if_neg h]
  split <;> simp
theorem pst_ne (ls : List (List Bs)) (h : (pst ls).2 = true) : (pst ls).1 ≠ [] := by
  rcases last_cases ls with rfl | ⟨d, c, rfl⟩
  · cases h
  · rw [pst_snoc] at h ⊢
    exact adW_ne (fun e => by subst e; cases h)
theorem adW_sum (Q : List (List Bs)) (o : Bool) (ws : List Bs) : ((adW Q o ws).map (·.length)).sum = (Q.map (·.length)).sum + ws.length ∧ (adW Q o ws).length ≤ Q.length + 1 := by
  unfold adW
  split
  · rename_i h; subst h; simp
  · split
    · rcases last_cases Q with rfl | ⟨d, c, rfl⟩
      · simp
      · simp; omega
    · simp
theorem pst_sum (ls : List (List Bs)) : ((pst ls).1.map (·.length)).sum = (ls.map (·.length)).sum ∧ (pst ls).1.length ≤ ls.length := by
  have key : ∀ (ls : List (List Bs)) (a : List (List Bs) × Bool), ((ls.foldl stW a).1.map (·.length)).sum = (a.1.map (·.length)).sum + (ls.map (·.length)).sum ∧ (ls.foldl stW a).1.length ≤ a.1.length + ls.length := by
    intro ls
    induction ls with
    | nil => intro a; simp
    | cons w r ih =>
      intro a
      obtain ⟨h1, h2⟩ := adW_sum a.1 a.2 w
      obtain ⟨h3, h4⟩ := ih (stW a w)
      rw [List.foldl_cons, List.map_cons, List.sum_cons, List.length_cons]
      have e : (stW a w).1 = adW a.1 a.2 w := rfl
      rw [e] at h3 h4
      exact ⟨by omega, by omega⟩
  have := key ls ([], false)
  simpa [pst] using this
/-- One word more. -/
theorem adW_new (Q : List (List Bs)) (x : Bs) : adW Q false ([] ++ [x]) = Q ++ [[] ++ [x]] := rfl
theorem adW_last {Q : List (List Bs)} {o : Bool} {ws : List Bs} (x : Bs) (h : ws ≠ [] ∨ o = true ∧ Q ≠ []) : ∃ d c, adW Q o ws = d ++ [c] ∧ adW Q o (ws ++ [x]) = d ++ [c ++ [x]] := by
  by_cases hw : ws = []
  · subst hw
    rcases h with h | ⟨rfl, h⟩
    · exact absurd rfl h
    · rcases last_cases Q with rfl | ⟨d, c, rfl⟩
      · exact absurd rfl h
      · exact ⟨d, c, by simp [adW], by simp [adW]⟩
  · cases o with
    | false => exact ⟨Q, ws, by simp [adW, hw], by simp [adW]⟩
    | true => exact ⟨Q.dropLast, Q.getLast?.getD [] ++ ws, by simp [adW, hw], by simp [adW]⟩
/-- Paragraphs at the box p; each one's words are its own, the last one's from E on. -/
structure PaS (B E p : Nat) (ov : Value) (l : List Pv) (w : World) : Prop where
  hd : w.heap[p]? = some (.cells #[ov] 92 (0, 0))
  row : w.ownsRow B 36 1 ov l.length (l.flatMap pvC)
  old : ∀ c ∈ l.dropLast, w.ownsRow B 9 1 c.2 c.1.length (c.1.flatMap sB) ∧ ∀ k, c.2.ownBlock = some k → k < E
  new : ∀ c, l.getLast? = some c → w.ownsRow E 9 1 c.2 c.1.length (c.1.flatMap sB)
  leB : B ≤ E
  leE : l ≠ [] → E ≤ w.heap.size
theorem PaS.nc {B E p : Nat} {ov : Value} {l : List Pv} {w w' : World} {S : Nat → Prop} (h : PaS B E p ov l w) (hm : Mod (fun k => S k ∧ YtbnhefibpjldfaaGreatDoor.nc w k) w w') : PaS B E p ov l w' :=
  ⟨hm.keep h.hd (fun hs => not_nc h.hd hs.2), own_nc h.row hm, fun c hc => ⟨own_nc (h.old c hc).1 hm, (h.old c hc).2⟩, fun c hc => own_nc (h.new c hc) hm, h.leB, fun hn => Nat.le_trans (h.leE hn) hm.size⟩
theorem PaS.on {B E p : Nat} {ov : Value} {l : List Pv} {w w' : World} (h : PaS B E p ov l w) (hb : Below w.heap.size w w') : PaS B E p ov l w' :=
  ⟨heap_below hb h.hd (Array.getElem?_eq_some_iff.1 h.hd).1, own_on h.row hb, fun c hc => ⟨own_on (h.old c hc).1 hb, (h.old c hc).2⟩, fun c hc => own_on (h.new c hc) hb, h.leB, fun hn => Nat.le_trans (h.leE hn) hb.size⟩
theorem PaS.other {B E p b : Nat} {ov : Value} {l : List Pv} {w : World} {c : Array Value} (h : PaS B E p ov l w) (hb : w.heap[b]? = some (.cells c 4 (0, 0))) (i : Nat) (u : Value) : PaS B E p ov l (w.setCell ⟨b, i, none⟩ u) := by
  have hm : Mod (fun k => k = b) w (w.setCell ⟨b, i, none⟩ u) := Mod.setCell (Mod.refl (fun k => k = b) w) ⟨b, i, none⟩ (.inr rfl) u
  refine ⟨hm.keep h.hd (fun e => ?_), own_set h.row hb (by decide) i u, fun c hc => ⟨own_set (h.old c hc).1 hb (by decide) i u, (h.old c hc).2⟩, fun c hc => own_set (h.new c hc) hb (by decide) i u, h.leB, fun hn => Nat.le_trans (h.leE hn) hm.size⟩
  rw [← e, h.hd] at hb
  simp at hb
theorem PaS.wv {B E p : Nat} {ov : Value} {l : List Pv} {w : World} (h : PaS B E p ov l w) : WdV w ov (l.map (·.1)) := by
  refine ⟨l, rfl, SlV.of pvC_len h.row rfl, fun c hc => ?_⟩
  rcases last_cases l with rfl | ⟨d, x, rfl⟩
  · cases hc
  · rcases List.mem_append.1 hc with hc | hc
    · exact SlV.of sB_len (h.old c (by rw [List.dropLast_concat]; exact hc)).1 rfl
    · rw [List.mem_singleton] at hc
      subst hc
      exact SlV.of sB_len (h.new c (by simp)) rfl
/-- The last one's cell. -/
theorem PaS.last {B E p : Nat} {ov : Value} {d : List Pv} {c : Pv} {w : World} (h : PaS B E p ov (d ++ [c]) w) :
    ∃ G cap, ov = .slice (some ⟨G, 0, none⟩) (d.length + 1) cap ∧ B ≤ G ∧ w.cell? ⟨G, d.length, none⟩ = some c.2 ∧ w.frozen? ⟨G, d.length, none⟩ = false := by
  have hl : (d ++ [c]).length = d.length + 1 := by simp
  have hrow := h.row
  rw [hl] at hrow
  rcases hrow.2 with ⟨_, h2⟩ | ⟨G, cap, cur, rfl, hb, hg, _⟩
  · omega
  · have e2 := flat_get 1 pvC pvC_len (d ++ [c]) d.length 0 (by simp) (by omega)
    rw [show (d ++ [c])[d.length]'(by simp) = c from by simp] at e2
    simp only [Nat.mul_one, Nat.add_zero] at e2
    exact ⟨G, cap, rfl, hb, by rw [hrow.cellAt _ (by omega), e2]; rfl, Lib.frozen_of_heap hg _⟩
theorem pv_set (d : List Pv) (c : Pv) (ts : List Bs) (u : Value) : ((d ++ [c]).flatMap pvC).set d.length u = (d ++ [((ts, u) : Pv)]).flatMap pvC := by
  have hl := flat_len 1 pvC pvC_len d
  rw [Nat.mul_one] at hl
  rw [List.flatMap_append, List.flatMap_append, List.set_append, if_neg (by rw [hl]; omega), hl, Nat.sub_self]
  simp [pvC]
/-- A word is put behind the last one's. -/
theorem PaS.grow {B E p G cap : Nat} {v' : Value} {d : List Pv} {c : Pv} {ts : List Bs} {w w2 : World}
    (h : PaS B E p (.slice (some ⟨G, 0, none⟩) (d.length + 1) cap) (d ++ [c]) w) (hmg : Mod (fun k => c.2.ownBlock = some k) w w2)
    (hown : w2.ownsRow E 9 1 v' ts.length (ts.flatMap sB)) :
    PaS B E p (.slice (some ⟨G, 0, none⟩) (d.length + 1) cap) (d ++ [((ts, v') : Pv)]) (w2.setCell ⟨G, d.length, none⟩ v') ∧ Mod (fun k => k = G ∨ c.2.ownBlock = some k) w (w2.setCell ⟨G, d.length, none⟩ v') ∧ B ≤ G ∧ (∃ cur, w.heap[G]? = some (.cells cur 36 (0, 0))) := by
  have hg : w.grownBy w2 c.2.ownBlock := ⟨hmg.os, hmg.tape, hmg.output, hmg.size, fun k hk hn => hmg.block k hk (fun e => hn e.symm)⟩
  have hc := h.new c (by simp)
  have hl : (d ++ [c]).length = d.length + 1 := by simp
  have hrow := other_row h.row hc (by decide) hg
  rw [hl] at hrow
  obtain ⟨hBG, cur, hG⟩ := row_cells hrow rfl
  have hrow0 := h.row
  rw [hl] at hrow0
  obtain ⟨_, cur0, hG0⟩ := row_cells hrow0 rfl
  have hhd := other_block h.hd hc (by decide) hg
  have hm : Mod (fun k => k = G) w2 (w2.setCell ⟨G, d.length, none⟩ v') := Mod.setCell (S := fun k => k = G) (Mod.refl _ w2) ⟨G, d.length, none⟩ (.inr rfl) _
  have key : ∀ {X e size n : Nat} {v : Value} {xs : List Value}, e ≠ 36 → w2.ownsRow X e size v n xs → (w2.setCell ⟨G, d.length, none⟩ v').ownsRow X e size v n xs := fun he hx =>
    ownsRow_mod hx hm (fun k hk hkr => by
      subst hkr
      obtain ⟨_, cur', hc'⟩ := row_cells hx hk
      rw [hG] at hc'
      simp only [Option.some.injEq, Obj.cells.injEq] at hc'
      exact he hc'.2.1.symm)
  have hst := (hrow.stored d.length v').1
  rw [pv_set d c ts v'] at hst
  refine ⟨⟨hm.keep hhd (fun e => ?_), by simpa using hst, fun c' hc' => ?_, fun c' hc' => ?_, h.leB, fun _ => by have := hg.size; have := h.leE (by simp); simp; omega⟩, (hmg.mono (fun k _ hk => .inr hk)).trans (hm.mono (fun k _ hk => .inl hk)), hBG, cur0, hG0⟩
  · subst e
    rw [hG] at hhd
    simp at hhd
  · rw [List.dropLast_concat] at hc'
    obtain ⟨h1, h2⟩ := h.old c' (by rw [List.dropLast_concat]; exact hc')
    refine ⟨key (by decide) (ownsRow_mod (S := fun k => c.2.ownBlock = some k) h1 hmg (fun k hk hs => ?_)), h2⟩
    have := h2 k hk
    have := (row_cells hc hs).1
    omega
  · have : c' = ((ts, v') : Pv) := by simpa using hc'.symm
    subst this
    exact key (by decide) hown
/-- An empty one is pushed. -/
theorem PaS.push {B E p : Nat} {ov v' : Value} {l : List Pv} {w w1 w2 : World} (h : PaS B E p ov l w) (hBw : B ≤ w.heap.size) (hb : Below w.heap.size w w1) (hg : w1.grownBy w2 ov.ownBlock)
    (hown : w2.ownsRow B 36 1 v' (l.length + 1) (l.flatMap pvC ++ [.slice none 0 0])) :
    PaS B w.heap.size p v' (l ++ [(([], .slice none 0 0) : Pv)]) (w2.setCell ⟨p, 0, none⟩ v') ∧ Mod (fun k => k = p ∨ ov.ownBlock = some k) w (w2.setCell ⟨p, 0, none⟩ v') := by
  have h1 := h.on hb
  have hhd := other_block h1.hd h1.row (by decide) hg
  have hm : Mod (fun k => k = p) w2 (w2.setCell ⟨p, 0, none⟩ v') := Mod.setCell (S := fun k => k = p) (Mod.refl _ w2) ⟨p, 0, none⟩ (.inr rfl) v'
  have key : ∀ {X e size n : Nat} {v : Value} {xs : List Value}, e ≠ 92 → w2.ownsRow X e size v n xs → (w2.setCell ⟨p, 0, none⟩ v').ownsRow X e size v n xs := fun he hx =>
    ownsRow_mod hx hm (fun k hk hkr => by
      subst hkr
      obtain ⟨_, cur, hc⟩ := row_cells hx hk
      rw [hhd] at hc
      simp only [Option.some.injEq, Obj.cells.injEq] at hc
      exact he hc.2.1.symm)
  have hmg : Mod (fun k => ov.ownBlock = some k) w1 w2 := ⟨hg.os, hg.tape, hg.output, hg.size, fun k hk hn => hg.block k hk (fun e => hn e.symm)⟩
  have hs1 := hb.size
  have hs2 := hg.size
  refine ⟨⟨by simpa using heap_setCell_same w2 p 0 _ _ v' hhd, ?_, fun c hc => ?_, fun c hc => ?_, hBw, fun _ => by simp; omega⟩, (Mod.of_below hb).trans ((hmg.mono (fun k _ hk => .inr hk)).trans (hm.mono (fun k _ hk => .inl hk)))⟩
  · have := key (by decide) hown
    simpa [pvC] using this
  · rw [List.dropLast_concat] at hc
    rcases last_cases l with rfl | ⟨d, x, rfl⟩
    · cases hc
    · rcases List.mem_append.1 hc with hc | hc
      · obtain ⟨q1, q2⟩ := h1.old c (by rw [List.dropLast_concat]; exact hc)
        exact ⟨key (by decide) (other_row q1 h1.row (by decide) hg), fun k hk => by have := q2 k hk; have := h.leE (by simp); omega⟩
      · rw [List.mem_singleton] at hc
        subst hc
        have q1 := h1.new c (by simp)
        refine ⟨key (by decide) (other_row (own_base q1 h1.leB) h1.row (by decide) hg), fun k hk => ?_⟩
        obtain ⟨_, cur, hc⟩ := row_cells (h.new c (by simp)) hk
        exact (Array.getElem?_eq_some_iff.1 hc).1
  · have : c = (([], .slice none 0 0) : Pv) := by simpa using hc.symm
    subst this
    exact World.ownsRow_nil _ _ _ _
/-- Two boxes change, and cells from B on. -/
def Mq (A B : Nat) (a b : World) : Prop := Mod (fun k => k = A ∨ k = A + 1 ∨ (B ≤ k ∧ ∃ cs t fz, a.heap[k]? = some (.cells cs t fz))) a b
theorem Mq.refl (A B : Nat) (w : World) : Mq A B w w := Mod.refl _ _
theorem Mq.of_below {A B : Nat} {w w' : World} (h : Below w.heap.size w w') : Mq A B w w' := Mod.of_below h
theorem Mq.trans {A B : Nat} {a b c : World} (h : Mq A B a b) (k : Mq A B b c) : Mq A B a c :=
  ⟨k.os.trans h.os, k.tape.trans h.tape, k.output.trans h.output, Nat.le_trans h.size k.size, fun j hj hn => by
    have e1 := h.block j hj hn
    rw [k.block j (Nat.lt_of_lt_of_le hj h.size) (fun hs => hn ?_), e1]
    rcases hs with hs | hs | ⟨h1, cs, t, fz, h2⟩
    · exact .inl hs
    · exact .inr (.inl hs)
    · exact .inr (.inr ⟨h1, cs, t, fz, by rw [← e1]; exact h2⟩)⟩
theorem Mq.below {A B K : Nat} {a b : World} (h : Mq A B a b) (hA : K ≤ A) (hB : K ≤ B) (hs : K ≤ a.heap.size) : Below K a b :=
  Mod.below h hs (fun k hk => by rcases hk with rfl | rfl | ⟨h1, _⟩ <;> omega)
theorem Mq.kl {A B G : Nat} {a b : World} (h : Mq A B a b) (hA : A + 1 < G) (hB : G < B) : KL G a b :=
  ⟨h.size, fun cs t x => Mod.keep h x (fun hk => by rcases hk with rfl | rfl | ⟨h1, _⟩ <;> omega)⟩
/-- The two boxes are there. -/
def Bxs (A : Nat) (w : World) : Prop := (∃ c t, w.heap[A]? = some (.cells c t (0, 0))) ∧ ∃ c t, w.heap[A + 1]? = some (.cells c t (0, 0))
theorem Mq.kf {A B : Nat} {a b : World} (h : Mq A B a b) (hx : Bxs A a) (X : Nat) : KeepsFrom X a b :=
  ⟨h.size, fun k o _ hk hc => Mod.keep h hk (fun hs => by
    obtain ⟨⟨c1, t1, q1⟩, c2, t2, q2⟩ := hx
    rcases hs with rfl | rfl | ⟨_, cs, t, fz, h2⟩
    · rw [q1] at hk; cases hk; cases hc
    · rw [q2] at hk; cases hk; cases hc
    · rw [h2] at hk; cases hk; cases hc)⟩
theorem Mq.of_mod {A B : Nat} {S : Nat → Prop} {a b : World} (h : Mod S a b) (hS : ∀ k, S k → k = A ∨ k = A + 1 ∨ (B ≤ k ∧ ∃ cs t fz, a.heap[k]? = some (.cells cs t fz)) ∨ a.heap.size ≤ k) : Mq A B a b :=
  ⟨h.os, h.tape, h.output, h.size, fun k hk hn => h.block k hk (fun hs => hn (by
    rcases hS k hs with q | q | q | q
    · exact .inl q
    · exact .inr (.inl q)
    · exact .inr (.inr q)
    · omega))⟩
/-- What an iterator asks of the body. -/
theorem ks_of {Bx : Nat} {S : Nat → Prop} {a b : World} (h : Mod S a b) (hS : ∀ k, S k → (∃ c t, a.heap[k]? = some (.cells c t (0, 0)) ∧ (t ≠ 9 ∨ k ≠ Bx))) : KS Bx a b :=
  ⟨h.size, fun cs x => Mod.keep h x (fun hk => by
    obtain ⟨c, t, q, hd⟩ := hS _ hk
    rw [x] at q
    cases q
    rcases hd with hd | hd
    · exact hd rfl
    · exact hd rfl), fun k o x hw => Mod.keep h x (fun hk => by
    obtain ⟨c, t, q, _⟩ := hS _ hk
    rw [x] at q
    cases q
    cases hw)⟩
end Go.Proofs.YtbnhefibpjldfaaGreatDoor

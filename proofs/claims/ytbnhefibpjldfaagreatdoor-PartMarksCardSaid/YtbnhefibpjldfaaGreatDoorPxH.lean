/- slices.Equal of texts, joined. -/
import Derived.Test.YtbnhefibpjldfaaGreatDoorPxE
import Derived.Test.YtbnhefibpjldfaaGreatDoorPwA
import Derived.Lib.FieldsP
import Derived.Lib.MapLaws
import Derived.Lib.DecodeN
import Derived.Laws.RangeAny
namespace Go.Proofs.YtbnhefibpjldfaaGreatDoor
open Go.RowKit Go.BigFrame Go.Shelf
set_option linter.unusedVariables false

def stF (s : ByteArray) : List Value := [.string s]
theorem Sl.equal (a1 a2 : Option Addr) (c1 c2 : Nat) (xs ys : List ByteArray) (w : World) (h1 : RowAt 1 stF w a1 xs) (h2 : RowAt 1 stF w a2 ys) (l1 : xs.length ≤ 1000000000) (l2 : ys.length ≤ 1000000000) :
    Calls Tryz.prog 45 #[.slice a1 xs.length c1, .slice a2 ys.length c2] w fun e w' => e = .returned (.bool (decide (xs = ys))) ∧ Below w.heap.size w w' := by
  by_cases hx : xs = []
  · subst hx
    refine (Tryz.slices_Equal_string_empty a1 a2 c1 ys.length c2 w (by omega)).mono ?_
    rintro e w' ⟨rfl, rfl⟩
    refine ⟨?_, Below.refl _ _⟩
    cases ys <;> simp
  by_cases hl : xs.length = ys.length
  · have hy : ys ≠ [] := fun e => hx (List.length_eq_zero_iff.1 (by rw [hl, e]; rfl))
    obtain ⟨b1, o1, rfl, _, k1⟩ := h1.at hx
    obtain ⟨b2, o2, rfl, _, k2⟩ := h2.at hy
    have key : ∀ (l : List ByteArray) (b o : Nat), (∀ i (h : i < l.length), CellsAt w b (o + i * 1) (stF l[i])) → ∀ j, j < l.length → w.cell? ⟨b, o + j, none⟩ = some (.string (l.getD j ByteArray.empty)) := fun l b o k j hj => by
      have := k j hj 0 _ rfl
      simpa [List.getD_eq_getElem?_getD, hj] using this
    refine (Tryz.slices_Equal_string b1 o1 xs.length c1 b2 o2 ys.length c2 xs ys w (Nat.le_refl _) (Nat.le_refl _) (by omega) (by omega) (key xs b1 o1 k1) (key ys b2 o2 k2)).mono ?_
    rintro e w' ⟨rfl, q, rfl⟩
    exact ⟨by rw [List.take_length, List.take_length], below_drewN _ _ _⟩
  · refine (Tryz.slices_Equal_string_lens a1 a2 xs.length c1 ys.length c2 w hl).mono ?_
    rintro e w' ⟨rfl, rfl⟩
    refine ⟨?_, Below.refl _ _⟩
    rw [decide_eq_false (fun e => hl (by rw [e]))]
theorem Sl.equal49 (a1 a2 : Option Addr) (c1 c2 : Nat) (xs ys : List ByteArray) (w : World) (h1 : RowAt 1 stF w a1 xs) (h2 : RowAt 1 stF w a2 ys) (l1 : xs.length ≤ 1000000000) (l2 : ys.length ≤ 1000000000) :
    Calls Tryz.prog 49 #[.slice a1 xs.length c1, .slice a2 ys.length c2] w fun e w' => e = .returned (.bool (decide (xs = ys))) ∧ Below w.heap.size w w' := by
  have H := Lib.hid (Sl.equal a1 a2 c1 c2 xs ys w h1 h2 l1 l2)
  clear h1 h2
  obtain ⟨q, hq⟩ : ∃ q, decide (xs = ys) = q := ⟨_, rfl⟩
  rw [hq] at H ⊢
  clear hq
  go_enter Tryz.func49, Tryz.ntmps49
  go_wp2_with fail
  refine H.out.mono ?_
  rintro e w2 ⟨rfl, b2⟩
  have B2 := Lib.hid b2
  clear b2
  go_wp2_with fail
  go_ret
  exact ⟨rfl, B2.out⟩
end Go.Proofs.YtbnhefibpjldfaaGreatDoor

/- PxG -/
namespace Go.Proofs.YtbnhefibpjldfaaGreatDoor
open Go.RowKit Go.BigFrame Go.Shelf
set_option linter.unusedVariables false

theorem all2_len {α : Type} (f : α → α → Bool) : ∀ (l m : List α), l.length ≠ m.length → all2 f l m = false
  | [], [], h => absurd rfl h
  | [], _ :: _, h => rfl
  | _ :: _, [], h => rfl
  | a :: x, b :: y, h => by simp only [all2]; rw [all2_len f x y (by simpa using h), Bool.and_false]
theorem all2_at {α : Type} (f : α → α → Bool) {l m : List α} {i : Nat} (h : i < l.length) (h2 : i < m.length) : all2 f (l.drop i) (m.drop i) = (f l[i] m[i] && all2 f (l.drop (i + 1)) (m.drop (i + 1))) := by
  rw [List.drop_eq_getElem_cons h, List.drop_eq_getElem_cons h2, all2]
set_option maxRecDepth 100000 in
set_option maxHeartbeats 4000000 in
theorem Sl.eqFunc (f : Tk → Tk → Bool) (a1 a2 : Option Addr) (c1 c2 : Nat) (l m : List Tk) (w : World) (hr1 : RowAt 5 tkC w a1 l) (hr2 : RowAt 5 tkC w a2 m) (hl : l.length ≤ 1000000000) (hm : m.length ≤ 1000000000)
    (hf : ∀ W, Below w.heap.size w W → ∀ x ∈ l, ∀ y ∈ m, Calls Tryz.prog 21 #[tkV x, tkV y] W fun e w' => e = .returned (.bool (f x y)) ∧ Below W.heap.size W w') :
    Calls Tryz.prog 18 #[.slice a1 l.length c1, .slice a2 m.length c2, .func (.func 21) #[] #[]] w fun e w' => e = .returned (.bool (all2 f l m)) ∧ Below w.heap.size w w' := by
  have HR1 := Lib.hid hr1
  have HR2 := Lib.hid hr2
  have HF := Lib.hid hf
  clear hr1 hr2 hf
  by_cases hlen : l.length = m.length
  · have hne : ((l.length : Int) != m.length) = false := by rw [bne_eq_false_iff_eq]; omega
    have HLEN := Lib.hid hlen
    clear hlen
    go_enter Tryz.func18, Tryz.ntmps18
    go_wp2_with fail
    go_loopw [17] (fun s17 wr => ∃ (i : Nat), i ≤ l.length ∧ s17 = .int .i64 i ∧ all2 f l m = all2 f (l.drop i) (m.drop i) ∧ Below w.heap.size w wr) (fun s17 _ => l.length - (intOf s17).toNat)
    case atStart => exact ⟨0, Nat.zero_le _, rfl, rfl, Below.refl _ _⟩
    case round =>
      obtain ⟨i, hi, rfl, hb, hbel⟩ := hrel
      by_cases hlt : i < l.length
      · have hlt2 : i < m.length := by have := HLEN.out; omega
        obtain ⟨gb, go, rfl, hgb, hgc⟩ := HR1.out.at (by intro e; simp [e] at hlt)
        obtain ⟨k0, k1, k2, k3, k4⟩ := CellsAt.get5 ((hgc i hlt).below hbel hgb)
        obtain ⟨hb', ho, rfl, hhb, hhc⟩ := HR2.out.at (by intro e; simp [e] at hlt2)
        obtain ⟨g0, g1, g2, g3, g4⟩ := CellsAt.get5 ((hhc i hlt2).below hbel hhb)
        rw [all2_at f hlt hlt2] at hb
        have hc := fun W hW => HF.out W hW l[i] (List.getElem_mem hlt) m[i] (List.getElem_mem hlt2)
        have hlt' : (i : Int) < l.length := by omega
        have hlt2' : (i : Int) < m.length := by omega
        generalize l[i] = t at *
        generalize m[i] = u at *
        obtain ⟨q, hq⟩ : ∃ q, f t u = q := ⟨_, rfl⟩
        rw [hq] at hb hc
        clear hq
        obtain ⟨kd, tx, lo, hi', s⟩ := t
        obtain ⟨kd2, tx2, lo2, hi2, s2⟩ := u
        simp only at k0 k1 k2 k3 k4 g0 g1 g2 g3 g4
        have HBEL := Lib.hid hbel
        have hws := hbel.size
        have hgw : gb < wr.heap.size := by omega
        have hhw : hb' < wr.heap.size := by omega
        have HB := Lib.hid hb
        have HC := Lib.hid hc
        clear hb hbel hgc hhc hc
        go_wp2_with fail
        refine (HC.out _ (HBEL.out.trans (((below_alloc wr _).trans ((below_alloc _ _).mono (by simp))).mono hws))).mono ?_
        rintro e w2 ⟨rfl, b2⟩
        have HB2 := Lib.hid ((HBEL.out.trans (((below_alloc wr _).trans ((below_alloc _ _).mono (by simp))).mono hws)).trans (b2.mono (by simp; omega)))
        clear b2
        cases q
        · go_wp2_with fail
          go_ret
          exact ⟨by rw [HB.out]; rfl, HB2.out⟩
        · go_wp2_with fail
          go_roundw
          case rel => exact ⟨i + 1, by omega, by go_num, by rw [HB.out, Bool.true_and], HB2.out⟩
          case measure => simp [intOf]; omega
      · obtain rfl : i = l.length := by omega
        rw [List.drop_length, HLEN.out, List.drop_length] at hb
        have HB := Lib.hid hb
        have HBEL := Lib.hid hbel
        clear hb hbel
        go_wp2_with fail
        go_ret
        exact ⟨by rw [HB.out]; rfl, HBEL.out⟩
  · have hne : ((l.length : Int) != m.length) = true := by rw [bne_iff_ne]; omega
    have HE := Lib.hid (all2_len f l m hlen)
    clear hlen
    go_enter Tryz.func18, Tryz.ntmps18
    go_wp2_with fail
    go_ret
    exact ⟨by rw [HE.out]; rfl, Below.refl _ _⟩
end Go.Proofs.YtbnhefibpjldfaaGreatDoor

/- PxH -/
namespace Go.Proofs.YtbnhefibpjldfaaGreatDoor
set_option linter.unusedVariables false

/-- A predicate of runes goes by bytes: runes of 128 and more are not in it. -/
structure ByB (p : Nat → Bool) (q : UInt8 → Bool) : Prop where
  low : ∀ b : UInt8, b.toNat < 128 → p b.toNat = q b
  high : ∀ r, 128 ≤ r → p r = false
  hib : ∀ b : UInt8, 128 ≤ b.toNat → q b = false
theorem get_dl {s : ByteArray} {i : Nat} (h : i < s.size) : s.get! i = (dl s)[i]'(by rw [← size_dl]; exact h) := by
  rw [dl_at h]
  show s.get! i = _
  simp [ByteArray.get!, getElem!_pos, h]
  rfl
/-- What a rune at a place is, and the bytes that it takes. -/
theorem rune_step {p : Nat → Bool} {q : UInt8 → Bool} (H : ByB p q) (s : ByteArray) (i : Nat) (h : i < s.size) :
    1 ≤ (Utf8.decode s i).2 ∧ i + (Utf8.decode s i).2 ≤ s.size ∧ (p (Utf8.decode s i).1 = true → (Utf8.decode s i).2 = 1 ∧ q ((dl s)[i]'(by rw [← size_dl]; exact h)) = true)
      ∧ (p (Utf8.decode s i).1 = false → ∀ j (hj : j < s.size), i ≤ j → j < i + (Utf8.decode s i).2 → q ((dl s)[j]'(by rw [← size_dl]; exact hj)) = false) := by
  rw [Lib.decode_at]
  have e0 := get_dl h
  have hiq : ∀ j (hj : j < s.size), 128 ≤ (s.get! j).toNat → q ((dl s)[j]'(by rw [← size_dl]; exact hj)) = false := fun j hj h8 => by
    rw [← get_dl hj]; exact H.hib _ h8
  rcases Lib.decodeN_shape (s.size - i) (s.get! i).toNat (s.get! (i + 1)).toNat (s.get! (i + 2)).toNat (s.get! (i + 3)).toNat with ⟨c, e⟩ | ⟨c1, c2, c3, cv, e⟩ | ⟨c1, c2, c3, c4, cv, cs, e⟩ | ⟨c1, c2, c3, c4, c5, cv, cw, e⟩ | e
  · rw [e]
    refine ⟨Nat.le_refl _, by omega, fun hp => ⟨rfl, ?_⟩, fun hp j hj h1 h2 => ?_⟩
    · rw [H.low _ c] at hp
      rw [← get_dl h]; exact hp
    · obtain rfl : j = i := by simp only at h2; omega
      rw [H.low _ c] at hp
      rw [← get_dl h]; exact hp
  · rw [e]
    refine ⟨by simp only; omega, by simp only; omega, fun hp => ?_, fun hp j hj h1 h2 => ?_⟩
    · rw [H.high _ cv] at hp; cases hp
    · simp only at h2
      rcases (show j = i ∨ j = i + 1 by omega) with rfl | rfl
      · exact hiq _ hj (by omega)
      · exact hiq _ hj (by omega)
  · rw [e]
    refine ⟨by simp only; omega, by simp only; omega, fun hp => ?_, fun hp j hj h1 h2 => ?_⟩
    · rw [H.high _ (by omega)] at hp; cases hp
    · simp only at h2
      rcases (show j = i ∨ j = i + 1 ∨ j = i + 2 by omega) with rfl | rfl | rfl
      · exact hiq _ hj (by omega)
      · exact hiq _ hj (by omega)
      · exact hiq _ hj (by omega)
  · rw [e]
    refine ⟨by simp only; omega, by simp only; omega, fun hp => ?_, fun hp j hj h1 h2 => ?_⟩
    · rw [H.high _ (by omega)] at hp; cases hp
    · simp only at h2
      rcases (show j = i ∨ j = i + 1 ∨ j = i + 2 ∨ j = i + 3 by omega) with rfl | rfl | rfl | rfl
      · exact hiq _ hj (by omega)
      · exact hiq _ hj (by omega)
      · exact hiq _ hj (by omega)
      · exact hiq _ hj (by omega)
  · have h8 : 128 ≤ (s.get! i).toNat := by
      refine Nat.le_of_not_lt fun hlt => ?_
      have := e.symm.trans (Lib.decodeN_ascii (s.size - i) (s.get! i).toNat (s.get! (i + 1)).toNat (s.get! (i + 2)).toNat (s.get! (i + 3)).toNat hlt)
      have := congrArg Prod.fst this
      simp only at this
      omega
    rw [e]
    refine ⟨Nat.le_refl _, by simp only; omega, fun hp => ?_, fun hp j hj h1 h2 => ?_⟩
    · rw [H.high _ (by omega)] at hp; cases hp
    · obtain rfl : j = i := by simp only at h2; omega
      exact hiq _ hj h8
/-- A stretch without white bytes goes to the piece at hand. -/
theorem flds_skip (q : UInt8 → Bool) : ∀ (x r cur : Bs), (∀ c ∈ x, q c = false) → fldsF q cur (x ++ r) = fldsF q (cur ++ x) r
  | [], r, cur, _ => by simp
  | c :: x, r, cur, h => by
    rw [List.cons_append, fldsF, if_neg (by rw [h c (by simp)]; decide), flds_skip q x r (cur ++ [c]) fun d hd => h d (by simp [hd])]
    simp
/-- The piece that has begun. -/
def openP (l : Bs) : Option Nat → Nat → Bs
  | none, _ => []
  | some a, i => (l.drop a).take (i - a)
theorem drop_cut {α : Type} (l : List α) {i n : Nat} (h : i + n ≤ l.length) : l.drop i = (l.drop i).take n ++ l.drop (i + n) := by
  rw [← List.drop_drop, List.take_append_drop]
theorem openP_more (l : Bs) (a i n : Nat) (h : a ≤ i) : openP l (some a) (i + n) = openP l (some a) i ++ (l.drop i).take n := by
  simp only [openP]
  rw [show i + n - a = (i - a) + n by omega, List.take_add, List.drop_drop, show a + (i - a) = i by omega]
theorem openP_ne (l : Bs) (a i : Nat) (h : a < i) (hl : i ≤ l.length) : openP l (some a) i ≠ [] := by
  intro e
  have := congrArg List.length e
  simp [openP] at this
  omega
theorem ext_open (s : ByteArray) (a i : Nat) : dl (s.extract a i) = openP (dl s) (some a) i := by
  rw [ext_str, dl_str]; rfl
theorem spans_flds {p : Nat → Bool} {q : UInt8 → Bool} (H : ByB p q) (s : ByteArray) : ∀ (f pos : Nat) (st : Option Nat) (acc : List (Nat × Nat)), s.size - pos ≤ f → pos ≤ s.size → (∀ a, st = some a → a < pos) →
    (Lib.closeSpans s (Lib.spansFromP p s f pos st acc)).map (fun x => dl (s.extract x.1 x.2)) = acc.map (fun x => dl (s.extract x.1 x.2)) ++ fldsF q (openP (dl s) st pos) ((dl s).drop pos)
  | f, pos, st, acc, hf, hp, hst => by
    by_cases hlt : pos < s.size
    · obtain ⟨f, rfl⟩ : ∃ g, f = g + 1 := ⟨f - 1, by omega⟩
      obtain ⟨r1, r2, r3, r4⟩ := rune_step H s pos hlt
      have hl : (dl s).length = s.size := (size_dl s).symm
      unfold Lib.spansFromP
      rw [if_pos hlt]
      cases hw : p (Utf8.decode s pos).1
      · simp only [Bool.false_eq_true, if_false]
        have r4' := r4 hw
        clear r3 r4
        generalize (Utf8.decode s pos).2 = n at *
        have hq : ∀ c ∈ ((dl s).drop pos).take n, q c = false := fun c hc => by
          obtain ⟨k, hk, rfl⟩ := List.mem_iff_getElem.1 hc
          have hk' := hk
          rw [List.length_take, List.length_drop] at hk'
          rw [List.getElem_take, List.getElem_drop]
          exact r4' (pos + k) (by omega) (by omega) (by omega)
        rw [drop_cut (dl s) (by rw [hl]; exact r2), flds_skip q _ _ _ hq]
        cases st with
        | some a =>
          have ih := spans_flds H s f (pos + n) (some a) acc (by omega) (by omega) (fun b hb => by have := hst b hb; omega)
          rw [← openP_more _ a pos n (by have := hst a rfl; omega)]
          exact ih
        | none =>
          have ih := spans_flds H s f (pos + n) (some pos) acc (by omega) (by omega) (fun b hb => by cases hb; omega)
          rw [show openP (dl s) none pos ++ ((dl s).drop pos).take n = openP (dl s) (some pos) (pos + n) by simp [openP]]
          exact ih
      · obtain ⟨e1, e2⟩ := r3 hw
        simp only [if_true]
        rw [e1]
        rw [List.drop_eq_getElem_cons (by rw [hl]; exact hlt), fldsF, if_pos e2]
        cases st with
        | some a =>
          have ih := spans_flds H s f (pos + 1) none (acc ++ [(a, pos)]) (by omega) (by omega) (fun b hb => by cases hb)
          rw [if_neg (openP_ne _ a pos (hst a rfl) (by omega))]
          simp only at ih ⊢
          rw [ih, List.map_append, List.append_assoc]
          simp only [List.map_cons, List.map_nil, List.cons_append, List.nil_append, ext_open]
          rfl
        | none =>
          have ih := spans_flds H s f (pos + 1) none acc (by omega) (by omega) (fun b hb => by cases hb)
          rw [show openP (dl s) none pos = [] from rfl, if_pos rfl]
          exact ih
    · obtain rfl : pos = s.size := by omega
      have hd : (dl s).drop s.size = [] := List.drop_eq_nil_of_le (by rw [← size_dl]; exact Nat.le_refl _)
      rw [Lib.spansFromP_end p s f _ st acc (by omega), hd, fldsF]
      cases st with
      | none => simp [Lib.closeSpans, openP]
      | some a =>
        rw [if_neg (openP_ne _ a s.size (hst a rfl) (by rw [← size_dl]; exact Nat.le_refl _))]
        simp only [Lib.closeSpans, List.map_append, List.map_cons, List.map_nil, ext_open]
theorem fields_flds {p : Nat → Bool} {q : UInt8 → Bool} (H : ByB p q) (s : ByteArray) : (Lib.goFieldsP p s).map dl = flds q (dl s) := by
  have := spans_flds H s s.size 0 none [] (by omega) (Nat.zero_le _) (fun _ h => by cases h)
  rw [List.map_nil, List.nil_append, show openP (dl s) none 0 = [] from rfl, List.drop_zero] at this
  unfold Lib.goFieldsP Lib.spansOfP
  rw [List.map_map]
  exact this
end Go.Proofs.YtbnhefibpjldfaaGreatDoor

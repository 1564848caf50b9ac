/- scope: Copy. -/
import Derived.Test.YtblooekephkojaaScK
import Derived.Maps.RangeWalk
import Derived.Maps.Ext
namespace Go.Proofs.Ytblooekephkojaa
open Go.RowKit Go.BigFrame Go.ChangeMaps Go.WideMaps
set_option linter.unusedVariables false

theorem make_map (k : Int) (w : World) : (Instr.makeMap 54 (some (.int .i64 k))).run Try.prog w = .ok (.map (some w.heap.size)) (w.alloc (.map #[] 0)) := by
  simp [Instr.makeMap, run_underlying Try.underlying54, asInt, newObj]
  rfl
theorem heap_alloc_map (w : World) : (w.alloc (.map #[] 0)).heap[w.heap.size]? = some (.map #[] 0) := heap_alloc_new _ _

/-- What the values of Copy's first region are. -/
def cpS (W : World) (A M N : Nat) (aB : Option Addr) (cB : Nat) (i : Nat) (v : Value) (w : World) : Prop :=
  match i with
  | 0 => v = .pointer (some ⟨A, 0, none⟩) | 1 => v = .pointer (some ⟨A, 0, none⟩) | 2 => v = .pointer (some ⟨A, 1, none⟩) | 3 => v = .map (some M) | 4 => ∃ k : Int, v = .int .i64 k
  | 5 => ∃ m, v = .map (some m) ∧ W.heap.size ≤ m ∧ w.heap[m]? = some (.map #[] 0)
  | 6 => v = .pointer (some ⟨A, 0, none⟩) | 7 => v = .pointer (some ⟨A, 0, none⟩) | 8 => v = .pointer (some ⟨A, 2, none⟩) | 9 => v = .slice aB N cB | 10 => v = .int .i64 N
  | 11 => ∃ g, v = .slice (some ⟨g, 0, none⟩) 0 N ∧ W.heap.size ≤ g ∧ w.ownsRow 0 91 1 (.slice (some ⟨g, 0, none⟩) 0 N) 0 []
  | 12 => ∃ m g, v = .agg #[.pointer none, .map (some m), .slice (some ⟨g, 0, none⟩) 0 N] ∧ W.heap.size ≤ m ∧ w.heap[m]? = some (.map #[] 0) ∧ W.heap.size ≤ g ∧ w.ownsRow 0 91 1 (.slice (some ⟨g, 0, none⟩) 0 N) 0 []
  | 13 | 14 => ∃ a m g, v = .pointer (some ⟨a, 0, none⟩) ∧ W.heap.size ≤ a ∧ w.heap[a]? = some (.cells #[.pointer none, .map (some m), .slice (some ⟨g, 0, none⟩) 0 N] 57 (0, 0)) ∧ W.heap.size ≤ m ∧ w.heap[m]? = some (.map #[] 0) ∧ W.heap.size ≤ g ∧ w.ownsRow 0 91 1 (.slice (some ⟨g, 0, none⟩) 0 N) 0 []
  | _ => True
theorem row_below {w w' : World} {e s n : Nat} {v : Value} {xs : List Value} (h : w.ownsRow 0 e s v n xs) (hb : Below w.heap.size w w') : w'.ownsRow 0 e s v n xs := ownsRow_mod h (Mod.of_below hb (S := fun _ => False)) (fun _ _ h => h)
theorem map_below {w w' : World} {m : Nat} {o : Obj} (hb : Below w.heap.size w w') (h : w.heap[m]? = some o) : w'.heap[m]? = some o := heap_below hb h (Array.getElem?_eq_some_iff.1 h).1
theorem cpS_mono (W : World) (A M N : Nat) (aB : Option Addr) (cB : Nat) : ∀ i v w w', Below w.heap.size w w' → cpS W A M N aB cB i v w → cpS W A M N aB cB i v w' := fun i v w w' hb h => by
  unfold cpS at *
  split at h <;> first
    | exact h
    | (obtain ⟨m, h1, h2, h3⟩ := h; exact ⟨m, h1, h2, map_below hb h3⟩)
    | (obtain ⟨m, h1, h2, h3⟩ := h; exact ⟨m, h1, h2, row_below h3 hb⟩)
    | (obtain ⟨m, g, h1, h2, h3, h4, h5⟩ := h; exact ⟨m, g, h1, h2, map_below hb h3, h4, row_below h5 hb⟩)
    | (obtain ⟨a, m, g, h1, h2, h3, h4, h5, h6, h7⟩ := h; exact ⟨a, m, g, h1, h2, map_below hb h3, h4, map_below hb h5, h6, row_below h7 hb⟩)
/-- What the values of the round's region are. -/
def cp7 (a m : Nat) (x : ByteArray) (c : Value) (l : List (Nat × Bool)) (W4 : World) (i : Nat) (v : Value) (w : World) : Prop :=
  match i with
  | 0 => v = .pointer (some ⟨a, 0, none⟩) | 1 => v = .pointer (some ⟨a, 0, none⟩) | 2 => v = .pointer (some ⟨a, 1, none⟩) | 3 => v = .map (some m) | 4 => v = .string x | 5 => v = c
  | 6 => w.ownsRow W4.heap.size 90 2 v l.length (l.flatMap mcell)
  | _ => True
theorem row_below' {w w' : World} {b e s n : Nat} {v : Value} {xs : List Value} (h : w.ownsRow b e s v n xs) (hb : Below w.heap.size w w') : w'.ownsRow b e s v n xs := ownsRow_mod h (Mod.of_below hb (S := fun _ => False)) (fun _ _ h => h)
theorem cp7_mono (a m : Nat) (x : ByteArray) (c : Value) (l : List (Nat × Bool)) (W4 : World) : ∀ i v w w', Below w.heap.size w w' → cp7 a m x c l W4 i v w → cp7 a m x c l W4 i v w' := fun i v w w' hb h => by
  unfold cp7 at *
  split at h <;> first
    | exact h
    | exact row_below' h hb
theorem base_le {w : World} {b b' e s n : Nat} {v : Value} {xs : List Value} (h : w.ownsRow b e s v n xs) (hb : b' ≤ b) : w.ownsRow b' e s v n xs := by
  refine ⟨h.1, ?_⟩
  rcases h.2 with hn | ⟨g', cap, cur, e, hb', rest⟩
  · exact .inl hn
  · exact .inr ⟨g', cap, cur, e, Nat.le_trans hb hb', rest⟩
theorem lt7 (i : Nat) (h : i < 7) : i = 0 ∨ i = 1 ∨ i = 2 ∨ i = 3 ∨ i = 4 ∨ i = 5 ∨ i = 6 := by omega
theorem invStr (key : Value) (kl : Lit) (h : keyOf Try.prog 9 key = some kl) : ∃ x : ByteArray, key = .string x := by
  obtain ⟨s, h1, _⟩ := string_of_keyOf Try.underlying9 h
  exact ⟨s, h1⟩
/-- What the values of the second loop's region are. -/
def cp11 (a g i N : Nat) (c : Value) (L : Nat) (ns : List Value) (B : Nat) (j : Nat) (v : Value) (w : World) : Prop :=
  match j with
  | 0 => v = .pointer (some ⟨a, 0, none⟩) | 1 => v = .pointer (some ⟨a, 0, none⟩) | 2 => v = .pointer (some ⟨a, 0, none⟩) | 3 => v = .pointer (some ⟨a, 2, none⟩) | 4 => v = .slice (some ⟨g, 0, none⟩) i N | 5 => v = c
  | 6 => w.ownsRow B 9 1 v L ns
  | 7 => ∃ b u, v = .slice (some ⟨b, 0, none⟩) 1 1 ∧ B ≤ b ∧ w.heap[b]? = some (.cells #[u] 91 (0, 0)) ∧ w.ownsRow B 9 1 u L ns
  | 8 => v = .slice (some ⟨g, 0, none⟩) (i + 1) N | 9 => v = .pointer (some ⟨a, 0, none⟩) | 10 => v = .pointer (some ⟨a, 2, none⟩)
  | _ => True
theorem cp11_mod (a g i N : Nat) (c : Value) (L : Nat) (ns : List Value) (B : Nat) (T : Nat → Prop) (hT : ∀ k, T k → k < B) : ∀ j v w w', Mod T w w' → cp11 a g i N c L ns B j v w → cp11 a g i N c L ns B j v w' := fun j v w w' hm h => by
  have hr : ∀ u, w.ownsRow B 9 1 u L ns → w'.ownsRow B 9 1 u L ns := fun u hu => ownsRow_mod hu hm (fun k hk ht => by have := (hu.lt k hk).1; have := hT k ht; omega)
  unfold cp11 at *
  split at h <;> first
    | exact h
    | exact hr _ h
    | (obtain ⟨b, u, h1, h2, h3, h4⟩ := h; exact ⟨b, u, h1, h2, hm.keep h3 (fun ht => by have := hT b ht; omega), hr _ h4⟩)
def I11 (W4 : World) (a m g i N : Nat) (vc : List Value) (L : Nat) (ns : List Value) (B : Nat) (b : Bool) (w : World) : Prop :=
  w.heap[a]? = some (.cells #[.pointer none, .map (some m), .slice (some ⟨g, 0, none⟩) i N] 57 (0, 0)) ∧ Mod (fun x => x = g) W4 w ∧
    (match b with
    | true => ∃ u, w.ownsRow 0 91 1 (.slice (some ⟨g, 0, none⟩) (i + 1) N) (i + 1) (vc ++ [u]) ∧ w.ownsRow B 9 1 u L ns
    | false => w.ownsRow 0 91 1 (.slice (some ⟨g, 0, none⟩) i N) i vc)
theorem I11_below (W4 : World) (a m g i N : Nat) (vc : List Value) (L : Nat) (ns : List Value) (B : Nat) : ∀ b w w', Below w.heap.size w w' → I11 W4 a m g i N vc L ns B b w → I11 W4 a m g i N vc L ns B b w' := fun b w w' hb ⟨h1, h2, h3⟩ => by
  refine ⟨map_below hb h1, h2.trans (Mod.of_below hb), ?_⟩
  cases b with
  | true => obtain ⟨u, h4, h5⟩ := h3; exact ⟨u, row_below h4 hb, row_below' h5 hb⟩
  | false => exact row_below h3 hb
theorem lt11' (i : Nat) (h : i < 11) : i = 0 ∨ i = 1 ∨ i = 2 ∨ i = 3 ∨ i = 4 ∨ i = 5 ∨ i = 6 ∨ i = 7 ∨ i = 8 ∨ i = 9 ∨ i = 10 := by omega
theorem lt15 (i : Nat) (h : i < 15) : i = 0 ∨ i = 1 ∨ i = 2 ∨ i = 3 ∨ i = 4 ∨ i = 5 ∨ i = 6 ∨ i = 7 ∨ i = 8 ∨ i = 9 ∨ i = 10 ∨ i = 11 ∨ i = 12 ∨ i = 13 ∨ i = 14 := by omega

set_option maxRecDepth 100000 in
set_option maxHeartbeats 4000000 in
theorem Sc.copy (A n : Nat) (S : Nat → Prop) (F : List Frm) (W : World) (h : Sco W A n S F) (hF : F.length ≤ 65536) (hf : ∀ f ∈ F, f.length ≤ 1000000) (hn : n ≤ 1000000) (hbig : ∀ x : ByteArray, ¬ x.size ≤ maxLen → stk F x = []) :
    Calls Try.prog 24 #[.pointer (some ⟨A, 0, none⟩)] W fun e w' => ∃ A', e = .returned (.pointer (some ⟨A', 0, none⟩)) ∧ Sco w' A' n (fun k => W.heap.size ≤ k ∧ k < w'.heap.size) F ∧ Below W.heap.size W w' := by
  obtain ⟨M, vB, vs, mv, D, h, h2, h3⟩ := h
  obtain ⟨c0, c1, c2⟩ := h.cells
  obtain ⟨i0, hi, hz0, hz1, hz2⟩ := info_parts infoSl
  have HI := Lib.hid hi
  have H0 := Lib.hid hz0
  have H1 := Lib.hid hz1
  have H2 := Lib.hid hz2
  have HD := Lib.hid h.hd
  have HMP := Lib.hid h.mp
  have hAlt := (Array.getElem?_eq_some_iff.1 h.hd).1
  obtain ⟨aB, cB, hvB⟩ := row_shape h.brow
  rw [hvB] at c2
  have HVB := Lib.hid hvB
  have HH := Lib.hid h
  obtain ⟨N, hN⟩ : ∃ N, N = F.length := ⟨_, rfl⟩
  rw [← hN] at c2 hF
  have HN := Lib.hid hN
  clear hi hz0 hz1 hz2 h hvB h2 h3 hN
  go_enter Try.func24, Try.ntmps24
  go_wp2_with fail
  refine (Sc.made A W _ _ HD.out).mono ?_
  rintro e w1 ⟨rfl, rfl⟩
  go_wp2_with fail
  refine wp_region_each (cpS w1 A M N aB cB) (by kernel_rfl) (by kernel_rfl) (cpS_mono w1 A M N aB cB) ?_ ?_
  · intro i o ho v w2 hb2 hd K hK
    have hi : i < 15 := (List.getElem?_eq_some_iff.1 ho).1
    have HK := Lib.hid hK
    clear hK
    rcases lt15 i hi with rfl | rfl | rfl | rfl | rfl | rfl | rfl | rfl | rfl | rfl | rfl | rfl | rfl | rfl | rfl
    -- REGION3
    · -- op 0
      cases ho
      try clear hd
      simp only [putAll, Act.put, List.setIfInBounds_toArray, List.set_cons_succ, List.set_cons_zero, Nat.reduceAdd, Nat.zero_add]
      go_wp2_with fail
      have q := HK.out (.pointer (some ⟨A, 0, none⟩)) w2 (rfl) (Below.refl _ _)
      simp only [putAll, Act.put, List.setIfInBounds_toArray, List.set_cons_succ, List.set_cons_zero, Nat.reduceAdd, Nat.zero_add] at q
      exact q
    · -- op 1
      have h0 : v 0 = .pointer (some ⟨A, 0, none⟩) := hd 0 (by kernel_rfl)
      cases ho
      try clear hd
      simp only [putAll, Act.put, List.setIfInBounds_toArray, List.set_cons_succ, List.set_cons_zero, Nat.reduceAdd, Nat.zero_add, h0]
      go_wp2_with fail
      have q := HK.out (.pointer (some ⟨A, 0, none⟩)) w2 (rfl) (Below.refl _ _)
      simp only [putAll, Act.put, List.setIfInBounds_toArray, List.set_cons_succ, List.set_cons_zero, Nat.reduceAdd, Nat.zero_add, h0] at q
      exact q
    · -- op 2
      have h1 : v 1 = .pointer (some ⟨A, 0, none⟩) := hd 1 (by kernel_rfl)
      cases ho
      try clear hd
      simp only [putAll, Act.put, List.setIfInBounds_toArray, List.set_cons_succ, List.set_cons_zero, Nat.reduceAdd, Nat.zero_add, h1]
      go_wp2_with fail
      have q := HK.out (.pointer (some ⟨A, 1, none⟩)) w2 (rfl) (Below.refl _ _)
      simp only [putAll, Act.put, List.setIfInBounds_toArray, List.set_cons_succ, List.set_cons_zero, Nat.reduceAdd, Nat.zero_add, h1] at q
      exact q
    · -- op 3
      have h2 : v 2 = .pointer (some ⟨A, 1, none⟩) := hd 2 (by kernel_rfl)
      have hc := (hb2.cell (p := ⟨A, 1, none⟩) hAlt).trans c1
      cases ho
      try clear hd
      simp only [putAll, Act.put, List.setIfInBounds_toArray, List.set_cons_succ, List.set_cons_zero, Nat.reduceAdd, Nat.zero_add, h2]
      go_wp2_with fail
      have q := HK.out (.map (some M)) w2 (rfl) (Below.refl _ _)
      simp only [putAll, Act.put, List.setIfInBounds_toArray, List.set_cons_succ, List.set_cons_zero, Nat.reduceAdd, Nat.zero_add, h2] at q
      exact q
    · -- op 4
      have h3 : v 3 = .map (some M) := hd 3 (by kernel_rfl)
      have hmp := ownsMap_mod HMP.out (Mod.of_below hb2 (S := fun _ => False)) (fun h => h)
      cases ho
      try clear hd
      simp only [putAll, Act.put, List.setIfInBounds_toArray, List.set_cons_succ, List.set_cons_zero, Nat.reduceAdd, Nat.zero_add, h3]
      go_wp2_with (at_len; refine wpList_len_own _ rfl _ 54 rfl 9 88 Try.underlying54 rawR M n D rfl hmp ?_)
      have q := HK.out (.int .i64 (Maps.size D)) w2 (⟨_, rfl⟩) (Below.refl _ _)
      simp only [putAll, Act.put, List.setIfInBounds_toArray, List.set_cons_succ, List.set_cons_zero, Nat.reduceAdd, Nat.zero_add, h3] at q
      exact q
    · -- op 5
      obtain ⟨k, h4⟩ : ∃ k : Int, v 4 = .int .i64 k := hd 4 (by kernel_rfl)
      have hmk := make_map k w2
      cases ho
      try clear hd
      simp only [putAll, Act.put, List.setIfInBounds_toArray, List.set_cons_succ, List.set_cons_zero, Nat.reduceAdd, Nat.zero_add, h4]
      go_wp2_with fail
      have q := HK.out (.map (some w2.heap.size)) (w2.alloc (.map #[] 0)) (⟨w2.heap.size, rfl, hb2.size, heap_alloc_map w2⟩) (below_alloc _ _)
      simp only [putAll, Act.put, List.setIfInBounds_toArray, List.set_cons_succ, List.set_cons_zero, Nat.reduceAdd, Nat.zero_add, h4] at q
      exact q
    · -- op 6
      cases ho
      try clear hd
      simp only [putAll, Act.put, List.setIfInBounds_toArray, List.set_cons_succ, List.set_cons_zero, Nat.reduceAdd, Nat.zero_add]
      go_wp2_with fail
      have q := HK.out (.pointer (some ⟨A, 0, none⟩)) w2 (rfl) (Below.refl _ _)
      simp only [putAll, Act.put, List.setIfInBounds_toArray, List.set_cons_succ, List.set_cons_zero, Nat.reduceAdd, Nat.zero_add] at q
      exact q
    · -- op 7
      have h6 : v 6 = .pointer (some ⟨A, 0, none⟩) := hd 6 (by kernel_rfl)
      cases ho
      try clear hd
      simp only [putAll, Act.put, List.setIfInBounds_toArray, List.set_cons_succ, List.set_cons_zero, Nat.reduceAdd, Nat.zero_add, h6]
      go_wp2_with fail
      have q := HK.out (.pointer (some ⟨A, 0, none⟩)) w2 (rfl) (Below.refl _ _)
      simp only [putAll, Act.put, List.setIfInBounds_toArray, List.set_cons_succ, List.set_cons_zero, Nat.reduceAdd, Nat.zero_add, h6] at q
      exact q
    · -- op 8
      have h7 : v 7 = .pointer (some ⟨A, 0, none⟩) := hd 7 (by kernel_rfl)
      cases ho
      try clear hd
      simp only [putAll, Act.put, List.setIfInBounds_toArray, List.set_cons_succ, List.set_cons_zero, Nat.reduceAdd, Nat.zero_add, h7]
      go_wp2_with fail
      have q := HK.out (.pointer (some ⟨A, 2, none⟩)) w2 (rfl) (Below.refl _ _)
      simp only [putAll, Act.put, List.setIfInBounds_toArray, List.set_cons_succ, List.set_cons_zero, Nat.reduceAdd, Nat.zero_add, h7] at q
      exact q
    · -- op 9
      have h8 : v 8 = .pointer (some ⟨A, 2, none⟩) := hd 8 (by kernel_rfl)
      have hc := (hb2.cell (p := ⟨A, 2, none⟩) hAlt).trans c2
      cases ho
      try clear hd
      simp only [putAll, Act.put, List.setIfInBounds_toArray, List.set_cons_succ, List.set_cons_zero, Nat.reduceAdd, Nat.zero_add, h8]
      go_wp2_with fail
      have q := HK.out (.slice aB N cB) w2 (rfl) (Below.refl _ _)
      simp only [putAll, Act.put, List.setIfInBounds_toArray, List.set_cons_succ, List.set_cons_zero, Nat.reduceAdd, Nat.zero_add, h8] at q
      exact q
    · -- op 10
      have h9 : v 9 = .slice aB N cB := hd 9 (by kernel_rfl)
      cases ho
      try clear hd
      simp only [putAll, Act.put, List.setIfInBounds_toArray, List.set_cons_succ, List.set_cons_zero, Nat.reduceAdd, Nat.zero_add, h9]
      go_wp2_with fail
      have q := HK.out (.int .i64 N) w2 (rfl) (Below.refl _ _)
      simp only [putAll, Act.put, List.setIfInBounds_toArray, List.set_cons_succ, List.set_cons_zero, Nat.reduceAdd, Nat.zero_add, h9] at q
      exact q
    · -- op 11
      have h10 : v 10 = .int .i64 N := hd 10 (by kernel_rfl)
      have hws := hb2.size
      cases ho
      try clear hd
      simp only [putAll, Act.put, List.setIfInBounds_toArray, List.set_cons_succ, List.set_cons_zero, Nat.reduceAdd, Nat.zero_add, h10]
      go_wp2_with (refine wpList_make_own _ rfl _ _ 55 rfl 0 91 i0 (.slice none 0 0) 1 Try.underlying55 HI.out H0.out H1.out .i64 .i64 N N rfl rfl rfl ?c1 ?c2 (Nat.zero_le _) ?_)
      case c1 => rw [H2.out]; omega
      case c2 => unfold maxLen; omega
      intro w3 hown hg
      have hb3 : Below w2.heap.size w2 w3 := ⟨hg.os, hg.tape, hg.output, hg.size, fun k hk => hg.block k hk (by simp)⟩
      have HO := Lib.hid hown
      have HB3 := Lib.hid hb3
      clear hown hg hb3
      go_wp2_with fail
      have q := HK.out (.slice (some ⟨w2.heap.size, 0, none⟩) 0 N) w3 (⟨w2.heap.size, rfl, hws, HO.out⟩) (HB3.out)
      simp only [putAll, Act.put, List.setIfInBounds_toArray, List.set_cons_succ, List.set_cons_zero, Nat.reduceAdd, Nat.zero_add, h10] at q
      exact q
    · -- op 12
      obtain ⟨m, h5, hm1, hm2⟩ : ∃ m, v 5 = .map (some m) ∧ w1.heap.size ≤ m ∧ w2.heap[m]? = some (.map #[] 0) := hd 5 (by kernel_rfl)
      obtain ⟨g, h11, hg1, hg2⟩ : ∃ g, v 11 = .slice (some ⟨g, 0, none⟩) 0 N ∧ w1.heap.size ≤ g ∧ w2.ownsRow 0 91 1 (.slice (some ⟨g, 0, none⟩) 0 N) 0 [] := hd 11 (by kernel_rfl)
      have hbt : (Try.prog.built 57 [(1, Value.map (some m)), (2, .slice (some ⟨g, 0, none⟩) 0 N)]) = some #[.pointer none, .map (some m), .slice (some ⟨g, 0, none⟩) 0 N] := by kernel_rfl
      have HG2 := Lib.hid hg2
      have HM2 := Lib.hid hm2
      clear hg2 hm2
      cases ho
      try clear hd
      simp only [putAll, Act.put, List.setIfInBounds_toArray, List.set_cons_succ, List.set_cons_zero, Nat.reduceAdd, Nat.zero_add, h5, h11]
      go_wp2_with (refine wpList_build rfl 57 _ rfl (by simp [Act.eval, hbt]) ?_)
      have q := HK.out (.agg #[.pointer none, .map (some m), .slice (some ⟨g, 0, none⟩) 0 N]) w2 (⟨m, g, rfl, hm1, HM2.out, hg1, HG2.out⟩) (Below.refl _ _)
      simp only [putAll, Act.put, List.setIfInBounds_toArray, List.set_cons_succ, List.set_cons_zero, Nat.reduceAdd, Nat.zero_add, h5, h11] at q
      exact q
    · -- op 13
      obtain ⟨m, g, h12, hm1, hm2, hg1, hg2⟩ : ∃ m g, v 12 = .agg #[.pointer none, .map (some m), .slice (some ⟨g, 0, none⟩) 0 N] ∧ w1.heap.size ≤ m ∧ w2.heap[m]? = some (.map #[] 0) ∧ w1.heap.size ≤ g ∧ w2.ownsRow 0 91 1 (.slice (some ⟨g, 0, none⟩) 0 N) 0 [] := hd 12 (by kernel_rfl)
      have HG2 := Lib.hid hg2
      have HM2 := Lib.hid hm2
      have hws := hb2.size
      clear hg2 hm2
      cases ho
      try clear hd
      simp only [putAll, Act.put, List.setIfInBounds_toArray, List.set_cons_succ, List.set_cons_zero, Nat.reduceAdd, Nat.zero_add, h12]
      go_wp2_with fail
      have q := HK.out (.pointer (some ⟨w2.heap.size, 0, none⟩)) (w2.alloc (.cells #[.pointer none, .map (some m), .slice (some ⟨g, 0, none⟩) 0 N] 57)) (⟨w2.heap.size, m, g, rfl, hws, heap_alloc_new _ _, hm1, heap_below (below_alloc w2 _) HM2.out (Array.getElem?_eq_some_iff.1 HM2.out).1, hg1, HG2.out.alloc _⟩) (below_alloc _ _)
      simp only [putAll, Act.put, List.setIfInBounds_toArray, List.set_cons_succ, List.set_cons_zero, Nat.reduceAdd, Nat.zero_add, h12] at q
      exact q
    · -- op 14
      obtain ⟨a, m, g, h13, hrest⟩ : ∃ a m g, v 13 = .pointer (some ⟨a, 0, none⟩) ∧ w1.heap.size ≤ a ∧ w2.heap[a]? = some (.cells #[.pointer none, .map (some m), .slice (some ⟨g, 0, none⟩) 0 N] 57 (0, 0)) ∧ w1.heap.size ≤ m ∧ w2.heap[m]? = some (.map #[] 0) ∧ w1.heap.size ≤ g ∧ w2.ownsRow 0 91 1 (.slice (some ⟨g, 0, none⟩) 0 N) 0 [] := hd 13 (by kernel_rfl)
      have HR := Lib.hid hrest
      clear hrest
      cases ho
      try clear hd
      simp only [putAll, Act.put, List.setIfInBounds_toArray, List.set_cons_succ, List.set_cons_zero, Nat.reduceAdd, Nat.zero_add, h13]
      go_wp2_with fail
      have q := HK.out (.pointer (some ⟨a, 0, none⟩)) w2 (⟨a, m, g, rfl, HR.out⟩) (Below.refl _ _)
      simp only [putAll, Act.put, List.setIfInBounds_toArray, List.set_cons_succ, List.set_cons_zero, Nat.reduceAdd, Nat.zero_add, h13] at q
      exact q
    -- END3
  · intro v w2 hb2 hS
    obtain ⟨a, m, g, h14, la, ha, lm, hm, lg, hgr⟩ : ∃ a m g, v 14 = .pointer (some ⟨a, 0, none⟩) ∧ w1.heap.size ≤ a ∧ w2.heap[a]? = some (.cells #[.pointer none, .map (some m), .slice (some ⟨g, 0, none⟩) 0 N] 57 (0, 0)) ∧ w1.heap.size ≤ m ∧ w2.heap[m]? = some (.map #[] 0) ∧ w1.heap.size ≤ g ∧ w2.ownsRow 0 91 1 (.slice (some ⟨g, 0, none⟩) 0 N) 0 [] := hS 14 (by decide)
    have hA2 := heap_below hb2 HD.out hAlt
    have k1 : w2.cell? ⟨A, 1, none⟩ = some (.map (some M)) := by simp [World.cell?, hA2]
    have hmp2 := ownsMap_mod HMP.out (Mod.of_below hb2 (S := fun _ => False)) (fun h => h)
    have hA2lt : A < w2.heap.size := by have := hb2.size; omega
    have HB2 := Lib.hid hb2
    have HA := Lib.hid ha
    have HM := Lib.hid hm
    have HG := Lib.hid hgr
    clear hS hb2 hA2 ha hm hgr c0 c1 c2
    simp only [putAll, Act.put, List.setIfInBounds_toArray, List.set_cons_succ, List.set_cons_zero, Nat.reduceAdd, Nat.zero_add, h14]
    clear h14
    go_wp2_with (at_range; refine wpList_range_own _ rfl _ 54 rfl 9 88 law9 Try.underlying54 rawR M n D rfl hmp2 ?_; intro w3 hrg0 hg0 hs0; go_frame)
    have hB3 : Below w1.heap.size w1 w3 := HB2.out.trans (⟨hg0.os, hg0.tape, hg0.output, hg0.size, fun k hk => hg0.block k hk (by simp)⟩ |> fun (b : Below w2.heap.size w2 w3) => b.mono HB2.out.size)
    have hstart := CP1.start (a := a) (m := m) (g := g) (N := N) HH.out hbig hB3 hrg0 (by
        have : w2.ownsMap Try.prog 9 rawR m 0 (.map []) := ⟨#[], 0, HM.out, ⟨by simp, MapKept.stamped_empty 0, by simp⟩, Nat.le_refl _, rfl⟩
        exact this.kept hg0 (by simp))
      ((hg0.block a (Array.getElem?_eq_some_iff.1 HA.out).1 (by simp)).trans HA.out) (HG.out.kept hg0 (.inr (by simp [Value.ownBlock]))) la lm lg HB2.out.size
    have HST := Lib.hid hstart
    have hsn : Maps.size D ≤ n := hmp2.size_le
    obtain ⟨r, hr⟩ : ∃ r, r = w2.heap.size := ⟨_, rfl⟩
    rw [← hr] at HST ⊢
    have HRR := Lib.hid hr
    clear hstart hrg0 hg0 hs0 hmp2 hB3 k1 hA2lt HA HM HG hr
    go_loopw [4, 5] (fun _ _ wr => ∃ (left : Lit → Bool) (cnt nc : Nat) (Dc : DataW Value) (mc : ByteArray → Value), CP1 w1 wr a m g r n N M D F left cnt nc Dc mc) (fun _ _ wr => wr.rangeLeft M r)
    case atStart => exact ⟨_, _, _, _, _, HST.out⟩
    case round =>
      clear HST
      obtain ⟨left, cnt, nc, Dc, mc, hP⟩ := hrel
      have HP := Lib.hid hP
      have hrgP := hP.rg
      clear hP
      go_wp2_with (at_next; refine wpList_next_ranges _ rfl _ rfl 9 law9 rawR Value.string id invStr (fun v y _ => ⟨v, rfl⟩) M r n D left cnt rfl hrgP ?_ ?_)
      · intro hc0 hl0
        have h2s := CP2.start HP.out hl0 HN.out
        have hAr := heap_below HP.out.below HD.out hAlt
        have hArl := (Array.getElem?_eq_some_iff.1 hAr).1
        have k2 : wr.cell? ⟨A, 2, none⟩ = some (.slice aB N cB) := by have := HVB.out; rw [← HN.out] at this; simp [World.cell?, hAr, this]
        have hcn := HP.out.cn
        have H2S := Lib.hid h2s
        have hN0 : 0 < N := by rw [HN.out]; exact HH.out.pos
        obtain ⟨gB, hgB⟩ : ∃ gB, aB = some ⟨gB, 0, none⟩ := by
          rcases HH.out.brow.2 with ⟨_, hz⟩ | ⟨g', cap, cur, hv, _⟩
          · have := HN.out; omega
          · rw [HVB.out] at hv
            simp only [Value.slice.injEq] at hv
            exact ⟨g', hv.1⟩
        subst hgB
        have n16 : (N : Int) ≤ 65536 := by omega
        clear h2s hAr hl0 hc0 hrgP
        go_wp2_with fail
        clear k2 hArl
        go_loopw [7, 47] (fun _ s47 wx => ∃ (i : Nat) (vc : List Value), s47 = .int .i64 i ∧ CP2 w1 wx a m g N nc F Dc mc i vc) (fun _ s47 _ => N - (intOf s47).toNat)
        case atStart => exact ⟨0, [], rfl, H2S.out⟩
        case round =>
          clear H2S
          obtain ⟨i, vc, rfl, hQ⟩ := hrel
          have HQ := Lib.hid hQ
          have hiN : i ≤ N := by rw [HN.out]; exact hQ.hi
          have hbr := row_below HH.out.brow hQ.below
          have ha := hQ.hd
          have hal := (Array.getElem?_eq_some_iff.1 ha).1
          have HAA := Lib.hid ha
          clear hQ ha
          by_cases hlt : i < N
          · have hltF : i < F.length := by rw [← HN.out]; exact hlt
            obtain ⟨c, hc⟩ : ∃ c, c = vs.getD i nilS := ⟨_, rfl⟩
            have hvl := HH.out.vs_len
            have hcell : wr.cell? ⟨gB, i, none⟩ = some c := by
              rw [HVB.out] at hbr
              rw [hbr.cellAt i (by omega), List.getElem?_eq_getElem (by omega), hc, List.getD_eq_getElem?_getD, List.getElem?_eq_getElem (by omega)]; rfl
            have hgBl : gB < wr.heap.size := by have := (hbr.lt gB (by rw [HVB.out]; rfl)).2; exact this
            have hcrow := row_below (HH.out.vrow i hltF) HQ.out.below
            rw [← hc] at hcrow
            obtain ⟨ac, cc, hcs⟩ := row_shape hcrow
            have hck : ∀ k, c.ownBlock = some k → k < w1.heap.size := fun k hk => by rw [hc] at hk; exact ((HH.out.vrow i hltF).lt k hk).2
            obtain ⟨L, hL⟩ : ∃ L, L = F[i].length := ⟨_, rfl⟩
            obtain ⟨ns, hns⟩ : ∃ ns, ns = names F[i] := ⟨_, rfl⟩
            have hL1 : L ≤ 1000000 := by rw [hL]; exact hf _ (List.getElem_mem _)
            rw [← hL, ← hns] at hcrow
            have hns1 : ∀ u ∈ ns, u.oneCell' = true := by rw [hns]; exact names_one _
            obtain ⟨B, hB⟩ : ∃ B, B = wr.heap.size := ⟨_, rfl⟩
            have HCR := Lib.hid hcrow
            have HCK := Lib.hid hck
            have HNS := Lib.hid hns1
            have HL := Lib.hid hL
            have HNN := Lib.hid hns
            have HBB := Lib.hid hB
            have hlg := HQ.out.lg
            have hgw := (HQ.out.gr.lt g rfl).2
            have j0 : (0 : Int) ≤ (i : Int) := by omega
            have j1 : (i : Int) < (N : Int) := by omega
            clear hcrow hck hns1 hL hns hB hbr hvl
            rw [hcs] at hcell
            clear hc
            subst hcs
            go_wp2_with fail
            generalize hcg : Value.slice ac _ cc = c at *
            refine wp_region_each_one 11 (cp11 a g i N c L ns B) g 8 (I11 wr a m g i N vc L ns B) (by kernel_rfl) (by kernel_rfl) ⟨HAA.out, ⟨rfl, rfl, rfl, Nat.le_refl _, fun _ _ _ => rfl⟩, HQ.out.gr⟩
              (fun j v w w' hb => cp11_mod a g i N c L ns B (fun _ => False) (fun k h => h.elim) j v w w' (Mod.of_below hb)) (fun j v w w' hm => cp11_mod a g i N c L ns B _ (fun k hk => by rw [hk, HBB.out]; exact hgw) j v w w' hm) (I11_below wr a m g i N vc L ns B) ?_ ?_ ?_
            · intro j o ho hik v bb w5 hI5 hd K hK
              have hj : j < 11 := (List.getElem?_eq_some_iff.1 ho).1
              have HK := Lib.hid hK
              have HI5 := Lib.hid hI5
              clear hK hI5
              rcases lt11' j hj with rfl | rfl | rfl | rfl | rfl | rfl | rfl | rfl | rfl | rfl | rfl
              -- REGION11
              · -- op 0
                cases ho
                try clear hd
                simp only [List.take_succ_cons, List.take_zero, putAll, Act.put, List.setIfInBounds_toArray, List.set_cons_succ, List.set_cons_zero, Nat.reduceAdd, Nat.zero_add]
                go_wp2_with fail
                have q := HK.out (.pointer (some ⟨a, 0, none⟩)) w5 (rfl) (Below.refl _ _)
                simp only [List.take_succ_cons, List.take_zero, putAll, Act.put, List.setIfInBounds_toArray, List.set_cons_succ, List.set_cons_zero, Nat.reduceAdd, Nat.zero_add] at q
                exact q
              · -- op 1
                cases ho
                try clear hd
                simp only [List.take_succ_cons, List.take_zero, putAll, Act.put, List.setIfInBounds_toArray, List.set_cons_succ, List.set_cons_zero, Nat.reduceAdd, Nat.zero_add]
                go_wp2_with fail
                have q := HK.out (.pointer (some ⟨a, 0, none⟩)) w5 (rfl) (Below.refl _ _)
                simp only [List.take_succ_cons, List.take_zero, putAll, Act.put, List.setIfInBounds_toArray, List.set_cons_succ, List.set_cons_zero, Nat.reduceAdd, Nat.zero_add] at q
                exact q
              · -- op 2
                have h1 : v 1 = .pointer (some ⟨a, 0, none⟩) := hd 1 (by kernel_rfl)
                cases ho
                try clear hd
                simp only [List.take_succ_cons, List.take_zero, putAll, Act.put, List.setIfInBounds_toArray, List.set_cons_succ, List.set_cons_zero, Nat.reduceAdd, Nat.zero_add, h1]
                go_wp2_with fail
                have q := HK.out (.pointer (some ⟨a, 0, none⟩)) w5 (rfl) (Below.refl _ _)
                simp only [List.take_succ_cons, List.take_zero, putAll, Act.put, List.setIfInBounds_toArray, List.set_cons_succ, List.set_cons_zero, Nat.reduceAdd, Nat.zero_add, h1] at q
                exact q
              · -- op 3
                have h2 : v 2 = .pointer (some ⟨a, 0, none⟩) := hd 2 (by kernel_rfl)
                cases ho
                try clear hd
                simp only [List.take_succ_cons, List.take_zero, putAll, Act.put, List.setIfInBounds_toArray, List.set_cons_succ, List.set_cons_zero, Nat.reduceAdd, Nat.zero_add, h2]
                go_wp2_with fail
                have q := HK.out (.pointer (some ⟨a, 2, none⟩)) w5 (rfl) (Below.refl _ _)
                simp only [List.take_succ_cons, List.take_zero, putAll, Act.put, List.setIfInBounds_toArray, List.set_cons_succ, List.set_cons_zero, Nat.reduceAdd, Nat.zero_add, h2] at q
                exact q
              · -- op 4
                have h3 : v 3 = .pointer (some ⟨a, 2, none⟩) := hd 3 (by kernel_rfl)
                have hc : w5.cell? ⟨a, 2, none⟩ = some (.slice (some ⟨g, 0, none⟩) i N) := by simp [World.cell?, HI5.out.1]
                cases ho
                try clear hd
                simp only [List.take_succ_cons, List.take_zero, putAll, Act.put, List.setIfInBounds_toArray, List.set_cons_succ, List.set_cons_zero, Nat.reduceAdd, Nat.zero_add, h3]
                go_wp2_with fail
                have q := HK.out (.slice (some ⟨g, 0, none⟩) i N) w5 (rfl) (Below.refl _ _)
                simp only [List.take_succ_cons, List.take_zero, putAll, Act.put, List.setIfInBounds_toArray, List.set_cons_succ, List.set_cons_zero, Nat.reduceAdd, Nat.zero_add, h3] at q
                exact q
              · -- op 5
                cases ho
                try clear hd
                simp only [List.take_succ_cons, List.take_zero, putAll, Act.put, List.setIfInBounds_toArray, List.set_cons_succ, List.set_cons_zero, Nat.reduceAdd, Nat.zero_add]
                go_wp2_with fail
                have q := HK.out (c) w5 (rfl) (Below.refl _ _)
                simp only [List.take_succ_cons, List.take_zero, putAll, Act.put, List.setIfInBounds_toArray, List.set_cons_succ, List.set_cons_zero, Nat.reduceAdd, Nat.zero_add] at q
                exact q
              · -- op 6
                have h5 : v 5 = c := hd 5 (by kernel_rfl)
                have hws : B ≤ w5.heap.size := by rw [HBB.out]; exact HI5.out.2.1.size
                have HCR5 := Lib.hid (ownsRow_mod HCR.out HI5.out.2.1 (fun k hk e => by have := HCK.out k hk; omega))
                cases ho
                try clear hd
                simp only [List.take_succ_cons, List.take_zero, putAll, Act.put, List.setIfInBounds_toArray, List.set_cons_succ, List.set_cons_zero, Nat.reduceAdd, Nat.zero_add, h5]
                go_wp2_with fail
                refine (Sc.cloneN c L ns w5 HCR5.out (by omega) HNS.out).mono ?_
                rintro e w6 ⟨v', rfl, hown, b6⟩
                have HO := Lib.hid hown
                have HB6 := Lib.hid b6
                clear hown b6
                go_wp2_with fail
                have q := HK.out (v') w6 (base_le HO.out hws) (HB6.out)
                simp only [List.take_succ_cons, List.take_zero, putAll, Act.put, List.setIfInBounds_toArray, List.set_cons_succ, List.set_cons_zero, Nat.reduceAdd, Nat.zero_add, h5] at q
                exact q
              · -- op 7
                have hv6 : w5.ownsRow B 9 1 (v 6) L ns := hd 6 (by kernel_rfl)
                have hws : B ≤ w5.heap.size := by rw [HBB.out]; exact HI5.out.2.1.size
                obtain ⟨au, cu, h6⟩ := row_shape hv6
                rw [h6] at hv6
                have HV6 := Lib.hid hv6
                clear hv6
                cases ho
                try clear hd
                simp only [List.take_succ_cons, List.take_zero, putAll, Act.put, List.setIfInBounds_toArray, List.set_cons_succ, List.set_cons_zero, Nat.reduceAdd, Nat.zero_add, h6]
                go_wp2_with fail
                have q := HK.out (.slice (some ⟨w5.heap.size, 0, none⟩) 1 1) (w5.alloc (.cells #[.slice au L cu] 91)) (⟨w5.heap.size, .slice au L cu, rfl, hws, heap_alloc_new _ _, HV6.out.alloc _⟩) (below_alloc _ _)
                simp only [List.take_succ_cons, List.take_zero, putAll, Act.put, List.setIfInBounds_toArray, List.set_cons_succ, List.set_cons_zero, Nat.reduceAdd, Nat.zero_add, h6] at q
                exact q
              · -- op 8
                exact absurd rfl hik
              · -- op 9
                have h0 : v 0 = .pointer (some ⟨a, 0, none⟩) := hd 0 (by kernel_rfl)
                cases ho
                try clear hd
                simp only [List.take_succ_cons, List.take_zero, putAll, Act.put, List.setIfInBounds_toArray, List.set_cons_succ, List.set_cons_zero, Nat.reduceAdd, Nat.zero_add, h0]
                go_wp2_with fail
                have q := HK.out (.pointer (some ⟨a, 0, none⟩)) w5 (rfl) (Below.refl _ _)
                simp only [List.take_succ_cons, List.take_zero, putAll, Act.put, List.setIfInBounds_toArray, List.set_cons_succ, List.set_cons_zero, Nat.reduceAdd, Nat.zero_add, h0] at q
                exact q
              · -- op 10
                have h9 : v 9 = .pointer (some ⟨a, 0, none⟩) := hd 9 (by kernel_rfl)
                cases ho
                try clear hd
                simp only [List.take_succ_cons, List.take_zero, putAll, Act.put, List.setIfInBounds_toArray, List.set_cons_succ, List.set_cons_zero, Nat.reduceAdd, Nat.zero_add, h9]
                go_wp2_with fail
                have q := HK.out (.pointer (some ⟨a, 2, none⟩)) w5 (rfl) (Below.refl _ _)
                simp only [List.take_succ_cons, List.take_zero, putAll, Act.put, List.setIfInBounds_toArray, List.set_cons_succ, List.set_cons_zero, Nat.reduceAdd, Nat.zero_add, h9] at q
                exact q
              -- END11
            · intro o ho v w5 hI5 hd K hK
              have HK := Lib.hid hK
              have h4 : v 4 = .slice (some ⟨g, 0, none⟩) i N := hd 4 (by kernel_rfl)
              obtain ⟨b, u, h7, hbB, hbu, hu⟩ : ∃ b u, v 7 = .slice (some ⟨b, 0, none⟩) 1 1 ∧ B ≤ b ∧ w5.heap[b]? = some (.cells #[u] 91 (0, 0)) ∧ w5.ownsRow B 9 1 u L ns := hd 7 (by kernel_rfl)
              obtain ⟨au, cu, hus⟩ := row_shape hu
              have hg5 : w5.ownsRow 0 91 1 (.slice (some ⟨g, 0, none⟩) i N) i vc := hI5.2.2
              have HI5 := Lib.hid hI5
              have HU := Lib.hid hu
              have HBU := Lib.hid hbu
              have HG5 := Lib.hid hg5
              cases ho
              clear hd hK hI5 hu hbu hg5
              simp only [List.take_succ_cons, List.take_zero, putAll, Act.put, List.setIfInBounds_toArray, List.set_cons_succ, List.set_cons_zero, Nat.reduceAdd, Nat.zero_add, h4, h7]
              refine wpList_append_fits _ rfl _ _ 55 rfl 0 91 i0 1 Try.underlying55 HI.out H1.out g i N vc rfl HG5.out ⟨b, 0, none⟩ 1 1 [u] rfl rfl ?c1 ?c2 ?c3 ?_
              case c1 =>
                intro j x hj
                match j, hj with
                | 0, hj => simp at hj; subst hj; simp [Addr.add, World.cell?, HBU.out]
              case c2 => intro x hx; simp at hx; subst hx; rw [hus]; rfl
              case c3 => omega
              intro w6 hown hgrow
              have hmod : Mod (fun x => x = g) w5 w6 := (Mod.of_grown hgrow).mono (fun k _ hk => (Option.some.inj hk).symm)
              have q := HK.out (.slice (some ⟨g, 0, none⟩) (i + 1) N) w6 rfl hmod ⟨hmod.keep HI5.out.1 (fun e => HQ.out.ga e.symm), HI5.out.2.1.trans hmod, u, hown, ownsRow_mod HU.out hmod (fun k hk e => by have := (HU.out.lt k hk).1; have := HBB.out; omega)⟩
              simp only [List.take_succ_cons, List.take_zero, putAll, Act.put, List.setIfInBounds_toArray, List.set_cons_succ, List.set_cons_zero, Nat.reduceAdd, Nat.zero_add, h4, h7] at q
              exact ⟨rfl, q⟩
            · intro v w5 hI5 hS
              have h8 : v 8 = .slice (some ⟨g, 0, none⟩) (i + 1) N := hS 8 (by decide)
              have h10 : v 10 = .pointer (some ⟨a, 2, none⟩) := hS 10 (by decide)
              obtain ⟨hd5, hm5, u, hgr5, hu5⟩ := hI5
              have k5 : w5.cell? ⟨a, 2, none⟩ = some (.slice (some ⟨g, 0, none⟩) i N) := by simp [World.cell?, hd5]
              have f5 : w5.frozen? ⟨a, 2, none⟩ = false := Lib.frozen_of_heap hd5 2
              have al5 := (Array.getElem?_eq_some_iff.1 hd5).1
              have hstep := HQ.out.step hltF hm5 hgr5 (by rw [← HL.out, ← HNN.out]; exact hu5) (by rw [HBB.out]; exact Nat.le_refl _)
              have HSTEP := Lib.hid hstep
              clear hS hd5 hm5 hgr5 hu5 hstep
              simp only [List.take_succ_cons, List.take_zero, List.drop_succ_cons, List.drop_zero, putAll, Act.put, List.setIfInBounds_toArray, List.set_cons_succ, List.set_cons_zero, Nat.reduceAdd, Nat.zero_add, h8, h10]
              clear h8 h10
              go_wp2_with fail
              go_roundw
              case rel => exact ⟨i + 1, _, by go_num, HSTEP.out⟩
              case measure => simp [intOf]; omega
          · obtain rfl : i = N := by omega
            have hfin := CP2.fin (n := n) (by rw [← HN.out]; exact HQ.out) HH.out.pos (by omega)
            have HFIN := Lib.hid hfin
            have k0 : wr.cell? ⟨a, 0, none⟩ = some (.pointer none) := by simp [World.cell?, HAA.out]
            have f0 : wr.frozen? ⟨a, 0, none⟩ = false := Lib.frozen_of_heap HAA.out 0
            clear hfin hbr
            go_wp2_with fail
            go_ret
            exact ⟨a, rfl, HFIN.out.1, HFIN.out.2⟩
      · intro x c kl y1 y2 w4 cnt1 hkey hlk hRc hat hrg1 hlt hg1 hs1 hen
        obtain ⟨x', hxe, hkl, hxs⟩ := string_of_keyOf Try.underlying9 hkey
        cases hxe
        obtain rfl : kl = lit x := hkl
        have hcm : c = mv x := by
          have h1 := hat (.held nilS)
          have h2 := HH.out.key x hxs
          unfold rawR at hRc
          cases hRc
          unfold lit at h1
          rw [h2] at h1
          simpa using h1.symm
        have HRG1 := Lib.hid hrg1
        have HG1 := Lib.hid hg1
        have HKEY := Lib.hid hkey
        clear hrg1 hg1 hat hrgP hkey
        try simp only [id] at hen
        obtain ⟨l, hl⟩ : ∃ l, l = stk F x := ⟨_, rfl⟩
        have hcrow : w4.ownsRow 0 90 2 c l.length (l.flatMap mcell) := by
          rw [hcm, hl]
          have hb4 : Below w1.heap.size w1 w4 := HP.out.below.trans (((Mod.of_grown HG1.out).below (B := w1.heap.size) HP.out.below.size (fun k hk => by have := Option.some.inj hk; have := HP.out.lr; omega)))
          exact row_below (HH.out.mrow x) hb4
        have hl1 : l.length ≤ 65536 := by have := stkFrom_len x 1 F; rw [hl]; unfold stk; have := HN.out; omega
        have HCR := Lib.hid hcrow
        have HL := Lib.hid hl
        have ha4 : w4.heap[a]? = some (.cells #[.pointer none, .map (some m), .slice (some ⟨g, 0, none⟩) 0 N] 57 (0, 0)) := (HG1.out.block a (Array.getElem?_eq_some_iff.1 HP.out.hd).1 (fun e => HP.out.ne.1 (Option.some.inj e))).trans HP.out.hd
        have HA4 := Lib.hid ha4
        clear hcm hcrow hl ha4
        go_wp2_with fail
        refine wp_region_each_tail 7 (cp7 a m x c l w4) (by kernel_rfl) (by kernel_rfl) (cp7_mono a m x c l w4) ?_ ?_
        · intro i o ho v w5 hb5 hd K hK
          have hi : i < 7 := (List.getElem?_eq_some_iff.1 ho).1
          have HK := Lib.hid hK
          clear hK
          rcases lt7 i hi with rfl | rfl | rfl | rfl | rfl | rfl | rfl
          -- REGION7
          · -- op 0
            cases ho
            try clear hd
            simp only [List.take_succ_cons, List.take_zero, putAll, Act.put, List.setIfInBounds_toArray, List.set_cons_succ, List.set_cons_zero, Nat.reduceAdd, Nat.zero_add]
            go_wp2_with fail
            have q := HK.out (.pointer (some ⟨a, 0, none⟩)) w5 (rfl) (Below.refl _ _)
            simp only [List.take_succ_cons, List.take_zero, putAll, Act.put, List.setIfInBounds_toArray, List.set_cons_succ, List.set_cons_zero, Nat.reduceAdd, Nat.zero_add] at q
            exact q
          · -- op 1
            have h0 : v 0 = .pointer (some ⟨a, 0, none⟩) := hd 0 (by kernel_rfl)
            cases ho
            try clear hd
            simp only [List.take_succ_cons, List.take_zero, putAll, Act.put, List.setIfInBounds_toArray, List.set_cons_succ, List.set_cons_zero, Nat.reduceAdd, Nat.zero_add, h0]
            go_wp2_with fail
            have q := HK.out (.pointer (some ⟨a, 0, none⟩)) w5 (rfl) (Below.refl _ _)
            simp only [List.take_succ_cons, List.take_zero, putAll, Act.put, List.setIfInBounds_toArray, List.set_cons_succ, List.set_cons_zero, Nat.reduceAdd, Nat.zero_add, h0] at q
            exact q
          · -- op 2
            have h1 : v 1 = .pointer (some ⟨a, 0, none⟩) := hd 1 (by kernel_rfl)
            cases ho
            try clear hd
            simp only [List.take_succ_cons, List.take_zero, putAll, Act.put, List.setIfInBounds_toArray, List.set_cons_succ, List.set_cons_zero, Nat.reduceAdd, Nat.zero_add, h1]
            go_wp2_with fail
            have q := HK.out (.pointer (some ⟨a, 1, none⟩)) w5 (rfl) (Below.refl _ _)
            simp only [List.take_succ_cons, List.take_zero, putAll, Act.put, List.setIfInBounds_toArray, List.set_cons_succ, List.set_cons_zero, Nat.reduceAdd, Nat.zero_add, h1] at q
            exact q
          · -- op 3
            have h2 : v 2 = .pointer (some ⟨a, 1, none⟩) := hd 2 (by kernel_rfl)
            have hc : w5.cell? ⟨a, 1, none⟩ = some (.map (some m)) := by simp [World.cell?, map_below hb5 HA4.out]
            cases ho
            try clear hd
            simp only [List.take_succ_cons, List.take_zero, putAll, Act.put, List.setIfInBounds_toArray, List.set_cons_succ, List.set_cons_zero, Nat.reduceAdd, Nat.zero_add, h2]
            go_wp2_with fail
            have q := HK.out (.map (some m)) w5 (rfl) (Below.refl _ _)
            simp only [List.take_succ_cons, List.take_zero, putAll, Act.put, List.setIfInBounds_toArray, List.set_cons_succ, List.set_cons_zero, Nat.reduceAdd, Nat.zero_add, h2] at q
            exact q
          · -- op 4
            cases ho
            try clear hd
            simp only [List.take_succ_cons, List.take_zero, putAll, Act.put, List.setIfInBounds_toArray, List.set_cons_succ, List.set_cons_zero, Nat.reduceAdd, Nat.zero_add]
            go_wp2_with fail
            have q := HK.out (.string x) w5 (rfl) (Below.refl _ _)
            simp only [List.take_succ_cons, List.take_zero, putAll, Act.put, List.setIfInBounds_toArray, List.set_cons_succ, List.set_cons_zero, Nat.reduceAdd, Nat.zero_add] at q
            exact q
          · -- op 5
            cases ho
            try clear hd
            simp only [List.take_succ_cons, List.take_zero, putAll, Act.put, List.setIfInBounds_toArray, List.set_cons_succ, List.set_cons_zero, Nat.reduceAdd, Nat.zero_add]
            go_wp2_with fail
            have q := HK.out (c) w5 (rfl) (Below.refl _ _)
            simp only [List.take_succ_cons, List.take_zero, putAll, Act.put, List.setIfInBounds_toArray, List.set_cons_succ, List.set_cons_zero, Nat.reduceAdd, Nat.zero_add] at q
            exact q
          · -- op 6
            have h5 : v 5 = c := hd 5 (by kernel_rfl)
            have hws := hb5.size
            have HCR5 := Lib.hid (row_below HCR.out hb5)
            cases ho
            try clear hd
            simp only [List.take_succ_cons, List.take_zero, putAll, Act.put, List.setIfInBounds_toArray, List.set_cons_succ, List.set_cons_zero, Nat.reduceAdd, Nat.zero_add, h5]
            go_wp2_with fail
            refine (Sc.cloneM c l.length (l.flatMap mcell) w5 HCR5.out (by omega) (mcells_one l)).mono ?_
            rintro e w6 ⟨v', rfl, hown, b6⟩
            have HO := Lib.hid hown
            have HB6 := Lib.hid b6
            clear hown b6
            go_wp2_with fail
            have q := HK.out (v') w6 (base_le HO.out hws) (HB6.out)
            simp only [List.take_succ_cons, List.take_zero, putAll, Act.put, List.setIfInBounds_toArray, List.set_cons_succ, List.set_cons_zero, Nat.reduceAdd, Nat.zero_add, h5] at q
            exact q
          -- END7
        · intro v w5 hb5 hS
          have e3 : v 3 = .map (some m) := hS 3 (by decide)
          have e4 : v 4 = .string x := hS 4 (by decide)
          have hv6 : w5.ownsRow w4.heap.size 90 2 (v 6) l.length (l.flatMap mcell) := hS 6 (by decide)
          obtain ⟨v', hv'⟩ : ∃ v', v' = v 6 := ⟨_, rfl⟩
          rw [← hv'] at hv6
          have e6 := hv'.symm
          have hout5 := ownsMap_mod HP.out.mp ((Mod.of_grown HG1.out).trans (Mod.of_below hb5)) (fun e => HP.out.ne.2.2.1 (Option.some.inj e))
          have hcn := HP.out.cn
          have HV6 := Lib.hid hv6
          have HB5 := Lib.hid hb5
          clear hS hv6 hb5
          simp only [List.take_succ_cons, List.take_zero, List.drop_succ_cons, List.drop_zero, putAll, Act.put, List.setIfInBounds_toArray, List.set_cons_succ, List.set_cons_zero, Nat.reduceAdd, Nat.zero_add, e3, e4, e6]
          clear e3 e4 e6 hv'
          refine wpList_mapUpdate_own _ rfl _ _ _ 54 rfl 9 88 law9 Try.underlying54 rawR m nc Dc rfl hout5 (by unfold maxLen; omega) _ _ _ rfl rfl HKEY.out (.held v') [] rfl ?_
          intro w6 hu hgu
          go_frame
          have hfin := HP.out.step hxs hlk HRG1.out hlt HG1.out HB5.out (by rw [← HL.out]; exact HV6.out) hu hgu
          have HFIN := Lib.hid hfin
          clear hfin hu hgu hout5
          go_wp2_with fail
          go_roundw
          case rel => exact ⟨_, _, _, _, _, HFIN.out⟩
          case measure => rw [HFIN.out.rg.left_eq, HP.out.rg.left_eq]; omega
end Go.Proofs.Ytblooekephkojaa

/- scope: Declare and Close of regletref10. -/
import Derived.Test.YtblooekephkojaaScW
namespace Go.Proofs.Ytblooekephkojaa
open Go.RowKit Go.BigFrame Go.ChangeMaps Go.WideMaps
set_option linter.unusedVariables false

theorem RfAt.rowAt {w : World} {base B many : Nat} {a : Option Addr} {c : Nat} {L : List Sd} (h : RfAt w base B many (.slice a L.length c) L) : RowAt 3 Sd.f w a L ∧ (a = none → L = [] ∧ c = 0) := by
  have hr := h.row
  rcases hr.2 with ⟨hv, hz⟩ | ⟨g, cap, cur, hv, _, hg, _⟩
  · simp only [Value.slice.injEq] at hv
    obtain ⟨rfl, _, rfl⟩ := hv
    have : L = [] := List.length_eq_zero_iff.1 hz
    subst this
    exact ⟨.inl rfl, fun _ => ⟨rfl, rfl⟩⟩
  · simp only [Value.slice.injEq] at hv
    obtain ⟨rfl, _, _⟩ := hv
    refine ⟨.inr ⟨g, 0, rfl, (Array.getElem?_eq_some_iff.1 hg).1, fun i hi j u hu => ?_⟩, fun e => by cases e⟩
    have hlen : (L.flatMap Sd.f).length = L.length * 3 := hr.1
    have hj : j < 3 := by
      by_cases hj : j < 3
      · exact hj
      · rw [List.getElem?_eq_none (by simp [Sd.f]; omega)] at hu; cases hu
    obtain ⟨h1, h2, h3⟩ := flat3 L i hi
    rw [Nat.zero_add, hr.cellAt _ (by omega)]
    match j, hj with
    | 0, _ => simp [Sd.f] at hu; subst hu; exact h1
    | 1, _ => simp [Sd.f] at hu; subst hu; exact h2
    | 2, _ => simp [Sd.f] at hu; subst hu; exact h3
theorem three_new (w : World) (e : Sd) : ∀ j u, (Sd.f e)[j]? = some u → (w.alloc (.cells #[.int .i64 e.b, .string e.x, .bool e.t] 99)).cell? ((⟨w.heap.size, 0, none⟩ : Addr).add j) = some u := by
  intro j u hj
  match j, hj with
  | 0, hj => simp [Sd.f] at hj; subst hj; simp [Addr.add]
  | 1, hj => simp [Sd.f] at hj; subst hj; simp [Addr.add]
  | 2, hj => simp [Sd.f] at hj; subst hj; simp [Addr.add]
theorem flatMap_snoc (L : List Sd) (e : Sd) : (L ++ [e]).flatMap Sd.f = L.flatMap Sd.f ++ Sd.f e := by simp

/-- The list is another one, in new memory. -/
theorem RfAt.put {w w1 : World} {base B many : Nat} {v v' : Value} {L L' : List Sd} (h : RfAt w base B many v L) (hb : Below w.heap.size w w1) (hr : w1.ownsRow w.heap.size 99 3 v' L'.length (L'.flatMap Sd.f)) (hbase : base ≤ w.heap.size) : RfLeaves base B many L' w (w1.setCell ⟨B, 1, none⟩ v') := by
  have hBl := (Array.getElem?_eq_some_iff.1 h.hd).1
  have hd1 : w1.heap[B]? = some (.cells #[.int .i64 many, v] 49 (0, 0)) := heap_below hb h.hd hBl
  refine ⟨⟨v', ?_, ?_, h.le⟩, (Mod.of_below hb).trans (Mod.setCell (Mod.refl (fun k => k = B) w1) _ (.inr rfl) _ |>.mono ?_)⟩
  · have := heap_setCell_same w1 B 1 _ _ v' hd1
    simpa using this
  · have h2 := ownsRow_mod hr (Mod.setCell (a := w1) (w := w1) (Mod.refl (fun k => k = B) w1) ⟨B, 1, none⟩ (.inr rfl) v') (fun k hk e => by have := (hr.lt k hk).1; omega)
    refine ⟨h2.1, ?_⟩
    rcases h2.2 with hn | ⟨g, cap, cur, h1, h2, rest⟩
    · exact .inl hn
    · exact .inr ⟨g, cap, cur, h1, by omega, rest⟩
  · intro k _ hk
    subst hk
    exact ⟨h.le, _, _, _, h.hd, .inl rfl⟩

theorem three_cells (w : World) (p q r : Value) (ty : TypeId) : ∀ j u, [p, q, r][j]? = some u → (w.alloc (.cells #[p, q, r] ty)).cell? ((⟨w.heap.size, 0, none⟩ : Addr).add j) = some u := by
  intro j u hj
  match j, hj with
  | 0, hj => simp at hj; subst hj; simp [Addr.add]
  | 1, hj => simp at hj; subst hj; simp [Addr.add]
  | 2, hj => simp at hj; subst hj; simp [Addr.add]
theorem decl_mid {w w1 : World} {B many : Nat} {v1 : Value} {L : List Sd} (hg : w.grownBy w1 (Value.slice none 0 0).ownBlock) (ho : w1.ownsRow w.heap.size 99 3 v1 (0 + L.length) ([] ++ L.flatMap Sd.f)) (c0 : w.cell? ⟨B, 0, none⟩ = some (.int .i64 many)) (hBl : B < w.heap.size) :
    Hid (Below w.heap.size w w1) ∧ w1.cell? ⟨B, 0, none⟩ = some (.int .i64 many) ∧ w.heap.size ≤ w1.heap.size ∧ Hid (w1.ownsRow w.heap.size 99 3 v1 L.length (L.flatMap Sd.f)) := by
  have hb1 : Below w.heap.size w w1 := (Mod.of_grown hg).below (Nat.le_refl _) (fun k hk => by simp [Value.ownBlock] at hk)
  rw [Nat.zero_add, List.nil_append] at ho
  exact ⟨Lib.hid hb1, (hb1.cell (p := ⟨B, 0, none⟩) hBl).trans c0, hb1.size, Lib.hid ho⟩
theorem decl_mid2 {w w1 w2 : World} {base B many : Nat} {b : Int} {v v1 v2 : Value} {L : List Sd} {x : ByteArray} {t : Bool} {o : Obj} (hb1 : Below w.heap.size w w1) (ho1 : w1.ownsRow w.heap.size 99 3 v1 L.length (L.flatMap Sd.f)) (hg : (w1.alloc o).grownBy w2 v1.ownBlock) (ho : w2.ownsRow w.heap.size 99 3 v2 (L.length + 1) (L.flatMap Sd.f ++ [.int .i64 b, .string x, .bool t])) (h : RfAt w base B many v L) :
    Hid (Below w.heap.size w w2) ∧ w2.cell? ⟨B, 1, none⟩ = some v ∧ w2.frozen? ⟨B, 1, none⟩ = false ∧ B < w2.heap.size ∧ Hid (w2.ownsRow w.heap.size 99 3 v2 (L.length + 1) (L.flatMap Sd.f ++ [.int .i64 b, .string x, .bool t])) := by
  have hs := hb1.size
  have hb2 : Below w.heap.size (w1.alloc o) w2 := (Mod.of_grown hg).below (by simp; omega) (fun k hk => (ho1.lt k hk).1)
  have hb : Below w.heap.size w w2 := (hb1.alloc hs o).trans hb2
  have hBl := (Array.getElem?_eq_some_iff.1 h.hd).1
  have hd := heap_below hb h.hd hBl
  exact ⟨Lib.hid hb, by simp [World.cell?, hd], Lib.frozen_of_heap hd 1, by have := hb.size; omega, Lib.hid ho⟩

set_option maxRecDepth 100000 in
set_option maxHeartbeats 4000000 in
theorem Rf.declare (base B many : Nat) (L : List Sd) (x : ByteArray) (t : Bool) (w : World) (h : Rf base B many L w) (hL : L.length ≤ 1000000) (hm1 : 1 ≤ many) (hm : many ≤ 65536) (hbase : base ≤ w.heap.size) :
    Calls Try.prog 30 #[.pointer (some ⟨B, 0, none⟩), .string x, .bool t] w fun e w' => e = .returned (.int .i64 (if x.size = 0 then 100 else 0)) ∧ RfLeaves base B many (if x.size = 0 then L else L ++ [⟨many - 1, x, t⟩]) w w' := by
  obtain ⟨v, h⟩ := h
  by_cases hx0 : x.size = 0
  · rw [if_pos hx0, if_pos hx0]
    obtain rfl := str_empty hx0
    have H := Lib.hid h
    clear h
    go_enter Try.func30, Try.ntmps30
    go_wp2
    go_ret
    exact ⟨rfl, ⟨v, H.out⟩, Mod.refl _ _⟩
  rw [if_neg hx0, if_neg hx0]
  have hne := str_some hx0
  obtain ⟨a, cap, rfl⟩ := row_shape h.row
  obtain ⟨c0, c1⟩ := h.cells
  obtain ⟨hra, hnil⟩ := h.rowAt
  have hf : w.frozen? ⟨B, 1, none⟩ = false := Lib.frozen_of_heap h.hd 1
  have hBl := (Array.getElem?_eq_some_iff.1 h.hd).1
  obtain ⟨i0, hi, hz0, hz1, hz2⟩ := info_parts infoSd
  have HI := Lib.hid hi
  have HZ0 := Lib.hid hz0
  have HZ1 := Lib.hid hz1
  have HZ2 := Lib.hid hz2
  have H := Lib.hid h
  have HRA := Lib.hid hra
  have HNIL := Lib.hid hnil
  have HX := Lib.hid hx0
  clear h hra hnil hi hz0 hz1 hz2 hx0
  have e1 : ((many : Int) - 1) = ((many - 1 : Nat) : Int) := by omega
  have E1 := Lib.hid e1
  have i0b : (1 : Int) ≤ (many : Int) := by omega
  have i1b : (many : Int) ≤ 65536 := by omega
  clear e1
  go_enter Try.func30, Try.ntmps30
  have HC0 := Lib.hid c0
  have HBl := Lib.hid hBl
  go_wp2_with (first
    | (at_builtin; refine wpList_append_rows Sd.f rfl (.tmp 10) (.tmp 14) 47 rfl w.heap.size 99 i0 (.agg #[.int .i64 0, .string ⟨#[]⟩, .bool false]) 3 32 Try.underlying47 HI.out HZ0.out HZ1.out HZ2.out rfl (by decide) (fun g => rfl) (fun g u hu => by simp [Sd.f] at hu; rcases hu with rfl | rfl | rfl <;> rfl) _ 0 [] rfl (World.ownsRow_nil _ _ _ _) a L cap rfl HNIL.out HRA.out (by unfold maxLen; omega) (by omega) (Nat.le_refl _) ?_; intro v1 w1 hown1 hgrow1; obtain ⟨HB1, d0, hsz1, HO1⟩ := decl_mid hgrow1 hown1 HC0.out HBl.out; clear hown1 hgrow1 c0 c1 hf)
    | (at_builtin; refine wpList_append_own_at _ rfl (.tmp 17) (.tmp 26) 47 rfl w.heap.size 99 i0 (.agg #[.int .i64 0, .string ⟨#[]⟩, .bool false]) 3 32 Try.underlying47 HI.out HZ0.out HZ1.out HZ2.out rfl (by decide) _ _ _ rfl (HO1.out.alloc _) ⟨w1.heap.size, 0, none⟩ 1 1 [.int .i64 ((many : Int) - 1), .string x, .bool t] rfl rfl (three_cells w1 _ _ _ 99) (fun u hu => by simp at hu; rcases hu with rfl | rfl | rfl <;> rfl) (by unfold maxLen; omega) (by omega) (by simp; omega) ?_; intro v2 w2 hown2 hgrow2 _ _; obtain ⟨HB2, hd2, hf2, hsz2, HO2⟩ := decl_mid2 (L := L) (x := x) (t := t) HB1.out HO1.out hgrow2 hown2 H.out; clear hown2 hgrow2 d0; obtain ⟨a2, c2, hv2⟩ := row_shape HO2.out; subst hv2))
  go_ret
  refine ⟨rfl, ?_⟩
  have ho := HO2.out
  rw [E1.out] at ho
  exact H.out.put (L' := L ++ [⟨many - 1, x, t⟩]) HB2.out (by rw [List.length_append, List.length_singleton, flatMap_snoc]; exact ho) hbase
end Go.Proofs.Ytblooekephkojaa

/- search: newLine. -/
import Derived.Test.YtblooekephkojaaLsE
import Derived.Test.YtblooekephkojaaSrE
import Derived.Test.YtblooekephkojaaHed
namespace Go.Proofs.Ytblooekephkojaa
open Go.RowKit Go.BigFrame Go.Shelf
set_option linter.unusedVariables false

/-- Where a line lies: its block, the three rows, the two trees. -/
structure Ln where
  L : Nat
  A : Nat
  E : Nat
  C : Nat
  FF : Nat
  FV : Nat
  FT : Nat
  GF : Nat
  GV : Nat
  GT : Nat
  ga : Option Addr
  gc : Nat

def lineRow (L A E C : Nat) (ga : Option Addr) (gc : Nat) (n : Nat) (s : Sty) (first : Int) (p1 p2 : Option Addr) : Array Value :=
  #[.slice ga n gc, .int .i64 s.c, .int .i64 s.i1, .int .i64 s.i2, .int .i64 s.i3, .bool s.b1, .bool s.b2, .bool s.b3, .int .i64 s.e, .int .i64 s.o1, .int .i64 s.o2, .int .i64 s.o3, .int .i64 s.o4, .int .i64 s.o5, .int .i64 s.o6, .int .i64 s.o7, .int .i64 s.o8, .int .i64 s.o9, .int .i64 s.o10,
    .int .i64 first, .slice (some ⟨A, 0, none⟩) (n + 1) (n + 1), .slice (some ⟨E, 0, none⟩) (n + 1) (n + 1), .slice (some ⟨C, 0, none⟩) (n + 1) (n + 1), .pointer p1, .pointer p2]

theorem zc3 (W : World) (B : Nat) (hB : W.heap.size = B) (t1 t2 t3 n : Nat) :
    IntBlk (((W.alloc (.cells (zc n) t1)).alloc (.cells (zc n) t2)).alloc (.cells (zc n) t3)).drew B t1 (List.replicate n 0) ∧
    IntBlk (((W.alloc (.cells (zc n) t1)).alloc (.cells (zc n) t2)).alloc (.cells (zc n) t3)).drew (B + 1) t2 (List.replicate n 0) ∧
    IntBlk (((W.alloc (.cells (zc n) t1)).alloc (.cells (zc n) t2)).alloc (.cells (zc n) t3)).drew (B + 1 + 1) t3 (List.replicate n 0) ∧
    Below W.heap.size W (((W.alloc (.cells (zc n) t1)).alloc (.cells (zc n) t2)).alloc (.cells (zc n) t3)).drew := by
  subst hB
  exact ⟨heap3a _ _ _ _, heap3b _ _ _ _, heap3c _ _ _ _, below3 _ _ _ _⟩

theorem IntBlk.alloc {w : World} {b ty : Nat} {l : List Int} (h : IntBlk w b ty l) (o : Obj) : IntBlk (w.alloc o) b ty l := by
  have := h.lt
  unfold IntBlk at *; rw [Lib.alloc_old _ _ _ this]; exact h
theorem IntBlk.drewN {w : World} {b ty : Nat} {l : List Int} (h : IntBlk w b ty l) (n : Nat) : IntBlk (w.drewN n) b ty l := h
theorem IntBlk.other {w : World} {b ty : Nat} {l : List Int} (h : IntBlk w b ty l) (p : Addr) (hp : p.block ≠ b) (v : Value) : IntBlk (w.setCell p v) b ty l := by
  unfold IntBlk at *; rw [Below.heap_setCell _ _ _ _ (fun e => hp e.symm)]; exact h
theorem IntBlk.below {w w' : World} {b ty : Nat} {l : List Int} {B : Nat} (h : IntBlk w b ty l) (hb : Below B w w') (hlt : b < B) : IntBlk w' b ty l := by
  unfold IntBlk at *; rw [hb.block b hlt]; exact h
theorem Least.below {w w' : World} {F V T size : Nat} {v best : List Int} {B : Nat} (h : Least w F V T size v best) (hb : Below B w w') (h1 : F < B) (h2 : V < B) (h3 : T < B) : Least w' F V T size v best :=
  ⟨by rw [hb.block F h1]; exact h.f, h.v.below hb h2, h.t.below hb h3⟩
theorem Least.lt {w : World} {F V T size : Nat} {v best : List Int} (h : Least w F V T size v best) : F < w.heap.size ∧ V < w.heap.size ∧ T < w.heap.size := ⟨(Array.getElem?_eq_some_iff.1 h.f).1, h.v.lt, h.t.lt⟩
theorem Least.other {w : World} {F V T size : Nat} {v best : List Int} (h : Least w F V T size v best) (p : Addr) (h1 : p.block ≠ F) (h2 : p.block ≠ V) (h3 : p.block ≠ T) (x : Value) : Least (w.setCell p x) F V T size v best :=
  ⟨by rw [Below.heap_setCell _ _ _ _ (fun e => h1 e.symm)]; exact h.f, h.v.other p h2 x, h.t.other p h3 x⟩

theorem pow_one {n k1 k2 : Nat} (a1 : n ≤ 2 ^ k1) (b1 : 2 ^ k1 < 2 * n) (a2 : n ≤ 2 ^ k2) (b2 : 2 ^ k2 < 2 * n) : k1 = k2 := by
  rcases Nat.lt_trichotomy k1 k2 with h | h | h
  · have := Nat.pow_le_pow_right (n := 2) (by omega) h
    rw [Nat.pow_succ] at this; omega
  · exact h
  · have := Nat.pow_le_pow_right (n := 2) (by omega) h
    rw [Nat.pow_succ] at this; omega

/-- How wide the gaps ahead of a place are, without breaks. -/
def psum (l : List Gap) : Nat → Int
  | 0 => 0
  | k + 1 => psum l k + (match l[k]? with | some g => g.b + g.w | none => 0)
theorem psum_succ (l : List Gap) (k : Nat) (h : k < l.length) : psum l (k + 1) = psum l k + l[k].b + l[k].w := by
  show psum l k + _ = _
  rw [List.getElem?_eq_getElem h]; dsimp only; rw [Int.add_assoc]
theorem valid_bd {g : Gap} (h : g.valid = true) : 0 ≤ g.w ∧ g.w ≤ 65536 ∧ 0 ≤ g.b ∧ g.b ≤ 65536 ∧ 0 ≤ g.cost ∧ g.cost ≤ 1000000 ∧ 0 ≤ g.ind ∧ g.ind ≤ 256 ∧ (g.must = true → g.may = true) := by
  simp only [Gap.valid, Bool.and_eq_true, decide_eq_true_eq, Bool.or_eq_true, Bool.not_eq_true'] at h
  refine ⟨h.1.1, h.1.2.1, h.1.2.2.1, h.1.2.2.2.1, h.1.2.2.2.2.1, h.1.2.2.2.2.2.1, h.1.2.2.2.2.2.2.1, h.1.2.2.2.2.2.2.2, fun hm => ?_⟩
  rcases h.2 with h2 | h2
  · exact h2
  · rw [hm] at h2; cases h2
theorem psum_bd (l : List Gap) (hv : ∀ g ∈ l, g.valid = true) : ∀ k, k ≤ l.length → 0 ≤ psum l k ∧ psum l k ≤ 131072 * k
  | 0, _ => ⟨Int.le_refl _, by simp [psum]⟩
  | k + 1, h => by
    have ih := psum_bd l hv k (by omega)
    have hb := valid_bd (hv _ (List.getElem_mem (show k < l.length from h)))
    rw [psum_succ l k h]
    omega
/-- The sums, as far as they are known. -/
def sumL (l : List Gap) (n i : Nat) : List Int := (List.range (i + 1)).map (psum l) ++ List.replicate (n - (i + 1)) 0
theorem sumL_len (l : List Gap) (n i : Nat) (h : i < n) : (sumL l n i).length = n := by simp [sumL]; omega
theorem sumL_at (l : List Gap) (n i : Nat) (h : i < n) : (sumL l n i)[i]'(by rw [sumL_len l n i h]; exact h) = psum l i := by
  simp [sumL]
theorem sumL_zero (l : List Gap) (n : Nat) (h : 0 < n) : sumL l n 0 = List.replicate n 0 := by
  obtain ⟨m, rfl⟩ : ∃ m, n = m + 1 := ⟨n - 1, by omega⟩
  simp [sumL, psum, List.replicate_succ]
theorem sumL_set (l : List Gap) (n i : Nat) (h : i + 1 < n) : (sumL l n i).set (i + 1) (psum l (i + 1)) = sumL l n (i + 1) := by
  unfold sumL
  rw [List.set_append, if_neg (by simp), show n - (i + 1) = (n - (i + 1 + 1)) + 1 from by omega, List.replicate_succ, List.range_succ (n := i + 1)]
  simp
def sums (l : List Gap) : List Int := (List.range (l.length + 1)).map (psum l)
theorem sumL_all (l : List Gap) : sumL l (l.length + 1) l.length = sums l := by simp [sumL, sums]

/-- A line in memory. -/
structure LineAt (w : World) (q : Ln) (l : List Gap) (s : Sty) (first : Int) (sum en cost : List Int) (z : Nat) (fv fb sv sb : List Int) : Prop where
  hd : w.heap[q.L]? = some (.cells (lineRow q.L q.A q.E q.C q.ga q.gc l.length s first (some ⟨q.FF, 0, none⟩) (some ⟨q.GF, 0, none⟩)) 108 (0, 0))
  sum : IntBlk w q.A 3 sum
  en : IntBlk w q.E 3 en
  cost : IntBlk w q.C 2 cost
  flat : Least w q.FF q.FV q.FT z fv fb
  steep : Least w q.GF q.GV q.GT z sv sb
def Ln.blocks (q : Ln) : List Nat := [q.L, q.A, q.E, q.C, q.FF, q.FV, q.FT, q.GF, q.GV, q.GT]
/-- What newLine leaves. -/
def NewLine (first : Int) (ga : Option Addr) (l : List Gap) (gc : Nat) (s : Sty) (w : World) (e : Ending) (w' : World) : Prop :=
  ∃ (q : Ln) (k : Nat), e = .returned (.pointer (some ⟨q.L, 0, none⟩)) ∧ q.ga = ga ∧ q.gc = gc ∧ q.blocks.Nodup ∧ (∀ b ∈ q.blocks, w.heap.size ≤ b) ∧ l.length + 1 ≤ 2 ^ k ∧ 2 ^ k < 2 * (l.length + 1) ∧
    LineAt w' q l s first (sums l) (List.replicate (l.length + 1) 0) (List.replicate (l.length + 1) 0) (2 ^ k) (List.replicate (l.length + 1) never) (List.replicate (2 * 2 ^ k) (-1)) (List.replicate (l.length + 1) never) (List.replicate (2 * 2 ^ k) (-1)) ∧ Below w.heap.size w w'

set_option maxRecDepth 100000 in
set_option maxHeartbeats 4000000 in
theorem Ls.newLine (first : Int) (ga : Option Addr) (l : List Gap) (gc : Nat) (s : Sty) (w : World) (hl : l.length ≤ 65536) (hr : RowAt 6 Gap.f w ga l) (hv : ∀ g ∈ l, g.valid = true) :
    Calls Try.prog 54 #[.int .i64 first, .slice ga l.length gc, .agg s.cells] w (NewLine first ga l gc s w) := by
  have hm5 : ∀ wx, (Instr.makeSlice 105 (.int .i64 ((l.length : Int) + 1)) (.int .i64 ((l.length : Int) + 1))).run Try.prog wx = .ok (.slice (some ⟨wx.heap.size, 0, none⟩) (l.length + 1) (l.length + 1)) (wx.alloc (.cells (zc (l.length + 1)) 2)) := fun wx => by
    have := make_int64s (l.length + 1) (by omega) wx
    rwa [show ((l.length + 1 : Nat) : Int) = (l.length : Int) + 1 from by omega] at this
  have hm4 : ∀ wx, (Instr.makeSlice 104 (.int .i64 ((l.length : Int) + 1)) (.int .i64 ((l.length : Int) + 1))).run Try.prog wx = .ok (.slice (some ⟨wx.heap.size, 0, none⟩) (l.length + 1) (l.length + 1)) (wx.alloc (.cells (zc (l.length + 1)) 3)) := fun wx => by
    have := make_ints (l.length + 1) (by omega) wx
    rwa [show ((l.length + 1 : Nat) : Int) = (l.length : Int) + 1 from by omega] at this
  have hst : CellsAt (w.alloc (.cells s.cells 27)) w.heap.size 0 s.cells.toList := CellsAt.of_heap (heap_alloc_new _ _)
  go_enter Try.func54, Try.ntmps54
  go_upto_region 2 with fail
  refine wp_region_head (X := Nat × Nat × Nat) 9 (fun x a => ((((((((a.put (some 14) (.slice ga l.length gc)).put (some 15) (.agg s.cells)).put (some 16) (.int .i64 first)).put (some 17) (.int .i64 ((l.length : Int) + 1))).put (some 18) (.slice (some ⟨x.1, 0, none⟩) (l.length + 1) (l.length + 1))).put (some 19) (.int .i64 ((l.length : Int) + 1))).put (some 20) (.slice (some ⟨x.2.1, 0, none⟩) (l.length + 1) (l.length + 1))).put (some 21) (.int .i64 ((l.length : Int) + 1))).put (some 22) (.slice (some ⟨x.2.2, 0, none⟩) (l.length + 1) (l.length + 1)))
    (fun x wx => IntBlk wx x.1 3 (List.replicate (l.length + 1) 0) ∧ IntBlk wx x.2.1 3 (List.replicate (l.length + 1) 0) ∧ IntBlk wx x.2.2 2 (List.replicate (l.length + 1) 0) ∧
      w.heap.size + 1 ≤ x.1 ∧ w.heap.size + 1 ≤ x.2.1 ∧ w.heap.size + 1 ≤ x.2.2 ∧ x.1 ≠ x.2.1 ∧ x.1 ≠ x.2.2 ∧ x.2.1 ≠ x.2.2 ∧ Below (w.alloc (.cells s.cells 27)).heap.size (w.alloc (.cells s.cells 27)) wx) (by kernel_rfl) (by kernel_rfl) ?_ ?_
  · simp only [List.take_succ_cons, List.take_zero]
    -- ORDERS
    refine wpAny_take (i := 0) (v := ?_) rfl (by kernel_rfl) (by kernel_rfl) (by kernel_rfl) (fun _ _ _ h => absurd h.1 (by simp)) (Or.inl ⟨by rfl, ?_⟩) ?_
    rotate_left
    · intro w; go_simp; try with_reducible rfl
    refine wpAny_take (i := 2) (v := ?_) rfl (by kernel_rfl) (by kernel_rfl) (by kernel_rfl) (fun _ _ _ h => absurd h.1 (by simp)) (Or.inl ⟨by rfl, ?_⟩) ?_
    rotate_left
    · intro w; go_simp; try with_reducible rfl
    refine wpAny_take (i := 3) (v := ?_) rfl (by kernel_rfl) (by kernel_rfl) (by kernel_rfl) (fun _ _ _ h => absurd h.1 (by simp)) (Or.inl ⟨by rfl, ?_⟩) ?_
    rotate_left
    · intro w; go_simp; try with_reducible rfl
    refine wpAny_take (i := 5) (v := ?_) rfl (by kernel_rfl) (by kernel_rfl) (by kernel_rfl) (fun _ _ _ h => absurd h.1 (by simp)) (Or.inl ⟨by rfl, ?_⟩) ?_
    rotate_left
    · intro w; go_simp; try with_reducible rfl
    refine wpAny_take (i := 7) (v := ?_) rfl (by kernel_rfl) (by kernel_rfl) (by kernel_rfl) (fun _ _ _ h => absurd h.1 (by simp)) (Or.inl ⟨by rfl, ?_⟩) ?_
    rotate_left
    · intro w; go_simp; try with_reducible rfl
    refine wpAny_ready (rs := [1, 4, 6, 8]) (by kernel_rfl) (by simp) ?_
    refine AllReady.cons rfl (fun K hK => ?_) ?_
    · rw [if_pos (by rfl)]; with_reducible refine wp_load_at 27 _ rfl _ _ rfl s.cells.toList _ (hst.below (B := w.heap.size + 1) (by repeat (first | exact Below.refl _ _ | refine Below.drew ?_ | refine Below.alloc ?_ (by simp <;> omega) _)) (by omega)) Try.underlying27 rfl (by kernel_rfl) ?_
      refine hK (Act.put _ (some 15) (.agg s.cells)) _ ?_; clear hK K; simp only [Act.put, List.setIfInBounds_toArray, List.set_cons_succ, List.set_cons_zero]
      refine wpAny_ready (rs := [4, 6, 8]) (by kernel_rfl) (by simp) ?_
      refine AllReady.cons rfl (fun K hK => ?_) ?_
      · go_simp
        refine hK _ _ ?_; clear hK K
        refine wpAny_ready (rs := [6, 8]) (by kernel_rfl) (by simp) ?_
        refine AllReady.cons rfl (fun K hK => ?_) ?_
        · go_simp
          refine hK _ _ ?_; clear hK K
          refine wpAny_ready (rs := [8]) (by kernel_rfl) (by simp) ?_
          refine AllReady.cons rfl (fun K hK => ?_) ?_
          · go_simp
            refine hK _ _ ?_; clear hK K
            refine wpAny_done (by kernel_rfl) ?_ _
            have hz := zc3 (w.alloc (.cells s.cells 27)) (w.heap.size + 1) (by simp) 3 3 2 (l.length + 1)
            exact ⟨rfl, (w.heap.size + 1, w.heap.size + 1 + 1, w.heap.size + 1 + 1 + 1), by simp only, hz.1, hz.2.1, hz.2.2.1, by (dsimp only; omega), by (dsimp only; omega), by (dsimp only; omega), by (dsimp only; omega), by (dsimp only; omega), by (dsimp only; omega), hz.2.2.2⟩
          exact AllReady.nil
        refine AllReady.cons rfl (fun K hK => ?_) ?_
        · go_simp
          refine hK _ _ ?_; clear hK K
          refine wpAny_ready (rs := [6]) (by kernel_rfl) (by simp) ?_
          refine AllReady.cons rfl (fun K hK => ?_) ?_
          · go_simp
            refine hK _ _ ?_; clear hK K
            refine wpAny_done (by kernel_rfl) ?_ _
            have hz := zc3 (w.alloc (.cells s.cells 27)) (w.heap.size + 1) (by simp) 3 2 3 (l.length + 1)
            exact ⟨rfl, (w.heap.size + 1, w.heap.size + 1 + 1 + 1, w.heap.size + 1 + 1), by simp only, hz.1, hz.2.2.1, hz.2.1, by (dsimp only; omega), by (dsimp only; omega), by (dsimp only; omega), by (dsimp only; omega), by (dsimp only; omega), by (dsimp only; omega), hz.2.2.2⟩
          exact AllReady.nil
        exact AllReady.nil
      refine AllReady.cons rfl (fun K hK => ?_) ?_
      · go_simp
        refine hK _ _ ?_; clear hK K
        refine wpAny_ready (rs := [4, 8]) (by kernel_rfl) (by simp) ?_
        refine AllReady.cons rfl (fun K hK => ?_) ?_
        · go_simp
          refine hK _ _ ?_; clear hK K
          refine wpAny_ready (rs := [8]) (by kernel_rfl) (by simp) ?_
          refine AllReady.cons rfl (fun K hK => ?_) ?_
          · go_simp
            refine hK _ _ ?_; clear hK K
            refine wpAny_done (by kernel_rfl) ?_ _
            have hz := zc3 (w.alloc (.cells s.cells 27)) (w.heap.size + 1) (by simp) 3 3 2 (l.length + 1)
            exact ⟨rfl, (w.heap.size + 1 + 1, w.heap.size + 1, w.heap.size + 1 + 1 + 1), by simp only, hz.2.1, hz.1, hz.2.2.1, by (dsimp only; omega), by (dsimp only; omega), by (dsimp only; omega), by (dsimp only; omega), by (dsimp only; omega), by (dsimp only; omega), hz.2.2.2⟩
          exact AllReady.nil
        refine AllReady.cons rfl (fun K hK => ?_) ?_
        · go_simp
          refine hK _ _ ?_; clear hK K
          refine wpAny_ready (rs := [4]) (by kernel_rfl) (by simp) ?_
          refine AllReady.cons rfl (fun K hK => ?_) ?_
          · go_simp
            refine hK _ _ ?_; clear hK K
            refine wpAny_done (by kernel_rfl) ?_ _
            have hz := zc3 (w.alloc (.cells s.cells 27)) (w.heap.size + 1) (by simp) 3 2 3 (l.length + 1)
            exact ⟨rfl, (w.heap.size + 1 + 1 + 1, w.heap.size + 1, w.heap.size + 1 + 1), by simp only, hz.2.2.1, hz.1, hz.2.1, by (dsimp only; omega), by (dsimp only; omega), by (dsimp only; omega), by (dsimp only; omega), by (dsimp only; omega), by (dsimp only; omega), hz.2.2.2⟩
          exact AllReady.nil
        exact AllReady.nil
      refine AllReady.cons rfl (fun K hK => ?_) ?_
      · go_simp
        refine hK _ _ ?_; clear hK K
        refine wpAny_ready (rs := [4, 6]) (by kernel_rfl) (by simp) ?_
        refine AllReady.cons rfl (fun K hK => ?_) ?_
        · go_simp
          refine hK _ _ ?_; clear hK K
          refine wpAny_ready (rs := [6]) (by kernel_rfl) (by simp) ?_
          refine AllReady.cons rfl (fun K hK => ?_) ?_
          · go_simp
            refine hK _ _ ?_; clear hK K
            refine wpAny_done (by kernel_rfl) ?_ _
            have hz := zc3 (w.alloc (.cells s.cells 27)) (w.heap.size + 1) (by simp) 2 3 3 (l.length + 1)
            exact ⟨rfl, (w.heap.size + 1 + 1, w.heap.size + 1 + 1 + 1, w.heap.size + 1), by simp only, hz.2.1, hz.2.2.1, hz.1, by (dsimp only; omega), by (dsimp only; omega), by (dsimp only; omega), by (dsimp only; omega), by (dsimp only; omega), by (dsimp only; omega), hz.2.2.2⟩
          exact AllReady.nil
        refine AllReady.cons rfl (fun K hK => ?_) ?_
        · go_simp
          refine hK _ _ ?_; clear hK K
          refine wpAny_ready (rs := [4]) (by kernel_rfl) (by simp) ?_
          refine AllReady.cons rfl (fun K hK => ?_) ?_
          · go_simp
            refine hK _ _ ?_; clear hK K
            refine wpAny_done (by kernel_rfl) ?_ _
            have hz := zc3 (w.alloc (.cells s.cells 27)) (w.heap.size + 1) (by simp) 2 3 3 (l.length + 1)
            exact ⟨rfl, (w.heap.size + 1 + 1 + 1, w.heap.size + 1 + 1, w.heap.size + 1), by simp only, hz.2.2.1, hz.2.1, hz.1, by (dsimp only; omega), by (dsimp only; omega), by (dsimp only; omega), by (dsimp only; omega), by (dsimp only; omega), by (dsimp only; omega), hz.2.2.2⟩
          exact AllReady.nil
        exact AllReady.nil
      exact AllReady.nil
    refine AllReady.cons rfl (fun K hK => ?_) ?_
    · go_simp
      refine hK _ _ ?_; clear hK K
      refine wpAny_ready (rs := [1, 6, 8]) (by kernel_rfl) (by simp) ?_
      refine AllReady.cons rfl (fun K hK => ?_) ?_
      · rw [if_pos (by rfl)]; with_reducible refine wp_load_at 27 _ rfl _ _ rfl s.cells.toList _ (hst.below (B := w.heap.size + 1) (by repeat (first | exact Below.refl _ _ | refine Below.drew ?_ | refine Below.alloc ?_ (by simp <;> omega) _)) (by omega)) Try.underlying27 rfl (by kernel_rfl) ?_
        refine hK (Act.put _ (some 15) (.agg s.cells)) _ ?_; clear hK K; simp only [Act.put, List.setIfInBounds_toArray, List.set_cons_succ, List.set_cons_zero]
        refine wpAny_ready (rs := [6, 8]) (by kernel_rfl) (by simp) ?_
        refine AllReady.cons rfl (fun K hK => ?_) ?_
        · go_simp
          refine hK _ _ ?_; clear hK K
          refine wpAny_ready (rs := [8]) (by kernel_rfl) (by simp) ?_
          refine AllReady.cons rfl (fun K hK => ?_) ?_
          · go_simp
            refine hK _ _ ?_; clear hK K
            refine wpAny_done (by kernel_rfl) ?_ _
            have hz := zc3 (w.alloc (.cells s.cells 27)) (w.heap.size + 1) (by simp) 3 3 2 (l.length + 1)
            exact ⟨rfl, (w.heap.size + 1, w.heap.size + 1 + 1, w.heap.size + 1 + 1 + 1), by simp only, hz.1, hz.2.1, hz.2.2.1, by (dsimp only; omega), by (dsimp only; omega), by (dsimp only; omega), by (dsimp only; omega), by (dsimp only; omega), by (dsimp only; omega), hz.2.2.2⟩
          exact AllReady.nil
        refine AllReady.cons rfl (fun K hK => ?_) ?_
        · go_simp
          refine hK _ _ ?_; clear hK K
          refine wpAny_ready (rs := [6]) (by kernel_rfl) (by simp) ?_
          refine AllReady.cons rfl (fun K hK => ?_) ?_
          · go_simp
            refine hK _ _ ?_; clear hK K
            refine wpAny_done (by kernel_rfl) ?_ _
            have hz := zc3 (w.alloc (.cells s.cells 27)) (w.heap.size + 1) (by simp) 3 2 3 (l.length + 1)
            exact ⟨rfl, (w.heap.size + 1, w.heap.size + 1 + 1 + 1, w.heap.size + 1 + 1), by simp only, hz.1, hz.2.2.1, hz.2.1, by (dsimp only; omega), by (dsimp only; omega), by (dsimp only; omega), by (dsimp only; omega), by (dsimp only; omega), by (dsimp only; omega), hz.2.2.2⟩
          exact AllReady.nil
        exact AllReady.nil
      refine AllReady.cons rfl (fun K hK => ?_) ?_
      · go_simp
        refine hK _ _ ?_; clear hK K
        refine wpAny_ready (rs := [1, 8]) (by kernel_rfl) (by simp) ?_
        refine AllReady.cons rfl (fun K hK => ?_) ?_
        · rw [if_pos (by rfl)]; with_reducible refine wp_load_at 27 _ rfl _ _ rfl s.cells.toList _ (hst.below (B := w.heap.size + 1) (by repeat (first | exact Below.refl _ _ | refine Below.drew ?_ | refine Below.alloc ?_ (by simp <;> omega) _)) (by omega)) Try.underlying27 rfl (by kernel_rfl) ?_
          refine hK (Act.put _ (some 15) (.agg s.cells)) _ ?_; clear hK K; simp only [Act.put, List.setIfInBounds_toArray, List.set_cons_succ, List.set_cons_zero]
          refine wpAny_ready (rs := [8]) (by kernel_rfl) (by simp) ?_
          refine AllReady.cons rfl (fun K hK => ?_) ?_
          · go_simp
            refine hK _ _ ?_; clear hK K
            refine wpAny_done (by kernel_rfl) ?_ _
            have hz := zc3 (w.alloc (.cells s.cells 27)) (w.heap.size + 1) (by simp) 3 3 2 (l.length + 1)
            exact ⟨rfl, (w.heap.size + 1, w.heap.size + 1 + 1, w.heap.size + 1 + 1 + 1), by simp only, hz.1, hz.2.1, hz.2.2.1, by (dsimp only; omega), by (dsimp only; omega), by (dsimp only; omega), by (dsimp only; omega), by (dsimp only; omega), by (dsimp only; omega), hz.2.2.2⟩
          exact AllReady.nil
        refine AllReady.cons rfl (fun K hK => ?_) ?_
        · go_simp
          refine hK _ _ ?_; clear hK K
          refine wpAny_ready (rs := [1]) (by kernel_rfl) (by simp) ?_
          refine AllReady.cons rfl (fun K hK => ?_) ?_
          · rw [if_pos (by rfl)]; with_reducible refine wp_load_at 27 _ rfl _ _ rfl s.cells.toList _ (hst.below (B := w.heap.size + 1) (by repeat (first | exact Below.refl _ _ | refine Below.drew ?_ | refine Below.alloc ?_ (by simp <;> omega) _)) (by omega)) Try.underlying27 rfl (by kernel_rfl) ?_
            refine hK (Act.put _ (some 15) (.agg s.cells)) _ ?_; clear hK K; simp only [Act.put, List.setIfInBounds_toArray, List.set_cons_succ, List.set_cons_zero]
            refine wpAny_done (by kernel_rfl) ?_ _
            have hz := zc3 (w.alloc (.cells s.cells 27)) (w.heap.size + 1) (by simp) 3 3 2 (l.length + 1)
            exact ⟨rfl, (w.heap.size + 1, w.heap.size + 1 + 1, w.heap.size + 1 + 1 + 1), by simp only, hz.1, hz.2.1, hz.2.2.1, by (dsimp only; omega), by (dsimp only; omega), by (dsimp only; omega), by (dsimp only; omega), by (dsimp only; omega), by (dsimp only; omega), hz.2.2.2⟩
          exact AllReady.nil
        exact AllReady.nil
      refine AllReady.cons rfl (fun K hK => ?_) ?_
      · go_simp
        refine hK _ _ ?_; clear hK K
        refine wpAny_ready (rs := [1, 6]) (by kernel_rfl) (by simp) ?_
        refine AllReady.cons rfl (fun K hK => ?_) ?_
        · rw [if_pos (by rfl)]; with_reducible refine wp_load_at 27 _ rfl _ _ rfl s.cells.toList _ (hst.below (B := w.heap.size + 1) (by repeat (first | exact Below.refl _ _ | refine Below.drew ?_ | refine Below.alloc ?_ (by simp <;> omega) _)) (by omega)) Try.underlying27 rfl (by kernel_rfl) ?_
          refine hK (Act.put _ (some 15) (.agg s.cells)) _ ?_; clear hK K; simp only [Act.put, List.setIfInBounds_toArray, List.set_cons_succ, List.set_cons_zero]
          refine wpAny_ready (rs := [6]) (by kernel_rfl) (by simp) ?_
          refine AllReady.cons rfl (fun K hK => ?_) ?_
          · go_simp
            refine hK _ _ ?_; clear hK K
            refine wpAny_done (by kernel_rfl) ?_ _
            have hz := zc3 (w.alloc (.cells s.cells 27)) (w.heap.size + 1) (by simp) 3 2 3 (l.length + 1)
            exact ⟨rfl, (w.heap.size + 1, w.heap.size + 1 + 1 + 1, w.heap.size + 1 + 1), by simp only, hz.1, hz.2.2.1, hz.2.1, by (dsimp only; omega), by (dsimp only; omega), by (dsimp only; omega), by (dsimp only; omega), by (dsimp only; omega), by (dsimp only; omega), hz.2.2.2⟩
          exact AllReady.nil
        refine AllReady.cons rfl (fun K hK => ?_) ?_
        · go_simp
          refine hK _ _ ?_; clear hK K
          refine wpAny_ready (rs := [1]) (by kernel_rfl) (by simp) ?_
          refine AllReady.cons rfl (fun K hK => ?_) ?_
          · rw [if_pos (by rfl)]; with_reducible refine wp_load_at 27 _ rfl _ _ rfl s.cells.toList _ (hst.below (B := w.heap.size + 1) (by repeat (first | exact Below.refl _ _ | refine Below.drew ?_ | refine Below.alloc ?_ (by simp <;> omega) _)) (by omega)) Try.underlying27 rfl (by kernel_rfl) ?_
            refine hK (Act.put _ (some 15) (.agg s.cells)) _ ?_; clear hK K; simp only [Act.put, List.setIfInBounds_toArray, List.set_cons_succ, List.set_cons_zero]
            refine wpAny_done (by kernel_rfl) ?_ _
            have hz := zc3 (w.alloc (.cells s.cells 27)) (w.heap.size + 1) (by simp) 3 2 3 (l.length + 1)
            exact ⟨rfl, (w.heap.size + 1, w.heap.size + 1 + 1 + 1, w.heap.size + 1 + 1), by simp only, hz.1, hz.2.2.1, hz.2.1, by (dsimp only; omega), by (dsimp only; omega), by (dsimp only; omega), by (dsimp only; omega), by (dsimp only; omega), by (dsimp only; omega), hz.2.2.2⟩
          exact AllReady.nil
        exact AllReady.nil
      exact AllReady.nil
    refine AllReady.cons rfl (fun K hK => ?_) ?_
    · go_simp
      refine hK _ _ ?_; clear hK K
      refine wpAny_ready (rs := [1, 4, 8]) (by kernel_rfl) (by simp) ?_
      refine AllReady.cons rfl (fun K hK => ?_) ?_
      · rw [if_pos (by rfl)]; with_reducible refine wp_load_at 27 _ rfl _ _ rfl s.cells.toList _ (hst.below (B := w.heap.size + 1) (by repeat (first | exact Below.refl _ _ | refine Below.drew ?_ | refine Below.alloc ?_ (by simp <;> omega) _)) (by omega)) Try.underlying27 rfl (by kernel_rfl) ?_
        refine hK (Act.put _ (some 15) (.agg s.cells)) _ ?_; clear hK K; simp only [Act.put, List.setIfInBounds_toArray, List.set_cons_succ, List.set_cons_zero]
        refine wpAny_ready (rs := [4, 8]) (by kernel_rfl) (by simp) ?_
        refine AllReady.cons rfl (fun K hK => ?_) ?_
        · go_simp
          refine hK _ _ ?_; clear hK K
          refine wpAny_ready (rs := [8]) (by kernel_rfl) (by simp) ?_
          refine AllReady.cons rfl (fun K hK => ?_) ?_
          · go_simp
            refine hK _ _ ?_; clear hK K
            refine wpAny_done (by kernel_rfl) ?_ _
            have hz := zc3 (w.alloc (.cells s.cells 27)) (w.heap.size + 1) (by simp) 3 3 2 (l.length + 1)
            exact ⟨rfl, (w.heap.size + 1 + 1, w.heap.size + 1, w.heap.size + 1 + 1 + 1), by simp only, hz.2.1, hz.1, hz.2.2.1, by (dsimp only; omega), by (dsimp only; omega), by (dsimp only; omega), by (dsimp only; omega), by (dsimp only; omega), by (dsimp only; omega), hz.2.2.2⟩
          exact AllReady.nil
        refine AllReady.cons rfl (fun K hK => ?_) ?_
        · go_simp
          refine hK _ _ ?_; clear hK K
          refine wpAny_ready (rs := [4]) (by kernel_rfl) (by simp) ?_
          refine AllReady.cons rfl (fun K hK => ?_) ?_
          · go_simp
            refine hK _ _ ?_; clear hK K
            refine wpAny_done (by kernel_rfl) ?_ _
            have hz := zc3 (w.alloc (.cells s.cells 27)) (w.heap.size + 1) (by simp) 3 2 3 (l.length + 1)
            exact ⟨rfl, (w.heap.size + 1 + 1 + 1, w.heap.size + 1, w.heap.size + 1 + 1), by simp only, hz.2.2.1, hz.1, hz.2.1, by (dsimp only; omega), by (dsimp only; omega), by (dsimp only; omega), by (dsimp only; omega), by (dsimp only; omega), by (dsimp only; omega), hz.2.2.2⟩
          exact AllReady.nil
        exact AllReady.nil
      refine AllReady.cons rfl (fun K hK => ?_) ?_
      · go_simp
        refine hK _ _ ?_; clear hK K
        refine wpAny_ready (rs := [1, 8]) (by kernel_rfl) (by simp) ?_
        refine AllReady.cons rfl (fun K hK => ?_) ?_
        · rw [if_pos (by rfl)]; with_reducible refine wp_load_at 27 _ rfl _ _ rfl s.cells.toList _ (hst.below (B := w.heap.size + 1) (by repeat (first | exact Below.refl _ _ | refine Below.drew ?_ | refine Below.alloc ?_ (by simp <;> omega) _)) (by omega)) Try.underlying27 rfl (by kernel_rfl) ?_
          refine hK (Act.put _ (some 15) (.agg s.cells)) _ ?_; clear hK K; simp only [Act.put, List.setIfInBounds_toArray, List.set_cons_succ, List.set_cons_zero]
          refine wpAny_ready (rs := [8]) (by kernel_rfl) (by simp) ?_
          refine AllReady.cons rfl (fun K hK => ?_) ?_
          · go_simp
            refine hK _ _ ?_; clear hK K
            refine wpAny_done (by kernel_rfl) ?_ _
            have hz := zc3 (w.alloc (.cells s.cells 27)) (w.heap.size + 1) (by simp) 3 3 2 (l.length + 1)
            exact ⟨rfl, (w.heap.size + 1 + 1, w.heap.size + 1, w.heap.size + 1 + 1 + 1), by simp only, hz.2.1, hz.1, hz.2.2.1, by (dsimp only; omega), by (dsimp only; omega), by (dsimp only; omega), by (dsimp only; omega), by (dsimp only; omega), by (dsimp only; omega), hz.2.2.2⟩
          exact AllReady.nil
        refine AllReady.cons rfl (fun K hK => ?_) ?_
        · go_simp
          refine hK _ _ ?_; clear hK K
          refine wpAny_ready (rs := [1]) (by kernel_rfl) (by simp) ?_
          refine AllReady.cons rfl (fun K hK => ?_) ?_
          · rw [if_pos (by rfl)]; with_reducible refine wp_load_at 27 _ rfl _ _ rfl s.cells.toList _ (hst.below (B := w.heap.size + 1) (by repeat (first | exact Below.refl _ _ | refine Below.drew ?_ | refine Below.alloc ?_ (by simp <;> omega) _)) (by omega)) Try.underlying27 rfl (by kernel_rfl) ?_
            refine hK (Act.put _ (some 15) (.agg s.cells)) _ ?_; clear hK K; simp only [Act.put, List.setIfInBounds_toArray, List.set_cons_succ, List.set_cons_zero]
            refine wpAny_done (by kernel_rfl) ?_ _
            have hz := zc3 (w.alloc (.cells s.cells 27)) (w.heap.size + 1) (by simp) 3 3 2 (l.length + 1)
            exact ⟨rfl, (w.heap.size + 1 + 1, w.heap.size + 1, w.heap.size + 1 + 1 + 1), by simp only, hz.2.1, hz.1, hz.2.2.1, by (dsimp only; omega), by (dsimp only; omega), by (dsimp only; omega), by (dsimp only; omega), by (dsimp only; omega), by (dsimp only; omega), hz.2.2.2⟩
          exact AllReady.nil
        exact AllReady.nil
      refine AllReady.cons rfl (fun K hK => ?_) ?_
      · go_simp
        refine hK _ _ ?_; clear hK K
        refine wpAny_ready (rs := [1, 4]) (by kernel_rfl) (by simp) ?_
        refine AllReady.cons rfl (fun K hK => ?_) ?_
        · rw [if_pos (by rfl)]; with_reducible refine wp_load_at 27 _ rfl _ _ rfl s.cells.toList _ (hst.below (B := w.heap.size + 1) (by repeat (first | exact Below.refl _ _ | refine Below.drew ?_ | refine Below.alloc ?_ (by simp <;> omega) _)) (by omega)) Try.underlying27 rfl (by kernel_rfl) ?_
          refine hK (Act.put _ (some 15) (.agg s.cells)) _ ?_; clear hK K; simp only [Act.put, List.setIfInBounds_toArray, List.set_cons_succ, List.set_cons_zero]
          refine wpAny_ready (rs := [4]) (by kernel_rfl) (by simp) ?_
          refine AllReady.cons rfl (fun K hK => ?_) ?_
          · go_simp
            refine hK _ _ ?_; clear hK K
            refine wpAny_done (by kernel_rfl) ?_ _
            have hz := zc3 (w.alloc (.cells s.cells 27)) (w.heap.size + 1) (by simp) 3 2 3 (l.length + 1)
            exact ⟨rfl, (w.heap.size + 1 + 1 + 1, w.heap.size + 1, w.heap.size + 1 + 1), by simp only, hz.2.2.1, hz.1, hz.2.1, by (dsimp only; omega), by (dsimp only; omega), by (dsimp only; omega), by (dsimp only; omega), by (dsimp only; omega), by (dsimp only; omega), hz.2.2.2⟩
          exact AllReady.nil
        refine AllReady.cons rfl (fun K hK => ?_) ?_
        · go_simp
          refine hK _ _ ?_; clear hK K
          refine wpAny_ready (rs := [1]) (by kernel_rfl) (by simp) ?_
          refine AllReady.cons rfl (fun K hK => ?_) ?_
          · rw [if_pos (by rfl)]; with_reducible refine wp_load_at 27 _ rfl _ _ rfl s.cells.toList _ (hst.below (B := w.heap.size + 1) (by repeat (first | exact Below.refl _ _ | refine Below.drew ?_ | refine Below.alloc ?_ (by simp <;> omega) _)) (by omega)) Try.underlying27 rfl (by kernel_rfl) ?_
            refine hK (Act.put _ (some 15) (.agg s.cells)) _ ?_; clear hK K; simp only [Act.put, List.setIfInBounds_toArray, List.set_cons_succ, List.set_cons_zero]
            refine wpAny_done (by kernel_rfl) ?_ _
            have hz := zc3 (w.alloc (.cells s.cells 27)) (w.heap.size + 1) (by simp) 3 2 3 (l.length + 1)
            exact ⟨rfl, (w.heap.size + 1 + 1 + 1, w.heap.size + 1, w.heap.size + 1 + 1), by simp only, hz.2.2.1, hz.1, hz.2.1, by (dsimp only; omega), by (dsimp only; omega), by (dsimp only; omega), by (dsimp only; omega), by (dsimp only; omega), by (dsimp only; omega), hz.2.2.2⟩
          exact AllReady.nil
        exact AllReady.nil
      exact AllReady.nil
    refine AllReady.cons rfl (fun K hK => ?_) ?_
    · go_simp
      refine hK _ _ ?_; clear hK K
      refine wpAny_ready (rs := [1, 4, 6]) (by kernel_rfl) (by simp) ?_
      refine AllReady.cons rfl (fun K hK => ?_) ?_
      · rw [if_pos (by rfl)]; with_reducible refine wp_load_at 27 _ rfl _ _ rfl s.cells.toList _ (hst.below (B := w.heap.size + 1) (by repeat (first | exact Below.refl _ _ | refine Below.drew ?_ | refine Below.alloc ?_ (by simp <;> omega) _)) (by omega)) Try.underlying27 rfl (by kernel_rfl) ?_
        refine hK (Act.put _ (some 15) (.agg s.cells)) _ ?_; clear hK K; simp only [Act.put, List.setIfInBounds_toArray, List.set_cons_succ, List.set_cons_zero]
        refine wpAny_ready (rs := [4, 6]) (by kernel_rfl) (by simp) ?_
        refine AllReady.cons rfl (fun K hK => ?_) ?_
        · go_simp
          refine hK _ _ ?_; clear hK K
          refine wpAny_ready (rs := [6]) (by kernel_rfl) (by simp) ?_
          refine AllReady.cons rfl (fun K hK => ?_) ?_
          · go_simp
            refine hK _ _ ?_; clear hK K
            refine wpAny_done (by kernel_rfl) ?_ _
            have hz := zc3 (w.alloc (.cells s.cells 27)) (w.heap.size + 1) (by simp) 2 3 3 (l.length + 1)
            exact ⟨rfl, (w.heap.size + 1 + 1, w.heap.size + 1 + 1 + 1, w.heap.size + 1), by simp only, hz.2.1, hz.2.2.1, hz.1, by (dsimp only; omega), by (dsimp only; omega), by (dsimp only; omega), by (dsimp only; omega), by (dsimp only; omega), by (dsimp only; omega), hz.2.2.2⟩
          exact AllReady.nil
        refine AllReady.cons rfl (fun K hK => ?_) ?_
        · go_simp
          refine hK _ _ ?_; clear hK K
          refine wpAny_ready (rs := [4]) (by kernel_rfl) (by simp) ?_
          refine AllReady.cons rfl (fun K hK => ?_) ?_
          · go_simp
            refine hK _ _ ?_; clear hK K
            refine wpAny_done (by kernel_rfl) ?_ _
            have hz := zc3 (w.alloc (.cells s.cells 27)) (w.heap.size + 1) (by simp) 2 3 3 (l.length + 1)
            exact ⟨rfl, (w.heap.size + 1 + 1 + 1, w.heap.size + 1 + 1, w.heap.size + 1), by simp only, hz.2.2.1, hz.2.1, hz.1, by (dsimp only; omega), by (dsimp only; omega), by (dsimp only; omega), by (dsimp only; omega), by (dsimp only; omega), by (dsimp only; omega), hz.2.2.2⟩
          exact AllReady.nil
        exact AllReady.nil
      refine AllReady.cons rfl (fun K hK => ?_) ?_
      · go_simp
        refine hK _ _ ?_; clear hK K
        refine wpAny_ready (rs := [1, 6]) (by kernel_rfl) (by simp) ?_
        refine AllReady.cons rfl (fun K hK => ?_) ?_
        · rw [if_pos (by rfl)]; with_reducible refine wp_load_at 27 _ rfl _ _ rfl s.cells.toList _ (hst.below (B := w.heap.size + 1) (by repeat (first | exact Below.refl _ _ | refine Below.drew ?_ | refine Below.alloc ?_ (by simp <;> omega) _)) (by omega)) Try.underlying27 rfl (by kernel_rfl) ?_
          refine hK (Act.put _ (some 15) (.agg s.cells)) _ ?_; clear hK K; simp only [Act.put, List.setIfInBounds_toArray, List.set_cons_succ, List.set_cons_zero]
          refine wpAny_ready (rs := [6]) (by kernel_rfl) (by simp) ?_
          refine AllReady.cons rfl (fun K hK => ?_) ?_
          · go_simp
            refine hK _ _ ?_; clear hK K
            refine wpAny_done (by kernel_rfl) ?_ _
            have hz := zc3 (w.alloc (.cells s.cells 27)) (w.heap.size + 1) (by simp) 2 3 3 (l.length + 1)
            exact ⟨rfl, (w.heap.size + 1 + 1, w.heap.size + 1 + 1 + 1, w.heap.size + 1), by simp only, hz.2.1, hz.2.2.1, hz.1, by (dsimp only; omega), by (dsimp only; omega), by (dsimp only; omega), by (dsimp only; omega), by (dsimp only; omega), by (dsimp only; omega), hz.2.2.2⟩
          exact AllReady.nil
        refine AllReady.cons rfl (fun K hK => ?_) ?_
        · go_simp
          refine hK _ _ ?_; clear hK K
          refine wpAny_ready (rs := [1]) (by kernel_rfl) (by simp) ?_
          refine AllReady.cons rfl (fun K hK => ?_) ?_
          · rw [if_pos (by rfl)]; with_reducible refine wp_load_at 27 _ rfl _ _ rfl s.cells.toList _ (hst.below (B := w.heap.size + 1) (by repeat (first | exact Below.refl _ _ | refine Below.drew ?_ | refine Below.alloc ?_ (by simp <;> omega) _)) (by omega)) Try.underlying27 rfl (by kernel_rfl) ?_
            refine hK (Act.put _ (some 15) (.agg s.cells)) _ ?_; clear hK K; simp only [Act.put, List.setIfInBounds_toArray, List.set_cons_succ, List.set_cons_zero]
            refine wpAny_done (by kernel_rfl) ?_ _
            have hz := zc3 (w.alloc (.cells s.cells 27)) (w.heap.size + 1) (by simp) 2 3 3 (l.length + 1)
            exact ⟨rfl, (w.heap.size + 1 + 1, w.heap.size + 1 + 1 + 1, w.heap.size + 1), by simp only, hz.2.1, hz.2.2.1, hz.1, by (dsimp only; omega), by (dsimp only; omega), by (dsimp only; omega), by (dsimp only; omega), by (dsimp only; omega), by (dsimp only; omega), hz.2.2.2⟩
          exact AllReady.nil
        exact AllReady.nil
      refine AllReady.cons rfl (fun K hK => ?_) ?_
      · go_simp
        refine hK _ _ ?_; clear hK K
        refine wpAny_ready (rs := [1, 4]) (by kernel_rfl) (by simp) ?_
        refine AllReady.cons rfl (fun K hK => ?_) ?_
        · rw [if_pos (by rfl)]; with_reducible refine wp_load_at 27 _ rfl _ _ rfl s.cells.toList _ (hst.below (B := w.heap.size + 1) (by repeat (first | exact Below.refl _ _ | refine Below.drew ?_ | refine Below.alloc ?_ (by simp <;> omega) _)) (by omega)) Try.underlying27 rfl (by kernel_rfl) ?_
          refine hK (Act.put _ (some 15) (.agg s.cells)) _ ?_; clear hK K; simp only [Act.put, List.setIfInBounds_toArray, List.set_cons_succ, List.set_cons_zero]
          refine wpAny_ready (rs := [4]) (by kernel_rfl) (by simp) ?_
          refine AllReady.cons rfl (fun K hK => ?_) ?_
          · go_simp
            refine hK _ _ ?_; clear hK K
            refine wpAny_done (by kernel_rfl) ?_ _
            have hz := zc3 (w.alloc (.cells s.cells 27)) (w.heap.size + 1) (by simp) 2 3 3 (l.length + 1)
            exact ⟨rfl, (w.heap.size + 1 + 1 + 1, w.heap.size + 1 + 1, w.heap.size + 1), by simp only, hz.2.2.1, hz.2.1, hz.1, by (dsimp only; omega), by (dsimp only; omega), by (dsimp only; omega), by (dsimp only; omega), by (dsimp only; omega), by (dsimp only; omega), hz.2.2.2⟩
          exact AllReady.nil
        refine AllReady.cons rfl (fun K hK => ?_) ?_
        · go_simp
          refine hK _ _ ?_; clear hK K
          refine wpAny_ready (rs := [1]) (by kernel_rfl) (by simp) ?_
          refine AllReady.cons rfl (fun K hK => ?_) ?_
          · rw [if_pos (by rfl)]; with_reducible refine wp_load_at 27 _ rfl _ _ rfl s.cells.toList _ (hst.below (B := w.heap.size + 1) (by repeat (first | exact Below.refl _ _ | refine Below.drew ?_ | refine Below.alloc ?_ (by simp <;> omega) _)) (by omega)) Try.underlying27 rfl (by kernel_rfl) ?_
            refine hK (Act.put _ (some 15) (.agg s.cells)) _ ?_; clear hK K; simp only [Act.put, List.setIfInBounds_toArray, List.set_cons_succ, List.set_cons_zero]
            refine wpAny_done (by kernel_rfl) ?_ _
            have hz := zc3 (w.alloc (.cells s.cells 27)) (w.heap.size + 1) (by simp) 2 3 3 (l.length + 1)
            exact ⟨rfl, (w.heap.size + 1 + 1 + 1, w.heap.size + 1 + 1, w.heap.size + 1), by simp only, hz.2.2.1, hz.2.1, hz.1, by (dsimp only; omega), by (dsimp only; omega), by (dsimp only; omega), by (dsimp only; omega), by (dsimp only; omega), by (dsimp only; omega), hz.2.2.2⟩
          exact AllReady.nil
        exact AllReady.nil
      exact AllReady.nil
    exact AllReady.nil
    -- END ORDERS
  · rintro ⟨A, E, C⟩ wx ⟨hA, hE, hC, lA, lE, lC, hAE, hAC, hEC, hB⟩
    simp only [List.drop_succ_cons, List.drop_zero, Act.put, List.setIfInBounds_toArray, List.set_cons_succ, List.set_cons_zero]
    have hlA := hA.lt
    have hlE := hE.lt
    have hlC := hC.lt
    have hB0 : Below w.heap.size w wx := (below_alloc w (.cells s.cells 27)).trans (hB.mono (by simp))
    clear hB hm4 hm5 hst
    go_wp2_with fail
    go_loopw [27] (fun s27 wr => ∃ i : Nat, i ≤ l.length ∧ s27 = .int .i64 i ∧ wr.heap[wx.heap.size]? = some (.cells (lineRow wx.heap.size A E C ga gc l.length s first none none) 108 (0, 0)) ∧
      IntBlk wr A 3 (sumL l (l.length + 1) i) ∧ IntBlk wr E 3 (List.replicate (l.length + 1) 0) ∧ IntBlk wr C 2 (List.replicate (l.length + 1) 0) ∧ Below w.heap.size w wr) (fun s27 _ => l.length - (intOf s27).toNat)
    case atStart =>
      refine ⟨0, Nat.zero_le _, rfl, heap_alloc_new _ _, ?_, ?_, ?_, hB0.alloc hB0.size _⟩
      · rw [sumL_zero _ _ (by omega)]; unfold IntBlk at *; rw [Lib.alloc_old _ _ _ hlA]; exact hA
      · unfold IntBlk at *; rw [Lib.alloc_old _ _ _ hlE]; exact hE
      · unfold IntBlk at *; rw [Lib.alloc_old _ _ _ hlC]; exact hC
    case round =>
      obtain ⟨i, hi, rfl, hL, hAr, hEr, hCr, hBr⟩ := hrel
      clear hA hE hC hB0
      generalize wx.heap.size = B at *
      have hLlt : B < wr.heap.size := (Array.getElem?_eq_some_iff.1 hL).1
      have hAlt := hAr.lt
      by_cases hlt : i < l.length
      · obtain ⟨b, off, rfl, hbw, hc⟩ := hr.at (by intro e; simp [e] at hlt)
        have hb2 : b < wr.heap.size := Nat.lt_of_lt_of_le hbw hBr.size
        obtain ⟨g0, g1, g2, g3, g4, g5⟩ := Gap.at (w := wr) (b := b) (o := off + i * 6) (g := l[i]) ((hc i hlt).below hBr hbw)
        have hbd := valid_bd (hv _ (List.getElem_mem hlt))
        have hps := psum_bd l hv i hi
        have hps1 := psum_succ l i hlt
        have c20 : wr.cell? ⟨B, 20, none⟩ = some (.slice (some ⟨A, 0, none⟩) (l.length + 1) (l.length + 1)) := by simp [World.cell?, hL, lineRow]
        have ca := hAr.cell i (by rw [sumL_len _ _ _ (by omega)]; omega)
        rw [sumL_at _ _ _ (by omega)] at ca
        have ca1 := hAr.cell (i + 1) (by rw [sumL_len _ _ _ (by omega)]; omega)
        have fa1 : wr.frozen? ⟨A, i + 1, none⟩ = false := Lib.frozen_of_heap hAr _
        obtain ⟨w1, w2, w3, w4, -⟩ := hbd
        obtain ⟨p1, p2⟩ := hps
        have p3 : psum l i ≤ 131072 * 65536 := by omega
        have i0 : (0 : Int) ≤ (i : Int) := by omega
        have i1 : (i : Int) < (l.length : Int) := by omega
        have i2 : (i : Int) + 1 < (l.length : Int) + 1 := by omega
        have HP := Lib.hid hps1
        have HL := Lib.hid hL
        have HA := Lib.hid hAr
        have HE := Lib.hid hEr
        have HC := Lib.hid hCr
        clear hps1 hL hAr hEr hCr hc hr p2
        generalize (sumL l (l.length + 1) i)[i + 1]'_ = old at *
        generalize psum l i = ps at *
        generalize l[i] = g at *
        go_wp2_with fail
        refine wp_region_tail (C := fun w' => ∃ n, w' = (wr.alloc (.cells #[.int .i64 g.w, .int .i64 g.b, .bool g.must, .bool g.may, .int .i64 g.cost, .int .i64 g.ind] 71)).drewN n) 20 (by kernel_rfl) (by kernel_rfl) ⟨1, rfl⟩ ?_
        simp only [List.take_succ_cons, List.take_zero, List.drop_succ_cons, List.drop_zero]
        repeat (go_big_quiet_step (fail))
        refine wpQuiet_nil ?_
        rintro w' ⟨nq, rfl⟩
        go_wp2_with fail
        go_roundw
        case rel =>
          refine ⟨i + 1, by omega, by go_num, ?_, ?_, ?_, ?_, ?_⟩
          · rw [Below.heap_setCell _ _ _ _ (by dsimp only; omega)]
            show (wr.alloc _).heap[B]? = _
            rw [Lib.alloc_old _ _ _ hLlt]; exact HL.out
          · have := ((HA.out.alloc (.cells #[.int .i64 g.w, .int .i64 g.b, .bool g.must, .bool g.may, .int .i64 g.cost, .int .i64 g.ind] 71)).drewN nq).set (i + 1) (ps + g.b + g.w) (by rw [sumL_len _ _ _ (by omega)]; omega)
            rw [← HP.out, sumL_set _ _ _ (by omega)] at this
            rw [← HP.out]
            exact this
          · exact ((HE.out.alloc _).drewN nq).other _ (by dsimp only; exact hAE) _
          · exact ((HC.out.alloc _).drewN nq).other _ (by dsimp only; exact hAC) _
          · exact ((hBr.alloc hBr.size _).trans (Ytblooekephkojaa.below_drewN _ _ nq)).setCell (by dsimp only; omega) _
        case measure => simp [intOf]; omega
      · obtain rfl : i = l.length := by omega
        clear hr hv
        have fL : wr.frozen? ⟨B, 23, none⟩ = false := Lib.frozen_of_heap hL _
        have c23 : wr.cell? ⟨B, 23, none⟩ = some (.pointer none) := by simp [World.cell?, hL, lineRow]
        have hlc := hCr.lt
        have hle := hEr.lt
        go_wp2_with fail
        refine (Ls.newLeast (l.length + 1) wr (by omega) (by omega)).mono ?_
        rintro e w1 ⟨FF, FV, FT, k1, rfl, k1a, k1b, hF1, fb1, fb2, fb3, fn1, fn2, fn3, hB1⟩
        have hL1 := heap_below hB1 hL hLlt
        have hA1 := hAr.below hB1 hAlt
        have hE1 := hEr.below hB1 hle
        have hC1 := hCr.below hB1 hlc
        have hsz1 := hB1.size
        have hFl := hF1.lt
        have d23 : w1.cell? ⟨B, 23, none⟩ = some (.pointer none) := by simp [World.cell?, hL1, lineRow]
        have fL1 : w1.frozen? ⟨B, 23, none⟩ = false := Lib.frozen_of_heap hL1 _
        have hL2 := heap_setCell_same w1 B 23 _ 108 (.pointer (some ⟨FF, 0, none⟩)) hL1
        have hA2 := hA1.other ⟨B, 23, none⟩ (by dsimp only; omega) (.pointer (some ⟨FF, 0, none⟩))
        have hE2 := hE1.other ⟨B, 23, none⟩ (by dsimp only; omega) (.pointer (some ⟨FF, 0, none⟩))
        have hC2 := hC1.other ⟨B, 23, none⟩ (by dsimp only; omega) (.pointer (some ⟨FF, 0, none⟩))
        have hF2 := hF1.other ⟨B, 23, none⟩ (by dsimp only; omega) (by dsimp only; omega) (by dsimp only; omega) (.pointer (some ⟨FF, 0, none⟩))
        have hB2 := (hBr.trans (hB1.mono hBr.size)).setCell (p := ⟨B, 23, none⟩) (by dsimp only; omega) (.pointer (some ⟨FF, 0, none⟩))
        clear hL hAr hEr hCr c23 fL hL1 hA1 hE1 hC1 hF1 hBr hB1
        go_wp2_with fail
        generalize hW2 : w1.setCell ⟨B, 23, none⟩ (.pointer (some ⟨FF, 0, none⟩)) = W2 at *
        have hsz2 : W2.heap.size = w1.heap.size := by rw [← hW2]; simp
        clear hW2
        refine (Ls.newLeast (l.length + 1) W2 (by omega) (by omega)).mono ?_
        rintro e w3 ⟨GF, GV, GT, k2, rfl, k2a, k2b, hG3, gb1, gb2, gb3, gn1, gn2, gn3, hB3⟩
        obtain rfl := pow_one k1a k1b k2a k2b
        have hL3 := heap_below hB3 hL2 (by omega)
        have hA3 := hA2.below hB3 (by omega)
        have hE3 := hE2.below hB3 (by omega)
        have hC3 := hC2.below hB3 (by omega)
        have hF3 := hF2.below hB3 (by omega) (by omega) (by omega)
        have hB4 := hB2.trans (hB3.mono hB2.size)
        have hsz3 := hB3.size
        have hGl := hG3.lt
        have d24 : w3.cell? ⟨B, 24, none⟩ = some (.pointer none) := by simp [World.cell?, hL3, lineRow]
        have fL3 : w3.frozen? ⟨B, 24, none⟩ = false := Lib.frozen_of_heap hL3 _
        have hL5 := heap_setCell_same w3 B 24 _ 108 (.pointer (some ⟨GF, 0, none⟩)) hL3
        have hA5 := hA3.other ⟨B, 24, none⟩ (by dsimp only; omega) (.pointer (some ⟨GF, 0, none⟩))
        have hE5 := hE3.other ⟨B, 24, none⟩ (by dsimp only; omega) (.pointer (some ⟨GF, 0, none⟩))
        have hC5 := hC3.other ⟨B, 24, none⟩ (by dsimp only; omega) (.pointer (some ⟨GF, 0, none⟩))
        have hF5 := hF3.other ⟨B, 24, none⟩ (by dsimp only; omega) (by dsimp only; omega) (by dsimp only; omega) (.pointer (some ⟨GF, 0, none⟩))
        have hG5 := hG3.other ⟨B, 24, none⟩ (by dsimp only; omega) (by dsimp only; omega) (by dsimp only; omega) (.pointer (some ⟨GF, 0, none⟩))
        have hB5 := hB4.setCell (p := ⟨B, 24, none⟩) (by dsimp only; omega) (.pointer (some ⟨GF, 0, none⟩))
        clear hL2 hA2 hE2 hC2 hF2 hB2 hL3 hA3 hE3 hC3 hF3 hG3 hB4 hB3
        go_wp2_with fail
        go_ret
        rw [sumL_all] at hA5
        refine ⟨⟨B, A, E, C, FF, FV, FT, GF, GV, GT, ga, gc⟩, k1, rfl, rfl, rfl, ?_, ?_, k1a, k1b, ⟨hL5, hA5, hE5, hC5, hF5, hG5⟩, hB5⟩
        · simp only [Ln.blocks, List.nodup_cons, List.mem_cons, List.not_mem_nil, or_false, not_or, List.nodup_nil, and_true]
          refine ⟨⟨?_, ?_, ?_, ?_, ?_, ?_, ?_, ?_, ?_⟩, ⟨?_, ?_, ?_, ?_, ?_, ?_, ?_, ?_⟩, ⟨?_, ?_, ?_, ?_, ?_, ?_, ?_⟩, ⟨?_, ?_, ?_, ?_, ?_, ?_⟩, ⟨?_, ?_, ?_, ?_, ?_⟩, ⟨?_, ?_, ?_, ?_⟩, ⟨?_, ?_, ?_⟩, ⟨?_, ?_⟩, ?_, ?_⟩ <;> first | assumption | omega | simp
        · intro b hb
          simp only [Ln.blocks, List.mem_cons, List.not_mem_nil, or_false] at hb
          rcases hb with rfl | rfl | rfl | rfl | rfl | rfl | rfl | rfl | rfl | rfl <;> omega
end Go.Proofs.Ytblooekephkojaa

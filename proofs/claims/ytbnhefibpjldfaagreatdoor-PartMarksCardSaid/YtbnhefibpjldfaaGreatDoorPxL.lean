/- slices.Collect of ranges. -/
import Derived.Test.YtbnhefibpjldfaaGreatDoorPxI
import Derived.Laws.MakeOwn
import Derived.Test.YtbnhefibpjldfaaGreatDoorPwZ
import Derived.Test.YtbnhefibpjldfaaGreatDoorPwV
namespace Go.Proofs.YtbnhefibpjldfaaGreatDoor
open Go.RowKit Go.BigFrame Go.Shelf
set_option linter.unusedVariables false
attribute [local go_sem] Oper.semAt_some

def rgC (p : Nat × Nat) : List Value := [.int .i64 p.1, .int .i64 p.2]
theorem info45 : (Tryz.prog.info? 45).map (fun i => (i.zero, i.size, i.bytes)) = some (some (.agg #[.int .i64 0, .int .i64 0]), 2, 16) := by kernel_rfl
theorem rgs_len (mem : Nat → Bool) : ∀ (k : Nat) (o : Option Nat) (i : Nat), (rgs mem o i k).length ≤ k + 1
  | 0, none, _ => by simp [rgs]
  | 0, some _, _ => by simp [rgs]
  | k + 1, none, i => by
    simp only [rgs]
    split
    · have := rgs_len mem k (some i) (i + 1); omega
    · have := rgs_len mem k none (i + 1); omega
  | k + 1, some f, i => by
    simp only [rgs]
    split
    · have := rgs_len mem k (some f) (i + 1); omega
    · have := rgs_len mem k none (i + 1); simp; omega
theorem two_cells (w : World) (p q : Value) (ty : TypeId) : ∀ j u, [p, q][j]? = some u → (w.alloc (.cells #[p, q] ty)).cell? ((⟨w.heap.size, 0, none⟩ : Addr).add j) = some u := by
  intro j u h
  match j with
  | 0 => simp at h; subst h; simp [Addr.add]
  | 1 => simp at h; subst h; simp [Addr.add]
  | k + 2 => simp at h
/-- What the collector keeps. -/
def RcI (w : World) (pre : List (Nat × Nat)) (W : World) : Prop :=
  ∃ v, W.heap[w.heap.size]? = some (.cells #[v] 22 (0, 0)) ∧ W.ownsRow w.heap.size 45 2 v pre.length (pre.flatMap rgC) ∧ Below w.heap.size w W ∧ w.heap.size < W.heap.size
def RgPost (l : List (Nat × Nat)) (w : World) (e : Ending) (w' : World) : Prop :=
  ∃ v, e = .returned v ∧ w'.ownsRow w.heap.size 45 2 v l.length (l.flatMap rgC) ∧ Below w.heap.size w w'
set_option maxRecDepth 100000 in
set_option maxHeartbeats 8000000 in
theorem Sp.append (B1 B2 B bb n : Nat) (mem : Nat → Bool) (w : World) (hM : SpM B1 B2 B bb n mem w) (hn : n ≤ 100000000) :
    Calls Tryz.prog 94 #[.slice none 0 0, .func (.func 95) #[] #[.pointer (some ⟨B1, 0, none⟩), .pointer (some ⟨B2, 0, none⟩)]] w (RgPost (rgs mem none 0 n) w) := by
  obtain ⟨W0, hW0⟩ : ∃ W0, W0 = w.alloc (.cells #[.slice none 0 0] 22) := ⟨_, rfl⟩
  have hs0 : W0.heap.size = w.heap.size + 1 := by rw [hW0]; simp
  have hb0 : Below w.heap.size w W0 := by rw [hW0]; exact below_alloc _ _
  have e0 : W0.heap[w.heap.size]? = some (.cells #[.slice none 0 0] 22 (0, 0)) := by rw [hW0]; exact heap_alloc_new _ _
  have hI0 : RcI w [] W0 := ⟨_, e0, World.ownsRow_nil _ _ _ _, hb0, by omega⟩
  have hseq := Sp.seq 4 B1 B2 B bb n mem W0 (hM.kt (KT.of_below hb0)) (by omega)
  have hpl := rgs_len mem n none 0
  obtain ⟨R, hR⟩ : ∃ R, rgs mem none 0 n = R := ⟨_, rfl⟩
  rw [hR] at hseq hpl ⊢
  obtain ⟨i0, hi, hz0, hz1, hz2⟩ := info_parts info45
  have HI := Lib.hid hi
  have HZ0 := Lib.hid hz0
  have HZ1 := Lib.hid hz1
  have HZ2 := Lib.hid hz2
  have HPL := Lib.hid hpl
  have HSEQ := Lib.hid hseq
  have HS0 := Lib.hid hs0
  have HI0 := Lib.hid hI0
  have HW0 := Lib.hid hW0
  clear hi hz0 hz1 hz2 hW0 hs0 hb0 e0 hseq hI0 hM hpl hR
  refine (callsIn_wide (n := 5)).1 ?_
  refine callsIn_of_wp_marks Tryz.func94 rfl trivial ?_ rfl
  simp only [Tryz.ntmps94, List.size_toArray, List.length_cons, List.length_nil, Nat.reduceAdd, Nat.reduceSub, Array.replicate_succ, Array.replicate_zero, List.push_toArray, List.append_toArray, List.nil_append, List.cons_append]
  gi_wp2_with (fail)
  rw [← HW0.out]
  refine wpIn_rangeFunc_asg rfl (by omega) (gf := 95) (lb := #[.pointer (some ⟨B1, 0, none⟩), .pointer (some ⟨B2, 0, none⟩)]) rfl trivial (enters_of Tryz.func95 (by kernel_rfl) rfl)
    HSEQ.out (fun k hk => hk.elim) (fun h k => h.trans k) (fun W l o o' hl hW ho _ => KT.putObj hW ho) (Below.refl _ _) (fun _ => rfl)
    (RcI w) (fun _ _ _ => False)
    (fun t A B ⟨v, h1, h2, h3, h4⟩ hm => by
      have hs0 := HS0.out
      have hm' : Mod (fun k => W0.heap.size ≤ k ∧ nc A k) A B := hm.mono (fun k _ hk => hk.elim (fun h => h.elim) id)
      exact ⟨v, hm'.keep h1 (fun hk => by have := hk.1; omega), own_nc h2 hm', h3.trans (hm'.below (by have := h3.size; omega) (fun k hk => by have := hk.1; omega)), Nat.lt_of_lt_of_le h4 hm.size⟩)
    (fun c t A B h _ => h)
    HI0.out
    (fun (p : Nat × Nat) a' W => ∃ b, W.heap[b]? = some (.cells #[.int .i64 p.1, .int .i64 p.2] 45 (0, 0)) ∧
      a' = { tmps := #[.slice none 0 0, .func (.func 95) #[] #[.pointer (some ⟨B1, 0, none⟩), .pointer (some ⟨B2, 0, none⟩)], .pointer (some ⟨w.heap.size, 0, none⟩), undef, .slice none 0 0, .pointer (some ⟨b, 0, none⟩), .func (.func 95) #[] #[.pointer (some ⟨B1, 0, none⟩), .pointer (some ⟨B2, 0, none⟩)], rgV p, undef, undef, undef, undef, undef], defers := [] })
    (fun h => KT.of_below h)
    (fun p a' W l o o' hl ho ⟨b, hb, ha⟩ => ⟨b, by
      rw [World.putObj_heap_other (fun e => by
        subst e
        rw [hl] at hb
        cases hb
        cases ho)]
      exact hb, ha⟩)
    ?assign ?body ?done ?stop
  case assign =>
    intro l z W K hK
    gi_wp2
    exact hK _ _ (below_alloc W _) ⟨W.heap.size, heap_alloc_new _ _, rfl⟩
  case body =>
    rintro l pre x a' W ⟨v, h1, h2, h3, h4⟩ ⟨r, hr⟩ ⟨b, hb, rfl⟩
    have hpl : pre.length ≤ n + 1 := by
      have q := HPL.out
      rw [hr] at q
      simp at q
      omega
    obtain ⟨xa, xb⟩ := x
    simp only at hb
    have u0 : W.cell? ⟨b, 0, none⟩ = some (.int .i64 xa) := by simp [World.cell?, hb]
    have u1 : W.cell? ⟨b, 1, none⟩ = some (.int .i64 xb) := by simp [World.cell?, hb]
    have c1 : W.cell? ⟨w.heap.size, 0, none⟩ = some v := by simp [World.cell?, h1]
    obtain ⟨a0, cap0, rfl⟩ := row_shape h2
    have H1 := Lib.hid h1
    have H2 := Lib.hid h2
    have H3 := Lib.hid h3
    clear h1 h2 h3 hr hb
    gi_wp2_with (gi_at_builtin; refine wpListIn_append_own _ rfl _ _ 22 rfl w.heap.size 45 i0 (.agg #[.int .i64 0, .int .i64 0]) 2 16 Tryz.underlying22 HI.out HZ0.out HZ1.out HZ2.out rfl (by decide) _ _ _ rfl (H2.out.alloc _) ⟨W.heap.size, 0, none⟩ 1 1 [.int .i64 xa, .int .i64 xb] rfl rfl (two_cells _ _ _ 45) (fun u hu => by simp at hu; rcases hu with rfl | rfl <;> rfl) (by unfold maxLen; omega) (by omega) (by have := H3.out.size; simp; omega) ?_; intro v' W1 hown' hgrow _; have hd1 := lb_amid H1.out (by decide) H2.out hgrow; have HPU := Lib.hid (lb_push H1.out (by decide) H2.out hgrow hown'); obtain ⟨a', cap', hv'⟩ := row_shape hown'; subst hv'; have d1 : W1.cell? ⟨w.heap.size, 0, none⟩ = some (.slice a0 pre.length cap0) := (by simp [World.cell?, hd1]); have g1 : W1.frozen? ⟨w.heap.size, 0, none⟩ = false := Lib.frozen_of_heap hd1 0; clear hown' hgrow hd1)
    refine ⟨HPU.out.kf _, HPU.out.kt _ rfl rfl, _, HPU.out.box, ?_, H3.out.trans (HPU.out.bel _ (Nat.le_refl _) (Nat.le_refl _)), Nat.lt_of_lt_of_le h4 (HPU.out.kf 0).size⟩
    have := HPU.out.row
    rw [List.flatMap_append, List.length_append]
    simpa [rgC] using this
  case done =>
    rintro Dd zs W hD rfl ⟨v, h1, h2, h3, h4⟩ hK
    have c1 : W.cell? ⟨w.heap.size, 0, none⟩ = some v := by simp [World.cell?, h1]
    obtain ⟨a, cap, rfl⟩ := row_shape h2
    have H2 := Lib.hid h2
    have H3 := Lib.hid h3
    have HK := Lib.hid hK
    clear h1 h2 h3 h4 hK
    gi_wp2_with (fail)
    refine ⟨by simp, .inl ⟨_, _, rfl, run_takeDeferred HK.out, ?_⟩⟩
    exact ⟨.slice a zs.length cap, by simp [results, Tryz.results94, go_sem], _, rfl, own_put H2.out HK.out rfl, H3.out.trans (below_put (by have := HS0.out; omega) HK.out)⟩
  case stop =>
    rintro Dd c pre W hD _ h _
    exact h.elim
theorem Sp.collect (B1 B2 B bb n : Nat) (mem : Nat → Bool) (w : World) (hM : SpM B1 B2 B bb n mem w) (hn : n ≤ 100000000) :
    Calls Tryz.prog 68 #[.func (.func 95) #[] #[.pointer (some ⟨B1, 0, none⟩), .pointer (some ⟨B2, 0, none⟩)]] w (RgPost (rgs mem none 0 n) w) := by
  have H := Lib.hid (Sp.append B1 B2 B bb n mem w hM hn)
  clear hM
  go_enter Tryz.func68, Tryz.ntmps68
  go_wp2_with fail
  refine H.out.mono ?_
  rintro e w2 ⟨v, rfl, h2, h3⟩
  obtain ⟨a, cap, rfl⟩ := row_shape h2
  have H2 := Lib.hid h2
  have H3 := Lib.hid h3
  clear h2 h3
  go_wp2_with fail
  go_ret
  exact ⟨_, rfl, H2.out, H3.out⟩
end Go.Proofs.YtbnhefibpjldfaaGreatDoor

/- PxK -/
namespace Go.Proofs.YtbnhefibpjldfaaGreatDoor
open Go.RowKit Go.BigFrame Go.Shelf
set_option linter.unusedVariables false

def zb (n : Nat) : Array Value := ((List.replicate n false).map Value.bool).toArray
theorem zb_made (n : Nat) : madeCells (Value.bool false).cells (n * 1) = zb n := by
  apply Array.ext
  · simp [zb, madeCells]
  · intro i h1 h2
    simp only [madeCells, zb, Array.getElem_map, Array.getElem_range, List.map_replicate, List.getElem_toArray, List.getElem_replicate]
    show (#[Value.bool false] : Array Value)[i % 1]! = _
    rw [Nat.mod_one]; rfl
theorem zb_size (n : Nat) : (zb n).size = n := by simp [zb]
theorem zb_at {n i : Nat} (h : i < n) : (zb n)[i]? = some (.bool false) := by simp [zb, h]
theorem infoBool4 : (Tryz.prog.info? 4).map (fun i => (i.zero, i.size, i.bytes)) = some (some (.bool false), 1, 1) := by kernel_rfl
theorem make_bools (n : Nat) (hn : n ≤ 1000000) (w : World) : (Instr.makeSlice 38 (.int .i64 n) (.int .i64 n)).run Tryz.prog w = .ok (.slice (some ⟨w.heap.size, 0, none⟩) n n) (w.alloc (.cells (zb n) 4)) := by
  obtain ⟨i0, hi, hz0, hz1, hz2⟩ := info_parts infoBool4
  have := run_make (P := Tryz.prog) (w := w) 38 4 i0 (.bool false) Tryz.underlying38 hi hz0 .i64 .i64 n n (by omega) (by omega) (by rw [hz2]; omega) (by omega)
  rw [this, hz1, Int.toNat_natCast, zb_made]
def intF (n : Nat) : List Value := [.int .i64 n]
theorem contains_take {l : List Nat} {i : Nat} (h : i < l.length) (x : Nat) : (l.take (i + 1)).contains x = ((l.take i).contains x || x == l[i]) := by
  have e : l.take (i + 1) = l.take i ++ [l[i]] := by rw [List.take_add_one, List.getElem?_eq_getElem h]; rfl
  rw [e]
  generalize l.take i = A
  generalize l[i] = y
  rw [Bool.eq_iff_iff]
  simp
/-- A block that holds Bools, by a function. -/
def BlkB (w : World) (b n : Nat) (mem : Nat → Bool) : Prop := ∃ cs, w.heap[b]? = some (.cells cs 4 (0, 0)) ∧ cs.size = n ∧ ∀ i, i < n → cs[i]? = some (.bool (mem i))
theorem BlkB.set {w : World} {b n : Nat} {mem mem' : Nat → Bool} (h : BlkB w b n mem) (i : Nat) (x : Bool) (hi : i < n) (hm : ∀ j, mem' j = if j = i then x else mem j) : BlkB (w.setCell ⟨b, i, none⟩ (.bool x)) b n mem' := by
  obtain ⟨cs, h1, h2, h3⟩ := h
  refine ⟨_, heap_setCell_same w b i _ 4 _ h1, by simp [h2], fun j hj => ?_⟩
  rw [hm, Array.getElem?_setIfInBounds]
  by_cases e : i = j
  · subst e; simp [h2, hi]
  · rw [if_neg e, if_neg (fun q => e q.symm)]
    exact h3 j hj
set_option maxRecDepth 100000 in
set_option maxHeartbeats 8000000 in
theorem Sp.of (a : Option Addr) (c : Nat) (l : List Nat) (w : World) (hr : RowAt 1 intF w a l) (hl : l.length ≤ 1000000000) (hx : ∀ x ∈ l, x < 65536) :
    Calls Tryz.prog 32 #[.slice a l.length c] w fun e w' => ∃ v, e = .returned (.tuple #[v, .int .i64 0]) ∧ w'.ownsRow w.heap.size 45 2 v (rgs (fun i => l.contains i) none 0 65536).length ((rgs (fun i => l.contains i) none 0 65536).flatMap rgC) ∧ Below w.heap.size w w' := by
  obtain ⟨Z, hZ⟩ : ∃ Z, zb 65536 = Z := ⟨_, rfl⟩
  have hmk : ∀ wx, (Instr.makeSlice 38 (.int .i64 65536) (.int .i64 65536)).run Tryz.prog wx = .ok (.slice (some ⟨wx.heap.size, 0, none⟩) 65536 65536) (wx.alloc (.cells Z 4)) := fun wx => by
    rw [← hZ]; exact make_bools 65536 (by omega) wx
  have hz0 : Z.size = 65536 := by rw [← hZ, zb_size]
  have hz1 : ∀ i, i < 65536 → Z[i]? = some (.bool false) := fun i hi => by rw [← hZ, zb_at hi]
  obtain ⟨R, hR⟩ : ∃ R, rgs (fun i => l.contains i) none 0 65536 = R := ⟨_, rfl⟩
  have HR := Lib.hid hR
  rw [hR]
  clear hR
  have HROW := Lib.hid hr
  have HX := Lib.hid hx
  have HZ0 := Lib.hid hz0
  have HZ1 := Lib.hid hz1
  clear hr hx hZ hz0 hz1
  go_enter Tryz.func32, Tryz.ntmps32
  go_wp2_with fail
  go_loopw [10] (fun s10 wr => ∃ (k : Nat), k ≤ l.length ∧ s10 = .int .i64 k ∧ wr.heap[w.heap.size + 1]? = some (.cells #[.slice (some ⟨w.heap.size, 0, none⟩) 65536 65536] 38 (0, 0)) ∧ BlkB wr w.heap.size 65536 (fun i => (l.take k).contains i) ∧ Below w.heap.size w wr) (fun s10 _ => l.length - (intOf s10).toNat)
  case atStart =>
    refine ⟨0, Nat.zero_le _, rfl, ?_, ⟨Z, heap_alloc_old' _ (heap_alloc_new _ _), HZ0.out, fun i hi => by rw [HZ1.out i hi]; simp⟩, (below_alloc _ _).trans ((below_alloc _ _).mono (by simp))⟩
    have := heap_alloc_new (w.alloc (.cells Z 4)) (.cells #[.slice (some ⟨w.heap.size, 0, none⟩) 65536 65536] 38)
    simpa using this
  case round =>
    clear hmk
    obtain ⟨k, hk, rfl, hbx, hblk, hbel⟩ := hrel
    have c4 : wr.cell? ⟨w.heap.size + 1, 0, none⟩ = some (.slice (some ⟨w.heap.size, 0, none⟩) 65536 65536) := by simp [World.cell?, hbx]
    by_cases hlt : k < l.length
    · obtain ⟨gb, go, rfl, hgb, hgc⟩ := HROW.out.at (by intro e; simp [e] at hlt)
      have k0 := (hgc k hlt).below hbel hgb 0 _ rfl
      have hxl := HX.out _ (List.getElem_mem hlt)
      have hct := contains_take hlt
      have hlt' : (k : Int) < l.length := by omega
      generalize l[k] = x at *
      simp only [Nat.add_zero, Nat.mul_one] at k0
      have hx0 : ¬ (x : Int) < 0 := by omega
      have hx1 : (x : Int) < 65536 := by omega
      have hx2 : decide ((x : Int) ≥ 65536) = false := by rw [decide_eq_false_iff_not]; omega
      obtain ⟨cs, hcs, hcn, hcm⟩ := hblk
      have fz : wr.frozen? ⟨w.heap.size, x, none⟩ = false := Lib.frozen_of_heap hcs x
      have cx : wr.cell? ⟨w.heap.size, x, none⟩ = some (.bool ((l.take k).contains x)) := by have := hcm x hxl; simp [World.cell?, hcs, this]
      have HBLK := Lib.hid (show BlkB wr w.heap.size 65536 (fun i => (l.take k).contains i) from ⟨cs, hcs, hcn, hcm⟩)
      have HBEL := Lib.hid hbel
      have HBX := Lib.hid hbx
      have HCT := Lib.hid hct
      clear hbel hbx hcs hcn hcm hgc hct
      go_wp2_with fail
      go_roundw
      case rel =>
        refine ⟨k + 1, by omega, by go_num, (Below.heap_setCell _ _ _ _ (by simp)).trans HBX.out, HBLK.out.set x true hxl (fun j => ?_), HBEL.out.setCell (by simp) _⟩
        rw [HCT.out]
        by_cases e : j = x
        · subst e; simp
        · simp [e]
      case measure => simp [intOf]; omega
    · obtain rfl : k = l.length := by omega
      rw [List.take_length] at hblk
      obtain ⟨cs, hcs, hcn, hcm⟩ := hblk
      have HM := Lib.hid (show SpM (wr.heap.size) (wr.heap.size + 1) (w.heap.size + 1) w.heap.size 65536 (fun i => l.contains i) ((wr.alloc (.cells #[.int .i64 65536] 3)).alloc (.cells #[.func (.func 70) #[] #[.pointer (some ⟨w.heap.size + 1, 0, none⟩)]] 118)) from
        ⟨heap_alloc_old' _ (heap_alloc_new _ _), by have := heap_alloc_new (wr.alloc (.cells #[.int .i64 65536] 3)) (.cells #[.func (.func 70) #[] #[.pointer (some ⟨w.heap.size + 1, 0, none⟩)]] 118); simpa using this,
          heap_alloc_old' _ (heap_alloc_old' _ hbx), cs, heap_alloc_old' _ (heap_alloc_old' _ hcs), hcm⟩)
      have HBEL := Lib.hid hbel
      clear hbel hbx hcs hcn hcm
      go_wp2_with fail
      refine (Sp.ranges 65536 (w.heap.size + 1) _).mono ?_
      rintro e w2 ⟨rfl, rfl⟩
      go_wp2_with fail
      have hcl := Sp.collect _ _ _ _ _ _ _ HM.out (by omega)
      rw [HR.out] at hcl
      refine hcl.mono ?_
      rintro e w3 ⟨v, rfl, h2, h3⟩
      obtain ⟨oa, oc, rfl⟩ := row_shape h2
      have H2 := Lib.hid h2
      have H3 := Lib.hid h3
      clear h2 h3
      go_wp2_with fail
      go_ret2
      have hws := HBEL.out.size
      refine ⟨_, rfl, own_base H2.out (by simp; omega), (HBEL.out.trans (((below_alloc _ _).trans ((below_alloc _ _).mono (by simp))).mono hws)).trans (H3.out.mono (by simp; omega))⟩
end Go.Proofs.YtbnhefibpjldfaaGreatDoor

/- PxL -/
namespace Go.Proofs.YtbnhefibpjldfaaGreatDoor
open Go.RowKit Go.BigFrame Go.Shelf
set_option linter.unusedVariables false

theorem info138 : (Tryz.prog.info? 138).map (fun i => (i.zero, i.size, i.bytes)) = some (some (.agg #[.int .i64 0, .int .i64 0]), 2, 16) := by kernel_rfl
theorem cells2_new (w : World) (p q : Value) (ty : TypeId) : ∀ j u, [p, q][j]? = some u → (w.alloc (.cells #[p, q] ty)).cell? ((⟨w.heap.size, 0, none⟩ : Addr).add j) = some u := by
  intro j u h
  match j with
  | 0 => simp at h; subst h; simp [Addr.add]
  | 1 => simp at h; subst h; simp [Addr.add]
  | k + 2 => simp at h
def lastSpl (s : Bs) : Bool := ((prts s 0).getLast?.map (·.spl)).getD false
theorem lastOf_cons (p : Pt) (r : List Pt) (d : Bool) : (((p :: r).getLast?).map (·.spl)).getD d = ((r.getLast?).map (·.spl)).getD p.spl := by
  rw [List.getLast?_cons]
  cases r.getLast? <;> rfl
theorem splN_pos {s : Bs} {i : Nat} (h : 0 < splN s i) : ptAt s i = ⟨0, i, splN s i, true⟩ := by
  unfold splN at h ⊢
  unfold ptAt
  split at h
  · rename_i hs; simp [hs]
  · omega
theorem splN_zero {s : Bs} {i : Nat} (h : splN s i = 0) : ptAt s i = ⟨(bas s i).1, i, (bas s i).2, false⟩ := by
  unfold splN at h
  unfold ptAt
  split at h
  · omega
  · rename_i hs; simp [hs]
theorem splice_call (s : ByteArray) (i : Nat) (w : World) (n : Nat) (hi : i < s.size) (hs : s.size ≤ 1000000000) (h : splN (dl s) i = n) : Calls Tryz.prog 96 #[.string s, .int .i64 i] w fun e w' => e = .returned (.int .i64 n) ∧ w' = w := h ▸ Rf.spliceF s i w hi hs
def BothPost (s : ByteArray) (w : World) (e : Ending) (w' : World) : Prop :=
  ∃ v u, e = .returned (.tuple #[v, u, .bool (lastSpl (dl s))]) ∧ w'.ownsRow w.heap.size 61 3 v (chars (dl s)).length ((chars (dl s)).flatMap chC) ∧ Below w.heap.size w w'
set_option maxRecDepth 100000 in
set_option maxHeartbeats 8000000 in
theorem Rf.both (s : ByteArray) (w : World) (hs : s.size ≤ 1000000000) : Calls Tryz.prog 72 #[.string s] w (BothPost s w) := by
  obtain ⟨i0, hi, hz0, hz1, hz2⟩ := info_parts info61
  have HI := Lib.hid hi
  have HZ0 := Lib.hid hz0
  have HZ1 := Lib.hid hz1
  have HZ2 := Lib.hid hz2
  obtain ⟨j0, hj, hy0, hy1, hy2⟩ := info_parts info138
  have HJ := Lib.hid hj
  have HY0 := Lib.hid hy0
  have HY1 := Lib.hid hy1
  have HY2 := Lib.hid hy2
  clear hi hz0 hz1 hz2 hj hy0 hy1 hy2
  go_enter Tryz.func72, Tryz.ntmps72
  go_wp2_with fail
  go_loopw [5, 6, 7, 8] (fun s5 s6 s7 s8 wr => ∃ (i : Nat) (acc : List Pt) (la : Bool) (m : Nat) (ms : List Value), i ≤ s.size ∧ s8 = .int .i64 i ∧ s7 = .bool la ∧ chars (dl s) = acc ++ keepP (prts (dl s) i) ∧ lastSpl (dl s) = ((prts (dl s) i).getLast?.map (·.spl)).getD la ∧ Below w.heap.size w wr ∧
      wr.ownsRow w.heap.size 61 3 s5 acc.length (acc.flatMap chC) ∧ wr.ownsRow w.heap.size 138 2 s6 m ms ∧ acc.length ≤ i ∧ m ≤ i) (fun _ _ _ s8 _ => s.size - (intOf s8).toNat)
  case atStart => exact ⟨0, [], false, 0, [], Nat.zero_le _, rfl, rfl, rfl, rfl, Below.refl _ _, World.ownsRow_nil _ _ _ _, World.ownsRow_nil _ _ _ _, Nat.le_refl _, Nat.le_refl _⟩
  case round =>
    obtain ⟨i, acc, la, m, ms, hi, rfl, rfl, hc, hla, hbel, hown, hownm, hal, hml⟩ := hrel
    obtain ⟨oa, oc, rfl⟩ := row_shape hown
    obtain ⟨pa, pc, rfl⟩ := row_shape hownm
    have hws := hbel.size
    by_cases hlt : i < s.size
    · have hlt' : (i : Int) < s.size := by omega
      have hsl : s.size = (dl s).length := size_dl s
      have hpl := pt_le (s := dl s) (i := i) (by omega)
      have hpp := pt_pos (dl s) i
      rw [prts_lt (by omega)] at hc hla
      rw [lastOf_cons] at hla
      obtain ⟨n, hn⟩ : ∃ n, splN (dl s) i = n := ⟨_, rfl⟩
      have HN := Lib.hid hn
      have HBEL := Lib.hid hbel
      have HOWN := Lib.hid hown
      have HOWNM := Lib.hid hownm
      by_cases hn0 : 0 < n
      · have hp := splN_pos (s := dl s) (i := i) (by rw [hn]; exact hn0)
        rw [hn] at hp
        rw [hp] at hc hla hpl hpp
        simp only at hpl
        rw [show keepP (⟨0, i, n, true⟩ :: prts (dl s) (i + n)) = keepP (prts (dl s) (i + n)) from rfl] at hc
        have HC := Lib.hid hc
        have HLA := Lib.hid hla
        have hn0' : (0 : Int) < n := by omega
        have HPL := Lib.hid hpl
        rw [← hsl] at HPL
        have hin : (i : Int) + n ≤ 1000000000 := by have := HPL.out; omega
        clear hc hla hbel hown hownm hn hp hn0 hsl hpl hpp
        go_wp2_with fail
        refine (splice_call s i _ n hlt hs HN.out).mono ?_
        rintro e w2 ⟨rfl, rfl⟩
        go_wp2_with (at_builtin; refine wpList_append_own _ rfl _ _ 119 rfl w.heap.size 138 j0 (.agg #[.int .i64 0, .int .i64 0]) 2 16 Tryz.underlying119 HJ.out HY0.out HY1.out HY2.out rfl (by decide) _ m _ rfl (HOWNM.out.alloc _) ⟨w2.heap.size, 0, none⟩ 1 1 [.int .i64 i, .int .i64 ((i : Int) + n)] rfl rfl (cells2_new _ _ _ 138) (fun u hu => by simp at hu; rcases hu with rfl | rfl <;> rfl) (by unfold maxLen; omega) (by omega) (by simp; omega) ?_; intro v' w1 hown' hgrow _)
        have HOWN2 := Lib.hid (other_row (HOWN.out.alloc _) (HOWNM.out.alloc _) (by decide) hgrow)
        have HOWN' := Lib.hid hown'
        have HBE' := Lib.hid ((HBEL.out.alloc hws _).grown hgrow (by simp; omega) (fun k hk => (row_cells HOWNM.out hk).1))
        clear hown' hgrow
        go_wp2_with fail
        go_roundw
        case rel => exact ⟨i + n, acc, true, m + 1, _, HPL.out, by go_num, rfl, HC.out, HLA.out, HBE'.out, HOWN2.out, HOWN'.out, by omega, by omega⟩
        case measure => simp [intOf]; omega
      · obtain rfl : n = 0 := by omega
        have hp := splN_zero hn
        obtain ⟨o, ho⟩ : ∃ o, tri (dl s) i = o := ⟨_, rfl⟩
        have HO := Lib.hid ho
        cases o with
        | none =>
          rw [bas_none hlt ho] at hp
          rw [hp] at hc hla
          simp only at hc hla
          rw [show keepP (⟨s[i], i, 1, false⟩ :: prts (dl s) (i + 1)) = ⟨s[i], i, 1, false⟩ :: keepP (prts (dl s) (i + 1)) from rfl] at hc
          have HC := Lib.hid hc
          have HLA := Lib.hid hla
          clear hc hla hbel hown hownm hn hp hn0 ho hpl hpp hsl
          go_wp2_with fail
          refine (splice_call s i _ 0 hlt hs HN.out).mono ?_
          rintro e w2 ⟨rfl, rfl⟩
          go_wp2_with fail
          refine (tri_call s i _ none hlt hs HO.out).mono ?_
          rintro e w3 ⟨rfl, rfl⟩
          go_wp2_with (at_builtin; refine wpList_append_own _ rfl _ _ 56 rfl w.heap.size 61 i0 (.agg #[.int .u8 0, .int .i64 0, .int .i64 0]) 3 24 Tryz.underlying56 HI.out HZ0.out HZ1.out HZ2.out rfl (by decide) _ acc.length _ rfl (HOWN.out.alloc _) ⟨w3.heap.size, 0, none⟩ 1 1 [.int .u8 s[i].toNat, .int .i64 i, .int .i64 1] rfl rfl (three_cells _ _ _ _ 61) (fun u hu => by simp at hu; rcases hu with rfl | rfl | rfl <;> rfl) (by unfold maxLen; omega) (by omega) (by simp; omega) ?_; intro v' w1 hown' hgrow _)
          have HOWN2 := Lib.hid (other_row (HOWNM.out.alloc _) (HOWN.out.alloc _) (by decide) hgrow)
          have HOWN' := Lib.hid hown'
          have HBE' := Lib.hid ((HBEL.out.alloc hws _).grown hgrow (by simp; omega) (fun k hk => (row_cells HOWN.out hk).1))
          clear hown' hgrow
          go_wp2_with fail
          go_roundw
          case rel =>
            refine ⟨i + 1, acc ++ [⟨s[i], i, 1, false⟩], false, m, ms, by omega, by go_num, rfl, by rw [HC.out, List.append_assoc]; rfl, HLA.out, HBE'.out, ?_, HOWN2.out, by simp; omega, by omega⟩
            have h := HOWN'.out
            rw [List.flatMap_append, List.length_append]
            simpa [chC] using h
          case measure => simp [intOf]; omega
        | some d =>
          have hti : i + 3 ≤ s.size := by rw [size_dl]; exact (tri_first ho).2
          rw [bas_some ho] at hp
          rw [hp] at hc hla
          simp only at hc hla
          rw [show keepP (⟨d, i, 3, false⟩ :: prts (dl s) (i + 3)) = ⟨d, i, 3, false⟩ :: keepP (prts (dl s) (i + 3)) from rfl] at hc
          have HC := Lib.hid hc
          have HLA := Lib.hid hla
          clear hc hla hbel hown hownm hn hp hn0 ho hpl hpp hsl
          go_wp2_with fail
          refine (splice_call s i _ 0 hlt hs HN.out).mono ?_
          rintro e w2 ⟨rfl, rfl⟩
          go_wp2_with fail
          refine (tri_call s i _ (some d) hlt hs HO.out).mono ?_
          rintro e w3 ⟨rfl, rfl⟩
          go_wp2_with (at_builtin; refine wpList_append_own _ rfl _ _ 56 rfl w.heap.size 61 i0 (.agg #[.int .u8 0, .int .i64 0, .int .i64 0]) 3 24 Tryz.underlying56 HI.out HZ0.out HZ1.out HZ2.out rfl (by decide) _ acc.length _ rfl (HOWN.out.alloc _) ⟨w3.heap.size, 0, none⟩ 1 1 [.int .u8 d.toNat, .int .i64 i, .int .i64 3] rfl rfl (three_cells _ _ _ _ 61) (fun u hu => by simp at hu; rcases hu with rfl | rfl | rfl <;> rfl) (by unfold maxLen; omega) (by omega) (by simp; omega) ?_; intro v' w1 hown' hgrow _)
          have HOWN2 := Lib.hid (other_row (HOWNM.out.alloc _) (HOWN.out.alloc _) (by decide) hgrow)
          have HOWN' := Lib.hid hown'
          have HBE' := Lib.hid ((HBEL.out.alloc hws _).grown hgrow (by simp; omega) (fun k hk => (row_cells HOWN.out hk).1))
          clear hown' hgrow
          go_wp2_with fail
          go_roundw
          case rel =>
            refine ⟨i + 3, acc ++ [⟨d, i, 3, false⟩], false, m, ms, by omega, by go_num, rfl, by rw [HC.out, List.append_assoc]; rfl, HLA.out, HBE'.out, ?_, HOWN2.out, by simp; omega, by omega⟩
            have h := HOWN'.out
            rw [List.flatMap_append, List.length_append]
            simpa [chC] using h
          case measure => simp [intOf]; omega
    · obtain rfl : i = s.size := by omega
      rw [prts_ge (by rw [size_dl]; exact Nat.le_refl _)] at hc hla
      rw [show keepP [] = [] from rfl, List.append_nil] at hc
      have HC := Lib.hid hc
      have HLA := Lib.hid hla
      have HBEL := Lib.hid hbel
      have HOWN := Lib.hid hown
      have hlt' : ¬ (s.size : Int) < s.size := by omega
      clear hc hla hbel hown hownm
      go_wp2_with fail
      refine bodyPost_ret (v := .tuple #[.slice oa acc.length oc, .slice pa m pc, .bool la]) (by simp [results, Tryz.results72, go_sem]) rfl ?_
      refine ⟨_, _, by rw [HLA.out]; rfl, ?_, HBEL.out⟩
      rw [HC.out]
      exact HOWN.out
end Go.Proofs.YtbnhefibpjldfaaGreatDoor

/- scan: Scan of a text that ends well. -/
import Derived.Test.YtlboejdhmggjpaaGreatWwP
set_option linter.all false
namespace Go.Proofs.YtlboejdhmggjpaaGreat.Ww
set_option maxRecDepth 100000
set_option maxHeartbeats 16000000
open Go.Proofs.YtlboejdhmggjpaaGreat
open Go.RowKit Go.BigFrame Go.Shelf
attribute [local go_sem] Oper.semAt_some

theorem flat_get {α : Type} (n : Nat) (f : α → List Value) (hf : ∀ g, (f g).length = n) : ∀ (l : List α) (i j : Nat) (h : i < l.length), j < n → (l.flatMap f)[i * n + j]? = (f l[i])[j]?
 | [], i, j, h, _ => by simp at h
 | g :: l, 0, j, h, hj => by
  rw [List.flatMap_cons, List.getElem?_append_left (by rw [hf]; omega)]; simp
 | g :: l, i + 1, j, h, hj => by
  have ih := flat_get n f hf l i j (by simpa using h) hj
  rw [List.flatMap_cons, List.getElem?_append_right (by rw [hf, Nat.add_mul]; omega), hf, show (i + 1) * n + j - n = i * n + j from by rw [Nat.add_mul]; omega, ih]
  rfl
theorem rowAt_owns {α : Type} {n : Nat} {f : α → List Value} (hf : ∀ g, (f g).length = n) {w : World} {base e m cap : Nat} {a : Option Addr} {l : List α} (h : w.ownsRow base e n (.slice a m cap) m (l.flatMap f)) (hm : m = l.length) :
  (a = none → l = [] ∧ cap = 0) ∧ RowAt n f w a l := by
 subst hm
 rcases h.2 with ⟨hv, hz⟩ | ⟨g, cap', cur, hv, hb, hg, hc, _⟩
 ·simp only [Value.slice.injEq] at hv
  have : l = [] := List.length_eq_zero_iff.1 hz
  exact ⟨fun _ => ⟨this, hv.2.2⟩, .inl this⟩
 ·simp only [Value.slice.injEq] at hv
  obtain ⟨rfl, -, rfl⟩ := hv
  refine ⟨fun e => (by cases e), .inr ⟨g, 0, rfl, (Array.getElem?_eq_some_iff.1 hg).1, fun i hi j u hu => ?_⟩⟩
  have hj : j < n := by rw [← hf l[i]]; exact (List.getElem?_eq_some_iff.1 hu).1
  have hb : i * n + j < l.length * n := by
   have : (i + 1) * n ≤ l.length * n := Nat.mul_le_mul_right _ hi
   rw [Nat.add_mul] at this
   omega
  have := h.cellAt (i * n + j) hb
  rw [Nat.zero_add, this, flat_get n f hf l i j hi hj, hu]
theorem own_on {w w' : World} {B e size n : Nat} {v : Value} {xs : List Value} (h : w.ownsRow B e size v n xs) (hb : Below w.heap.size w w') : w'.ownsRow B e size v n xs :=
 ownsRow_mod h (Mod.of_below (S := fun _ => False) hb) (fun k _ h => h)
theorem CellsAt.get3 {w : World} {b o : Nat} {x y z : Value} (h : CellsAt w b o [x, y, z]) : w.cell? ⟨b, o, none⟩ = some x ∧ w.cell? ⟨b, o + 1, none⟩ = some y ∧ w.cell? ⟨b, o + 2, none⟩ = some z :=
 ⟨h 0 x rfl, h 1 y rfl, h 2 z rfl⟩
theorem res_heaps {W : World} {r T0 T1 : Nat} {a0 b0 : Value} (h0 : W.heap[r]? = some (.cells #[a0] T0 (0, 0))) (h1 : W.heap[r + 1]? = some (.cells #[b0] T1 (0, 0))) (a b : Value) :
  ((W.setCell ⟨r, 0, none⟩ a).setCell ⟨r + 1, 0, none⟩ b).heap[r]? = some (.cells #[a] T0 (0, 0)) ∧ ((W.setCell ⟨r, 0, none⟩ a).setCell ⟨r + 1, 0, none⟩ b).heap[r + 1]? = some (.cells #[b] T1 (0, 0)) ∧ Below r W ((W.setCell ⟨r, 0, none⟩ a).setCell ⟨r + 1, 0, none⟩ b) := by
 have g0 := heap_setCell_same W r 0 _ _ a h0
 have g1 : (W.setCell ⟨r, 0, none⟩ a).heap[r + 1]? = some (.cells #[b0] T1 (0, 0)) := by rw [Below.heap_setCell _ _ _ _ (by simp)]; exact h1
 have g2 := heap_setCell_same _ (r + 1) 0 _ _ b g1
 have g3 : ((W.setCell ⟨r, 0, none⟩ a).setCell ⟨r + 1, 0, none⟩ b).heap[r]? = _ := (Below.heap_setCell _ _ _ _ (by simp)).trans g0
 exact ⟨by simpa using g3, by simpa using g2, ((Below.refl _ _).setCell (p := ⟨r, 0, none⟩) (Nat.le_refl _) _).setCell (p := ⟨r + 1, 0, none⟩) (by simp) _⟩
def Byt (w1 : World) (L : Bs) (v : Value) (bb i : Nat) (wr : World) : Prop :=
 Below w1.heap.size w1 wr ∧ wr.heap[w1.heap.size]? = some (.cells #[v] 133 (0, 0)) ∧ ∃ cs : Array Value, wr.heap[bb]? = some (.cells cs 5 (0, 0)) ∧ cs.size = L.length ∧ ∀ j (h : j < L.length), j < i → cs[j]? = some (.int .u8 L[j].toNat)
theorem madeCells_one (n : Nat) : madeCells (Value.int .u8 0).cells (n * 1) = madeCells #[.int .u8 0] n := by rw [Nat.mul_one]; rfl
theorem Sc.scanOk (s : ByteArray) (w : World) (hs : s.size ≤ 1000000000) (hc : chk (dl s) = 0) (hm : Mx w) : Calls Tryz.prog 42 #[.string s] w (ScPost s w) := by
 have hcl : (chars (dl s)).length ≤ s.size := by rw [size_dl]; exact chars_len _
 have HC := Lib.hid hc
 have HM := Lib.hid hm
 obtain ⟨i0, hi, hz0, hz1, hz2⟩ := info_parts info5
 have hmake := fun (W : World) (n : Nat) (hn : n ≤ 1000000000) => run_make (P := Tryz.prog) W 136 5 i0 (.int .u8 0) Tryz.underlying136 hi hz0 .i64 .i64 n n (by omega) (Int.le_refl _) (by rw [hz2]; omega) (by omega)
 simp only [Int.toNat_natCast, hz1, madeCells_one] at hmake
 have HMK := Lib.hid hmake
 clear hmake hi hz0 hz1 hz2 hc hm
 obtain ⟨Q, hQ⟩ : ∃ Q, chars (dl s) = Q := ⟨_, rfl⟩
 have HQ := Lib.hid hQ
 rw [hQ] at hcl
 clear hQ
 refine (callsIn_wide (n := 5)).1 ?_
 refine callsIn_of_wp_marks Tryz.func42 rfl trivial ?_ rfl
 simp only [Tryz.ntmps42, List.size_toArray, List.length_cons, List.length_nil, Nat.reduceAdd, Nat.reduceSub, Array.replicate_succ, Array.replicate_zero, List.push_toArray, List.append_toArray, List.nil_append, List.cons_append]
 gi_wp2_with (fail)
 refine ⟨trivial, ?_⟩
 refine (callsIn_wide.2 (chars_call s _ hs 0 HC.out)).mono ?_
 rintro e w1 ⟨b1, h1⟩
 rw [if_pos rfl, HQ.out] at h1
 obtain ⟨v, rfl, hown⟩ := h1
 have hb : Below w.heap.size w w1 := ((below_alloc w _).trans ((below_alloc _ _).mono (by simp))).trans (b1.mono (by simp; omega))
 have g0 : w1.heap[w.heap.size]? = some (.cells #[.slice none 0 0] 97 (0, 0)) := by
  rw [b1.block _ (by simp; omega), Below.heap_alloc _ _ _ (by simp)]
  exact heap_alloc_new _ _
 have g1 : w1.heap[w.heap.size + 1]? = some (.cells #[.int .i64 0] 25 (0, 0)) := by
  rw [b1.block _ (by simp)]
  have := heap_alloc_new (w.alloc (.cells #[.slice none 0 0] 97)) (.cells #[.int .i64 0] 25)
  simpa using this
 obtain ⟨a, cap, rfl⟩ := row_shape hown
 have HOWN := Lib.hid (own_base hown (show w.heap.size ≤ _ by simp; omega))
 obtain ⟨hnil, hrow⟩ := rowAt_owns (f := chC) (fun g => rfl) hown rfl
 have HROW := Lib.hid hrow
 have HB := Lib.hid hb
 have G0 := Lib.hid g0
 have G1 := Lib.hid g1
 obtain ⟨W4, hW4⟩ : ∃ W4, W4 = (w1.alloc (.cells #[.slice a Q.length cap] 133)).alloc (.cells (madeCells #[.int .u8 0] Q.length) 5) := ⟨_, rfl⟩
 have hmk := HMK.out (w1.alloc (.cells #[.slice a Q.length cap] 133)) Q.length (by omega)
 have hbyt : Byt w1 (Q.map (·.b)) (.slice a Q.length cap) (w1.heap.size + 1) 0 W4 := by
  rw [hW4]
  refine ⟨(below_alloc _ _).trans ((below_alloc _ _).mono (by simp)), heap_alloc_old' _ (heap_alloc_new _ _), madeCells #[.int .u8 0] Q.length, ?_, by simp [size_madeCells], fun j h hj => by omega⟩
  have := heap_alloc_new (w1.alloc (.cells #[.slice a Q.length cap] 133)) (.cells (madeCells #[.int .u8 0] Q.length) 5)
  simpa using this
 rw [← hW4] at hmk
 have c4 : W4.cell? ⟨w1.heap.size, 0, none⟩ = some (.slice a Q.length cap) := by simp [World.cell?, hbyt.2.1]
 have HBYT := Lib.hid hbyt
 have HW4 := Lib.hid hW4
 clear b1 hown hb g0 g1 hnil hrow hbyt hW4
 gi_wp2_with (fail)
 gi_loopw [28] (fun s28 wr => ∃ i : Nat, i ≤ Q.length ∧ s28 = .int .i64 i ∧ Byt w1 (Q.map (·.b)) (.slice a Q.length cap) (w1.heap.size + 1) i wr) (fun s28 _ => Q.length - (intOf s28).toNat)
 case atStart => exact ⟨0, Nat.zero_le _, rfl, HBYT.out⟩
 case round =>
  clear HBYT c4
  obtain ⟨i, hi, rfl, hbel, hbox, cs, hcs, hsz, hget⟩ := hrel
  rw [List.length_map] at hsz
  by_cases hlt : i < Q.length
  ·have hr := HROW.out.below hbel (Nat.le_refl _) hbel.size
   obtain ⟨gb, go, rfl, hgb, hgc⟩ := hr.at (by intro e; simp [e] at hlt)
   obtain ⟨k0, k1, k2⟩ := CellsAt.get3 (hgc i hlt)
   have u0 : wr.cell? ⟨w1.heap.size + 1, i, none⟩ = some cs[i] := by simp [World.cell?, hcs]
   have f0 : wr.frozen? ⟨w1.heap.size + 1, i, none⟩ = false := Lib.frozen_of_heap hcs i
   have hl1 : w1.heap.size + 1 < wr.heap.size := (Array.getElem?_eq_some_iff.1 hcs).1
   have hl1 : w1.heap.size + 1 < wr.heap.size := (Array.getElem?_eq_some_iff.1 hcs).1
   have hl1 : w1.heap.size + 1 < wr.heap.size := (Array.getElem?_eq_some_iff.1 hcs).1
   have hl1 : w1.heap.size + 1 < wr.heap.size := (Array.getElem?_eq_some_iff.1 hcs).1
   have hl1 : w1.heap.size + 1 < wr.heap.size := (Array.getElem?_eq_some_iff.1 hcs).1
   have hl1 : w1.heap.size + 1 < wr.heap.size := (Array.getElem?_eq_some_iff.1 hcs).1
   have hl1 : w1.heap.size + 1 < wr.heap.size := (Array.getElem?_eq_some_iff.1 hcs).1
   have hl1 : w1.heap.size + 1 < wr.heap.size := (Array.getElem?_eq_some_iff.1 hcs).1
   have hl1 : w1.heap.size + 1 < wr.heap.size := (Array.getElem?_eq_some_iff.1 hcs).1
   have hl1 : w1.heap.size + 1 < wr.heap.size := (Array.getElem?_eq_some_iff.1 hcs).1
   have HBEL := Lib.hid hbel
   have HBOX := Lib.hid hbox
   have HCS := Lib.hid hcs
   have HSZ := Lib.hid hsz
   have HGET := Lib.hid hget
   have hn1 : (i : Int) < Q.length := by omega
   clear hr hgb hgc hbel hbox hcs hget
   generalize hp : Q[i] = p at *
   have HP := Lib.hid hp
   clear hp
   generalize cs[i] = u at *
   clear hsz
   gi_wp2_with (fail)
   go_roundw
   case rel =>
    refine ⟨i + 1, by omega, by go_num, ?_⟩
    have hset := heap_setCell_same wr (w1.heap.size + 1) i _ _ (.int .u8 p.b.toNat) HCS.out
    have hbox2 : (wr.setCell ⟨w1.heap.size + 1, i, none⟩ (.int .u8 p.b.toNat)).heap[w1.heap.size]? = _ := (Below.heap_setCell _ _ _ _ (by simp)).trans HBOX.out
    refine ⟨(HBEL.out.setCell (p := ⟨w1.heap.size + 1, i, none⟩) (by simp) _).trans ((below_alloc _ _).mono (by simp; omega)), heap_alloc_old' _ hbox2, _, heap_alloc_old' _ hset, by simpa using HSZ.out, fun j h hj => ?_⟩
    rw [Array.getElem?_setIfInBounds]
    have hz := HSZ.out
    by_cases hji : i = j
    ·subst hji
     rw [if_pos rfl, if_pos (by omega)]
     rw [← HP.out]; simp
    ·rw [if_neg hji]
     exact HGET.out j h (by omega)
   case measure => simp [intOf]; omega
  ·obtain rfl : i = Q.length := by omega
   have hconv : (convert 136 9 (.slice (some ⟨w1.heap.size + 1, 0, none⟩) Q.length Q.length)).run Tryz.prog wr = .ok (.string (str (Q.map (·.b)))) wr := by
    have h := run_convert_bytes_back (P := Tryz.prog) wr 136 9 5 ⟨w1.heap.size + 1, 0, none⟩ Q.length (Q.map (·.b)) Tryz.underlying136 Tryz.underlying5 Tryz.underlying9 (fun j hj => by
     rw [show (⟨w1.heap.size + 1, 0, none⟩ : Addr).add j = ⟨w1.heap.size + 1, j, none⟩ by simp [Addr.add]; try omega]
     have := hget j hj (by simpa using hj)
     simpa [World.cell?, hcs] using this)
    rwa [List.length_map] at h
   obtain ⟨L, hL⟩ : ∃ L, str (Q.map (·.b)) = L := ⟨_, rfl⟩
   rw [hL] at hconv
   have hLd : dl L = logic (dl s) := by rw [← hL, dl_str, ← HQ.out]; rfl
   have hLs : L.size = Q.length := by rw [← hL, str_size]; simp
   obtain ⟨T, hT⟩ : ∃ T, (tks (dl L) 0 0 false).1 = T := ⟨_, rfl⟩
   obtain ⟨E, hE⟩ : ∃ E, (tks (dl L) 0 0 false).2 = E := ⟨_, rfl⟩
   have htok := toks_all _ (dl L) (dl L) 0 0 false 0 (Nat.le_refl _) rfl (Nat.zero_le _) (Nat.le_refl _) (by simp)
   rw [hT] at htok
   obtain ⟨hSp, hLi, -⟩ := htok
   have hbc : Below w.heap.size w wr := HB.out.trans (hbel.mono HB.out.size)
   have hmx : Mx wr := HM.out.of hbc HM.out.pos
   have hg0 := heap_below hbel G0.out (Array.getElem?_eq_some_iff.1 G0.out).1
   have hg1 := heap_below hbel G1.out (Array.getElem?_eq_some_iff.1 G1.out).1
   have hown := own_on HOWN.out hbel
   have hll := HB.out.size
   have hlr := hbel.size
   have HBC := Lib.hid hbc
   have HBOX := Lib.hid hbox
   have HLD := Lib.hid hLd
   have HLS := Lib.hid hLs
   have HT := Lib.hid hT
   have HE := Lib.hid hE
   have HSP := Lib.hid hSp
   have HLI := Lib.hid hLi
   have HMX := Lib.hid hmx
   have HG0 := Lib.hid hg0
   have HG1 := Lib.hid hg1
   have HOWR := Lib.hid hown
   have hlb := (Array.getElem?_eq_some_iff.1 hbox).1
   clear hbel hbox hcs hsz hget hL hlt hLd hLs hT hE hSp hLi hbc hmx hg0 hg1 hown
   gi_wp2_with (fail)
   refine ⟨trivial, ?_⟩
   refine (callsIn_wide.2 (Sc.items L _)).mono ?_
   rintro e w2 ⟨rfl, rfl⟩
   obtain ⟨W0, hW0⟩ : ∃ W0, W0 = (((wr.alloc (.cells #[.string L] 9)).alloc (.cells #[.slice none 0 0] 97)).alloc (.cells #[.int .i64 0] 3)).alloc (.cells #[.string L] 9) := ⟨_, rfl⟩
   rw [← hW0]
   have hs0 : W0.heap.size = wr.heap.size + 4 := by rw [hW0]; simp
   have hbw : Below wr.heap.size wr W0 := by rw [hW0]; exact ((((Below.refl _ _).alloc (Nat.le_refl _) _).alloc (by simp) _).alloc (by simp; omega) _).alloc (by simp; omega) _
   have e0 : W0.heap[wr.heap.size]? = some (.cells #[.string L] 9 (0, 0)) := by
    rw [hW0]; exact heap_alloc_old' _ (heap_alloc_old' _ (heap_alloc_old' _ (heap_alloc_new _ _)))
   have e1 : W0.heap[wr.heap.size + 1]? = some (.cells #[.slice none 0 0] 97 (0, 0)) := by
    have := heap_alloc_new (wr.alloc (.cells #[.string L] 9)) (.cells #[.slice none 0 0] 97)
    rw [hW0]; exact heap_alloc_old' _ (heap_alloc_old' _ (by simpa using this))
   have e2 : W0.heap[wr.heap.size + 1 + 1]? = some (.cells #[.int .i64 0] 3 (0, 0)) := by
    have := heap_alloc_new ((wr.alloc (.cells #[.string L] 9)).alloc (.cells #[.slice none 0 0] 97)) (.cells #[.int .i64 0] 3)
    rw [hW0]; exact heap_alloc_old' _ (by simpa using this)
   have e3 : W0.heap[wr.heap.size + 1 + 1 + 1]? = some (.cells #[.string L] 9 (0, 0)) := by
    have := heap_alloc_new (((wr.alloc (.cells #[.string L] 9)).alloc (.cells #[.slice none 0 0] 97)).alloc (.cells #[.int .i64 0] 3)) (.cells #[.string L] 9)
    rw [hW0]; simpa using this
   have hwrs : 0 < wr.heap.size := by omega
   have hseq := Sc.seq 4 (wr.heap.size + 1 + 1 + 1) L W0 e3 (by rw [HLS.out]; omega) (HMX.out.of hbw hwrs)
   have hbox0 : W0.heap[w1.heap.size]? = some (.cells #[.slice a Q.length cap] 133 (0, 0)) := heap_below hbw HBOX.out hlb
   have hown0 := own_on HOWR.out hbw
   have hI0 : SnI w W0 T Q (wr.heap.size + 1) (wr.heap.size + 1 + 1) [] W0 :=
    ⟨0, _, Nat.zero_le _, rfl, e1, World.ownsRow_nil _ _ _ _, by rw [show hiAt 0 T 0 = 0 by cases T <;> rfl]; exact e2, KT.refl _ _, heap_below hbw HG0.out (Array.getElem?_eq_some_iff.1 HG0.out).1, heap_below hbw HG1.out (Array.getElem?_eq_some_iff.1 HG1.out).1, HBC.out.trans (hbw.mono HBC.out.size)⟩
   have HSEQ := Lib.hid hseq
   have HS0 := Lib.hid hs0
   have HI0 := Lib.hid hI0
   have HE0 := Lib.hid e0
   have HBX0 := Lib.hid hbox0
   have HOW0 := Lib.hid hown0
   clear hW0 hs0 hbw e0 e1 e2 e3 hseq hbox0 hown0 hI0
   obtain ⟨i2, hi2, hy0, hy1, hy2⟩ := info_parts info145
   have HI := Lib.hid hi2
   have HZ0 := Lib.hid hy0
   have HZ1 := Lib.hid hy1
   have HZ2 := Lib.hid hy2
   clear hi2 hy0 hy1 hy2
   gi_wp2_with (fail)
   refine wpIn_rangeFunc_asg rfl (by omega) (gf := 106) (lb := #[.pointer (some ⟨wr.heap.size + 1 + 1 + 1, 0, none⟩)]) rfl trivial (enters_of Tryz.func106 (by kernel_rfl) rfl)
    HSEQ.out (fun k hk => hk.elim) (fun h k => h.trans k) (fun W l o o' hl hW ho _ => KM.putObj hW ho) (Below.refl _ _) (fun _ => rfl)
    (SnI w W0 T Q (wr.heap.size + 1) (wr.heap.size + 1 + 1)) (SnX w E)
    (fun t A B ⟨n, v, h1, h2, h3, h4, h5, h6, h7, h8, h9⟩ hm => by
     have hs0 := HS0.out
     have hm' : Mod (fun k => W0.heap.size ≤ k ∧ nc A k) A B := hm.mono (fun k _ hk => hk.elim (fun h => h.elim) id)
     exact ⟨n, v, h1, h2, hm'.keep h3 (fun hk => by have := hk.1; omega), own_nc h4 hm', hm'.keep h5 (fun hk => by have := hk.1; omega), h6.trans (KT.of_nc hm'), hm'.keep h7 (fun hk => by have := hk.1; omega), hm'.keep h8 (fun hk => by have := hk.1; omega), h9.trans (hm'.below (by have := h9.size; omega) (fun k hk => by have := hk.1; omega))⟩)
    (fun c t A B ⟨h1, h2, h3, h4, h5⟩ hm => by
     have hs0 := HS0.out
     have hm' : Mod (fun k => W0.heap.size ≤ k ∧ nc A k) A B := hm.mono (fun k _ hk => hk.elim (fun h => h.elim) id)
     exact ⟨h1, h2, hm'.keep h3 (fun hk => by have := hk.1; omega), hm'.keep h4 (fun hk => by have := hk.1; omega), h5.trans (hm'.below (by have := h5.size; omega) (fun k hk => by have := hk.1; omega))⟩)
    HI0.out
    (fun (x : It) a' W => ∃ b, W.heap[b]? = some (.cells #[.int .i64 x.k, .int .i64 x.a, .int .i64 x.b] 143 (0, 0)) ∧
     a' = { tmps := #[.string s, undef, .pointer (some ⟨w.heap.size, 0, none⟩), .pointer (some ⟨w.heap.size + 1, 0, none⟩), .pointer (some ⟨w1.heap.size, 0, none⟩), .int .i64 0, .slice (some ⟨w1.heap.size + 1, 0, none⟩) Q.length Q.length, u7, u8, .pointer (some ⟨wr.heap.size, 0, none⟩), .pointer (some ⟨wr.heap.size + 1, 0, none⟩), .pointer (some ⟨wr.heap.size + 1 + 1, 0, none⟩), .pointer (some ⟨b, 0, none⟩), .int .i64 x.e, undef, .tuple #[.slice a Q.length cap, .int .i64 0], .string s, .tuple #[.slice a Q.length cap, .int .i64 0], .slice a Q.length cap, .int .i64 0, .int .i64 0, .bool false, undef, .slice a Q.length cap, .int .i64 Q.length, .slice (some ⟨w1.heap.size + 1, 0, none⟩) Q.length Q.length, .slice a Q.length cap, .int .i64 Q.length, .int .i64 Q.length, .bool false, u30, u31, u32, u33, u34, u35, u36, u37, u38, .slice (some ⟨w1.heap.size + 1, 0, none⟩) Q.length Q.length, .string L, .string L, .func (.func 106) #[] #[.pointer (some ⟨wr.heap.size + 1 + 1 + 1, 0, none⟩)], itV x.k x.a x.b, .int .i64 x.e, undef, undef, undef, undef, undef, undef, undef, undef, undef, undef, undef, undef, undef, undef, undef, undef, undef, undef, undef, undef, undef, undef, undef, undef, undef, undef, undef, undef, undef, undef, undef, undef, undef, undef, undef, undef, undef, undef, undef], defers := [] })
    (fun h => KM.of_below h)
    (fun p a' W l o o' hl ho ⟨b, hb, ha⟩ => ⟨b, by
     rw [World.putObj_heap_other (fun e => by
      subst e
      rw [hl] at hb
      cases hb
      cases ho)]
     exact hb, ha⟩)
    ?assign ?body ?done ?stop
   case assign =>
    intro l z W K hK
    gi_wp2
    exact hK _ _ (below_alloc W _) ⟨W.heap.size, heap_alloc_new _ _, rfl⟩
   case body =>
    rintro l pre x a' W ⟨n, v, h1, h2, h3, h4, h5, h6, h7, h8, h9⟩ ⟨r, hr⟩ ⟨b, hb, rfl⟩
    obtain ⟨ta, tcap, rfl⟩ := row_shape h4
    have hx := its_at hr (by rw [HT.out]; exact h2) (by rw [HT.out]; exact h1)
    rw [HT.out, HE.out] at hx
    rcases hx with ⟨hnl, rfl⟩ | ⟨rfl, hE0, rfl⟩
    ·have hcko : ∀ p ∈ Q, p.pos + p.len ≤ s.size := by
      intro p hp
      rw [← HQ.out] at hp
      have := ((chars_ok (dl s)).2 p hp).2
      rw [← size_dl] at this
      exact this
     have hTl := lies_len T 0 (Nat.zero_le _) HLI.out
     rw [← size_dl, HLS.out] at hTl
     obtain ⟨t1, t2, t3, t4, t5, t6⟩ := tok_at (l := dl L) T 0 n hnl HSP.out HLI.out
     have htake : T.take (n + 1) = T.take n ++ [T[n]] := List.take_succ_eq_append_getElem hnl
     rw [← size_dl, HLS.out] at t3
     obtain ⟨tt, htt⟩ : ∃ tt, T[n] = tt := ⟨_, rfl⟩
     rw [htt] at t1 t2 t3 t4 t5 t6 htake
     simp only [htt] at hb ⊢
     obtain ⟨k, tx, xa, xh, sp⟩ := tt
     simp only [itOf] at t1 t2 t3 t4 t5 t6 hb ⊢
     obtain ⟨m, rfl⟩ : ∃ m, xh = m + 1 := ⟨xh - 1, by omega⟩
     have hrowW := own_kt HOW0.out h6 rfl
     obtain ⟨-, hrw⟩ := rowAt_owns (f := chC) (fun g => rfl) hrowW rfl
     obtain ⟨gb, go, rfl, hgb, hgc⟩ := hrw.at (by intro e; simp [e] at t3)
     have hxq : xa < Q.length := by omega
     have hmq : m < Q.length := by omega
     have p3 := CellsAt.get3 (hgc xa hxq)
     have q3 := CellsAt.get3 (hgc m hmq)
     have hpl : (place Q ⟨k, tx, xa, m + 1, sp⟩) = ⟨k, tx, Q[xa].pos, Q[m].pos + Q[m].len, sp⟩ := by
      unfold place
      simp [List.getD_eq_getElem?_getD, List.getElem?_eq_getElem hxq, List.getElem?_eq_getElem hmq]
     have hqs := hcko Q[m] (List.getElem_mem hmq)
     obtain ⟨p, hp⟩ : ∃ p, Q[xa] = p := ⟨_, rfl⟩
     obtain ⟨q, hq⟩ : ∃ q, Q[m] = q := ⟨_, rfl⟩
     rw [hp] at p3 hpl
     rw [hq] at q3 hqs hpl
     obtain ⟨-, p1, -⟩ := p3
     obtain ⟨q0, q1, q2⟩ := q3
     obtain ⟨hi0, hh0⟩ : ∃ x, hiAt 0 T n = x := ⟨_, rfl⟩
     rw [hh0] at t1 t6 h5
     have hE0 := h6.2 _ _ _ _ (show Tk4 9 = true from rfl) HE0.out
     have hB0 := h6.2 _ _ _ _ (show Tk4 133 = true from rfl) HBX0.out
     have b0 : W.cell? ⟨b, 0, none⟩ = some (.int .i64 k) := by simp [World.cell?, hb]
     have b1 : W.cell? ⟨b, 1, none⟩ = some (.int .i64 xa) := by simp [World.cell?, hb]
     have b2 : W.cell? ⟨b, 2, none⟩ = some (.int .i64 ((m : Int) + 1)) := by simp [World.cell?, hb]
     have x0 : W.cell? ⟨wr.heap.size + 1, 0, none⟩ = some (.slice ta n tcap) := by simp [World.cell?, h3]
     have x1 : W.cell? ⟨wr.heap.size, 0, none⟩ = some (.string L) := by simp [World.cell?, hE0]
     have x2 : W.cell? ⟨w1.heap.size, 0, none⟩ = some (.slice (some ⟨gb, go, none⟩) Q.length cap) := by simp [World.cell?, hB0]
     have x3 : W.cell? ⟨wr.heap.size + 1 + 1, 0, none⟩ = some (.int .i64 hi0) := by simp [World.cell?, h5]
     have hsp : decide ((hi0 : Int) < (xa : Int)) = sp := by rw [t1]; simp
     have hsp' : decide (hi0 < xa) = sp := t1.symm
     have htxs : str tx = L.extract xa (m + 1) := by rw [t4, ← ext_str]
     have n1 : (xa : Int) < Q.length := by omega
     have n2 : (m : Int) < Q.length := by omega
     have n3 : (xa : Int) ≤ (m : Int) + 1 := by omega
     have n4 : (m : Int) + 1 ≤ L.size := by rw [HLS.out]; omega
     have n5 : (q.pos : Int) + q.len ≤ 1000000000 := by omega
     have H1 := Lib.hid h1
     have H2 := Lib.hid h2
     have H3 := Lib.hid h3
     have H4 := Lib.hid h4
     have H5 := Lib.hid h5
     have H6 := Lib.hid h6
     have H7 := Lib.hid h7
     have H8 := Lib.hid h8
     have H9 := Lib.hid h9
     have HTK := Lib.hid htake
     have HPL := Lib.hid hpl
     have HT5 := Lib.hid t5
     have HTX := Lib.hid htxs
     have HBH := Lib.hid hb
     clear h1 h2 h3 h4 h5 h6 h7 h8 h9 hr hb hrowW hrw hgb hgc hp hq hcko htake hpl t1 t4 t5 hh0 hE0 hB0 htt htxs
     gi_wp2_with (fail)
     have K0 := Lib.hid (fun u : Ext (W.alloc (.cells #[.int .u8 q.b.toNat, .int .i64 q.pos, .int .i64 q.len] 138)) => u.cell (cell_alloc' _ b0))
     have K1 := Lib.hid (fun u : Ext (W.alloc (.cells #[.int .u8 q.b.toNat, .int .i64 q.pos, .int .i64 q.len] 138)) => u.cell (cell_alloc' _ b1))
     have K2 := Lib.hid (fun u : Ext (W.alloc (.cells #[.int .u8 q.b.toNat, .int .i64 q.pos, .int .i64 q.len] 138)) => u.cell (cell_alloc' _ b2))
     have C0 := Lib.hid (fun u : Ext (W.alloc (.cells #[.int .u8 q.b.toNat, .int .i64 q.pos, .int .i64 q.len] 138)) => u.cell (cell_alloc' _ x0))
     have CL := Lib.hid (fun u : Ext (W.alloc (.cells #[.int .u8 q.b.toNat, .int .i64 q.pos, .int .i64 q.len] 138)) => u.cell (cell_alloc' _ x1))
     have CC := Lib.hid (fun u : Ext (W.alloc (.cells #[.int .u8 q.b.toNat, .int .i64 q.pos, .int .i64 q.len] 138)) => u.cell (cell_alloc' _ x2))
     have CH := Lib.hid (fun u : Ext (W.alloc (.cells #[.int .u8 q.b.toNat, .int .i64 q.pos, .int .i64 q.len] 138)) => u.cell (cell_alloc' _ x3))
     have P1 := Lib.hid (fun u : Ext (W.alloc (.cells #[.int .u8 q.b.toNat, .int .i64 q.pos, .int .i64 q.len] 138)) => u.cell (cell_alloc' _ p1))
     have Q1 := Lib.hid (fun u : Ext (W.alloc (.cells #[.int .u8 q.b.toNat, .int .i64 q.pos, .int .i64 q.len] 138)) => u.cell (show (W.alloc (.cells #[.int .u8 q.b.toNat, .int .i64 q.pos, .int .i64 q.len] 138)).cell? ⟨W.heap.size, 1, none⟩ = some (.int .i64 q.pos) by simp))
     have Q2 := Lib.hid (fun u : Ext (W.alloc (.cells #[.int .u8 q.b.toNat, .int .i64 q.pos, .int .i64 q.len] 138)) => u.cell (show (W.alloc (.cells #[.int .u8 q.b.toNat, .int .i64 q.pos, .int .i64 q.len] 138)).cell? ⟨W.heap.size, 2, none⟩ = some (.int .i64 q.len) by simp))
     clear b0 b1 b2 x0 x1 x2 x3 p1 q0 q1 q2
     refine wpIn_region_each_tail 26 (frS [Value.slice ta n tcap, Value.pointer (some ⟨b, 0, none⟩), Value.int .i64 k, Value.string L, Value.pointer (some ⟨b, 1, none⟩), Value.int .i64 xa, Value.pointer (some ⟨b, 2, none⟩), Value.int .i64 ((m : Int) + 1), Value.string (L.extract xa (m + 1)), Value.slice (some ⟨gb, go, none⟩) Q.length cap, Value.pointer (some ⟨b, 1, none⟩), Value.int .i64 xa, Value.pointer (some ⟨gb, go + xa * 3, none⟩), Value.pointer (some ⟨gb, go + xa * 3 + 1, none⟩), Value.int .i64 p.pos, Value.pointer (some ⟨W.heap.size, 1, none⟩), Value.int .i64 q.pos, Value.pointer (some ⟨W.heap.size, 2, none⟩), Value.int .i64 q.len, Value.int .i64 ((q.pos : Int) + q.len), Value.pointer (some ⟨b, 1, none⟩), Value.int .i64 xa, Value.int .i64 hi0, Value.bool sp, Value.agg #[.int .i64 k, .string (L.extract xa (m + 1)), .int .i64 p.pos, .int .i64 ((q.pos : Int) + q.len), .bool sp]] 25 (Obj.cells #[.int .i64 k, .string (L.extract xa (m + 1)), .int .i64 p.pos, .int .i64 ((q.pos : Int) + q.len), .bool sp] 145) (fun g => .slice (some ⟨g, 0, none⟩) 1 1)) (by kernel_rfl) (by kernel_rfl) (by kernel_rfl) (frS_mono _ _ _ _) ?_ ?_
     ·intro i o ho v w5 hb5 hd K hK
      have hi : i < 26 := (List.getElem?_eq_some_iff.1 ho).1
      have HK := Lib.hid hK
      have HB5 := Lib.hid hb5
      clear hK
      have hi26 : i = 0 ∨ i = 1 ∨ i = 2 ∨ i = 3 ∨ i = 4 ∨ i = 5 ∨ i = 6 ∨ i = 7 ∨ i = 8 ∨ i = 9 ∨ i = 10 ∨ i = 11 ∨ i = 12 ∨ i = 13 ∨ i = 14 ∨ i = 15 ∨ i = 16 ∨ i = 17 ∨ i = 18 ∨ i = 19 ∨ i = 20 ∨ i = 21 ∨ i = 22 ∨ i = 23 ∨ i = 24 ∨ i = 25 := by omega
      rcases hi26 with rfl | rfl | rfl | rfl | rfl | rfl | rfl | rfl | rfl | rfl | rfl | rfl | rfl | rfl | rfl | rfl | rfl | rfl | rfl | rfl | rfl | rfl | rfl | rfl | rfl | rfl
      ·-- op 0
       have cf := C0.out ⟨w5, HB5.out⟩
       simp only [Ext.w] at cf
       cases ho
       try clear hd
       simp only [List.take_succ_cons, List.take_zero, putAll, Act.put, List.setIfInBounds_toArray, List.set_cons_succ, List.set_cons_zero, Nat.reduceAdd, Nat.zero_add]
       go_wp2_with fail
       have q := HK.out (Value.slice ta n tcap) w5 rfl (Below.refl _ _)
       simp only [List.take_succ_cons, List.take_zero, putAll, Act.put, List.setIfInBounds_toArray, List.set_cons_succ, List.set_cons_zero, Nat.reduceAdd, Nat.zero_add] at q
       exact q
      ·-- op 1
       cases ho
       try clear hd
       simp only [List.take_succ_cons, List.take_zero, putAll, Act.put, List.setIfInBounds_toArray, List.set_cons_succ, List.set_cons_zero, Nat.reduceAdd, Nat.zero_add]
       go_wp2_with fail
       have q := HK.out (Value.pointer (some ⟨b, 0, none⟩)) w5 rfl (Below.refl _ _)
       simp only [List.take_succ_cons, List.take_zero, putAll, Act.put, List.setIfInBounds_toArray, List.set_cons_succ, List.set_cons_zero, Nat.reduceAdd, Nat.zero_add] at q
       exact q
      ·-- op 2
       have h1 : v 1 = Value.pointer (some ⟨b, 0, none⟩) := hd 1 (by kernel_rfl)
       have cf := K0.out ⟨w5, HB5.out⟩
       simp only [Ext.w] at cf
       cases ho
       try clear hd
       simp only [List.take_succ_cons, List.take_zero, putAll, Act.put, List.setIfInBounds_toArray, List.set_cons_succ, List.set_cons_zero, Nat.reduceAdd, Nat.zero_add, h1]
       go_wp2_with fail
       have q := HK.out (Value.int .i64 k) w5 rfl (Below.refl _ _)
       simp only [List.take_succ_cons, List.take_zero, putAll, Act.put, List.setIfInBounds_toArray, List.set_cons_succ, List.set_cons_zero, Nat.reduceAdd, Nat.zero_add, h1] at q
       exact q
      ·-- op 3
       have cf := CL.out ⟨w5, HB5.out⟩
       simp only [Ext.w] at cf
       cases ho
       try clear hd
       simp only [List.take_succ_cons, List.take_zero, putAll, Act.put, List.setIfInBounds_toArray, List.set_cons_succ, List.set_cons_zero, Nat.reduceAdd, Nat.zero_add]
       go_wp2_with fail
       have q := HK.out (Value.string L) w5 rfl (Below.refl _ _)
       simp only [List.take_succ_cons, List.take_zero, putAll, Act.put, List.setIfInBounds_toArray, List.set_cons_succ, List.set_cons_zero, Nat.reduceAdd, Nat.zero_add] at q
       exact q
      focus
       -- op 4
       refine ?S2a
      rotate_left 1
      focus
       -- op 5
       have h4 : v 4 = Value.pointer (some ⟨b, 1, none⟩) := hd 4 (by kernel_rfl)
       refine ?S1a
      rotate_left 1
      ·-- op 6
       cases ho
       try clear hd
       simp only [List.take_succ_cons, List.take_zero, putAll, Act.put, List.setIfInBounds_toArray, List.set_cons_succ, List.set_cons_zero, Nat.reduceAdd, Nat.zero_add]
       go_wp2_with fail
       have q := HK.out (Value.pointer (some ⟨b, 2, none⟩)) w5 rfl (Below.refl _ _)
       simp only [List.take_succ_cons, List.take_zero, putAll, Act.put, List.setIfInBounds_toArray, List.set_cons_succ, List.set_cons_zero, Nat.reduceAdd, Nat.zero_add] at q
       exact q
      ·-- op 7
       have h6 : v 6 = Value.pointer (some ⟨b, 2, none⟩) := hd 6 (by kernel_rfl)
       have cf := K2.out ⟨w5, HB5.out⟩
       simp only [Ext.w] at cf
       cases ho
       try clear hd
       simp only [List.take_succ_cons, List.take_zero, putAll, Act.put, List.setIfInBounds_toArray, List.set_cons_succ, List.set_cons_zero, Nat.reduceAdd, Nat.zero_add, h6]
       go_wp2_with fail
       have q := HK.out (Value.int .i64 ((m : Int) + 1)) w5 rfl (Below.refl _ _)
       simp only [List.take_succ_cons, List.take_zero, putAll, Act.put, List.setIfInBounds_toArray, List.set_cons_succ, List.set_cons_zero, Nat.reduceAdd, Nat.zero_add, h6] at q
       exact q
      ·-- op 8
       have h3 : v 3 = Value.string L := hd 3 (by kernel_rfl)
       have h5 : v 5 = Value.int .i64 xa := hd 5 (by kernel_rfl)
       have h7 : v 7 = Value.int .i64 ((m : Int) + 1) := hd 7 (by kernel_rfl)
       cases ho
       try clear hd
       simp only [List.take_succ_cons, List.take_zero, putAll, Act.put, List.setIfInBounds_toArray, List.set_cons_succ, List.set_cons_zero, Nat.reduceAdd, Nat.zero_add, h3, h5, h7]
       go_wp2_with fail
       have q := HK.out (Value.string (L.extract xa (m + 1))) w5 rfl (Below.refl _ _)
       simp only [List.take_succ_cons, List.take_zero, putAll, Act.put, List.setIfInBounds_toArray, List.set_cons_succ, List.set_cons_zero, Nat.reduceAdd, Nat.zero_add, h3, h5, h7] at q
       exact q
      ·-- op 9
       have cf := CC.out ⟨w5, HB5.out⟩
       simp only [Ext.w] at cf
       cases ho
       try clear hd
       simp only [List.take_succ_cons, List.take_zero, putAll, Act.put, List.setIfInBounds_toArray, List.set_cons_succ, List.set_cons_zero, Nat.reduceAdd, Nat.zero_add]
       go_wp2_with fail
       have q := HK.out (Value.slice (some ⟨gb, go, none⟩) Q.length cap) w5 rfl (Below.refl _ _)
       simp only [List.take_succ_cons, List.take_zero, putAll, Act.put, List.setIfInBounds_toArray, List.set_cons_succ, List.set_cons_zero, Nat.reduceAdd, Nat.zero_add] at q
       exact q
      focus
       -- op 10
       refine ?S2b
      rotate_left 1
      focus
       -- op 11
       have h10 : v 10 = Value.pointer (some ⟨b, 1, none⟩) := hd 10 (by kernel_rfl)
       obtain ⟨h4, rfl⟩ : ∃ q, q = h10 := ⟨_, rfl⟩
       refine ?S1b
      rotate_left 1
      ·-- op 12
       have h9 : v 9 = Value.slice (some ⟨gb, go, none⟩) Q.length cap := hd 9 (by kernel_rfl)
       have h11 : v 11 = Value.int .i64 xa := hd 11 (by kernel_rfl)
       cases ho
       try clear hd
       simp only [List.take_succ_cons, List.take_zero, putAll, Act.put, List.setIfInBounds_toArray, List.set_cons_succ, List.set_cons_zero, Nat.reduceAdd, Nat.zero_add, h9, h11]
       go_wp2_with fail
       have q := HK.out (Value.pointer (some ⟨gb, go + xa * 3, none⟩)) w5 rfl (Below.refl _ _)
       simp only [List.take_succ_cons, List.take_zero, putAll, Act.put, List.setIfInBounds_toArray, List.set_cons_succ, List.set_cons_zero, Nat.reduceAdd, Nat.zero_add, h9, h11] at q
       exact q
      ·-- op 13
       have h12 : v 12 = Value.pointer (some ⟨gb, go + xa * 3, none⟩) := hd 12 (by kernel_rfl)
       cases ho
       try clear hd
       simp only [List.take_succ_cons, List.take_zero, putAll, Act.put, List.setIfInBounds_toArray, List.set_cons_succ, List.set_cons_zero, Nat.reduceAdd, Nat.zero_add, h12]
       go_wp2_with fail
       have q := HK.out (Value.pointer (some ⟨gb, go + xa * 3 + 1, none⟩)) w5 rfl (Below.refl _ _)
       simp only [List.take_succ_cons, List.take_zero, putAll, Act.put, List.setIfInBounds_toArray, List.set_cons_succ, List.set_cons_zero, Nat.reduceAdd, Nat.zero_add, h12] at q
       exact q
      ·-- op 14
       have h13 : v 13 = Value.pointer (some ⟨gb, go + xa * 3 + 1, none⟩) := hd 13 (by kernel_rfl)
       have cf := P1.out ⟨w5, HB5.out⟩
       simp only [Ext.w] at cf
       cases ho
       try clear hd
       simp only [List.take_succ_cons, List.take_zero, putAll, Act.put, List.setIfInBounds_toArray, List.set_cons_succ, List.set_cons_zero, Nat.reduceAdd, Nat.zero_add, h13]
       go_wp2_with fail
       have q := HK.out (Value.int .i64 p.pos) w5 rfl (Below.refl _ _)
       simp only [List.take_succ_cons, List.take_zero, putAll, Act.put, List.setIfInBounds_toArray, List.set_cons_succ, List.set_cons_zero, Nat.reduceAdd, Nat.zero_add, h13] at q
       exact q
      ·-- op 15
       cases ho
       try clear hd
       simp only [List.take_succ_cons, List.take_zero, putAll, Act.put, List.setIfInBounds_toArray, List.set_cons_succ, List.set_cons_zero, Nat.reduceAdd, Nat.zero_add]
       go_wp2_with fail
       have q := HK.out (Value.pointer (some ⟨W.heap.size, 1, none⟩)) w5 rfl (Below.refl _ _)
       simp only [List.take_succ_cons, List.take_zero, putAll, Act.put, List.setIfInBounds_toArray, List.set_cons_succ, List.set_cons_zero, Nat.reduceAdd, Nat.zero_add] at q
       exact q
      ·-- op 16
       have h15 : v 15 = Value.pointer (some ⟨W.heap.size, 1, none⟩) := hd 15 (by kernel_rfl)
       have cf := Q1.out ⟨w5, HB5.out⟩
       simp only [Ext.w] at cf
       cases ho
       try clear hd
       simp only [List.take_succ_cons, List.take_zero, putAll, Act.put, List.setIfInBounds_toArray, List.set_cons_succ, List.set_cons_zero, Nat.reduceAdd, Nat.zero_add, h15]
       go_wp2_with fail
       have q := HK.out (Value.int .i64 q.pos) w5 rfl (Below.refl _ _)
       simp only [List.take_succ_cons, List.take_zero, putAll, Act.put, List.setIfInBounds_toArray, List.set_cons_succ, List.set_cons_zero, Nat.reduceAdd, Nat.zero_add, h15] at q
       exact q
      ·-- op 17
       cases ho
       try clear hd
       simp only [List.take_succ_cons, List.take_zero, putAll, Act.put, List.setIfInBounds_toArray, List.set_cons_succ, List.set_cons_zero, Nat.reduceAdd, Nat.zero_add]
       go_wp2_with fail
       have q := HK.out (Value.pointer (some ⟨W.heap.size, 2, none⟩)) w5 rfl (Below.refl _ _)
       simp only [List.take_succ_cons, List.take_zero, putAll, Act.put, List.setIfInBounds_toArray, List.set_cons_succ, List.set_cons_zero, Nat.reduceAdd, Nat.zero_add] at q
       exact q
      ·-- op 18
       have h17 : v 17 = Value.pointer (some ⟨W.heap.size, 2, none⟩) := hd 17 (by kernel_rfl)
       have cf := Q2.out ⟨w5, HB5.out⟩
       simp only [Ext.w] at cf
       cases ho
       try clear hd
       simp only [List.take_succ_cons, List.take_zero, putAll, Act.put, List.setIfInBounds_toArray, List.set_cons_succ, List.set_cons_zero, Nat.reduceAdd, Nat.zero_add, h17]
       go_wp2_with fail
       have q := HK.out (Value.int .i64 q.len) w5 rfl (Below.refl _ _)
       simp only [List.take_succ_cons, List.take_zero, putAll, Act.put, List.setIfInBounds_toArray, List.set_cons_succ, List.set_cons_zero, Nat.reduceAdd, Nat.zero_add, h17] at q
       exact q
      ·-- op 19
       have h16 : v 16 = Value.int .i64 q.pos := hd 16 (by kernel_rfl)
       have h18 : v 18 = Value.int .i64 q.len := hd 18 (by kernel_rfl)
       cases ho
       try clear hd
       simp only [List.take_succ_cons, List.take_zero, putAll, Act.put, List.setIfInBounds_toArray, List.set_cons_succ, List.set_cons_zero, Nat.reduceAdd, Nat.zero_add, h16, h18]
       go_wp2_with fail
       have q := HK.out (Value.int .i64 ((q.pos : Int) + q.len)) w5 rfl (Below.refl _ _)
       simp only [List.take_succ_cons, List.take_zero, putAll, Act.put, List.setIfInBounds_toArray, List.set_cons_succ, List.set_cons_zero, Nat.reduceAdd, Nat.zero_add, h16, h18] at q
       exact q
      focus
       -- op 20
       refine ?S2c
      rotate_left 1
      focus
       -- op 21
       have h20 : v 20 = Value.pointer (some ⟨b, 1, none⟩) := hd 20 (by kernel_rfl)
       obtain ⟨h4, rfl⟩ : ∃ q, q = h20 := ⟨_, rfl⟩
       refine ?S1c
      rotate_left 1
      ·-- op 22
       have cf := CH.out ⟨w5, HB5.out⟩
       simp only [Ext.w] at cf
       cases ho
       try clear hd
       simp only [List.take_succ_cons, List.take_zero, putAll, Act.put, List.setIfInBounds_toArray, List.set_cons_succ, List.set_cons_zero, Nat.reduceAdd, Nat.zero_add]
       go_wp2_with fail
       have q := HK.out (Value.int .i64 hi0) w5 rfl (Below.refl _ _)
       simp only [List.take_succ_cons, List.take_zero, putAll, Act.put, List.setIfInBounds_toArray, List.set_cons_succ, List.set_cons_zero, Nat.reduceAdd, Nat.zero_add] at q
       exact q
      ·-- op 23
       have h21 : v 21 = Value.int .i64 xa := hd 21 (by kernel_rfl)
       have h22 : v 22 = Value.int .i64 hi0 := hd 22 (by kernel_rfl)
       cases ho
       try clear hd
       simp only [List.take_succ_cons, List.take_zero, putAll, Act.put, List.setIfInBounds_toArray, List.set_cons_succ, List.set_cons_zero, Nat.reduceAdd, Nat.zero_add, h21, h22]
       go_wp2_with fail
       have q := HK.out (Value.bool sp) w5 rfl (Below.refl _ _)
       simp only [List.take_succ_cons, List.take_zero, putAll, Act.put, List.setIfInBounds_toArray, List.set_cons_succ, List.set_cons_zero, Nat.reduceAdd, Nat.zero_add, h21, h22] at q
       exact q
      ·-- op 24
       have h2 : v 2 = Value.int .i64 k := hd 2 (by kernel_rfl)
       have h8 : v 8 = Value.string (L.extract xa (m + 1)) := hd 8 (by kernel_rfl)
       have h14 : v 14 = Value.int .i64 p.pos := hd 14 (by kernel_rfl)
       have h19 : v 19 = Value.int .i64 ((q.pos : Int) + q.len) := hd 19 (by kernel_rfl)
       have h23 : v 23 = Value.bool sp := hd 23 (by kernel_rfl)
       cases ho
       try clear hd
       simp only [List.take_succ_cons, List.take_zero, putAll, Act.put, List.setIfInBounds_toArray, List.set_cons_succ, List.set_cons_zero, Nat.reduceAdd, Nat.zero_add, h2, h8, h14, h19, h23]
       go_wp2_with fail
       have q := HK.out (Value.agg #[.int .i64 k, .string (L.extract xa (m + 1)), .int .i64 p.pos, .int .i64 ((q.pos : Int) + q.len), .bool sp]) w5 rfl (Below.refl _ _)
       simp only [List.take_succ_cons, List.take_zero, putAll, Act.put, List.setIfInBounds_toArray, List.set_cons_succ, List.set_cons_zero, Nat.reduceAdd, Nat.zero_add, h2, h8, h14, h19, h23] at q
       exact q
      ·-- op 25
       have h24 : v 24 = Value.agg #[.int .i64 k, .string (L.extract xa (m + 1)), .int .i64 p.pos, .int .i64 ((q.pos : Int) + q.len), .bool sp] := hd 24 (by kernel_rfl)
       cases ho
       try clear hd
       simp only [List.take_succ_cons, List.take_zero, putAll, Act.put, List.setIfInBounds_toArray, List.set_cons_succ, List.set_cons_zero, Nat.reduceAdd, Nat.zero_add, h24]
       go_wp2_with fail
       have q := HK.out (Value.slice (some ⟨w5.heap.size, 0, none⟩) 1 1) (w5.alloc (Obj.cells #[.int .i64 k, .string (L.extract xa (m + 1)), .int .i64 p.pos, .int .i64 ((q.pos : Int) + q.len), .bool sp] 145)) (⟨w5.heap.size, rfl, heap_alloc_new _ _⟩) (below_alloc _ _)
       simp only [List.take_succ_cons, List.take_zero, putAll, Act.put, List.setIfInBounds_toArray, List.set_cons_succ, List.set_cons_zero, Nat.reduceAdd, Nat.zero_add, h24] at q
       exact q
      case S1a | S1b | S1c =>
       have cf := K1.out ⟨w5, HB5.out⟩
       simp only [Ext.w] at cf
       cases ho
       try clear hd
       simp only [List.take_succ_cons, List.take_zero, putAll, Act.put, List.setIfInBounds_toArray, List.set_cons_succ, List.set_cons_zero, Nat.reduceAdd, Nat.zero_add, h4]
       go_wp2_with fail
       have q := HK.out (Value.int .i64 xa) w5 rfl (Below.refl _ _)
       simp only [List.take_succ_cons, List.take_zero, putAll, Act.put, List.setIfInBounds_toArray, List.set_cons_succ, List.set_cons_zero, Nat.reduceAdd, Nat.zero_add, h4] at q
       exact q
      case S2a | S2b | S2c =>
       cases ho
       try clear hd
       simp only [List.take_succ_cons, List.take_zero, putAll, Act.put, List.setIfInBounds_toArray, List.set_cons_succ, List.set_cons_zero, Nat.reduceAdd, Nat.zero_add]
       go_wp2_with fail
       have q := HK.out (Value.pointer (some ⟨b, 1, none⟩)) w5 rfl (Below.refl _ _)
       simp only [List.take_succ_cons, List.take_zero, putAll, Act.put, List.setIfInBounds_toArray, List.set_cons_succ, List.set_cons_zero, Nat.reduceAdd, Nat.zero_add] at q
       exact q
     ·intro v w5 hb5 hv
      obtain ⟨g, h25, hgO⟩ : ∃ g, v 25 = .slice (some ⟨g, 0, none⟩) 1 1 ∧ w5.heap[g]? = some (Obj.cells #[.int .i64 k, .string (L.extract xa (m + 1)), .int .i64 p.pos, .int .i64 ((q.pos : Int) + q.len), .bool sp] 145) := hv 25 (by decide)
      have h0 : v 0 = .slice ta n tcap := hv 0 (by decide)
      have HGO := Lib.hid (CellsAt.of_heap hgO)
      have hb5W : Below W.heap.size W w5 := (below_alloc W _).trans (hb5.mono (by simp))
      have hown5 := own_on H4.out hb5W
      have h35 := heap_below hb5W H3.out (Array.getElem?_eq_some_iff.1 H3.out).1
      have h55 := heap_below hb5W H5.out (Array.getElem?_eq_some_iff.1 H5.out).1
      have HBW := Lib.hid hb5W
      have HOWN5 := Lib.hid hown5
      have H35 := Lib.hid h35
      have H55 := Lib.hid h55
      have hws := hb5W.size
      have hw9 := H9.out.size
      have b5 : w5.cell? ⟨b, 2, none⟩ = some (.int .i64 ((m : Int) + 1)) := K2.out ⟨w5, hb5⟩
      clear hv hb5 hgO hown5 hb5W h35 h55
      simp only [List.take_succ_cons, List.take_zero, List.drop_succ_cons, List.drop_zero, putAll, Act.put, List.setIfInBounds_toArray, List.set_cons_succ, List.set_cons_zero, Nat.reduceAdd, Nat.zero_add, h25, h0]
      generalize v 1 = v1
      generalize v 2 = v2
      generalize v 3 = v3
      generalize v 4 = v4
      generalize v 5 = v5
      generalize v 6 = v6
      generalize v 7 = v7
      generalize v 8 = v8
      generalize v 9 = v9
      generalize v 10 = v10
      generalize v 11 = v11
      generalize v 12 = v12
      generalize v 13 = v13
      generalize v 14 = v14
      generalize v 15 = v15
      generalize v 16 = v16
      generalize v 17 = v17
      generalize v 18 = v18
      generalize v 19 = v19
      generalize v 20 = v20
      generalize v 21 = v21
      generalize v 22 = v22
      generalize v 23 = v23
      generalize v 24 = v24
      clear h25 h0
      clear v
      go_wp2_with (at_builtin; refine wpList_append_own _ rfl _ _ 97 rfl w.heap.size 145 i2 (.agg #[.int .i64 0, .string ⟨#[]⟩, .int .i64 0, .int .i64 0, .bool false]) 5 48 Tryz.underlying97 HI.out HZ0.out HZ1.out HZ2.out rfl (by decide) _ n _ rfl HOWN5.out ⟨g, 0, none⟩ 1 1 [.int .i64 k, .string (L.extract xa (m + 1)), .int .i64 p.pos, .int .i64 ((q.pos : Int) + q.len), .bool sp] rfl rfl ?c1 ?c2 ?c3 ?c4 ?c5 ?_)
      case c1 => intro j u hu; simpa using HGO.out j u (by simpa using hu)
      case c2 => first | exact ⟨rfl, rfl, rfl, rfl, rfl⟩ | (intro u hu; simp at hu; rcases hu with rfl | rfl | rfl | rfl | rfl <;> rfl)
      case c3 => unfold maxLen; omega
      case c4 => omega
      case c5 => omega
      intro v' w6 hown' hgrow _
      obtain ⟨hp1, hpush⟩ := lb_push0 H35.out (by decide) HOWN5.out hgrow hown'
      obtain ⟨a', c', rfl⟩ := row_shape hown'
      have hb5h := heap_below HBW.out HBH.out (Array.getElem?_eq_some_iff.1 HBH.out).1
      have hbne : b ≠ wr.heap.size + 1 := fun e => by
       subst e
       rw [H35.out] at hb5h
       cases hb5h
      have g6 := hpush.keep HOWN5.out hb5h hbne (by decide)
      have g3 := hpush.keep HOWN5.out H55.out (by omega) (by decide)
      have d1 : w6.cell? ⟨wr.heap.size + 1, 0, none⟩ = some (.slice ta n tcap) := by simp [World.cell?, hp1]
      have d2 : w6.frozen? ⟨wr.heap.size + 1, 0, none⟩ = false := Lib.frozen_of_heap hp1 0
      have d3 : (w6.setCell ⟨wr.heap.size + 1, 0, none⟩ (.slice a' (n + 1) c')).cell? ⟨b, 2, none⟩ = some (.int .i64 ((m : Int) + 1)) := by simp [World.cell?, g6]
      have d4 : (w6.setCell ⟨wr.heap.size + 1, 0, none⟩ (.slice a' (n + 1) c')).cell? ⟨wr.heap.size + 1 + 1, 0, none⟩ = some (.int .i64 hi0) := by simp [World.cell?, g3]
      have d5 : (w6.setCell ⟨wr.heap.size + 1, 0, none⟩ (.slice a' (n + 1) c')).frozen? ⟨wr.heap.size + 1 + 1, 0, none⟩ = false := Lib.frozen_of_heap g3 0
      have HPU := Lib.hid hpush
      have G3' := Lib.hid g3
      clear hown' hgrow hp1 hpush hb5h hbne g6 g3
      obtain ⟨W2, hW2⟩ : ∃ W2, W2 = w6.setCell ⟨wr.heap.size + 1, 0, none⟩ (.slice a' (n + 1) c') := ⟨_, rfl⟩
      rw [← hW2] at d3 d4 d5 HPU G3'
      have HW2 := Lib.hid hW2
      clear hW2
      go_wp2_with fail
      rw [← HW2.out]
      refine NoOut.normal ?_
      gi_wp2_with (fail)
      have hwpos := HM.out.pos
      have hset := heap_setCell_same W2 (wr.heap.size + 1 + 1) 0 _ _ (.int .i64 ((m : Int) + 1)) G3'.out
      refine ⟨((⟨HBW.out.size, fun k o hk ho hc => heap_below HBW.out ho (Array.getElem?_eq_some_iff.1 ho).1⟩ : KeepsFrom _ W w5).trans (HPU.out.kf _)).trans (KeepsFrom.of_cells G3'.out _), ((KM.of_below HBW.out).trans (KM.of_push HPU.out rfl rfl (by omega) (by omega))).trans (KM.set G3'.out rfl (by omega) _ _),
       n + 1, .slice a' (n + 1) c', by omega, by rw [HTK.out, List.map_append, ← H2.out]; rfl, (Below.heap_setCell _ _ _ _ (by simp)).trans HPU.out.box, ?_, ?_, ((H6.out.trans (KT.of_below HBW.out)).trans (HPU.out.kt Tk4 rfl rfl)).trans ((KT.refl _ _).set G3'.out rfl _ _), ?_, ?_, ?_⟩
      ·have := own_set HPU.out.row G3'.out (by decide) 0 (.int .i64 ((m : Int) + 1))
       rw [HTK.out, List.map_append, List.flatMap_append, List.map_singleton, HPL.out, List.flatMap_singleton]
       simp only [tkC, HTX.out]
       rw [List.map_take, Int.natCast_add]
       exact this
      ·rw [HT5.out]
       simpa using hset
      ·have h7 := heap_below HBW.out H7.out (Array.getElem?_eq_some_iff.1 H7.out).1
       exact (Below.heap_setCell _ _ _ _ (by simp; omega)).trans (HPU.out.keep HOWN5.out h7 (by omega) (by decide))
      ·have h8 := heap_below HBW.out H8.out (Array.getElem?_eq_some_iff.1 H8.out).1
       exact (Below.heap_setCell _ _ _ _ (by simp; omega)).trans (HPU.out.keep HOWN5.out h8 (by omega) (by decide))
      ·exact ((H9.out.trans (HBW.out.mono hw9)).trans (HPU.out.bel _ (by omega) (Nat.le_refl _))).setCell (p := ⟨wr.heap.size + 1 + 1, 0, none⟩) (by simp; omega) _
    ·have hE1 : ((E : Int) != 0) = true := by simpa using hE0
     have c0 : W.cell? ⟨w.heap.size, 0, none⟩ = some (.slice none 0 0) := by simp [World.cell?, h7]
     have c1 : W.cell? ⟨w.heap.size + 1, 0, none⟩ = some (.int .i64 0) := by simp [World.cell?, h8]
     have f0 : W.frozen? ⟨w.heap.size, 0, none⟩ = false := Lib.frozen_of_heap h7 0
     have f1 : W.frozen? ⟨w.heap.size + 1, 0, none⟩ = false := Lib.frozen_of_heap h8 0
     have H7 := Lib.hid h7
     have H8 := Lib.hid h8
     have H9 := Lib.hid h9
     have HE0' := Lib.hid hE0
     clear h1 h2 h3 h4 h5 h6 h7 h8 h9 hr hb hE0
     gi_wp2_with (fail)
     obtain ⟨z0, z1, z2⟩ := res_heaps H7.out H8.out (.slice none 0 0) (.int .i64 E)
     exact ⟨(KeepsFrom.of_cells H7.out _).trans (KeepsFrom.of_cells ((Below.heap_setCell _ _ _ _ (by simp)).trans H8.out) _), rfl, HE0'.out, z0, z1, H9.out.trans z2⟩
   case done =>
    rintro Dd zs W hD hzs ⟨n, v, h1, h2, h3, h4, h5, h6, h7, h8, h9⟩ hK
    obtain ⟨hn, hE0⟩ := its_all hzs (by rw [HT.out]; exact h2) (by rw [HT.out]; exact h1)
    rw [HE.out] at hE0
    rw [HT.out] at hn
    subst hn
    rw [List.take_length] at h4
    have c0 : W.cell? ⟨wr.heap.size + 1, 0, none⟩ = some v := by simp [World.cell?, h3]
    have c1 : W.cell? ⟨w.heap.size, 0, none⟩ = some (.slice none 0 0) := by simp [World.cell?, h7]
    have c2 : W.cell? ⟨w.heap.size + 1, 0, none⟩ = some (.int .i64 0) := by simp [World.cell?, h8]
    have f1 : W.frozen? ⟨w.heap.size, 0, none⟩ = false := Lib.frozen_of_heap h7 0
    have f2 : W.frozen? ⟨w.heap.size + 1, 0, none⟩ = false := Lib.frozen_of_heap h8 0
    obtain ⟨va, vc, rfl⟩ := row_shape h4
    have hsc : scanP (dl s) = (0, T.map (place Q)) := by
     rw [scanP_of HC.out, ← HLD.out, HE.out, HT.out, HQ.out, if_neg (by simp [hE0])]
    have H4 := Lib.hid h4
    have H7 := Lib.hid h7
    have H8 := Lib.hid h8
    have H9 := Lib.hid h9
    have HK := Lib.hid hK
    have HSC := Lib.hid hsc
    clear h1 h2 h3 h4 h5 h6 h7 h8 h9 hK hzs hE0 hsc
    gi_wp2_with (fail)
    have hs0 := HS0.out
    obtain ⟨z0, z1, z2⟩ := res_cells H7.out H8.out (.slice va T.length vc) (.int .i64 0)
    have hk2 : ((W.setCell ⟨w.heap.size, 0, none⟩ (.slice va T.length vc)).setCell ⟨w.heap.size + 1, 0, none⟩ (.int .i64 0)).heap[Dd]? = some (.deferred (some [])) :=
     (Below.heap_setCell _ _ _ _ (by simp; omega)).trans ((Below.heap_setCell _ _ _ _ (by simp; omega)).trans HK.out)
    refine ⟨by simp, .inl ⟨_, _, rfl, run_takeDeferred hk2, ?_⟩⟩
    have y0 := cell_put hk2 rfl (o' := .deferred none) z0
    have y1 := cell_put hk2 rfl (o' := .deferred none) z1
    refine ⟨.tuple #[.slice va T.length vc, .int .i64 0], by simp [results, Tryz.results42, go_sem, y0, y1], (H9.out.trans z2).trans (below_put (by omega) hk2), ?_⟩
    rw [HSC.out, if_pos rfl]
    refine ⟨_, rfl, own_put (own_set (own_set (by simpa using H4.out) H7.out (by decide) 0 _) ((Below.heap_setCell _ _ _ _ (by simp)).trans H8.out) (by decide) 0 _) hk2 rfl⟩
   case stop =>
    rintro Dd c pre W hD _ ⟨rfl, hE0, h3, h4, h5⟩ hK
    have hsc : scanP (dl s) = (E, []) := by
     rw [scanP_of HC.out, ← HLD.out, HE.out, if_pos hE0]
    have H3 := Lib.hid h3
    have H4 := Lib.hid h4
    have H5 := Lib.hid h5
    have HK := Lib.hid hK
    have HSC := Lib.hid hsc
    have HE0' := Lib.hid hE0
    clear h3 h4 h5 hK hsc hE0
    gi_wp2_with (fail)
    have hs0 := HS0.out
    have z0 : W.cell? ⟨w.heap.size, 0, none⟩ = some (.slice none 0 0) := by simp [World.cell?, H3.out]
    have z1 : W.cell? ⟨w.heap.size + 1, 0, none⟩ = some (.int .i64 E) := by simp [World.cell?, H4.out]
    refine ⟨by simp, .inl ⟨_, _, rfl, run_takeDeferred HK.out, ?_⟩⟩
    have y0 := cell_put HK.out rfl (o' := .deferred none) z0
    have y1 := cell_put HK.out rfl (o' := .deferred none) z1
    refine ⟨.tuple #[.slice none 0 0, .int .i64 E], by simp [results, Tryz.results42, go_sem, y0, y1], H5.out.trans (below_put (by omega) HK.out), ?_⟩
    rw [HSC.out, if_neg HE0'.out]
end Go.Proofs.YtlboejdhmggjpaaGreat.Ww

/- reflow: paragraphs. -/
import Derived.Test.YtbnhefibpjldfaaGreatDoorPzQ
import Derived.Test.YtbnhefibpjldfaaGreatDoorMr1
import Derived.Test.YtbnhefibpjldfaaGreatDoorPwZ
import Derived.Maps.AppendAt
namespace Go.Proofs.YtbnhefibpjldfaaGreatDoor
open Go.RowKit Go.BigFrame Go.Shelf
set_option linter.unusedVariables false
attribute [local go_sem] Oper.semAt_some

theorem Re.clone (s : ByteArray) (w : World) (hs : s.size ≤ 281474976710656) : Calls Tryz.prog 104 #[.string s] w fun e w' => e = .returned (.string s) ∧ Below w.heap.size w w' := by
  go_enter Tryz.func104, Tryz.ntmps104
  go_wp2_with fail
  refine (Tryz.stringslite_Clone s w hs).mono ?_
  rintro e w2 ⟨rfl, hb⟩
  have HB := Lib.hid hb
  clear hb
  go_wp2_with fail
  go_ret
  exact ⟨rfl, HB.out⟩
/-- What the operations of the region leave that puts a word behind the last one's. -/
def p13 (E wl G d : Nat) (ov nv : Value) (x : Bs) (now : List Bs) (i : Nat) (v : Value) (w : World) : Prop :=
  match i with
  | 0 => v = ov
  | 1 => v = .int .i64 d
  | 2 => v = ov
  | 3 => v = .int .i64 d
  | 4 => v = .pointer (some ⟨G, d, none⟩)
  | 5 => v = nv
  | 6 => v = .string (str x)
  | 7 => v = .string (str x)
  | 8 => ∃ g, v = .slice (some ⟨g, 0, none⟩) 1 1 ∧ wl ≤ g ∧ w.heap[g]? = some (.cells #[.string (str x)] 9 (0, 0))
  | 9 => w.ownsRow E 9 1 v (now.length + 1) (now.flatMap sB ++ [.string (str x)]) ∧ (v.ownBlock = nv.ownBlock ∨ ∃ k, v.ownBlock = some k ∧ wl ≤ k)
  | _ => v = .pointer (some ⟨G, d, none⟩)
def l13 (nv : Value) (i : Nat) (w w' : World) : Prop := if i = 9 then w.grownBy w' nv.ownBlock else Below w.heap.size w w'
theorem l13_read {nv : Value} {i : Nat} {w w' : World} (hi : i ≠ 9) (h : Below w.heap.size w w') : l13 nv i w w' := by unfold l13; rw [if_neg hi]; exact h
def i13 (w0 : World) (nv : Value) (b : Bool) (w : World) : Prop := if b then Mod (fun k => nv.ownBlock = some k) w0 w else Below w0.heap.size w0 w
theorem i13_mod {w0 w : World} {nv : Value} {b : Bool} (h : i13 w0 nv b w) : Mod (fun k => nv.ownBlock = some k) w0 w := by
  unfold i13 at h
  split at h
  · exact h
  · exact Mod.of_below h
theorem i13_step (w0 : World) (nv : Value) : ∀ i b w w', (i = 9 → b = false) → i13 w0 nv b w → l13 nv i w w' → i13 w0 nv (b || i == 9) w' := fun i b w w' hi h hl => by
  unfold l13 at hl
  split at hl
  · rename_i e
    subst e
    have hb := hi rfl
    subst hb
    show Mod _ w0 w'
    exact (i13_mod h).trans ⟨hl.os, hl.tape, hl.output, hl.size, fun k hk hn => hl.block k hk (fun e => hn e.symm)⟩
  · rename_i e
    have e2 : (b || i == 9) = b := by
      have : (i == 9) = false := by simpa using e
      rw [this, Bool.or_false]
    rw [e2]
    cases b with
    | true => exact Mod.trans h (Mod.of_below hl)
    | false =>
      have h' : Below w0.heap.size w0 w := h
      exact h'.trans (hl.mono h'.size)
theorem p13_mono (w0 : World) (E G d : Nat) (ov nv : Value) (x : Bs) (now : List Bs) (hnv : ∀ k, nv.ownBlock = some k → k < w0.heap.size) : ∀ j v i b w w', j ≠ i → (i = 9 → b = false) → i13 w0 nv b w → l13 nv i w w' → p13 E w0.heap.size G d ov nv x now j v w → p13 E w0.heap.size G d ov nv x now j v w' := fun j v i b w w' hji hi h hl hp => by
  match j, hp with
  | 0, hp => exact hp
  | 1, hp => exact hp
  | 2, hp => exact hp
  | 3, hp => exact hp
  | 4, hp => exact hp
  | 5, hp => exact hp
  | 6, hp => exact hp
  | 7, hp => exact hp
  | 8, ⟨g, h1, h2, h3⟩ =>
    refine ⟨g, h1, h2, ?_⟩
    unfold l13 at hl
    split at hl
    · rw [hl.block g (Array.getElem?_eq_some_iff.1 h3).1 (fun e => by have := hnv g e.symm; omega)]
      exact h3
    · exact heap_below hl h3 (Array.getElem?_eq_some_iff.1 h3).1
  | 9, hp =>
    unfold l13 at hl
    rw [if_neg (fun e => hji e.symm)] at hl
    exact ⟨own_on hp.1 hl, hp.2⟩
  | n + 10, hp => exact hp
/-- What the loop over words keeps. -/
def PiI (A B b6 Bx : Nat) (W W2 : World) (Q : List (List Bs)) (o : Bool) (prew : List Bs) (V : World) : Prop :=
  ∃ E ov L, PaS B E A ov L V ∧ L.map (·.1) = adW Q o prew ∧ V.heap[A + 1]? = some (.cells #[.bool (o || !prew.isEmpty)] 4 (0, 0)) ∧ V.heap[b6]? = some (.cells #[.bool prew.isEmpty] 4 (0, 0)) ∧ (∀ c, L.getLast? = some c → c.2.ownBlock ≠ some Bx) ∧ Mq A B W V ∧ W2.heap.size ≤ V.heap.size
theorem Mq.then {A B : Nat} {S : Nat → Prop} {a b c : World} (h : Mq A B a b) (k : Mod S b c) (hS : ∀ j, S j → j < a.heap.size → j = A ∨ j = A + 1 ∨ (B ≤ j ∧ ∃ cs t fz, b.heap[j]? = some (.cells cs t fz))) : Mq A B a c :=
  ⟨k.os.trans h.os, k.tape.trans h.tape, k.output.trans h.output, Nat.le_trans h.size k.size, fun j hj hn => by
    have e1 := h.block j hj hn
    rw [k.block j (Nat.lt_of_lt_of_le hj h.size) (fun hs => hn ?_), e1]
    rcases hS j hs hj with hs | hs | ⟨h1, cs, t, fz, h2⟩
    · exact .inl hs
    · exact .inr (.inl hs)
    · exact .inr (.inr ⟨h1, cs, t, fz, by rw [← e1]; exact h2⟩)⟩
theorem PiI.keep {A B b6 Bx : Nat} {W W2 : World} {Q : List (List Bs)} {o : Bool} (hW : W.heap.size ≤ W2.heap.size) : ∀ (s : List Bs) (X Y : World), PiI A B b6 Bx W W2 Q o s X → Mod (fun k => False ∨ (W2.heap.size ≤ k ∧ nc X k)) X Y → PiI A B b6 Bx W W2 Q o s Y := fun s X Y ⟨E, ov, L, h1, h2, h3, h4, h5, h6, h7⟩ hm => by
  have hm' : Mod (fun k => W2.heap.size ≤ k ∧ nc X k) X Y := hm.mono (fun k _ hk => hk.elim (fun h => h.elim) id)
  exact ⟨E, ov, L, h1.nc hm', h2, hm'.keep h3 (fun hk => not_nc h3 hk.2), hm'.keep h4 (fun hk => not_nc h4 hk.2), h5, h6.then hm' (fun j hj hlt => by have := hj.1; omega), Nat.le_trans h7 hm.size⟩
/-- What the loop over lines keeps. -/
def PoI (w : World) (pre : List Bs) (W : World) : Prop :=
  ∃ E ov L, PaS (w.heap.size + 6) E w.heap.size ov L W ∧ L.map (·.1) = (pst (pre.map (flds white5))).1 ∧ W.heap[w.heap.size + 1]? = some (.cells #[.bool (pst (pre.map (flds white5))).2] 4 (0, 0)) ∧ Below w.heap.size w W ∧ w.heap.size + 3 ≤ W.heap.size
theorem kf_of {S : Nat → Prop} {a b : World} (h : Mod S a b) (hS : ∀ k, S k → ∃ c t, a.heap[k]? = some (.cells c t (0, 0))) (X : Nat) : KeepsFrom X a b :=
  ⟨h.size, fun k o _ hk hc => h.keep hk (fun hs => by
    obtain ⟨c, t, q⟩ := hS k hs
    rw [q] at hk; cases hk; cases hc)⟩
/-- A store into a box that is no text's. -/
theorem st_box {a : World} {b : Nat} {c : Array Value} {t : TypeId} (h : a.heap[b]? = some (.cells c t (0, 0))) (ht : t ≠ 9) (v : Value) (Bx X : Nat) : KeepsFrom X a (a.setCell ⟨b, 0, none⟩ v) ∧ KS Bx a (a.setCell ⟨b, 0, none⟩ v) := by
  have hm : Mod (fun k => k = b) a (a.setCell ⟨b, 0, none⟩ v) := Mod.setCell (Mod.refl (fun k => k = b) a) ⟨b, 0, none⟩ (.inr rfl) v
  exact ⟨kf_of hm (fun k hk => by subst hk; exact ⟨_, _, h⟩) X, ks_of hm (fun k hk => by subst hk; exact ⟨_, _, h, .inl ht⟩)⟩
theorem st_mq {A B : Nat} {a0 a : World} {b : Nat} (h : Mq A B a0 a) (v : Value) (hb : b < a0.heap.size → b = A ∨ b = A + 1) : Mq A B a0 (a.setCell ⟨b, 0, none⟩ v) :=
  h.then (Mod.setCell (Mod.refl (fun k => k = b) a) ⟨b, 0, none⟩ (.inr rfl) v) (fun j hj hlt => by
    subst hj
    rcases hb hlt with q | q
    · exact .inl q
    · exact .inr (.inl q))
theorem st_other {a : World} {b k : Nat} {o : Obj} (v : Value) (h : a.heap[k]? = some o) (hne : k ≠ b) : (a.setCell ⟨b, 0, none⟩ v).heap[k]? = some o :=
  (Mod.setCell (Mod.refl (fun k => k = b) a) ⟨b, 0, none⟩ (.inr rfl) v).keep h hne
theorem cellsAt_add {w : World} {g : Nat} {l : List Value} (h : CellsAt w g 0 l) : ∀ j u, l[j]? = some u → w.cell? ((⟨g, 0, none⟩ : Addr).add j) = some u := fun j u hu => by
  have := h j u hu
  rw [Nat.zero_add] at this
  rw [← this]
  unfold Addr.add
  split
  · rename_i e; subst e; rfl
  · simp
theorem PaS.pushed {A B E b6 Bx X : Nat} {ov v' b1 b2 : Value} {L : List Pv} {W V Va : World} {o : Obj} (h : PaS B E A ov L V) (hBw : B ≤ V.heap.size) (hAB : A + 1 < B) (h4 : V.heap[A + 1]? = some (.cells #[b1] 4 (0, 0))) (h6 : V.heap[b6]? = some (.cells #[b2] 4 (0, 0))) (h6A : A + 1 < b6) (hmq : Mq A B W V) (hb6 : W.heap.size ≤ b6)
    (hg : (V.alloc o).grownBy Va ov.ownBlock) (hown : Va.ownsRow B 36 1 v' (L.length + 1) (L.flatMap pvC ++ [.slice none 0 0])) :
    ∃ G cap, v' = .slice (some ⟨G, 0, none⟩) (L.length + 1) cap ∧ Va.frozen? ⟨A, 0, none⟩ = false ∧ Va.frozen? ⟨b6, 0, none⟩ = false ∧ Va.frozen? ⟨A + 1, 0, none⟩ = false ∧ Va.cell? ⟨A, 0, none⟩ = some ov ∧ Va.cell? ⟨b6, 0, none⟩ = some b2 ∧ Va.cell? ⟨A + 1, 0, none⟩ = some b1 ∧ ∃ V2, V2 = ((Va.setCell ⟨A, 0, none⟩ v').setCell ⟨b6, 0, none⟩ (.bool false)).setCell ⟨A + 1, 0, none⟩ (.bool true) ∧
      PaS B V.heap.size A v' (L ++ [(([], .slice none 0 0) : Pv)]) V2 ∧ V2.heap[A + 1]? = some (.cells #[.bool true] 4 (0, 0)) ∧ V2.heap[b6]? = some (.cells #[.bool false] 4 (0, 0)) ∧ KeepsFrom X V V2 ∧ KS Bx V V2 ∧ Mq A B W V2 ∧ V.heap.size ≤ V2.heap.size ∧ V2.cell? ⟨A, 0, none⟩ = some v' ∧ V2.cell? ⟨G, L.length, none⟩ = some (.slice none 0 0) := by
  have hb := below_alloc V o
  obtain ⟨hp, hm⟩ := h.push hBw hb hg hown
  have hon := h.on hb
  have hd := other_block hon.hd hon.row (by decide) hg
  have q4 := other_block (heap_below hb h4 (Array.getElem?_eq_some_iff.1 h4).1) hon.row (by decide) hg
  have q6 := other_block (heap_below hb h6 (Array.getElem?_eq_some_iff.1 h6).1) hon.row (by decide) hg
  have r4 := st_other (b := A) v' q4 (by omega)
  have r6 := st_other (b := A) v' q6 (by omega)
  have s4 := st_other (b := b6) (.bool false) r4 (by omega)
  have s6 : (((Va.setCell ⟨A, 0, none⟩ v').setCell ⟨b6, 0, none⟩ (.bool false)).heap[b6]? = some (.cells #[.bool false] 4 (0, 0))) := by simpa using heap_setCell_same (Va.setCell ⟨A, 0, none⟩ v') b6 0 _ _ (.bool false) r6
  have t4 : ((((Va.setCell ⟨A, 0, none⟩ v').setCell ⟨b6, 0, none⟩ (.bool false)).setCell ⟨A + 1, 0, none⟩ (.bool true)).heap[A + 1]? = some (.cells #[.bool true] 4 (0, 0))) := by simpa using heap_setCell_same ((Va.setCell ⟨A, 0, none⟩ v').setCell ⟨b6, 0, none⟩ (.bool false)) (A + 1) 0 _ _ (.bool true) s4
  have t6 := st_other (b := A + 1) (.bool true) s6 (by omega)
  have p2 := (hp.other r6 0 (.bool false)).other s4 0 (.bool true)
  obtain ⟨G, cap, hv, _, hc, _⟩ := p2.last
  have hcells : ∀ k, k = A ∨ ov.ownBlock = some k → ∃ c t, V.heap[k]? = some (.cells c t (0, 0)) ∧ (t ≠ 9 ∨ k ≠ Bx) := fun k hk => by
    rcases hk with rfl | hk
    · exact ⟨_, _, h.hd, .inl (by decide)⟩
    · obtain ⟨_, cur, q⟩ := row_cells h.row hk
      exact ⟨_, _, q, .inl (by decide)⟩
  have k1 := kf_of hm (fun k hk => by obtain ⟨c, t, q, _⟩ := hcells k hk; exact ⟨c, t, q⟩) X
  have k2 := ks_of hm hcells
  have k3 := st_box r6 (by decide) (.bool false) Bx X
  have k4 := st_box s4 (by decide) (.bool true) Bx X
  have m1 : Mq A B W (Va.setCell ⟨A, 0, none⟩ v') := hmq.then hm (fun k hk _ => by
    rcases hk with rfl | hk
    · exact .inl rfl
    · obtain ⟨hbk, cur, q⟩ := row_cells h.row hk
      exact .inr (.inr ⟨hbk, _, _, _, q⟩))
  have m2 := st_mq (b := A + 1) (st_mq (b := b6) m1 (.bool false) (fun hh => by omega)) (.bool true) (fun _ => .inr rfl)
  refine ⟨G, cap, hv, Lib.frozen_of_heap hd 0, Lib.frozen_of_heap q6 0, Lib.frozen_of_heap q4 0, by simp [World.cell?, hd], by simp [World.cell?, q6], by simp [World.cell?, q4], _, rfl, p2, t4, t6, (k1.trans k3.1).trans k4.1, (k2.trans k3.2).trans k4.2, m2, ?_, by simp [World.cell?, p2.hd], hc⟩
  have := hm.size
  simpa using this
theorem fldsF_mem (q : UInt8 → Bool) : ∀ (l cur : Bs), ∀ z ∈ fldsF q cur l, z.length ≤ cur.length + l.length
  | [], cur => fun z hz => by
    simp only [fldsF] at hz
    split at hz
    · cases hz
    · rw [List.mem_singleton] at hz; subst hz; simp
  | c :: r, cur => fun z hz => by
    simp only [fldsF] at hz
    split at hz
    · split at hz
      · have := fldsF_mem q r [] z hz; simp at this ⊢; omega
      · rcases List.mem_cons.1 hz with rfl | hz
        · simp
        · have := fldsF_mem q r [] z hz; simp at this ⊢; omega
    · have := fldsF_mem q r (cur ++ [c]) z hz; simp at this ⊢; omega
theorem cutU_len (i : Nat) (x : Bs) : (cutU i x).length ≤ x.length := by
  unfold cutU
  split
  · exact Nat.le_refl _
  · rw [unstar_eq]
    have := trimW_len x
    split
    · simp; omega
    · exact this
theorem lnL_len {y x : Bs} (h : x ∈ lnL y) : x.length ≤ y.length := by
  unfold lnL at h
  obtain ⟨i, hi, rfl⟩ := List.mem_iff_getElem.1 h
  rw [List.getElem_mapIdx]
  rw [List.length_mapIdx] at hi
  have h1 := cutU_len i (splF [] y)[i]
  have h2 := len_mem (List.getElem_mem hi)
  have h3 := (splF_sum y []).1
  simp only [List.length_nil, Nat.zero_add] at h3
  omega
theorem heap_alloc_old2 {w : World} {o o' : Obj} {k : Nat} (h : w.heap[k]? = some o') : (w.alloc o).heap[k]? = some o' := (Lib.alloc_old w o k (Array.getElem?_eq_some_iff.1 h).1).trans h
set_option maxRecDepth 100000 in
set_option maxHeartbeats 16000000 in
theorem Re.paras (y : Bs) (w : World) (hm : Mx w) (hl : y.length ≤ 900) : Calls Tryz.prog 83 #[.string (str y)] w fun e w' => ∃ v, e = .returned v ∧ WdV w' v (parsF [] ((splF [] y).mapIdx lineW)) ∧ Below w.heap.size w w' := by
  obtain ⟨i0, hi, hz0, hz1, hz2⟩ := info_parts info9
  obtain ⟨i1, hj, hy0, hy1, hy2⟩ := info_parts info36
  have HI := Lib.hid hi
  have HZ0 := Lib.hid hz0
  have HZ1 := Lib.hid hz1
  have HZ2 := Lib.hid hz2
  have HJ := Lib.hid hj
  have HY0 := Lib.hid hy0
  have HY1 := Lib.hid hy1
  have HY2 := Lib.hid hy2
  -- how many words there are
  have hbd : ((lnL y).map fun x => (flds white5 x).length).sum ≤ 900 ∧ (lnL y).length ≤ 901 := by
    have h1 := splF_sum y []
    have h2 := sum_mapIdx (splF [] y) 0 lineW lineW_len
    have h3 := lnL_words y
    refine ⟨?_, ?_⟩
    · have e : ((lnL y).map fun x => (flds white5 x).length).sum = (((splF [] y).mapIdx lineW).map (·.length)).sum := by rw [h3, List.map_map]; rfl
      rw [e]
      simp only [Nat.zero_add, List.length_nil] at h1 h2
      omega
    · unfold lnL
      rw [List.length_mapIdx]
      omega
  rw [lnL_words]
  obtain ⟨W0, hW0⟩ : ∃ W0, W0 = ((w.alloc (.cells #[.slice none 0 0] 92)).alloc (.cells #[.bool false] 4)).alloc (.cells #[.string (str y)] 9) := ⟨_, rfl⟩
  have hs0 : W0.heap.size = w.heap.size + 3 := by rw [hW0]; simp
  have hb0 : Below w.heap.size w W0 := by rw [hW0]; exact (((Below.refl _ _).alloc (Nat.le_refl _) _).alloc (by simp) _).alloc (by simp; omega) _
  have e0 : W0.heap[w.heap.size]? = some (.cells #[.slice none 0 0] 92 (0, 0)) := by
    rw [hW0]; exact heap_alloc_old' _ (heap_alloc_old' _ (heap_alloc_new _ _))
  have e1 : W0.heap[w.heap.size + 1]? = some (.cells #[.bool false] 4 (0, 0)) := by
    have := heap_alloc_new (w.alloc (.cells #[.slice none 0 0] 92)) (.cells #[.bool false] 4)
    rw [hW0]; exact heap_alloc_old' _ (by simpa using this)
  have e2 : W0.heap[w.heap.size + 2]? = some (.cells #[.string (str y)] 9 (0, 0)) := by
    have := heap_alloc_new ((w.alloc (.cells #[.slice none 0 0] 92)).alloc (.cells #[.bool false] 4)) (.cells #[.string (str y)] 9)
    rw [hW0]; simpa using this
  have hseq := Lw.lseq 4 (w.heap.size + 2) (str y) W0 (W0.heap.size + 2) e2 (by rw [str_size]; omega) (hm.of hb0 hm.pos)
  rw [dl_str] at hseq
  have hI0 : PoI w [] W0 := ⟨w.heap.size + 6, .slice none 0 0, [], ⟨e0, World.ownsRow_nil _ _ _ _, fun c hc => (by cases hc), fun c hc => (by cases hc), Nat.le_refl _, fun h => absurd rfl h⟩, rfl, e1, hb0, by omega⟩
  have HSEQ := Lib.hid hseq
  have HS0 := Lib.hid hs0
  have HI0 := Lib.hid hI0
  have HW0 := Lib.hid hW0
  have HBD := Lib.hid hbd
  have HYL := Lib.hid hl
  clear hW0 hs0 hb0 e0 e1 e2 hseq hI0 hbd hm hl hi hz0 hz1 hz2 hj hy0 hy1 hy2
  refine (callsIn_wide (n := 5)).1 ?_
  refine callsIn_of_wp_marks Tryz.func83 rfl trivial ?_ rfl
  simp only [Tryz.ntmps83, List.size_toArray, List.length_cons, List.length_nil, Nat.reduceAdd, Nat.reduceSub, Array.replicate_succ, Array.replicate_zero, List.push_toArray, List.append_toArray, List.nil_append, List.cons_append]
  gi_wp2_with (fail)
  refine ⟨trivial, ?_⟩
  refine (callsIn_wide.2 (Lw.lines (str y) _)).mono ?_
  rintro e w2 ⟨rfl, rfl⟩
  rw [← HW0.out]
  gi_wp2_with (fail)
  refine wpIn_rangeFunc_asgH rfl (by omega) (gf := 119) (lb := #[.pointer (some ⟨w.heap.size + 1 + 1, 0, none⟩)]) rfl trivial (enters_of Tryz.func119 (by kernel_rfl) rfl)
    HSEQ.out (fun k hk => hk.elim) (fun h k => h.trans k) (fun W l o o' hl hW ho _ => KL.putObj hW ho) (Below.refl _ _) (fun _ => rfl)
    (PoI w) (fun _ _ _ => False)
    (fun t A B ⟨E, ov, L, h1, h2, h3, h4, h5⟩ hm => by
      have hs0 := HS0.out
      have hm' : Mod (fun k => W0.heap.size ≤ k ∧ nc A k) A B := hm.mono (fun k _ hk => hk.elim (fun h => h.elim) id)
      exact ⟨E, ov, L, h1.nc hm', h2, hm'.keep h3 (fun hk => by have := hk.1; omega), h4.trans (hm'.below (by have := h4.size; omega) (fun k hk => by have := hk.1; omega)), Nat.le_trans h5 hm.size⟩)
    (fun c t A B h _ => h)
    HI0.out
    (fun (x : Bs) a' W => a' = { tmps := #[.string (str y), undef, .slice none 0 0, .pointer (some ⟨w.heap.size, 0, none⟩), .pointer (some ⟨w.heap.size + 1, 0, none⟩), .string (str x), undef, undef, undef, .string (str y), .func (.func 119) #[] #[.pointer (some ⟨w.heap.size + 1 + 1, 0, none⟩)], .string (str x), undef, undef, undef, undef, undef, undef, undef, undef, undef, undef, undef, undef, undef, undef, undef, undef, undef, undef, undef, undef, undef, undef, undef, undef, undef, undef, undef], defers := [] })
    (fun h => KL.of_below h)
    (fun p a' W l o o' hl ho ha => ha)
    ?assign ?body ?done ?stop
  case assign =>
    intro L z W K hK
    gi_wp2
    exact hK _ _ (Below.refl _ _) rfl
  case body =>
    rintro L0 pre x a' W hl0 ⟨r0, hr0⟩ ⟨E, ov, L, hst, hL, hrun, hbW, hsz⟩ ⟨r, hr⟩ rfl
    have hs0 := HS0.out
    have hLW := (Array.getElem?_eq_some_iff.1 hr0).1
    obtain ⟨ls, hls⟩ : ∃ ls, pre.map (flds white5) = ls := ⟨_, rfl⟩
    have hnx : pst ((pre ++ [x]).map (flds white5)) = (adW (pst ls).1 (pst ls).2 (flds white5 x), !(flds white5 x).isEmpty) := by
      rw [List.map_append, hls]; exact pst_snoc _ _
    have hsum : ((pst ls).1.map (·.length)).sum + (flds white5 x).length ≤ 900 ∧ (pst ls).1.length ≤ 901 := by
      have h1 := HBD.out
      rw [hr] at h1
      obtain ⟨h2, h3⟩ := pst_sum ls
      have h4 : (ls.map (·.length)).sum = (pre.map fun z => (flds white5 z).length).sum := by rw [← hls, List.map_map]; rfl
      have h5 : ls.length = pre.length := by rw [← hls]; simp
      simp only [List.map_append, List.sum_append, List.map_cons, List.sum_cons, List.length_append, List.length_cons] at h1
      exact ⟨by omega, by omega⟩
    have hne := pst_ne ls
    rw [hls] at hL hrun
    generalize (pst ls).1 = Q at *
    generalize (pst ls).2 = o at *
    have hxl : (str x).size ≤ 1000000000 := by
      have h1 : x ∈ lnL y := by rw [hr]; simp
      have := lnL_len h1
      have := HYL.out
      rw [str_size]; omega
    obtain ⟨W2, hW2⟩ : ∃ W2, W2 = (W.alloc (.cells #[.bool true] 4)).alloc (.cells #[.string (str x)] 9) := ⟨_, rfl⟩
    have hs2 : W2.heap.size = W.heap.size + 2 := by rw [hW2]; simp
    have hb2 : Below W.heap.size W W2 := by rw [hW2]; exact ((Below.refl _ _).alloc (Nat.le_refl _) _).alloc (by simp) _
    have e6 : W2.heap[W.heap.size]? = some (.cells #[.bool true] 4 (0, 0)) := by rw [hW2]; exact heap_alloc_old' _ (heap_alloc_new _ _)
    have ex : W2.heap[W.heap.size + 1]? = some (.cells #[.string (str x)] 9 (0, 0)) := by
      have := heap_alloc_new (W.alloc (.cells #[.bool true] 4)) (.cells #[.string (str x)] 9)
      rw [hW2]; simpa using this
    have hr2 : W2.heap[L0]? = some (.loop r0) := heap_below hb2 hr0 hLW
    have hseq := Lw.wseq 2 (W.heap.size + 1) (str x) W2 ex hxl
    rw [dl_str] at hseq
    have hbx : Bxs w.heap.size W := ⟨⟨_, _, hst.hd⟩, _, _, hrun⟩
    have hI2 : PiI w.heap.size (w.heap.size + 6) W.heap.size (W.heap.size + 1) W W2 Q o [] W2 := by
      refine ⟨E, ov, L, hst.on hb2, by rw [hL]; rfl, ?_, e6, fun c hc => ?_, Mq.of_below hb2, Nat.le_refl _⟩
      · have := heap_below hb2 hrun (Array.getElem?_eq_some_iff.1 hrun).1
        simpa using this
      · intro hk
        obtain ⟨_, cur, q⟩ := row_cells (hst.new c hc) hk
        have := (Array.getElem?_eq_some_iff.1 q).1
        omega
    have hzl : ∀ z ∈ flds white5 x, z.length ≤ 900 := fun z hz => by
      have h1 := fldsF_mem white5 x [] z hz
      have h2 : x ∈ lnL y := by rw [hr]; simp
      have := lnL_len h2
      have := HYL.out
      simp only [List.length_nil, Nat.zero_add] at h1
      omega
    generalize hF : flds white5 x = fx at *
    have HZL := Lib.hid hzl
    have HSEQ2 := Lib.hid hseq
    have HS2 := Lib.hid hs2
    have HI2 := Lib.hid hI2
    have HW2 := Lib.hid hW2
    have HR2 := Lib.hid hr2
    have HNX := Lib.hid hnx
    have HSUM := Lib.hid hsum
    have HNE := Lib.hid hne
    have HBX := Lib.hid hbx
    have HBW := Lib.hid hbW
    clear hst hL hrun hbW hnx hsum hne hW2 hs2 hb2 e6 ex hr2 hseq hbx hI2 hls hF hr hr0 hxl hzl
    gi_wp2_with (fail)
    refine ⟨trivial, ?_⟩
    refine (CallsIn.inRound _ (callsIn_wide.2 (Lw.words (str x) _))).mono ?_
    rintro e w3 ⟨rfl, rfl⟩
    rw [← HW2.out]
    gi_wp2_with (fail)
    refine wpIn_rangeFunc_asgN (l₀ := L0) rfl HR2.out (by omega) (gf := 123) (lb := #[.pointer (some ⟨W.heap.size + 1, 0, none⟩)]) rfl trivial (enters_of Tryz.func123 (by kernel_rfl) rfl)
      (HSEQ2.out.inRound L0) (fun k hk => hk.elim) (fun h k => h.trans k) (fun V l o o' hl hV ho hw => KS.putObj hV ho hw) (Below.refl _ _) (fun _ => rfl)
      (PiI w.heap.size (w.heap.size + 6) W.heap.size (W.heap.size + 1) W W2 Q o) (fun _ _ _ => False)
      (PiI.keep (by have := HS2.out; omega))
      (fun c t A B h _ => h)
      HI2.out
      (fun (z : Bs) a' V => a' = { tmps := #[.string (str y), undef, .slice none 0 0, .pointer (some ⟨w.heap.size, 0, none⟩), .pointer (some ⟨w.heap.size + 1, 0, none⟩), .string (str x), .pointer (some ⟨W.heap.size, 0, none⟩), .string (str z), undef, .string (str y), .func (.func 119) #[] #[.pointer (some ⟨w.heap.size + 1 + 1, 0, none⟩)], .string (str x), .string (str x), .func (.func 123) #[] #[.pointer (some ⟨W.heap.size + 1, 0, none⟩)], .string (str z), undef, undef, undef, undef, undef, undef, undef, undef, undef, undef, undef, undef, undef, undef, undef, undef, undef, undef, undef, undef, undef, undef, undef, undef], defers := [] })
      (fun h => KS.of_below h)
      (fun p a' W l o o' hl ho ha => ha)
      ?assign2 ?body2 ?done2 ?stop2
    case assign2 =>
      intro L z W K hK
      gi_wp2
      exact hK _ _ (Below.refl _ _) rfl
    case body2 =>
      rintro L1 prew z a' V hl1 ⟨r1, hr1⟩ ⟨E, ov, L, hst, hL, hrun, hem, hnb, hmq, hVs⟩ ⟨rw, hrw⟩ rfl
      have hs0 := HS0.out
      have hs2 := HS2.out
      have hsum2 : (L.map fun p => p.1.length).sum + 1 ≤ 900 ∧ L.length ≤ 902 := by
        have h1 := HSUM.out
        obtain ⟨h2, h3⟩ := adW_sum Q o prew
        rw [← hL, List.map_map] at h2
        rw [← hL, List.length_map] at h3
        rw [hrw] at h1
        simp only [List.length_append, List.length_cons] at h1
        have e : (L.map fun p => p.1.length).sum = (L.map ((fun x => x.length) ∘ fun x => x.fst)).sum := rfl
        rw [e]
        exact ⟨by omega, by omega⟩
      obtain ⟨sm, sl⟩ := hsum2
      have hzl : (str z).size ≤ 1000 := by
        have := HZL.out z (by rw [hrw]; simp)
        rw [str_size]; omega
      have c6 : V.cell? ⟨W.heap.size, 0, none⟩ = some (.bool prew.isEmpty) := by simp [World.cell?, hem]
      have c4 : V.cell? ⟨w.heap.size + 1, 0, none⟩ = some (.bool (o || !prew.isEmpty)) := by simp [World.cell?, hrun]
      have HST := Lib.hid hst
      have HL := Lib.hid hL
      have HRUN := Lib.hid hrun
      have HEM := Lib.hid hem
      have HNB := Lib.hid hnb
      have HMQ := Lib.hid hmq
      have HRW := Lib.hid hrw
      clear hst hL hrun hem hnb hmq hrw hr1
      by_cases hpath : prew = [] ∧ o = false
      · obtain ⟨rfl, rfl⟩ := hpath
        have c6' : V.cell? ⟨W.heap.size, 0, none⟩ = some (.bool true) := c6
        have c4' : V.cell? ⟨w.heap.size + 1, 0, none⟩ = some (.bool false) := c4
        obtain ⟨la, lc, rfl⟩ := row_shape HST.out.row
        have c3 : V.cell? ⟨w.heap.size, 0, none⟩ = some (.slice la L.length lc) := by simp [World.cell?, HST.out.hd]
        obtain ⟨d, rfl⟩ : ∃ d, d = L := ⟨_, rfl⟩
        have hBV : w.heap.size + 6 ≤ V.heap.size := by omega
        clear c6 c4
        gi_wp2_with (gi_at_builtin; refine wpListIn_append_own _ rfl _ _ 92 rfl (w.heap.size + 6) 36 i1 (.slice none 0 0) 1 24 Tryz.underlying92 HJ.out HY0.out HY1.out HY2.out rfl (by decide) _ _ _ rfl (HST.out.row.alloc _) ⟨V.heap.size, 0, none⟩ 1 1 [.slice none 0 0] rfl rfl (cell_one_new _ _ _) (fun u hu => by simp at hu; subst hu; rfl) (by unfold maxLen; omega) (by omega) (by simp; omega) ?_; intro v' Va hown' hgrow _; obtain ⟨G, cap, hv', p1, p2, p3, p4, p5, p6, V2, hV2, hPP⟩ := PaS.pushed (Bx := W.heap.size + 1) (X := W2.heap.size) HST.out hBV (by omega) HRUN.out HEM.out (by omega) HMQ.out (Nat.le_refl _) hgrow hown'; subst hv'; have k3 := hPP.2.2.2.2.2.2.2.1; rw [hV2] at k3; have HPP := Lib.hid hPP; have HV2 := Lib.hid hV2; clear hPP hV2 hown' hgrow)
        rw [← HV2.out]
        obtain ⟨hP2, hR2, hE2, hkf, hks, hmq2, hVV, _, hCE⟩ := HPP.out
        have hVV2 : W.heap.size + 2 ≤ V2.heap.size := by omega
        have hdl : d.length ≤ 902 := sl
        obtain ⟨c, hc⟩ : ∃ c : Pv, c = ([], .slice none 0 0) := ⟨_, rfl⟩
        have HNB2 : Hid (c.2.ownBlock ≠ some (W.heap.size + 1)) := Lib.hid (by rw [hc]; intro h; cases h)
        have HD1 : Hid (adW Q false ([] ++ [z]) = d.map (·.1) ++ [c.1 ++ [z]]) := Lib.hid (by rw [adW_new, HL.out, hc]; rfl)
        have sm : ((d ++ [c]).map fun p => p.1.length).sum + 1 ≤ 900 := by rw [hc]; simp; simpa using sm
        rw [← hc] at hP2
        rw [show (Value.slice none 0 0) = c.2 by rw [hc]] at hCE
        have HP2 := Lib.hid hP2
        have HR2 := Lib.hid hR2
        have HE2 := Lib.hid hE2
        have HKV := Lib.hid (show KeepsFrom W2.heap.size V V2 ∧ KS (W.heap.size + 1) V V2 from ⟨hkf, hks⟩)
        have HMQ2 := Lib.hid hmq2
        have HVV := Lib.hid hVV2
        have HCE := Lib.hid hCE
        clear hP2 hR2 hE2 hkf hks hmq2 hVV hVV2 hCE hc k3 p1 p2 p3 p4 p5 p6 c3 sl
        have hnew := HP2.out.new c (by simp)
        obtain ⟨xa, xc, hxv⟩ := row_shape hnew
        rw [hxv] at hnew
        have hP2 := HP2.out
        have hG2 : ∃ cur, V2.heap[G]? = some (.cells cur 36 (0, 0)) := (row_cells (by simpa using hP2.row) rfl).2
        obtain ⟨curG, hG2⟩ := hG2
        have hnvb : ∀ k, c.2.ownBlock = some k → k < V2.heap.size ∧ ∃ cs, V2.heap[k]? = some (.cells cs 9 (0, 0)) := fun k hk => by
          rw [hxv] at hk
          obtain ⟨_, cur, q⟩ := row_cells hnew hk
          exact ⟨(Array.getElem?_eq_some_iff.1 q).1, cur, q⟩
        have hNG : ¬ c.2.ownBlock = some G := fun hk => by
          obtain ⟨_, cs, q⟩ := hnvb G hk
          rw [hG2] at q
          simp at q
        have hNA : ¬ c.2.ownBlock = some w.heap.size := fun hk => by
          obtain ⟨_, cs, q⟩ := hnvb _ hk
          rw [hP2.hd] at q
          simp at q
        have hleE := hP2.leE (by simp)
        rw [hxv] at hNG hNA hnvb
        have hcl : c.1.length ≤ 900 := by
          have := sm
          simp at this
          omega
        have HNW := Lib.hid hnew
        have HG2 := Lib.hid hG2
        have HNG := Lib.hid hNG
        have HNA := Lib.hid hNA
        have HNVB := Lib.hid hnvb
        have HLE := Lib.hid hleE
        have HXV := Lib.hid hxv
        have hG3 : V2.cell? ⟨G, d.length, none⟩ = some (.slice xa c.1.length xc) := by rw [← hxv]; exact HCE.out
        have HCE := Lib.hid hG3
        clear hnew hG2 hNG hNA hnvb hleE hxv hP2 hG3
        refine wpIn_region_one_tail 11 9 (i13 V2 (.slice xa c.1.length xc)) (l13 (.slice xa c.1.length xc)) (p13 V.heap.size V2.heap.size G d.length (.slice (some ⟨G, 0, none⟩) (d.length + 1) cap) (.slice xa c.1.length xc) z c.1) (by kernel_rfl) (by decide) (by kernel_rfl) (by kernel_rfl) (show Below V2.heap.size V2 (World.drew V2) from ⟨rfl, rfl, rfl, Nat.le_refl _, fun _ _ => rfl⟩) (i13_step V2 _) (p13_mono V2 _ _ _ _ _ _ _ (fun k hk => (HNVB.out k hk).1)) ?_ ?_
        · intro i o ho v b w5 hcb hiv hd K hK
          have hi : i < 11 := (List.getElem?_eq_some_iff.1 ho).1
          have HK := Lib.hid hK
          have HIV := Lib.hid hiv
          have HMOD := Lib.hid (i13_mod hiv)
          clear hK hiv
          have hi11 : i = 0 ∨ i = 1 ∨ i = 2 ∨ i = 3 ∨ i = 4 ∨ i = 5 ∨ i = 6 ∨ i = 7 ∨ i = 8 ∨ i = 9 ∨ i = 10 := by omega
          rcases hi11 with rfl | rfl | rfl | rfl | rfl | rfl | rfl | rfl | rfl | rfl | rfl
          · -- op 0
            have cf : w5.cell? ⟨w.heap.size, 0, none⟩ = some (.slice (some ⟨G, 0, none⟩) (d.length + 1) cap) := by simp [World.cell?, HMOD.out.keep HP2.out.hd (fun hk => HNA.out hk)]
            cases ho
            try clear hd
            simp only [List.take_succ_cons, List.take_zero, putAll, Act.put, List.setIfInBounds_toArray, List.set_cons_succ, List.set_cons_zero, Nat.reduceAdd, Nat.zero_add]
            go_wp2_with fail
            have q := HK.out (.slice (some ⟨G, 0, none⟩) (d.length + 1) cap) w5 rfl (l13_read (by decide) (Below.refl _ _))
            simp only [List.take_succ_cons, List.take_zero, putAll, Act.put, List.setIfInBounds_toArray, List.set_cons_succ, List.set_cons_zero, Nat.reduceAdd, Nat.zero_add] at q
            exact q
          · -- op 1
            skip
            cases ho
            try clear hd
            simp only [List.take_succ_cons, List.take_zero, putAll, Act.put, List.setIfInBounds_toArray, List.set_cons_succ, List.set_cons_zero, Nat.reduceAdd, Nat.zero_add]
            go_wp2_with fail
            have q := HK.out (.int .i64 d.length) w5 rfl (l13_read (by decide) (Below.refl _ _))
            simp only [List.take_succ_cons, List.take_zero, putAll, Act.put, List.setIfInBounds_toArray, List.set_cons_succ, List.set_cons_zero, Nat.reduceAdd, Nat.zero_add] at q
            exact q
          · -- op 2
            have cf : w5.cell? ⟨w.heap.size, 0, none⟩ = some (.slice (some ⟨G, 0, none⟩) (d.length + 1) cap) := by simp [World.cell?, HMOD.out.keep HP2.out.hd (fun hk => HNA.out hk)]
            cases ho
            try clear hd
            simp only [List.take_succ_cons, List.take_zero, putAll, Act.put, List.setIfInBounds_toArray, List.set_cons_succ, List.set_cons_zero, Nat.reduceAdd, Nat.zero_add]
            go_wp2_with fail
            have q := HK.out (.slice (some ⟨G, 0, none⟩) (d.length + 1) cap) w5 rfl (l13_read (by decide) (Below.refl _ _))
            simp only [List.take_succ_cons, List.take_zero, putAll, Act.put, List.setIfInBounds_toArray, List.set_cons_succ, List.set_cons_zero, Nat.reduceAdd, Nat.zero_add] at q
            exact q
          · -- op 3
            skip
            cases ho
            try clear hd
            simp only [List.take_succ_cons, List.take_zero, putAll, Act.put, List.setIfInBounds_toArray, List.set_cons_succ, List.set_cons_zero, Nat.reduceAdd, Nat.zero_add]
            go_wp2_with fail
            have q := HK.out (.int .i64 d.length) w5 rfl (l13_read (by decide) (Below.refl _ _))
            simp only [List.take_succ_cons, List.take_zero, putAll, Act.put, List.setIfInBounds_toArray, List.set_cons_succ, List.set_cons_zero, Nat.reduceAdd, Nat.zero_add] at q
            exact q
          · -- op 4
            have h2 : v 2 = .slice (some ⟨G, 0, none⟩) (d.length + 1) cap := hd 2 (by kernel_rfl)
            have h3 : v 3 = .int .i64 d.length := hd 3 (by kernel_rfl)
            cases ho
            try clear hd
            simp only [List.take_succ_cons, List.take_zero, putAll, Act.put, List.setIfInBounds_toArray, List.set_cons_succ, List.set_cons_zero, Nat.reduceAdd, Nat.zero_add, h2, h3]
            go_wp2_with fail
            have q := HK.out (.pointer (some ⟨G, d.length, none⟩)) w5 rfl (l13_read (by decide) (Below.refl _ _))
            simp only [List.take_succ_cons, List.take_zero, putAll, Act.put, List.setIfInBounds_toArray, List.set_cons_succ, List.set_cons_zero, Nat.reduceAdd, Nat.zero_add, h2, h3] at q
            exact q
          · -- op 5
            have h4 : v 4 = .pointer (some ⟨G, d.length, none⟩) := hd 4 (by kernel_rfl)
            have cf : w5.cell? ⟨G, d.length, none⟩ = some (.slice xa c.1.length xc) := by rw [← HCE.out]; simp only [World.cell?]; rw [HMOD.out.keep HG2.out (fun hk => HNG.out hk), HG2.out]
            cases ho
            try clear hd
            simp only [List.take_succ_cons, List.take_zero, putAll, Act.put, List.setIfInBounds_toArray, List.set_cons_succ, List.set_cons_zero, Nat.reduceAdd, Nat.zero_add, h4]
            go_wp2_with fail
            have q := HK.out (.slice xa c.1.length xc) w5 rfl (l13_read (by decide) (Below.refl _ _))
            simp only [List.take_succ_cons, List.take_zero, putAll, Act.put, List.setIfInBounds_toArray, List.set_cons_succ, List.set_cons_zero, Nat.reduceAdd, Nat.zero_add, h4] at q
            exact q
          · -- op 6
            skip
            cases ho
            try clear hd
            simp only [List.take_succ_cons, List.take_zero, putAll, Act.put, List.setIfInBounds_toArray, List.set_cons_succ, List.set_cons_zero, Nat.reduceAdd, Nat.zero_add]
            go_wp2_with fail
            have q := HK.out (.string (str z)) w5 rfl (l13_read (by decide) (Below.refl _ _))
            simp only [List.take_succ_cons, List.take_zero, putAll, Act.put, List.setIfInBounds_toArray, List.set_cons_succ, List.set_cons_zero, Nat.reduceAdd, Nat.zero_add] at q
            exact q
          · -- op 7
            have h6 : v 6 = .string (str z) := hd 6 (by kernel_rfl)
            cases ho
            try clear hd
            simp only [List.take_succ_cons, List.take_zero, putAll, Act.put, List.setIfInBounds_toArray, List.set_cons_succ, List.set_cons_zero, Nat.reduceAdd, Nat.zero_add, h6]
            go_wp2_with fail
            refine (Re.clone (str z) _ (by omega)).mono ?_
            rintro e w6 ⟨rfl, b6⟩
            have B6 := Lib.hid b6
            clear b6
            go_wp2_with fail
            have q := HK.out (.string (str z)) w6 rfl (l13_read (by decide) B6.out)
            simp only [List.take_succ_cons, List.take_zero, putAll, Act.put, List.setIfInBounds_toArray, List.set_cons_succ, List.set_cons_zero, Nat.reduceAdd, Nat.zero_add, h6] at q
            exact q
          · -- op 8
            have h7 : v 7 = .string (str z) := hd 7 (by kernel_rfl)
            cases ho
            try clear hd
            simp only [List.take_succ_cons, List.take_zero, putAll, Act.put, List.setIfInBounds_toArray, List.set_cons_succ, List.set_cons_zero, Nat.reduceAdd, Nat.zero_add, h7]
            go_wp2_with fail
            have q := HK.out (.slice (some ⟨w5.heap.size, 0, none⟩) 1 1) (w5.alloc (.cells #[.string (str z)] 9)) ⟨_, rfl, HMOD.out.size, heap_alloc_new _ _⟩ (l13_read (by decide) (below_alloc _ _))
            simp only [List.take_succ_cons, List.take_zero, putAll, Act.put, List.setIfInBounds_toArray, List.set_cons_succ, List.set_cons_zero, Nat.reduceAdd, Nat.zero_add, h7] at q
            exact q
          · -- op 9
            have hbf := hcb rfl
            subst hbf
            have hb5 : Below V2.heap.size V2 w5 := HIV.out
            have h5 : v 5 = .slice xa c.1.length xc := hd 5 (by kernel_rfl)
            obtain ⟨g, h8, hgl, hg⟩ : ∃ g, v 8 = .slice (some ⟨g, 0, none⟩) 1 1 ∧ V2.heap.size ≤ g ∧ w5.heap[g]? = some (.cells #[.string (str z)] 9 (0, 0)) := hd 8 (by kernel_rfl)
            have HGC := Lib.hid (CellsAt.of_heap hg)
            have HNV := Lib.hid (own_on HNW.out hb5)
            have HB5 := Lib.hid hb5
            have hl5 := hb5.size
            clear hg hb5
            cases ho
            try clear hd
            simp only [List.take_succ_cons, List.take_zero, putAll, Act.put, List.setIfInBounds_toArray, List.set_cons_succ, List.set_cons_zero, Nat.reduceAdd, Nat.zero_add, h5, h8]
            go_wp2_with (at_builtin; go_loud (refine wpList_append_own_at _ rfl _ _ 36 rfl V.heap.size 9 i0 (.string ⟨#[]⟩) 1 16 Tryz.underlying36 HI.out HZ0.out HZ1.out HZ2.out rfl (by decide) _ c.1.length _ rfl HNV.out ⟨g, 0, none⟩ 1 1 [.string (str z)] rfl rfl (cellsAt_add HGC.out) (fun u hu => by simp at hu; subst hu; rfl) (by unfold maxLen; omega) (by omega) (by have := HLE.out; omega) ?_); intro v' w6 hown' hgrow _ hat; have HOWN := Lib.hid hown'; have HGR := Lib.hid hgrow; have HAT := Lib.hid hat; obtain ⟨va, vc, hva⟩ := row_shape hown'; subst hva; clear hown' hgrow hat)
            have q := HK.out (.slice va (c.1.length + 1) vc) w6 ⟨HOWN.out, HAT.out.imp id (fun h => ⟨_, h, hl5⟩)⟩ (by unfold l13; rw [if_pos rfl]; exact HGR.out)
            simp only [List.take_succ_cons, List.take_zero, putAll, Act.put, List.setIfInBounds_toArray, List.set_cons_succ, List.set_cons_zero, Nat.reduceAdd, Nat.zero_add, h5, h8] at q
            exact q
          · -- op 10
            have h0 : v 0 = .slice (some ⟨G, 0, none⟩) (d.length + 1) cap := hd 0 (by kernel_rfl)
            have h1 : v 1 = .int .i64 d.length := hd 1 (by kernel_rfl)
            cases ho
            try clear hd
            simp only [List.take_succ_cons, List.take_zero, putAll, Act.put, List.setIfInBounds_toArray, List.set_cons_succ, List.set_cons_zero, Nat.reduceAdd, Nat.zero_add, h0, h1]
            go_wp2_with fail
            have q := HK.out (.pointer (some ⟨G, d.length, none⟩)) w5 rfl (l13_read (by decide) (Below.refl _ _))
            simp only [List.take_succ_cons, List.take_zero, putAll, Act.put, List.setIfInBounds_toArray, List.set_cons_succ, List.set_cons_zero, Nat.reduceAdd, Nat.zero_add, h0, h1] at q
            exact q
        · intro v w5 hiv hv
          have hmod : Mod (fun k => (Value.slice xa c.1.length xc).ownBlock = some k) V2 w5 := i13_mod hiv
          obtain ⟨hown, hat⟩ : w5.ownsRow V.heap.size 9 1 (v 9) (c.1.length + 1) (c.1.flatMap sB ++ [Value.string (str z)]) ∧ ((v 9).ownBlock = (Value.slice xa c.1.length xc).ownBlock ∨ ∃ k, (v 9).ownBlock = some k ∧ V2.heap.size ≤ k) := hv 9 (by decide)
          have h10 : v 10 = .pointer (some ⟨G, d.length, none⟩) := hv 10 (by decide)
          obtain ⟨va, vc, h9⟩ := row_shape hown
          rw [h9] at hown hat
          have hG5 := hmod.keep HG2.out (fun hk => HNG.out hk)
          have f5 : w5.frozen? ⟨G, d.length, none⟩ = false := Lib.frozen_of_heap hG5 _
          have d5 : w5.cell? ⟨G, d.length, none⟩ = some (.slice xa c.1.length xc) := by rw [← HCE.out]; simp only [World.cell?]; rw [hG5, HG2.out]
          have HMOD := Lib.hid hmod
          have HOWN := Lib.hid hown
          have HAT := Lib.hid hat
          clear hmod hown hat hv hiv hG5
          simp only [List.drop_succ_cons, List.drop_zero, List.take_succ_cons, List.take_zero, putAll, Act.put, List.setIfInBounds_toArray, List.set_cons_succ, List.set_cons_zero, Nat.reduceAdd, Nat.zero_add, h9, h10]
          generalize v 0 = v0
          generalize v 1 = v1
          generalize v 2 = v2
          generalize v 3 = v3
          generalize v 4 = v4
          generalize v 5 = v5
          generalize v 6 = v6
          generalize v 7 = v7
          generalize v 8 = v8
          clear h9 h10
          clear v
          go_wp2_with fail
          refine NoOut.normal ?_
          gi_wp2_with (fail)
          have hgr := HP2.out.grow (ts := c.1 ++ [z]) (v' := .slice va (c.1.length + 1) vc) (by rw [HXV.out]; exact HMOD.out) (by have := HOWN.out; rw [List.flatMap_append, List.length_append]; simpa [sB] using this)
          obtain ⟨q1, q2, q3, q4⟩ := hgr
          rw [HXV.out] at q2
          have hcells : ∀ k, k = G ∨ (Value.slice xa c.1.length xc).ownBlock = some k → ∃ cs t, V2.heap[k]? = some (.cells cs t (0, 0)) ∧ (t ≠ 9 ∨ k ≠ W.heap.size + 1) := fun k hk => by
            rcases hk with rfl | hk
            · exact ⟨_, _, HG2.out, .inl (by decide)⟩
            · obtain ⟨_, cs, q⟩ := HNVB.out k hk
              exact ⟨_, _, q, .inr (fun e => HNB2.out (by rw [HXV.out, hk, e]))⟩
          refine ⟨HKV.out.1.trans (kf_of q2 (fun k hk => by obtain ⟨cs, t, q, _⟩ := hcells k hk; exact ⟨cs, t, q⟩) _), HKV.out.2.trans (ks_of q2 hcells), V.heap.size, _, _, q1, ?_, ?_, ?_, ?_, ?_, ?_⟩
          · rw [HD1.out, List.map_append]; rfl
          · have := Mod.keep q2 HR2.out (fun hk => by
              rcases hk with e | hk
              · have := HG2.out; rw [← e, HR2.out] at this; simp at this
              · obtain ⟨_, cs, q⟩ := HNVB.out _ hk
                rw [HR2.out] at q; simp at q)
            rw [this]; simp
          · have := Mod.keep q2 HE2.out (fun hk => by
              rcases hk with e | hk
              · have := HG2.out; rw [← e, HE2.out] at this; simp at this
              · obtain ⟨_, cs, q⟩ := HNVB.out _ hk
                rw [HE2.out] at q; simp at q)
            rw [this]; simp
          · intro c' hc'
            have : c' = ((c.1 ++ [z], .slice va (c.1.length + 1) vc) : Pv) := by simpa using hc'.symm
            subst this
            rcases HAT.out with e | ⟨k, e, hk⟩
            · simp only
              rw [e, ← HXV.out]
              exact HNB2.out
            · simp only
              rw [e]
              have := HVV.out
              intro h
              simp only [Option.some.injEq] at h
              omega
          · refine HMQ2.out.then q2 (fun k hk hlt => ?_)
            rcases hk with rfl | hk
            · exact .inr (.inr ⟨q3, _, _, _, HG2.out⟩)
            · obtain ⟨_, cs, q⟩ := HNVB.out k hk
              obtain ⟨he, _⟩ := row_cells HNW.out hk
              exact .inr (.inr ⟨Nat.le_trans HP2.out.leB he, _, _, _, q⟩)
          · have := q2.size
            have := HVV.out
            omega
      · have hor : prew ≠ [] ∨ o = true ∧ Q ≠ [] := by
          by_cases h : prew = []
          · refine .inr ⟨?_, ?_⟩
            · cases o with
              | true => rfl
              | false => exact absurd ⟨h, rfl⟩ hpath
            · refine HNE.out ?_
              cases o with
              | true => rfl
              | false => exact absurd ⟨h, rfl⟩ hpath
          · exact .inl h
        obtain ⟨d0, c0, hd0, hd1⟩ := adW_last z hor
        have hL0 := HL.out
        rw [hd0] at hL0
        obtain ⟨d, c, rfl⟩ : ∃ d c, L = d ++ [c] := by
          rcases last_cases L with rfl | h
          · simp at hL0
          · exact h
        have hdc : d.map (·.1) = d0 ∧ c.1 = c0 := by
          rw [List.map_append] at hL0
          have := List.append_inj' hL0 rfl
          exact ⟨this.1, by simpa using this.2⟩
        obtain ⟨rfl, rfl⟩ := hdc
        have HD1 := Lib.hid hd1
        clear hL0 hd0 hd1 hpath
        cases hpe : prew.isEmpty with
        | true =>
          have hot : o = true := by
            rcases hor with h | h
            · rw [List.isEmpty_iff] at hpe; exact absurd hpe h
            · exact h.1
          subst hot
          rw [hpe] at c6 c4
          have HPE := Lib.hid hpe
          clear hor hpe
          obtain ⟨G, cap, rfl, hBG, hcell, hfz⟩ := HST.out.last
          have hBx2 : W.heap.size ≠ w.heap.size := by have := HBW.out.size; omega
          have f6 : V.frozen? ⟨W.heap.size, 0, none⟩ = false := Lib.frozen_of_heap HEM.out 0
          have f4 : V.frozen? ⟨w.heap.size + 1, 0, none⟩ = false := Lib.frozen_of_heap HRUN.out 0
          obtain ⟨V1, hV1⟩ : ∃ V1, V1 = V.setCell ⟨W.heap.size, 0, none⟩ (.bool false) := ⟨_, rfl⟩
          obtain ⟨V2, hV2⟩ : ∃ V2, V2 = V1.setCell ⟨w.heap.size + 1, 0, none⟩ (.bool true) := ⟨_, rfl⟩
          have hVV : W.heap.size + 2 ≤ V2.heap.size := by rw [hV2, hV1]; simp; omega
          have hR1 := st_other (b := W.heap.size) (.bool false) HRUN.out (by omega)
          rw [← hV1] at hR1
          have hR2 : V2.heap[w.heap.size + 1]? = some (.cells #[.bool true] 4 (0, 0)) := by rw [hV2]; simpa using heap_setCell_same V1 (w.heap.size + 1) 0 _ _ (.bool true) hR1
          have hE1 : V1.heap[W.heap.size]? = some (.cells #[.bool false] 4 (0, 0)) := by rw [hV1]; simpa using heap_setCell_same V W.heap.size 0 _ _ (.bool false) HEM.out
          have hE2 : V2.heap[W.heap.size]? = some (.cells #[.bool false] 4 (0, 0)) := by rw [hV2]; exact st_other _ hE1 (by omega)
          have hP1 := HST.out.other HEM.out 0 (.bool false)
          rw [← hV1] at hP1
          have hP2 := hP1.other hR1 0 (.bool true)
          rw [← hV2] at hP2
          have hkv1 := st_box HEM.out (by decide) (.bool false) (W.heap.size + 1) W2.heap.size
          rw [← hV1] at hkv1
          have hkv2 := st_box hR1 (by decide) (.bool true) (W.heap.size + 1) W2.heap.size
          rw [← hV2] at hkv2
          have hmq2 := st_mq (b := w.heap.size + 1) (st_mq (b := W.heap.size) HMQ.out (.bool false) (fun h => by omega)) (.bool true) (fun _ => .inr rfl)
          rw [← hV1, ← hV2] at hmq2
          have hnb2 := HNB.out c (by simp)
          have hCE2 : V2.cell? ⟨G, d.length, none⟩ = some c.2 := by
            obtain ⟨G', cap', he, _, hc', _⟩ := hP2.last
            simp only [Value.slice.injEq, Option.some.injEq, Addr.mk.injEq] at he
            rw [he.1.1]; exact hc'
          have k3 : V2.cell? ⟨w.heap.size, 0, none⟩ = some (.slice (some ⟨G, 0, none⟩) (d.length + 1) cap) := by simp [World.cell?, hP2.hd]
          have hVW : V2 = (V.setCell ⟨W.heap.size, 0, none⟩ (.bool false)).setCell ⟨w.heap.size + 1, 0, none⟩ (.bool true) := by rw [hV2, hV1]
          rw [hVW] at k3
          have hdl : d.length ≤ 902 := by simp at sl; omega
          have HP2 := Lib.hid hP2
          have HR2 := Lib.hid hR2
          have HE2 := Lib.hid hE2
          have HKV := Lib.hid (show KeepsFrom W2.heap.size V V2 ∧ KS (W.heap.size + 1) V V2 from ⟨hkv1.1.trans hkv2.1, hkv1.2.trans hkv2.2⟩)
          have HMQ2 := Lib.hid hmq2
          have HNB2 := Lib.hid hnb2
          have HV2 := Lib.hid hVW
          have HVV := Lib.hid hVV
          have HCE := Lib.hid hCE2
          clear hV1 hV2 hVV hVW hcell hfz sl hR1 hR2 hE1 hE2 hP1 hP2 hkv1 hkv2 hmq2 hnb2 hCE2
          clear V1
          gi_wp2_with (fail)
          rw [← HV2.out]
          clear k3 f6 f4
          have hnew := HP2.out.new c (by simp)
          obtain ⟨xa, xc, hxv⟩ := row_shape hnew
          rw [hxv] at hnew
          have hP2 := HP2.out
          have hG2 : ∃ cur, V2.heap[G]? = some (.cells cur 36 (0, 0)) := (row_cells (by simpa using hP2.row) rfl).2
          obtain ⟨curG, hG2⟩ := hG2
          have hnvb : ∀ k, c.2.ownBlock = some k → k < V2.heap.size ∧ ∃ cs, V2.heap[k]? = some (.cells cs 9 (0, 0)) := fun k hk => by
            rw [hxv] at hk
            obtain ⟨_, cur, q⟩ := row_cells hnew hk
            exact ⟨(Array.getElem?_eq_some_iff.1 q).1, cur, q⟩
          have hNG : ¬ c.2.ownBlock = some G := fun hk => by
            obtain ⟨_, cs, q⟩ := hnvb G hk
            rw [hG2] at q
            simp at q
          have hNA : ¬ c.2.ownBlock = some w.heap.size := fun hk => by
            obtain ⟨_, cs, q⟩ := hnvb _ hk
            rw [hP2.hd] at q
            simp at q
          have hleE := hP2.leE (by simp)
          rw [hxv] at hNG hNA hnvb
          have hcl : c.1.length ≤ 900 := by
            have := sm
            simp at this
            omega
          have HNW := Lib.hid hnew
          have HG2 := Lib.hid hG2
          have HNG := Lib.hid hNG
          have HNA := Lib.hid hNA
          have HNVB := Lib.hid hnvb
          have HLE := Lib.hid hleE
          have HXV := Lib.hid hxv
          have hG3 : V2.cell? ⟨G, d.length, none⟩ = some (.slice xa c.1.length xc) := by rw [← hxv]; exact HCE.out
          have HCE := Lib.hid hG3
          clear hnew hG2 hNG hNA hnvb hleE hxv hP2 hG3
          refine wpIn_region_one_tail 11 9 (i13 V2 (.slice xa c.1.length xc)) (l13 (.slice xa c.1.length xc)) (p13 E V2.heap.size G d.length (.slice (some ⟨G, 0, none⟩) (d.length + 1) cap) (.slice xa c.1.length xc) z c.1) (by kernel_rfl) (by decide) (by kernel_rfl) (by kernel_rfl) (show Below V2.heap.size V2 (World.drew V2) from ⟨rfl, rfl, rfl, Nat.le_refl _, fun _ _ => rfl⟩) (i13_step V2 _) (p13_mono V2 _ _ _ _ _ _ _ (fun k hk => (HNVB.out k hk).1)) ?_ ?_
          · intro i o ho v b w5 hcb hiv hd K hK
            have hi : i < 11 := (List.getElem?_eq_some_iff.1 ho).1
            have HK := Lib.hid hK
            have HIV := Lib.hid hiv
            have HMOD := Lib.hid (i13_mod hiv)
            clear hK hiv
            have hi11 : i = 0 ∨ i = 1 ∨ i = 2 ∨ i = 3 ∨ i = 4 ∨ i = 5 ∨ i = 6 ∨ i = 7 ∨ i = 8 ∨ i = 9 ∨ i = 10 := by omega
            rcases hi11 with rfl | rfl | rfl | rfl | rfl | rfl | rfl | rfl | rfl | rfl | rfl
            · -- op 0
              have cf : w5.cell? ⟨w.heap.size, 0, none⟩ = some (.slice (some ⟨G, 0, none⟩) (d.length + 1) cap) := by simp [World.cell?, HMOD.out.keep HP2.out.hd (fun hk => HNA.out hk)]
              cases ho
              try clear hd
              simp only [List.take_succ_cons, List.take_zero, putAll, Act.put, List.setIfInBounds_toArray, List.set_cons_succ, List.set_cons_zero, Nat.reduceAdd, Nat.zero_add]
              go_wp2_with fail
              have q := HK.out (.slice (some ⟨G, 0, none⟩) (d.length + 1) cap) w5 rfl (l13_read (by decide) (Below.refl _ _))
              simp only [List.take_succ_cons, List.take_zero, putAll, Act.put, List.setIfInBounds_toArray, List.set_cons_succ, List.set_cons_zero, Nat.reduceAdd, Nat.zero_add] at q
              exact q
            · -- op 1
              skip
              cases ho
              try clear hd
              simp only [List.take_succ_cons, List.take_zero, putAll, Act.put, List.setIfInBounds_toArray, List.set_cons_succ, List.set_cons_zero, Nat.reduceAdd, Nat.zero_add]
              go_wp2_with fail
              have q := HK.out (.int .i64 d.length) w5 rfl (l13_read (by decide) (Below.refl _ _))
              simp only [List.take_succ_cons, List.take_zero, putAll, Act.put, List.setIfInBounds_toArray, List.set_cons_succ, List.set_cons_zero, Nat.reduceAdd, Nat.zero_add] at q
              exact q
            · -- op 2
              have cf : w5.cell? ⟨w.heap.size, 0, none⟩ = some (.slice (some ⟨G, 0, none⟩) (d.length + 1) cap) := by simp [World.cell?, HMOD.out.keep HP2.out.hd (fun hk => HNA.out hk)]
              cases ho
              try clear hd
              simp only [List.take_succ_cons, List.take_zero, putAll, Act.put, List.setIfInBounds_toArray, List.set_cons_succ, List.set_cons_zero, Nat.reduceAdd, Nat.zero_add]
              go_wp2_with fail
              have q := HK.out (.slice (some ⟨G, 0, none⟩) (d.length + 1) cap) w5 rfl (l13_read (by decide) (Below.refl _ _))
              simp only [List.take_succ_cons, List.take_zero, putAll, Act.put, List.setIfInBounds_toArray, List.set_cons_succ, List.set_cons_zero, Nat.reduceAdd, Nat.zero_add] at q
              exact q
            · -- op 3
              skip
              cases ho
              try clear hd
              simp only [List.take_succ_cons, List.take_zero, putAll, Act.put, List.setIfInBounds_toArray, List.set_cons_succ, List.set_cons_zero, Nat.reduceAdd, Nat.zero_add]
              go_wp2_with fail
              have q := HK.out (.int .i64 d.length) w5 rfl (l13_read (by decide) (Below.refl _ _))
              simp only [List.take_succ_cons, List.take_zero, putAll, Act.put, List.setIfInBounds_toArray, List.set_cons_succ, List.set_cons_zero, Nat.reduceAdd, Nat.zero_add] at q
              exact q
            · -- op 4
              have h2 : v 2 = .slice (some ⟨G, 0, none⟩) (d.length + 1) cap := hd 2 (by kernel_rfl)
              have h3 : v 3 = .int .i64 d.length := hd 3 (by kernel_rfl)
              cases ho
              try clear hd
              simp only [List.take_succ_cons, List.take_zero, putAll, Act.put, List.setIfInBounds_toArray, List.set_cons_succ, List.set_cons_zero, Nat.reduceAdd, Nat.zero_add, h2, h3]
              go_wp2_with fail
              have q := HK.out (.pointer (some ⟨G, d.length, none⟩)) w5 rfl (l13_read (by decide) (Below.refl _ _))
              simp only [List.take_succ_cons, List.take_zero, putAll, Act.put, List.setIfInBounds_toArray, List.set_cons_succ, List.set_cons_zero, Nat.reduceAdd, Nat.zero_add, h2, h3] at q
              exact q
            · -- op 5
              have h4 : v 4 = .pointer (some ⟨G, d.length, none⟩) := hd 4 (by kernel_rfl)
              have cf : w5.cell? ⟨G, d.length, none⟩ = some (.slice xa c.1.length xc) := by rw [← HCE.out]; simp only [World.cell?]; rw [HMOD.out.keep HG2.out (fun hk => HNG.out hk), HG2.out]
              cases ho
              try clear hd
              simp only [List.take_succ_cons, List.take_zero, putAll, Act.put, List.setIfInBounds_toArray, List.set_cons_succ, List.set_cons_zero, Nat.reduceAdd, Nat.zero_add, h4]
              go_wp2_with fail
              have q := HK.out (.slice xa c.1.length xc) w5 rfl (l13_read (by decide) (Below.refl _ _))
              simp only [List.take_succ_cons, List.take_zero, putAll, Act.put, List.setIfInBounds_toArray, List.set_cons_succ, List.set_cons_zero, Nat.reduceAdd, Nat.zero_add, h4] at q
              exact q
            · -- op 6
              skip
              cases ho
              try clear hd
              simp only [List.take_succ_cons, List.take_zero, putAll, Act.put, List.setIfInBounds_toArray, List.set_cons_succ, List.set_cons_zero, Nat.reduceAdd, Nat.zero_add]
              go_wp2_with fail
              have q := HK.out (.string (str z)) w5 rfl (l13_read (by decide) (Below.refl _ _))
              simp only [List.take_succ_cons, List.take_zero, putAll, Act.put, List.setIfInBounds_toArray, List.set_cons_succ, List.set_cons_zero, Nat.reduceAdd, Nat.zero_add] at q
              exact q
            · -- op 7
              have h6 : v 6 = .string (str z) := hd 6 (by kernel_rfl)
              cases ho
              try clear hd
              simp only [List.take_succ_cons, List.take_zero, putAll, Act.put, List.setIfInBounds_toArray, List.set_cons_succ, List.set_cons_zero, Nat.reduceAdd, Nat.zero_add, h6]
              go_wp2_with fail
              refine (Re.clone (str z) _ (by omega)).mono ?_
              rintro e w6 ⟨rfl, b6⟩
              have B6 := Lib.hid b6
              clear b6
              go_wp2_with fail
              have q := HK.out (.string (str z)) w6 rfl (l13_read (by decide) B6.out)
              simp only [List.take_succ_cons, List.take_zero, putAll, Act.put, List.setIfInBounds_toArray, List.set_cons_succ, List.set_cons_zero, Nat.reduceAdd, Nat.zero_add, h6] at q
              exact q
            · -- op 8
              have h7 : v 7 = .string (str z) := hd 7 (by kernel_rfl)
              cases ho
              try clear hd
              simp only [List.take_succ_cons, List.take_zero, putAll, Act.put, List.setIfInBounds_toArray, List.set_cons_succ, List.set_cons_zero, Nat.reduceAdd, Nat.zero_add, h7]
              go_wp2_with fail
              have q := HK.out (.slice (some ⟨w5.heap.size, 0, none⟩) 1 1) (w5.alloc (.cells #[.string (str z)] 9)) ⟨_, rfl, HMOD.out.size, heap_alloc_new _ _⟩ (l13_read (by decide) (below_alloc _ _))
              simp only [List.take_succ_cons, List.take_zero, putAll, Act.put, List.setIfInBounds_toArray, List.set_cons_succ, List.set_cons_zero, Nat.reduceAdd, Nat.zero_add, h7] at q
              exact q
            · -- op 9
              have hbf := hcb rfl
              subst hbf
              have hb5 : Below V2.heap.size V2 w5 := HIV.out
              have h5 : v 5 = .slice xa c.1.length xc := hd 5 (by kernel_rfl)
              obtain ⟨g, h8, hgl, hg⟩ : ∃ g, v 8 = .slice (some ⟨g, 0, none⟩) 1 1 ∧ V2.heap.size ≤ g ∧ w5.heap[g]? = some (.cells #[.string (str z)] 9 (0, 0)) := hd 8 (by kernel_rfl)
              have HGC := Lib.hid (CellsAt.of_heap hg)
              have HNV := Lib.hid (own_on HNW.out hb5)
              have HB5 := Lib.hid hb5
              have hl5 := hb5.size
              clear hg hb5
              cases ho
              try clear hd
              simp only [List.take_succ_cons, List.take_zero, putAll, Act.put, List.setIfInBounds_toArray, List.set_cons_succ, List.set_cons_zero, Nat.reduceAdd, Nat.zero_add, h5, h8]
              go_wp2_with (at_builtin; go_loud (refine wpList_append_own_at _ rfl _ _ 36 rfl E 9 i0 (.string ⟨#[]⟩) 1 16 Tryz.underlying36 HI.out HZ0.out HZ1.out HZ2.out rfl (by decide) _ c.1.length _ rfl HNV.out ⟨g, 0, none⟩ 1 1 [.string (str z)] rfl rfl (cellsAt_add HGC.out) (fun u hu => by simp at hu; subst hu; rfl) (by unfold maxLen; omega) (by omega) (by have := HLE.out; omega) ?_); intro v' w6 hown' hgrow _ hat; have HOWN := Lib.hid hown'; have HGR := Lib.hid hgrow; have HAT := Lib.hid hat; obtain ⟨va, vc, hva⟩ := row_shape hown'; subst hva; clear hown' hgrow hat)
              have q := HK.out (.slice va (c.1.length + 1) vc) w6 ⟨HOWN.out, HAT.out.imp id (fun h => ⟨_, h, hl5⟩)⟩ (by unfold l13; rw [if_pos rfl]; exact HGR.out)
              simp only [List.take_succ_cons, List.take_zero, putAll, Act.put, List.setIfInBounds_toArray, List.set_cons_succ, List.set_cons_zero, Nat.reduceAdd, Nat.zero_add, h5, h8] at q
              exact q
            · -- op 10
              have h0 : v 0 = .slice (some ⟨G, 0, none⟩) (d.length + 1) cap := hd 0 (by kernel_rfl)
              have h1 : v 1 = .int .i64 d.length := hd 1 (by kernel_rfl)
              cases ho
              try clear hd
              simp only [List.take_succ_cons, List.take_zero, putAll, Act.put, List.setIfInBounds_toArray, List.set_cons_succ, List.set_cons_zero, Nat.reduceAdd, Nat.zero_add, h0, h1]
              go_wp2_with fail
              have q := HK.out (.pointer (some ⟨G, d.length, none⟩)) w5 rfl (l13_read (by decide) (Below.refl _ _))
              simp only [List.take_succ_cons, List.take_zero, putAll, Act.put, List.setIfInBounds_toArray, List.set_cons_succ, List.set_cons_zero, Nat.reduceAdd, Nat.zero_add, h0, h1] at q
              exact q
          · intro v w5 hiv hv
            have hmod : Mod (fun k => (Value.slice xa c.1.length xc).ownBlock = some k) V2 w5 := i13_mod hiv
            obtain ⟨hown, hat⟩ : w5.ownsRow E 9 1 (v 9) (c.1.length + 1) (c.1.flatMap sB ++ [Value.string (str z)]) ∧ ((v 9).ownBlock = (Value.slice xa c.1.length xc).ownBlock ∨ ∃ k, (v 9).ownBlock = some k ∧ V2.heap.size ≤ k) := hv 9 (by decide)
            have h10 : v 10 = .pointer (some ⟨G, d.length, none⟩) := hv 10 (by decide)
            obtain ⟨va, vc, h9⟩ := row_shape hown
            rw [h9] at hown hat
            have hG5 := hmod.keep HG2.out (fun hk => HNG.out hk)
            have f5 : w5.frozen? ⟨G, d.length, none⟩ = false := Lib.frozen_of_heap hG5 _
            have d5 : w5.cell? ⟨G, d.length, none⟩ = some (.slice xa c.1.length xc) := by rw [← HCE.out]; simp only [World.cell?]; rw [hG5, HG2.out]
            have HMOD := Lib.hid hmod
            have HOWN := Lib.hid hown
            have HAT := Lib.hid hat
            clear hmod hown hat hv hiv hG5
            simp only [List.drop_succ_cons, List.drop_zero, List.take_succ_cons, List.take_zero, putAll, Act.put, List.setIfInBounds_toArray, List.set_cons_succ, List.set_cons_zero, Nat.reduceAdd, Nat.zero_add, h9, h10]
            generalize v 0 = v0
            generalize v 1 = v1
            generalize v 2 = v2
            generalize v 3 = v3
            generalize v 4 = v4
            generalize v 5 = v5
            generalize v 6 = v6
            generalize v 7 = v7
            generalize v 8 = v8
            clear h9 h10
            clear v
            go_wp2_with fail
            refine NoOut.normal ?_
            gi_wp2_with (fail)
            have hgr := HP2.out.grow (ts := c.1 ++ [z]) (v' := .slice va (c.1.length + 1) vc) (by rw [HXV.out]; exact HMOD.out) (by have := HOWN.out; rw [List.flatMap_append, List.length_append]; simpa [sB] using this)
            obtain ⟨q1, q2, q3, q4⟩ := hgr
            rw [HXV.out] at q2
            have hcells : ∀ k, k = G ∨ (Value.slice xa c.1.length xc).ownBlock = some k → ∃ cs t, V2.heap[k]? = some (.cells cs t (0, 0)) ∧ (t ≠ 9 ∨ k ≠ W.heap.size + 1) := fun k hk => by
              rcases hk with rfl | hk
              · exact ⟨_, _, HG2.out, .inl (by decide)⟩
              · obtain ⟨_, cs, q⟩ := HNVB.out k hk
                exact ⟨_, _, q, .inr (fun e => HNB2.out (by rw [HXV.out, hk, e]))⟩
            refine ⟨HKV.out.1.trans (kf_of q2 (fun k hk => by obtain ⟨cs, t, q, _⟩ := hcells k hk; exact ⟨cs, t, q⟩) _), HKV.out.2.trans (ks_of q2 hcells), E, _, _, q1, ?_, ?_, ?_, ?_, ?_, ?_⟩
            · rw [HD1.out, List.map_append]; rfl
            · have := Mod.keep q2 HR2.out (fun hk => by
                rcases hk with e | hk
                · have := HG2.out; rw [← e, HR2.out] at this; simp at this
                · obtain ⟨_, cs, q⟩ := HNVB.out _ hk
                  rw [HR2.out] at q; simp at q)
              rw [this]; simp
            · have := Mod.keep q2 HE2.out (fun hk => by
                rcases hk with e | hk
                · have := HG2.out; rw [← e, HE2.out] at this; simp at this
                · obtain ⟨_, cs, q⟩ := HNVB.out _ hk
                  rw [HE2.out] at q; simp at q)
              rw [this]; simp
            · intro c' hc'
              have : c' = ((c.1 ++ [z], .slice va (c.1.length + 1) vc) : Pv) := by simpa using hc'.symm
              subst this
              rcases HAT.out with e | ⟨k, e, hk⟩
              · simp only
                rw [e, ← HXV.out]
                exact HNB2.out
              · simp only
                rw [e]
                have := HVV.out
                intro h
                simp only [Option.some.injEq] at h
                omega
            · refine HMQ2.out.then q2 (fun k hk hlt => ?_)
              rcases hk with rfl | hk
              · exact .inr (.inr ⟨q3, _, _, _, HG2.out⟩)
              · obtain ⟨_, cs, q⟩ := HNVB.out k hk
                obtain ⟨he, _⟩ := row_cells HNW.out hk
                exact .inr (.inr ⟨Nat.le_trans HP2.out.leB he, _, _, _, q⟩)
            · have := q2.size
              have := HVV.out
              omega
        | false =>
          rw [hpe] at c6 c4
          have c4' : V.cell? ⟨w.heap.size + 1, 0, none⟩ = some (.bool true) := by rw [c4, Bool.or_comm]; rfl
          have HPE := Lib.hid hpe
          clear hor hpe c4
          obtain ⟨G, cap, rfl, hBG, hcell, hfz⟩ := HST.out.last
          have hBx2 : W.heap.size ≠ w.heap.size := by have := HBW.out.size; omega
          have f6 : V.frozen? ⟨W.heap.size, 0, none⟩ = false := Lib.frozen_of_heap HEM.out 0
          have f4 : V.frozen? ⟨w.heap.size + 1, 0, none⟩ = false := Lib.frozen_of_heap HRUN.out 0
          obtain ⟨V1, hV1⟩ : ∃ V1, V1 = V.setCell ⟨W.heap.size, 0, none⟩ (.bool false) := ⟨_, rfl⟩
          obtain ⟨V2, hV2⟩ : ∃ V2, V2 = V1.setCell ⟨w.heap.size + 1, 0, none⟩ (.bool true) := ⟨_, rfl⟩
          have hVV : W.heap.size + 2 ≤ V2.heap.size := by rw [hV2, hV1]; simp; omega
          have hR1 := st_other (b := W.heap.size) (.bool false) HRUN.out (by omega)
          rw [← hV1] at hR1
          have hR2 : V2.heap[w.heap.size + 1]? = some (.cells #[.bool true] 4 (0, 0)) := by rw [hV2]; simpa using heap_setCell_same V1 (w.heap.size + 1) 0 _ _ (.bool true) hR1
          have hE1 : V1.heap[W.heap.size]? = some (.cells #[.bool false] 4 (0, 0)) := by rw [hV1]; simpa using heap_setCell_same V W.heap.size 0 _ _ (.bool false) HEM.out
          have hE2 : V2.heap[W.heap.size]? = some (.cells #[.bool false] 4 (0, 0)) := by rw [hV2]; exact st_other _ hE1 (by omega)
          have hP1 := HST.out.other HEM.out 0 (.bool false)
          rw [← hV1] at hP1
          have hP2 := hP1.other hR1 0 (.bool true)
          rw [← hV2] at hP2
          have hkv1 := st_box HEM.out (by decide) (.bool false) (W.heap.size + 1) W2.heap.size
          rw [← hV1] at hkv1
          have hkv2 := st_box hR1 (by decide) (.bool true) (W.heap.size + 1) W2.heap.size
          rw [← hV2] at hkv2
          have hmq2 := st_mq (b := w.heap.size + 1) (st_mq (b := W.heap.size) HMQ.out (.bool false) (fun h => by omega)) (.bool true) (fun _ => .inr rfl)
          rw [← hV1, ← hV2] at hmq2
          have hnb2 := HNB.out c (by simp)
          have hCE2 : V2.cell? ⟨G, d.length, none⟩ = some c.2 := by
            obtain ⟨G', cap', he, _, hc', _⟩ := hP2.last
            simp only [Value.slice.injEq, Option.some.injEq, Addr.mk.injEq] at he
            rw [he.1.1]; exact hc'
          have k3 : V2.cell? ⟨w.heap.size, 0, none⟩ = some (.slice (some ⟨G, 0, none⟩) (d.length + 1) cap) := by simp [World.cell?, hP2.hd]
          have hVW : V2 = (V.setCell ⟨W.heap.size, 0, none⟩ (.bool false)).setCell ⟨w.heap.size + 1, 0, none⟩ (.bool true) := by rw [hV2, hV1]
          rw [hVW] at k3
          have hdl : d.length ≤ 902 := by simp at sl; omega
          have HP2 := Lib.hid hP2
          have HR2 := Lib.hid hR2
          have HE2 := Lib.hid hE2
          have HKV := Lib.hid (show KeepsFrom W2.heap.size V V2 ∧ KS (W.heap.size + 1) V V2 from ⟨hkv1.1.trans hkv2.1, hkv1.2.trans hkv2.2⟩)
          have HMQ2 := Lib.hid hmq2
          have HNB2 := Lib.hid hnb2
          have HV2 := Lib.hid hVW
          have HVV := Lib.hid hVV
          have HCE := Lib.hid hCE2
          clear hV1 hV2 hVV hVW hcell hfz sl hR1 hR2 hE1 hE2 hP1 hP2 hkv1 hkv2 hmq2 hnb2 hCE2
          clear V1
          gi_wp2_with (fail)
          rw [← HV2.out]
          clear k3 f6 f4
          have hnew := HP2.out.new c (by simp)
          obtain ⟨xa, xc, hxv⟩ := row_shape hnew
          rw [hxv] at hnew
          have hP2 := HP2.out
          have hG2 : ∃ cur, V2.heap[G]? = some (.cells cur 36 (0, 0)) := (row_cells (by simpa using hP2.row) rfl).2
          obtain ⟨curG, hG2⟩ := hG2
          have hnvb : ∀ k, c.2.ownBlock = some k → k < V2.heap.size ∧ ∃ cs, V2.heap[k]? = some (.cells cs 9 (0, 0)) := fun k hk => by
            rw [hxv] at hk
            obtain ⟨_, cur, q⟩ := row_cells hnew hk
            exact ⟨(Array.getElem?_eq_some_iff.1 q).1, cur, q⟩
          have hNG : ¬ c.2.ownBlock = some G := fun hk => by
            obtain ⟨_, cs, q⟩ := hnvb G hk
            rw [hG2] at q
            simp at q
          have hNA : ¬ c.2.ownBlock = some w.heap.size := fun hk => by
            obtain ⟨_, cs, q⟩ := hnvb _ hk
            rw [hP2.hd] at q
            simp at q
          have hleE := hP2.leE (by simp)
          rw [hxv] at hNG hNA hnvb
          have hcl : c.1.length ≤ 900 := by
            have := sm
            simp at this
            omega
          have HNW := Lib.hid hnew
          have HG2 := Lib.hid hG2
          have HNG := Lib.hid hNG
          have HNA := Lib.hid hNA
          have HNVB := Lib.hid hnvb
          have HLE := Lib.hid hleE
          have HXV := Lib.hid hxv
          have hG3 : V2.cell? ⟨G, d.length, none⟩ = some (.slice xa c.1.length xc) := by rw [← hxv]; exact HCE.out
          have HCE := Lib.hid hG3
          clear hnew hG2 hNG hNA hnvb hleE hxv hP2 hG3
          refine wpIn_region_one_tail 11 9 (i13 V2 (.slice xa c.1.length xc)) (l13 (.slice xa c.1.length xc)) (p13 E V2.heap.size G d.length (.slice (some ⟨G, 0, none⟩) (d.length + 1) cap) (.slice xa c.1.length xc) z c.1) (by kernel_rfl) (by decide) (by kernel_rfl) (by kernel_rfl) (show Below V2.heap.size V2 (World.drew V2) from ⟨rfl, rfl, rfl, Nat.le_refl _, fun _ _ => rfl⟩) (i13_step V2 _) (p13_mono V2 _ _ _ _ _ _ _ (fun k hk => (HNVB.out k hk).1)) ?_ ?_
          · intro i o ho v b w5 hcb hiv hd K hK
            have hi : i < 11 := (List.getElem?_eq_some_iff.1 ho).1
            have HK := Lib.hid hK
            have HIV := Lib.hid hiv
            have HMOD := Lib.hid (i13_mod hiv)
            clear hK hiv
            have hi11 : i = 0 ∨ i = 1 ∨ i = 2 ∨ i = 3 ∨ i = 4 ∨ i = 5 ∨ i = 6 ∨ i = 7 ∨ i = 8 ∨ i = 9 ∨ i = 10 := by omega
            rcases hi11 with rfl | rfl | rfl | rfl | rfl | rfl | rfl | rfl | rfl | rfl | rfl
            · -- op 0
              have cf : w5.cell? ⟨w.heap.size, 0, none⟩ = some (.slice (some ⟨G, 0, none⟩) (d.length + 1) cap) := by simp [World.cell?, HMOD.out.keep HP2.out.hd (fun hk => HNA.out hk)]
              cases ho
              try clear hd
              simp only [List.take_succ_cons, List.take_zero, putAll, Act.put, List.setIfInBounds_toArray, List.set_cons_succ, List.set_cons_zero, Nat.reduceAdd, Nat.zero_add]
              go_wp2_with fail
              have q := HK.out (.slice (some ⟨G, 0, none⟩) (d.length + 1) cap) w5 rfl (l13_read (by decide) (Below.refl _ _))
              simp only [List.take_succ_cons, List.take_zero, putAll, Act.put, List.setIfInBounds_toArray, List.set_cons_succ, List.set_cons_zero, Nat.reduceAdd, Nat.zero_add] at q
              exact q
            · -- op 1
              skip
              cases ho
              try clear hd
              simp only [List.take_succ_cons, List.take_zero, putAll, Act.put, List.setIfInBounds_toArray, List.set_cons_succ, List.set_cons_zero, Nat.reduceAdd, Nat.zero_add]
              go_wp2_with fail
              have q := HK.out (.int .i64 d.length) w5 rfl (l13_read (by decide) (Below.refl _ _))
              simp only [List.take_succ_cons, List.take_zero, putAll, Act.put, List.setIfInBounds_toArray, List.set_cons_succ, List.set_cons_zero, Nat.reduceAdd, Nat.zero_add] at q
              exact q
            · -- op 2
              have cf : w5.cell? ⟨w.heap.size, 0, none⟩ = some (.slice (some ⟨G, 0, none⟩) (d.length + 1) cap) := by simp [World.cell?, HMOD.out.keep HP2.out.hd (fun hk => HNA.out hk)]
              cases ho
              try clear hd
              simp only [List.take_succ_cons, List.take_zero, putAll, Act.put, List.setIfInBounds_toArray, List.set_cons_succ, List.set_cons_zero, Nat.reduceAdd, Nat.zero_add]
              go_wp2_with fail
              have q := HK.out (.slice (some ⟨G, 0, none⟩) (d.length + 1) cap) w5 rfl (l13_read (by decide) (Below.refl _ _))
              simp only [List.take_succ_cons, List.take_zero, putAll, Act.put, List.setIfInBounds_toArray, List.set_cons_succ, List.set_cons_zero, Nat.reduceAdd, Nat.zero_add] at q
              exact q
            · -- op 3
              skip
              cases ho
              try clear hd
              simp only [List.take_succ_cons, List.take_zero, putAll, Act.put, List.setIfInBounds_toArray, List.set_cons_succ, List.set_cons_zero, Nat.reduceAdd, Nat.zero_add]
              go_wp2_with fail
              have q := HK.out (.int .i64 d.length) w5 rfl (l13_read (by decide) (Below.refl _ _))
              simp only [List.take_succ_cons, List.take_zero, putAll, Act.put, List.setIfInBounds_toArray, List.set_cons_succ, List.set_cons_zero, Nat.reduceAdd, Nat.zero_add] at q
              exact q
            · -- op 4
              have h2 : v 2 = .slice (some ⟨G, 0, none⟩) (d.length + 1) cap := hd 2 (by kernel_rfl)
              have h3 : v 3 = .int .i64 d.length := hd 3 (by kernel_rfl)
              cases ho
              try clear hd
              simp only [List.take_succ_cons, List.take_zero, putAll, Act.put, List.setIfInBounds_toArray, List.set_cons_succ, List.set_cons_zero, Nat.reduceAdd, Nat.zero_add, h2, h3]
              go_wp2_with fail
              have q := HK.out (.pointer (some ⟨G, d.length, none⟩)) w5 rfl (l13_read (by decide) (Below.refl _ _))
              simp only [List.take_succ_cons, List.take_zero, putAll, Act.put, List.setIfInBounds_toArray, List.set_cons_succ, List.set_cons_zero, Nat.reduceAdd, Nat.zero_add, h2, h3] at q
              exact q
            · -- op 5
              have h4 : v 4 = .pointer (some ⟨G, d.length, none⟩) := hd 4 (by kernel_rfl)
              have cf : w5.cell? ⟨G, d.length, none⟩ = some (.slice xa c.1.length xc) := by rw [← HCE.out]; simp only [World.cell?]; rw [HMOD.out.keep HG2.out (fun hk => HNG.out hk), HG2.out]
              cases ho
              try clear hd
              simp only [List.take_succ_cons, List.take_zero, putAll, Act.put, List.setIfInBounds_toArray, List.set_cons_succ, List.set_cons_zero, Nat.reduceAdd, Nat.zero_add, h4]
              go_wp2_with fail
              have q := HK.out (.slice xa c.1.length xc) w5 rfl (l13_read (by decide) (Below.refl _ _))
              simp only [List.take_succ_cons, List.take_zero, putAll, Act.put, List.setIfInBounds_toArray, List.set_cons_succ, List.set_cons_zero, Nat.reduceAdd, Nat.zero_add, h4] at q
              exact q
            · -- op 6
              skip
              cases ho
              try clear hd
              simp only [List.take_succ_cons, List.take_zero, putAll, Act.put, List.setIfInBounds_toArray, List.set_cons_succ, List.set_cons_zero, Nat.reduceAdd, Nat.zero_add]
              go_wp2_with fail
              have q := HK.out (.string (str z)) w5 rfl (l13_read (by decide) (Below.refl _ _))
              simp only [List.take_succ_cons, List.take_zero, putAll, Act.put, List.setIfInBounds_toArray, List.set_cons_succ, List.set_cons_zero, Nat.reduceAdd, Nat.zero_add] at q
              exact q
            · -- op 7
              have h6 : v 6 = .string (str z) := hd 6 (by kernel_rfl)
              cases ho
              try clear hd
              simp only [List.take_succ_cons, List.take_zero, putAll, Act.put, List.setIfInBounds_toArray, List.set_cons_succ, List.set_cons_zero, Nat.reduceAdd, Nat.zero_add, h6]
              go_wp2_with fail
              refine (Re.clone (str z) _ (by omega)).mono ?_
              rintro e w6 ⟨rfl, b6⟩
              have B6 := Lib.hid b6
              clear b6
              go_wp2_with fail
              have q := HK.out (.string (str z)) w6 rfl (l13_read (by decide) B6.out)
              simp only [List.take_succ_cons, List.take_zero, putAll, Act.put, List.setIfInBounds_toArray, List.set_cons_succ, List.set_cons_zero, Nat.reduceAdd, Nat.zero_add, h6] at q
              exact q
            · -- op 8
              have h7 : v 7 = .string (str z) := hd 7 (by kernel_rfl)
              cases ho
              try clear hd
              simp only [List.take_succ_cons, List.take_zero, putAll, Act.put, List.setIfInBounds_toArray, List.set_cons_succ, List.set_cons_zero, Nat.reduceAdd, Nat.zero_add, h7]
              go_wp2_with fail
              have q := HK.out (.slice (some ⟨w5.heap.size, 0, none⟩) 1 1) (w5.alloc (.cells #[.string (str z)] 9)) ⟨_, rfl, HMOD.out.size, heap_alloc_new _ _⟩ (l13_read (by decide) (below_alloc _ _))
              simp only [List.take_succ_cons, List.take_zero, putAll, Act.put, List.setIfInBounds_toArray, List.set_cons_succ, List.set_cons_zero, Nat.reduceAdd, Nat.zero_add, h7] at q
              exact q
            · -- op 9
              have hbf := hcb rfl
              subst hbf
              have hb5 : Below V2.heap.size V2 w5 := HIV.out
              have h5 : v 5 = .slice xa c.1.length xc := hd 5 (by kernel_rfl)
              obtain ⟨g, h8, hgl, hg⟩ : ∃ g, v 8 = .slice (some ⟨g, 0, none⟩) 1 1 ∧ V2.heap.size ≤ g ∧ w5.heap[g]? = some (.cells #[.string (str z)] 9 (0, 0)) := hd 8 (by kernel_rfl)
              have HGC := Lib.hid (CellsAt.of_heap hg)
              have HNV := Lib.hid (own_on HNW.out hb5)
              have HB5 := Lib.hid hb5
              have hl5 := hb5.size
              clear hg hb5
              cases ho
              try clear hd
              simp only [List.take_succ_cons, List.take_zero, putAll, Act.put, List.setIfInBounds_toArray, List.set_cons_succ, List.set_cons_zero, Nat.reduceAdd, Nat.zero_add, h5, h8]
              go_wp2_with (at_builtin; go_loud (refine wpList_append_own_at _ rfl _ _ 36 rfl E 9 i0 (.string ⟨#[]⟩) 1 16 Tryz.underlying36 HI.out HZ0.out HZ1.out HZ2.out rfl (by decide) _ c.1.length _ rfl HNV.out ⟨g, 0, none⟩ 1 1 [.string (str z)] rfl rfl (cellsAt_add HGC.out) (fun u hu => by simp at hu; subst hu; rfl) (by unfold maxLen; omega) (by omega) (by have := HLE.out; omega) ?_); intro v' w6 hown' hgrow _ hat; have HOWN := Lib.hid hown'; have HGR := Lib.hid hgrow; have HAT := Lib.hid hat; obtain ⟨va, vc, hva⟩ := row_shape hown'; subst hva; clear hown' hgrow hat)
              have q := HK.out (.slice va (c.1.length + 1) vc) w6 ⟨HOWN.out, HAT.out.imp id (fun h => ⟨_, h, hl5⟩)⟩ (by unfold l13; rw [if_pos rfl]; exact HGR.out)
              simp only [List.take_succ_cons, List.take_zero, putAll, Act.put, List.setIfInBounds_toArray, List.set_cons_succ, List.set_cons_zero, Nat.reduceAdd, Nat.zero_add, h5, h8] at q
              exact q
            · -- op 10
              have h0 : v 0 = .slice (some ⟨G, 0, none⟩) (d.length + 1) cap := hd 0 (by kernel_rfl)
              have h1 : v 1 = .int .i64 d.length := hd 1 (by kernel_rfl)
              cases ho
              try clear hd
              simp only [List.take_succ_cons, List.take_zero, putAll, Act.put, List.setIfInBounds_toArray, List.set_cons_succ, List.set_cons_zero, Nat.reduceAdd, Nat.zero_add, h0, h1]
              go_wp2_with fail
              have q := HK.out (.pointer (some ⟨G, d.length, none⟩)) w5 rfl (l13_read (by decide) (Below.refl _ _))
              simp only [List.take_succ_cons, List.take_zero, putAll, Act.put, List.setIfInBounds_toArray, List.set_cons_succ, List.set_cons_zero, Nat.reduceAdd, Nat.zero_add, h0, h1] at q
              exact q
          · intro v w5 hiv hv
            have hmod : Mod (fun k => (Value.slice xa c.1.length xc).ownBlock = some k) V2 w5 := i13_mod hiv
            obtain ⟨hown, hat⟩ : w5.ownsRow E 9 1 (v 9) (c.1.length + 1) (c.1.flatMap sB ++ [Value.string (str z)]) ∧ ((v 9).ownBlock = (Value.slice xa c.1.length xc).ownBlock ∨ ∃ k, (v 9).ownBlock = some k ∧ V2.heap.size ≤ k) := hv 9 (by decide)
            have h10 : v 10 = .pointer (some ⟨G, d.length, none⟩) := hv 10 (by decide)
            obtain ⟨va, vc, h9⟩ := row_shape hown
            rw [h9] at hown hat
            have hG5 := hmod.keep HG2.out (fun hk => HNG.out hk)
            have f5 : w5.frozen? ⟨G, d.length, none⟩ = false := Lib.frozen_of_heap hG5 _
            have d5 : w5.cell? ⟨G, d.length, none⟩ = some (.slice xa c.1.length xc) := by rw [← HCE.out]; simp only [World.cell?]; rw [hG5, HG2.out]
            have HMOD := Lib.hid hmod
            have HOWN := Lib.hid hown
            have HAT := Lib.hid hat
            clear hmod hown hat hv hiv hG5
            simp only [List.drop_succ_cons, List.drop_zero, List.take_succ_cons, List.take_zero, putAll, Act.put, List.setIfInBounds_toArray, List.set_cons_succ, List.set_cons_zero, Nat.reduceAdd, Nat.zero_add, h9, h10]
            generalize v 0 = v0
            generalize v 1 = v1
            generalize v 2 = v2
            generalize v 3 = v3
            generalize v 4 = v4
            generalize v 5 = v5
            generalize v 6 = v6
            generalize v 7 = v7
            generalize v 8 = v8
            clear h9 h10
            clear v
            go_wp2_with fail
            refine NoOut.normal ?_
            gi_wp2_with (fail)
            have hgr := HP2.out.grow (ts := c.1 ++ [z]) (v' := .slice va (c.1.length + 1) vc) (by rw [HXV.out]; exact HMOD.out) (by have := HOWN.out; rw [List.flatMap_append, List.length_append]; simpa [sB] using this)
            obtain ⟨q1, q2, q3, q4⟩ := hgr
            rw [HXV.out] at q2
            have hcells : ∀ k, k = G ∨ (Value.slice xa c.1.length xc).ownBlock = some k → ∃ cs t, V2.heap[k]? = some (.cells cs t (0, 0)) ∧ (t ≠ 9 ∨ k ≠ W.heap.size + 1) := fun k hk => by
              rcases hk with rfl | hk
              · exact ⟨_, _, HG2.out, .inl (by decide)⟩
              · obtain ⟨_, cs, q⟩ := HNVB.out k hk
                exact ⟨_, _, q, .inr (fun e => HNB2.out (by rw [HXV.out, hk, e]))⟩
            refine ⟨HKV.out.1.trans (kf_of q2 (fun k hk => by obtain ⟨cs, t, q, _⟩ := hcells k hk; exact ⟨cs, t, q⟩) _), HKV.out.2.trans (ks_of q2 hcells), E, _, _, q1, ?_, ?_, ?_, ?_, ?_, ?_⟩
            · rw [HD1.out, List.map_append]; rfl
            · have := Mod.keep q2 HR2.out (fun hk => by
                rcases hk with e | hk
                · have := HG2.out; rw [← e, HR2.out] at this; simp at this
                · obtain ⟨_, cs, q⟩ := HNVB.out _ hk
                  rw [HR2.out] at q; simp at q)
              rw [this]; simp
            · have := Mod.keep q2 HE2.out (fun hk => by
                rcases hk with e | hk
                · have := HG2.out; rw [← e, HE2.out] at this; simp at this
                · obtain ⟨_, cs, q⟩ := HNVB.out _ hk
                  rw [HE2.out] at q; simp at q)
              rw [this]; simp
            · intro c' hc'
              have : c' = ((c.1 ++ [z], .slice va (c.1.length + 1) vc) : Pv) := by simpa using hc'.symm
              subst this
              rcases HAT.out with e | ⟨k, e, hk⟩
              · simp only
                rw [e, ← HXV.out]
                exact HNB2.out
              · simp only
                rw [e]
                have := HVV.out
                intro h
                simp only [Option.some.injEq] at h
                omega
            · refine HMQ2.out.then q2 (fun k hk hlt => ?_)
              rcases hk with rfl | hk
              · exact .inr (.inr ⟨q3, _, _, _, HG2.out⟩)
              · obtain ⟨_, cs, q⟩ := HNVB.out k hk
                obtain ⟨he, _⟩ := row_cells HNW.out hk
                exact .inr (.inr ⟨Nat.le_trans HP2.out.leB he, _, _, _, q⟩)
            · have := q2.size
              have := HVV.out
              omega
    case done2 =>
      rintro xs V rfl ⟨E, ov, L, hst, hL, hrun, hem, hnb, hmq, hVs⟩
      have hs0 := HS0.out
      have hs2 := HS2.out
      have hws := HBW.out.size
      have HST := Lib.hid hst
      have HL := Lib.hid hL
      have HRUN := Lib.hid hrun
      have HMQ := Lib.hid hmq
      have f4 : V.frozen? ⟨w.heap.size + 1, 0, none⟩ = false := Lib.frozen_of_heap hrun 0
      have c6 : V.cell? ⟨W.heap.size, 0, none⟩ = some (.bool xs.isEmpty) := by simp [World.cell?, hem]
      have c4 : V.cell? ⟨w.heap.size + 1, 0, none⟩ = some (.bool (o || !xs.isEmpty)) := by simp [World.cell?, hrun]
      clear hst hL hrun hem hnb hmq
      cases hxe : xs.isEmpty with
      | true =>
        rw [hxe] at c6
        gi_wp2_with (fail)
        have hm2 := st_mq (b := w.heap.size + 1) HMQ.out (.bool false) (fun _ => .inr rfl)
        refine ⟨hm2.kf HBX.out _, hm2.kl (by omega) (by omega), E, ov, L, HST.out.other HRUN.out 0 _, ?_, ?_, HBW.out.trans ((hm2.below (K := w.heap.size) (Nat.le_refl _) (by omega) hws)), by have := Mod.size hm2; omega⟩
        · rw [HNX.out]; exact HL.out
        · rw [HNX.out, hxe]
          simpa using heap_setCell_same V (w.heap.size + 1) 0 _ _ (.bool false) HRUN.out
      | false =>
        rw [hxe] at c6
        gi_wp2_with (fail)
        refine ⟨HMQ.out.kf HBX.out _, HMQ.out.kl (by omega) (by omega), E, ov, L, HST.out, ?_, ?_, HBW.out.trans ((HMQ.out.below (K := w.heap.size) (Nat.le_refl _) (by omega) hws)), by have := Mod.size HMQ.out; omega⟩
        · rw [HNX.out]; exact HL.out
        · rw [HNX.out, hxe]
          have := HRUN.out
          rw [hxe] at this
          simpa using this

    case stop2 =>
      rintro c pre W hD h
      exact h.elim

  case done =>
    rintro Dd zs W hD rfl ⟨E, ov, L, hst, hL, hrun, hbW, _⟩ hK
    have c1 : W.cell? ⟨w.heap.size, 0, none⟩ = some ov := by simp [World.cell?, hst.hd]
    obtain ⟨la, lc, rfl⟩ := row_shape hst.row
    have HST := Lib.hid hst
    have HL := Lib.hid hL
    have HBW := Lib.hid hbW
    have HK := Lib.hid hK
    clear hst hL hbW hK hrun
    gi_wp2_with (fail)
    refine ⟨by simp, .inl ⟨_, _, rfl, run_takeDeferred HK.out, ?_⟩⟩
    have hp := HST.out.nc (w' := W.putObj Dd (.deferred none)) (S := fun k => k = Dd) ⟨rfl, rfl, rfl, by simp, fun k hk hn => World.putObj_heap_other (fun e => hn ⟨e, .deferred (some []), by subst e; exact HK.out, rfl⟩)⟩
    refine ⟨_, results_tmp rfl _ _ _, _, rfl, ?_, HBW.out.trans (below_put (by have := HS0.out; omega) HK.out)⟩
    have := hp.wv
    rw [HL.out, pst_eq] at this
    exact this
  case stop =>
    rintro Dd c pre W hD _ h _
    exact h.elim
end Go.Proofs.YtbnhefibpjldfaaGreatDoor

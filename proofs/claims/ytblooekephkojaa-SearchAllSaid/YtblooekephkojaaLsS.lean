/- The reference's Long: what it answers. -/
import Derived.Test.YtblooekephkojaaLtF
import Derived.Test.YtblooekephkojaaLsN
namespace Go.Proofs.Ytblooekephkojaa
open Go.RowKit Go.BigFrame Go.Shelf
set_option linter.unusedVariables false

/-- The two rows of Long, and nothing else written. -/
structure LW (wA : World) (R N : Nat) (rest next : List Int) (wr : World) : Prop where
  mod : Mod (fun k => k = R ∨ k = N) wA wr
  rest : IntBlk wr R 2 rest
  next : IntBlk wr N 3 next
theorem LW.on {wA wr w2 : World} {R N : Nat} {rest next : List Int} (h : LW wA R N rest next wr) (hb : Below wr.heap.size wr w2) : LW wA R N rest next w2 :=
  ⟨h.mod.trans (Mod.of_below hb), heap_below hb h.rest h.rest.lt, heap_below hb h.next h.next.lt⟩
theorem LW.setN {wA wr : World} {R N : Nat} {rest next : List Int} (h : LW wA R N rest next wr) (hRN : R ≠ N) (i : Nat) (x : Int) (hi : i < next.length) : LW wA R N rest (next.set i x) (wr.setCell ⟨N, i, none⟩ (.int .i64 x)) :=
  ⟨h.mod.setCell _ (.inr (.inr rfl)) _, (heap_setCell_other _ _ _ _ hRN).trans h.rest, h.next.set i x hi⟩
theorem LW.setR {wA wr : World} {R N : Nat} {rest next : List Int} (h : LW wA R N rest next wr) (hRN : R ≠ N) (i : Nat) (x : Int) (hi : i < rest.length) : LW wA R N (rest.set i x) next (wr.setCell ⟨R, i, none⟩ (.int .i64 x)) :=
  ⟨h.mod.setCell _ (.inr (.inl rfl)) _, h.rest.set i x hi, (heap_setCell_other _ _ _ _ (Ne.symm hRN)).trans h.next⟩

theorem atI_set (l : List Int) (i j : Nat) (x : Int) (hi : i < l.length) : atI (l.set i x) j = if i = j then x else atI l j := by
  unfold atI
  rw [List.getD_eq_getElem?_getD, List.getElem?_set]
  split
  · rename_i h; subst h; simp
  · rw [List.getD_eq_getElem?_getD]

def LongOk (first : Int) (l : List Gap) (s : Sty) (w : World) (e : Ending) (w' : World) : Prop :=
  ∃ (y : List Bool) (c : Int) (b : Nat), IsOpt s first l y c ∧ e = .returned (.tuple #[.slice (some ⟨b, 0, none⟩) l.length l.length, .int .i64 c]) ∧ BoolBlk w' b y ∧ Below w.heap.size w w'

theorem IntBlk.atI {w : World} {b ty : Nat} {l : List Int} (h : IntBlk w b ty l) (i : Nat) (hi : i < l.length) : w.cell? ⟨b, i, none⟩ = some (.int .i64 (atI l i)) := by
  rw [h.cell i hi]; unfold Ytblooekephkojaa.atI; rw [List.getD_eq_getElem?_getD, List.getElem?_eq_getElem hi]; rfl
/-- The rests and the ends from m on. -/
def LInv (s : Sty) (first : Int) (l : List Gap) (m : Nat) (rest next : List Int) : Prop :=
  rest.length = l.length + 1 ∧ next.length = l.length + 1 ∧ ∀ i, m ≤ i → i ≤ l.length → (∃ e : Nat, atI next i = e ∧ IsPick s first l (atI rest) i e (atI rest i)) ∧ 0 ≤ atI rest i ∧ atI rest i ≤ ((l.length + 1 - i : Nat) : Int) * 60000000000000
/-- What is known of one row's ends. -/
def Mid (s : Sty) (first : Int) (l : List Gap) (rest next : List Int) (i k : Nat) (c : Int) (next' : List Int) : Prop :=
  next'.length = l.length + 1 ∧ (∀ j, j ≠ i → atI next' j = atI next j) ∧ Seen s first l (atI rest) i k c (atI next' i)
def InR (s : Sty) (first : Int) (l : List Gap) (rest next : List Int) (i k : Nat) (c wv : Int) (next' : List Int) : Prop :=
  Mid s first l rest next i k c next' ∧ (k ≤ l.length → wv = wid first l i k) ∧ ∀ j, i ≤ j → j < k → j < l.length → mustB l j = false

section
variable {s : Sty} {first : Int} {l : List Gap} {rest next next' : List Int} {i k : Nat} {c wv : Int}
theorem LInv.step (hs : StyOk s) (hf0 : 0 ≤ first) (hf1 : first ≤ 65536) (hv : ∀ g ∈ l, g.valid = true) (hl : l.length ≤ 400) (h : LInv s first l (i + 1) rest next) (hi : i ≤ l.length) {m : Nat} (hm : IsMost l i m) (hd : Mid s first l rest next i (m + 1) c next') :
    LInv s first l i (rest.set i c) next' := by
  obtain ⟨h1, h2, h3⟩ := h
  obtain ⟨d1, d2, d3⟩ := hd
  have hat : ∀ j, atI (rest.set i c) j = if i = j then c else atI rest j := fun j => atI_set rest i j c (by omega)
  refine ⟨by simp [h1], d1, fun j hj hjl => ?_⟩
  by_cases hji : j = i
  · subst hji
    obtain ⟨e, he, hp⟩ := d3.pick hm (must_end hv hm.must)
    have hp' := hp.congr (D' := atI (rest.set j c)) (fun t ht => by rw [hat, if_neg (by omega)])
    have hc : atI (rest.set j c) j = c := by rw [hat, if_pos rfl]
    refine ⟨⟨e, he, by rw [hc]; exact hp'⟩, ?_⟩
    rw [hc]
    obtain ⟨m', hm', e1, e2, e3, e4, _⟩ := hp
    have hel : e ≤ l.length := by have := hm'.len; omega
    have hb := cand_bd s hs first l hf0 hf1 hv hl (atI rest) j e e1 hel (fun hlt => by
      have := (h3 (e + 1) (by omega) (by omega)).2
      rw [show l.length + 1 - (e + 1) = l.length - e from by omega] at this
      exact this)
    rw [e4]
    exact hb.2.2
  · obtain ⟨⟨e, he, hp⟩, hb⟩ := h3 j (by omega) hjl
    have hc : atI (rest.set i c) j = atI rest j := by rw [hat, if_neg (by omega)]
    refine ⟨⟨e, by rw [d2 j hji]; exact he, by rw [hc]; exact hp.congr (fun t ht => by rw [hat, if_neg (by omega)])⟩, by rw [hc]; exact hb⟩
theorem InR.start (h2 : next.length = l.length + 1) : InR s first l rest next i i (-1) (startOf first l i) next :=
  ⟨⟨h2, fun _ _ => rfl, Seen.start⟩, fun _ => (wid_self first l i).symm, fun j h1 h2 => by omega⟩
theorem Mid.take (h : Mid s first l rest next i k c next') (hik : i ≤ k) (hi : i ≤ l.length) (he : endB l k = true) (h0 : 0 ≤ cand s first l (atI rest) i k) (hc : c < 0 ∨ cand s first l (atI rest) i k ≤ c) :
    Mid s first l rest next i (k + 1) (cand s first l (atI rest) i k) (next'.set i k) := by
  refine ⟨by simp [h.1], fun j hj => by rw [atI_set _ _ _ _ (by rw [h.1]; omega), if_neg (by omega)]; exact h.2.1 j hj, ?_⟩
  rw [atI_set _ _ _ _ (by rw [h.1]; omega), if_pos rfl]
  exact h.2.2.take hik he h0 hc
theorem Mid.keep (h : Mid s first l rest next i k c next') (h0 : 0 ≤ c) (hc : c < cand s first l (atI rest) i k) : Mid s first l rest next i (k + 1) c next' := ⟨h.1, h.2.1, h.2.2.keep h0 hc⟩
theorem Mid.skip (h : Mid s first l rest next i k c next') (he : endB l k = false) : Mid s first l rest next i (k + 1) c next' := ⟨h.1, h.2.1, h.2.2.skip he⟩
theorem InR.step (h : InR s first l rest next i k c wv next') {c' wv' : Int} {next'' : List Int} (hd : Mid s first l rest next i (k + 1) c' next'') (hw : k < l.length → wv' = wid first l i (k + 1)) (hm : k < l.length → mustB l k = false) : InR s first l rest next i (k + 1) c' wv' next'' :=
  ⟨hd, fun hk => hw (by omega), fun j h1 h2 h3 => by
    by_cases hj : j = k
    · subst hj; exact hm h3
    · exact h.2.2 j h1 (by omega) h3⟩
theorem InR.most (h : InR s first l rest next i k c wv next') (hi : i ≤ k) (hk : k ≤ l.length) (hm : mustB l k = true) : IsMost l i k :=
  ⟨hi, hk, hm, fun j h1 h2 => h.2.2 j h1 h2 (by omega)⟩
theorem InR.most_last (h : InR s first l rest next i (l.length + 1) c wv next') (hi : i ≤ l.length) : IsMost l i l.length :=
  ⟨hi, Nat.le_refl _, by unfold mustB; rw [List.getElem?_eq_none (Nat.le_refl _)], fun j h1 h2 => h.2.2 j h1 (by omega) h2⟩
end

set_option maxRecDepth 100000 in
set_option maxHeartbeats 8000000 in
theorem Ls.long (first : Int) (ga : Option Addr) (l : List Gap) (gc : Nat) (s : Sty) (w : World) (hl : l.length ≤ 400) (hr : RowAt 6 Gap.f w ga l) (hz : chk first l s = 0) :
    Calls Try.prog 38 #[.int .i64 first, .slice ga l.length gc, .agg s.cells] w (LongOk first l s w) := by
  obtain ⟨hS, hlen, hF0, hF1, hV⟩ := chk_ok hz
  have hm5 : ∀ wx, (Instr.makeSlice 105 (.int .i64 ((l.length : Int) + 1)) (.int .i64 ((l.length : Int) + 1))).run Try.prog wx = .ok (.slice (some ⟨wx.heap.size, 0, none⟩) (l.length + 1) (l.length + 1)) (wx.alloc (.cells (zc (l.length + 1)) 2)) := fun wx => by
    have := make_int64s (l.length + 1) (by omega) wx
    rwa [show ((l.length + 1 : Nat) : Int) = (l.length : Int) + 1 from by omega] at this
  have hm4 : ∀ wx, (Instr.makeSlice 104 (.int .i64 ((l.length : Int) + 1)) (.int .i64 ((l.length : Int) + 1))).run Try.prog wx = .ok (.slice (some ⟨wx.heap.size, 0, none⟩) (l.length + 1) (l.length + 1)) (wx.alloc (.cells (zc (l.length + 1)) 3)) := fun wx => by
    have := make_ints (l.length + 1) (by omega) wx
    rwa [show ((l.length + 1 : Nat) : Int) = (l.length : Int) + 1 from by omega] at this
  have hmk := Lib.hid (fun wx => make_bools l.length (by omega) wx)
  obtain ⟨W, hW⟩ : ∃ W, W = ((w.alloc (.cells s.cells 27)).alloc (.cells (zc (l.length + 1)) 2)).alloc (.cells (zc (l.length + 1)) 3) := ⟨_, rfl⟩
  obtain ⟨R, hRe⟩ : ∃ R, R = w.heap.size + 1 := ⟨_, rfl⟩
  obtain ⟨N, hNe⟩ : ∃ N, N = w.heap.size + 1 + 1 := ⟨_, rfl⟩
  have hst : W.heap[w.heap.size]? = some (.cells s.cells 27 (0, 0)) := by rw [hW]; exact heap3a w (.cells s.cells 27) (.cells (zc (l.length + 1)) 2) (.cells (zc (l.length + 1)) 3)
  have hBR : IntBlk W R 2 (List.replicate (l.length + 1) 0) := by rw [hW, hRe]; exact heap3b w (.cells s.cells 27) (.cells (zc (l.length + 1)) 2) (.cells (zc (l.length + 1)) 3)
  have hBN : IntBlk W N 3 (List.replicate (l.length + 1) 0) := by rw [hW, hNe]; exact heap3c w (.cells s.cells 27) (.cells (zc (l.length + 1)) 2) (.cells (zc (l.length + 1)) 3)
  have hB : Below w.heap.size w W := by rw [hW]; exact (((Below.refl _ _).alloc (Nat.le_refl _) _).alloc (by simp) _).alloc (by simp; omega) _
  have hRN : R ≠ N := by omega
  have hsz : W.heap.size = w.heap.size + 3 := by rw [hW]; simp
  have hLW0 : LW W R N (List.replicate (l.length + 1) 0) (List.replicate (l.length + 1) 0) W := ⟨Mod.refl _ _, hBR, hBN⟩
  have HLW0 := Lib.hid hLW0
  have HB := Lib.hid hB
  have HRW := Lib.hid hr
  have HW := Lib.hid hW
  have HV := Lib.hid hV
  have HST := Lib.hid hst
  have HRN := Lib.hid hRN
  have HS := Lib.hid hS
  have HRe := Lib.hid hRe
  have HNe := Lib.hid hNe
  have HK : Hid (∀ rest next wx, LW W R N rest next wx → Below w.heap.size w wx ∧ wx.heap[w.heap.size]? = some (.cells s.cells 27 (0, 0)) ∧ RowAt 6 Gap.f wx ga l) := Lib.hid (fun rest next wx h => by
    have h1 := HB.out.trans (h.mod.below (B := w.heap.size) (by omega) (fun k hk => by rcases hk with hk | hk <;> omega))
    exact ⟨h1, h.mod.keep HST.out (by rintro (hk | hk) <;> omega), hr.below h1 (Nat.le_refl _) h1.size⟩)
  clear hz hV hr hB hW hst hRN hBR hBN hLW0 hS
  go_enter Try.func38, Try.ntmps38
  go_wp2_with fail
  rw [← HW.out, ← HNe.out, ← HRe.out]
  clear hm4 hm5 hRe hNe
  go_loopw [11] (fun s11 wr => ∃ (m : Nat) (rest next : List Int), m ≤ l.length + 1 ∧ s11 = .int .i64 ((m : Int) - 1) ∧ LInv s first l m rest next ∧ LW W R N rest next wr) (fun s11 _ => (intOf s11 + 1).toNat)
  case atStart => exact ⟨l.length + 1, _, _, Nat.le_refl _, congrArg (Value.int .i64) (by omega), ⟨by simp, by simp, fun i h1 h2 => by omega⟩, HLW0.out⟩
  case round =>
    obtain ⟨m, rest, next, hm, rfl, hI, hL⟩ := hrel
    have HI := Lib.hid hI
    have HL := Lib.hid hL
    clear hI hL
    by_cases hm0 : m = 0
    · subst hm0
      obtain ⟨hBx, hst, hrr⟩ := HK.out _ _ _ HL.out
      have HBX := Lib.hid hBx
      have hI0 := HI.out
      obtain ⟨E, hE⟩ : ∃ E : Nat → Nat, ∀ i, i ≤ l.length → atI next i = E i ∧ IsPick s first l (atI rest) i (E i) (atI rest i) := ⟨fun i => (atI next i).toNat, fun i hi => by
        obtain ⟨e, he, hp⟩ := (hI0.2.2 i (Nat.zero_le _) hi).1
        have : (atI next i).toNat = e := by omega
        exact ⟨by dsimp only; omega, by dsimp only; rw [this]; exact hp⟩⟩
      have ce0 : wr.cell? ⟨N, 0, none⟩ = some (.int .i64 (E 0)) := by
        rw [HL.out.next.atI 0 (by rw [hI0.2.1]; omega), (hE 0 (Nat.zero_le _)).1]
      have hN0 := HL.out.next.lt
      have hR0 := HL.out.rest.lt
      have HEE := Lib.hid hE
      have h00 : ¬ ((0 : Nat) : Int) - 1 ≥ 0 := by omega
      have hi00 : (0 : Int) < (l.length : Int) + 1 := by omega
      have hmk' := hmk.out
      clear hE hBx hst hrr hI0 hmk
      go_wp2_with fail
      clear hmk'
      obtain ⟨B, hBw⟩ : ∃ B, B = wr.heap.size := ⟨_, rfl⟩
      obtain ⟨W5, hW5⟩ : ∃ W5, W5 = wr.alloc (.cells (zb l.length) 4) := ⟨_, rfl⟩
      have hL5 : LW W R N rest next W5 := by rw [hW5]; exact HL.out.on (below_alloc _ _)
      have hY5 : BoolBlk W5 B (List.replicate l.length false) := by rw [hW5, hBw]; exact heap_alloc_new _ _
      have hB5 : Below w.heap.size w W5 := by rw [hW5]; exact HBX.out.alloc HBX.out.size _
      have hNB : N ≠ B := by omega
      have hRB : R ≠ B := by omega
      have hwB : w.heap.size ≤ B := by have := HBX.out.size; omega
      have hWB : W.heap.size ≤ B := by have := HL.out.mod.size; omega
      rw [← hW5, ← hBw]
      clear hBw hW5 ce0
      go_loopw [17] (fun s17 wx => ∃ (r : Nat) (y : List Bool), CInv l E y r ∧ s17 = .int .i64 (E r) ∧ LW W R N rest next wx ∧ BoolBlk wx B y ∧ Below w.heap.size w wx) (fun s17 _ => l.length + 1 - (intOf s17).toNat)
      case atStart => exact ⟨0, _, CInv.start l E, rfl, hL5, hY5, hB5⟩
      case round =>
        clear hL5 hY5 hB5
        obtain ⟨r, y, hc, rfl, hLx, hYx, hBx⟩ := hrel
        have hEr := (HEE.out r hc.le).2
        have hrE : r ≤ E r := by obtain ⟨_, _, h1, _⟩ := hEr; exact h1
        have hEn : E r ≤ l.length := by obtain ⟨m, hm, _, h2, _⟩ := hEr; have := hm.len; omega
        by_cases ha : E r < l.length
        · have hce : wr.cell? ⟨N, E r + 1, none⟩ = some (.int .i64 (E (E r + 1))) := by
            rw [hLx.next.atI (E r + 1) (by rw [HI.out.2.1]; omega), (HEE.out (E r + 1) (by omega)).1]
          obtain ⟨yo, hcy⟩ : ∃ yo, wr.cell? ⟨B, E r, none⟩ = some (.bool yo) := ⟨_, hYx.cell (E r) (by rw [hc.len]; exact ha)⟩
          have hfy : wr.frozen? ⟨B, E r, none⟩ = false := Lib.frozen_of_heap hYx _
          have hnext : E r + 1 ≤ E (E r + 1) := by obtain ⟨_, _, h1, _⟩ := (HEE.out (E r + 1) (by omega)).2; exact h1
          have hstep := Lib.hid (hc.step hrE ha)
          have hyl := Lib.hid hc.len
          have HLx := Lib.hid hLx
          have HYx := Lib.hid hYx
          clear hc hLx hYx hEr
          generalize hEr1 : E (E r + 1) = a1 at *
          have HA1 := Lib.hid hEr1
          clear hEr1
          generalize hEr2 : E r = a at *
          have HA := Lib.hid hEr2
          clear hEr2
          have i0 : (0 : Int) ≤ (a : Int) := by omega
          have i1 : (a : Int) < (l.length : Int) := by omega
          have i2 : (a : Int) + 1 < (l.length : Int) + 1 := by omega
          go_wp2_with fail
          go_roundw
          case rel =>
            exact ⟨a + 1, y.set a true, hstep.out, by rw [HA1.out], ⟨HLx.out.mod.setCell _ (.inl hWB) _, (heap_setCell_other _ _ _ _ hRB).trans HLx.out.rest, (heap_setCell_other _ _ _ _ hNB).trans HLx.out.next⟩, HYx.out.set a true (by rw [hyl.out]; exact ha), hBx.setCell hwB _⟩
          case measure => simp [intOf]; omega
        · have hcc : wr.cell? ⟨R, 0, none⟩ = some (.int .i64 (atI rest 0)) := hLx.rest.atI 0 (by rw [HI.out.1]; omega)
          have hch := Lib.hid (hc.chain (by omega))
          have hyl := Lib.hid hc.len
          have ha2 : E r = l.length := by omega
          have HLx := Lib.hid hLx
          have HYx := Lib.hid hYx
          clear hc hLx hYx hEr
          rw [ha2]
          generalize hc0 : atI rest 0 = c0 at *
          have HC0 := Lib.hid hc0
          clear hc0 ha ha2 hrE hEn
          go_wp2_with fail
          go_quiet (fail)
          go_wp2_with fail
          go_ret2
          have hopt := chain_opt HV.out (atI rest) E (fun i hi => (HEE.out i hi).2) hyl.out hch.out
          rw [HC0.out] at hopt
          exact ⟨y, c0, B, hopt, rfl, HYx.out, hBx.trans (Ytblooekephkojaa.below_drewN _ _ _)⟩
    · obtain ⟨i, rfl⟩ : ∃ i, m = i + 1 := ⟨m - 1, by omega⟩
      have hi : i ≤ l.length := by omega
      have hi2 : (((i + 1 : Nat) : Int) - 1) = (i : Int) := by omega
      rw [hi2]
      have hi0 : (0 : Int) ≤ (i : Int) := by omega
      have hil : (i : Int) ≤ 400 := by omega
      -- the row's beginning
      have hgo : ∀ v0 : Value, v0 = .int .i64 (startOf first l i) → True := fun _ _ => trivial
      clear hgo
      obtain ⟨hBx, hst, hrr⟩ := HK.out _ _ _ HL.out
      have HBX := Lib.hid hBx
      have hcase : (¬ 0 < i ∧ startOf first l i = first) ∨ (0 < i ∧ ∃ b off, ∃ gi gw : Int, ga = some ⟨b, off, none⟩ ∧ b < wr.heap.size ∧ wr.cell? ⟨b, off + (i - 1) * 6 + 5, none⟩ = some (.int .i64 gi) ∧ wr.cell? ⟨b, off + (i - 1) * 6, none⟩ = some (.int .i64 gw) ∧ startOf first l i = gi + gw ∧ 0 ≤ gi ∧ gi ≤ 256 ∧ 0 ≤ gw ∧ gw ≤ 65536) := by
        by_cases h0 : i = 0
        · subst h0; exact .inl ⟨by omega, rfl⟩
        · refine .inr ⟨by omega, ?_⟩
          obtain ⟨b, off, ha, hbw, hc⟩ := hrr.at (by intro e; simp [e] at hi; omega)
          have hi1 : i - 1 < l.length := by omega
          obtain ⟨g0, g1, g2, g3, g4, g5⟩ := Gap.at (w := wr) (b := b) (o := off + (i - 1) * 6) (g := l[i - 1]) (hc (i - 1) hi1)
          obtain ⟨w1, w2, -, -, -, -, w7, w8, -⟩ := valid_bd (HV.out _ (List.getElem_mem hi1))
          refine ⟨b, off, l[i - 1].ind, l[i - 1].w, ha, hbw, g5, g0, ?_, w7, w8, w1, w2⟩
          unfold startOf
          rw [if_neg h0, List.getElem?_eq_getElem hi1]; rfl
      clear hBx hst hrr
      go_upto_if 33 with fail
      go_cut [12] from 32 to 46 (fun s12 wx => s12 = .int .i64 (startOf first l i) ∧ ∃ n, wx = wr.drewN n)
      case first =>
        rcases hcase with ⟨d0, hso⟩ | ⟨d0, b, off, gi, gw, rfl, hbw, g5, g0, hso, q1, q2, q3, q4⟩
        · have HSO := Lib.hid hso
          clear hso
          go_wp2_with fail
          go_meet
          exact ⟨congrArg (Value.int .i64) HSO.out.symm, 0, rfl⟩
        · have HSO := Lib.hid hso
          have hi5 : ((i : Int) - 1) < (l.length : Int) := by omega
          have hi3 : (0 : Int) ≤ (i : Int) - 1 := by omega
          have hi4 : ((i : Int) - 1).toNat = i - 1 := by omega
          clear hso
          go_wp2_with fail
          go_quiet (fail)
          go_wp2_with fail
          go_meet
          exact ⟨congrArg (Value.int .i64) HSO.out.symm, _, rfl⟩
      case rest =>
        obtain ⟨rfl, n1, rfl⟩ := hcut
        clear hcase
        obtain ⟨W1, hW1⟩ : ∃ W1, W1 = wr.drewN n1 := ⟨_, rfl⟩
        have HL1 : Hid (LW W R N rest next W1) := Lib.hid (by rw [hW1]; exact HL.out.on (Ytblooekephkojaa.below_drewN _ _ _))
        rw [← hW1]
        have hI1 := (HI.out).2.1
        have HI1 := Lib.hid hI1
        clear hW1 hI1
        go_wp2_with fail
        go_loopw [12, 13, 14] (fun s12 s13 s14 wx => ∃ (k : Nat) (c wv : Int) (next' : List Int), i ≤ k ∧ k ≤ l.length + 1 ∧ s14 = .int .i64 k ∧ s13 = .int .i64 c ∧ s12 = .int .i64 wv ∧ InR s first l rest next i k c wv next' ∧ LW W R N rest next' wx) (fun _ _ s14 _ => l.length + 2 - (intOf s14).toNat)
        case atStart => exact ⟨i, -1, _, next, Nat.le_refl _, by omega, rfl, rfl, rfl, InR.start HI1.out, HL1.out⟩
        case round =>
          clear HL1 HL HBX
          obtain ⟨k, c, wv, next', hik, hk, rfl, rfl, rfl, hR, hL⟩ := hrel
          have HR := Lib.hid hR
          have HL := Lib.hid hL
          obtain ⟨hBx, hst, hrr⟩ := HK.out _ _ _ hL
          have HBX := Lib.hid hBx
          clear hR hL hBx
          have hk0 : (0 : Int) ≤ (k : Int) := by omega
          by_cases hkn : k = l.length + 1
          · subst hkn
            have hmost := HR.out.most_last hi
            have hfin := LInv.step HS.out hF0 hF1 HV.out hl HI.out hi hmost HR.out.1
            have HFIN := Lib.hid hfin
            have hcR : ∃ old, wr.cell? ⟨R, i, none⟩ = some (.int .i64 old) := ⟨_, HL.out.rest.cell i (by rw [HI.out.1]; omega)⟩
            obtain ⟨old, hcR⟩ := hcR
            have hfR : wr.frozen? ⟨R, i, none⟩ = false := Lib.frozen_of_heap HL.out.rest i
            have hin : (i : Int) < (l.length : Int) + 1 := by omega
            have HLf := HL.out.setR HRN.out i c (by rw [HI.out.1]; omega)
            have HLF := Lib.hid HLf
            clear hmost hfin HLf hst hrr
            go_wp2_with fail
            go_roundw
            case rel => exact ⟨i, _, _, by omega, rfl, HFIN.out, HLF.out⟩
            case measure => simp [intOf]
          · have hkl : k ≤ l.length := by omega
            have hwv := HR.out.2.1 hkl
            have hwb := wid_bd first l hF0 hF1 HV.out hl i k hik hkl
            rw [← hwv] at hwb
            have hDk : k < l.length → 0 ≤ atI rest (k + 1) ∧ atI rest (k + 1) ≤ ((l.length - k : Nat) : Int) * 60000000000000 := fun hlt => by
              have := (HI.out.2.2 (k + 1) (by omega) (by omega)).2
              rw [show l.length + 1 - (k + 1) = l.length - k from by omega] at this
              exact this
            obtain ⟨hx0, hx1, hcd0, hcd1⟩ := cand_bd s HS.out first l hF0 hF1 HV.out hl (atI rest) i k hik hkl hDk
            rw [← hwv] at hx0 hx1
            have hcn : cand s first l (atI rest) i k = exc s wv + endc l (atI rest) k := by unfold cand; rw [hwv]
            obtain ⟨s1, s2, s3, s4⟩ := HS.out
            have hrow := fun wx => Sr.row s wv wx s1 s2 s3 s4 hwb.1 (by omega)
            obtain ⟨ex, hex⟩ : ∃ ex, ex = exc s wv := ⟨_, rfl⟩
            simp only [← hex] at hrow
            rw [← hex] at hx0 hx1 hcn
            have HEX := Lib.hid hex
            have HROW := Lib.hid hrow
            have HHL := Lib.hid hkl
            have HWV := Lib.hid hwv
            have HDK := Lib.hid hDk
            have HCD := Lib.hid hcd0
            clear s1 s2 s3 s4 hrr hex hrow hwv hDk hcd0 hcd1
            have hcN := HL.out.next.atI i (by rw [HR.out.1.1]; omega)
            have hfN : wr.frozen? ⟨N, i, none⟩ = false := Lib.frozen_of_heap HL.out.next i
            have hNlt := HL.out.next.lt
            generalize atI next' i = oldN at hcN
            have hin : (i : Int) < (l.length : Int) + 1 := by omega
            by_cases hlast : k = l.length
            · subst hlast
              have hel := Lib.hid (last_end l)
              rw [endc_last, Int.add_zero] at hcn
              have HCN := Lib.hid hcn
              clear hcn hwb
              have hcase : ∃ (tk : Bool) (c' : Int) (next'' : List Int), ((tk = true ∧ c < 0 ∧ c' = ex ∧ next'' = next'.set i (l.length : Nat)) ∨ (tk = true ∧ ¬ c < 0 ∧ ex ≤ c ∧ c' = ex ∧ next'' = next'.set i (l.length : Nat)) ∨ (tk = false ∧ ¬ c < 0 ∧ ¬ ex ≤ c ∧ c' = c ∧ next'' = next')) ∧ Mid s first l rest next i (l.length + 1) c' next'' := by
                by_cases h1 : c < 0
                · have hmid := HR.out.1.take hik hi hel.out HCD.out (.inl h1)
                  rw [HCN.out] at hmid
                  exact ⟨true, ex, _, .inl ⟨rfl, h1, rfl, rfl⟩, hmid⟩
                · by_cases h2 : ex ≤ c
                  · have hmid := HR.out.1.take hik hi hel.out HCD.out (.inr (by rw [HCN.out]; exact h2))
                    rw [HCN.out] at hmid
                    exact ⟨true, ex, _, .inr (.inl ⟨rfl, h1, h2, rfl, rfl⟩), hmid⟩
                  · exact ⟨false, c, _, .inr (.inr ⟨rfl, h1, h2, rfl, rfl⟩), HR.out.1.keep (by omega) (by rw [HCN.out]; omega)⟩
              obtain ⟨tk, c', next'', hcase, hmid⟩ := hcase
              have hinr := HR.out.step (wv' := wv) hmid (fun h => by omega) (fun h => by omega)
              have HINR := Lib.hid hinr
              clear hmid hinr
              rcases hcase with ⟨-, h1, rfl, rfl⟩ | ⟨-, h1, h2, rfl, rfl⟩ | ⟨-, h1, h2, rfl, rfl⟩
              all_goals
                go_wp2_with (with_reducible refine wpList_load_row rfl 27 _ rfl _ rfl 27 _ _ _ hst Try.underlying27 rfl (by kernel_rfl) ?_)
                refine (HROW.out _).mono ?_
                rintro e w3 ⟨rfl, b3⟩
                have hcN3 := cell_kept b3 hcN
                have hfN3 : w3.frozen? ⟨N, i, none⟩ = false := Lib.frozen_of_heap (heap_below b3 HL.out.next hNlt) i
                have HL3 := Lib.hid (HL.out.on b3)
                clear hcN hfN hst b3
                go_wp2_with fail
                go_roundw
                case rel => exact ⟨l.length + 1, _, _, _, by omega, Nat.le_refl _, by go_num, rfl, rfl, HINR.out, by first | exact HL3.out | exact HL3.out.setN HRN.out i _ (by rw [HR.out.1.1]; omega)⟩
                case measure => simp [intOf]
            · have hlt : k < l.length := by omega
              obtain ⟨b, off, ha, hbw, hc⟩ := HRW.out.at (by intro e; rw [e] at hlt; simp at hlt)
              subst ha
              obtain ⟨g0, g1, g2, g3, g4, -⟩ := Gap.at (w := w) (b := b) (o := off + k * 6) (g := l[k]) (hc k hlt)
              obtain ⟨v1, v2, v3, v4, v5, v6, -, -, vm⟩ := valid_bd (HV.out _ (List.getElem_mem hlt))
              have hck := endc_at (atI rest) hlt
              rw [hck] at hcn
              have hme := may_end hlt
              have hmu := must_at hlt
              have hwn := wid_succ first l i k hlt
              rw [← HWV.out] at hwn
              have hdk := HDK.out hlt
              have hcD := HL.out.rest.atI (k + 1) (by rw [HI.out.1]; omega)
              clear hck hc
              generalize l[k] = gk at *
              obtain ⟨gw, gb, gm, gy, gc, gn⟩ := gk
              dsimp only at g0 g1 g2 g3 g4 v1 v2 v3 v4 v5 v6 vm hcn hme hmu hwn
              generalize atI rest (k + 1) = dk at hcn hdk hcD
              obtain ⟨hdk0, hdk1⟩ := hdk
              have hdk2 : dk ≤ 60000000000000 * 400 := by omega
              have hcase : ∃ (c' : Int) (next'' : List Int), ((gy = false ∧ gm = false ∧ c' = c ∧ next'' = next') ∨ (gy = true ∧ c < 0 ∧ c' = ex + gc + dk ∧ next'' = next'.set i k) ∨ (gy = true ∧ ¬ c < 0 ∧ ex + gc + dk ≤ c ∧ c' = ex + gc + dk ∧ next'' = next'.set i k) ∨ (gy = true ∧ ¬ c < 0 ∧ ¬ ex + gc + dk ≤ c ∧ c' = c ∧ next'' = next')) ∧ Mid s first l rest next i (k + 1) c' next'' := by
                have hcx : cand s first l (atI rest) i k = ex + gc + dk := by rw [hcn]; omega
                cases hgy : gy with
                | false => exact ⟨c, _, .inl ⟨rfl, (by cases hgm : gm with | false => rfl | true => rw [vm hgm] at hgy; cases hgy), rfl, rfl⟩, HR.out.1.skip (by rw [hme]; exact hgy)⟩
                | true =>
                  have he : endB l k = true := by rw [hme]; exact hgy
                  by_cases h1 : c < 0
                  · have hmid := HR.out.1.take hik hi he HCD.out (.inl h1)
                    rw [hcx] at hmid
                    exact ⟨_, _, .inr (.inl ⟨rfl, h1, rfl, rfl⟩), hmid⟩
                  · by_cases h2 : ex + gc + dk ≤ c
                    · have hmid := HR.out.1.take hik hi he HCD.out (.inr (by rw [hcx]; exact h2))
                      rw [hcx] at hmid
                      exact ⟨_, _, .inr (.inr (.inl ⟨rfl, h1, h2, rfl, rfl⟩)), hmid⟩
                    · exact ⟨c, _, .inr (.inr (.inr ⟨rfl, h1, h2, rfl, rfl⟩)), HR.out.1.keep (by omega) (by rw [hcx]; omega)⟩
              obtain ⟨c', next'', hcase, hmid⟩ := hcase
              have HMID := Lib.hid hmid
              have HMU := Lib.hid hmu
              have HWN := Lib.hid hwn
              have hk1 : (k : Int) < (l.length : Int) := by omega
              have hk2 : (k : Int) + 1 < (l.length : Int) + 1 := by omega
              have hmin : (if (k : Int) + 1 < (l.length : Int) then (k : Int) + 1 else (l.length : Int)) = (k : Int) + 1 := by
                split <;> omega
              have hRlt := HL.out.rest.lt
              have hbr : b < wr.heap.size := by have := HBX.out.size; omega
              have hgg := fun (p : Addr) (v : Value) (hb : p.block = b) (h : w.cell? p = some v) => (HBX.out.cell (p := p) (by rw [hb]; exact hbw)).trans h
              have k0 := hgg _ _ rfl g0
              have k1 := hgg _ _ rfl g1
              have k2 := hgg _ _ rfl g2
              have k3 := hgg _ _ rfl g3
              have k4 := hgg _ _ rfl g4
              clear hmid hmu hme hwn hcn vm g0 g1 g2 g3 g4 hgg hdk1
              rcases hcase with ⟨rfl, rfl, rfl, rfl⟩ | ⟨rfl, h1, rfl, rfl⟩ | ⟨rfl, h1, h2, rfl, rfl⟩ | ⟨rfl, h1, h2, rfl, rfl⟩
              all_goals (try cases gm)
              all_goals
                have hbN : b ≠ N := by have := HNe.out; omega
                go_wp2_with (with_reducible refine wpList_load_row rfl 27 _ rfl _ rfl 27 _ _ _ hst Try.underlying27 rfl (by kernel_rfl) ?_)
                refine (HROW.out _).mono ?_
                rintro e w3 ⟨rfl, b3⟩
                have k0 := cell_kept b3 k0
                have k1 := cell_kept b3 k1
                have k2 := cell_kept b3 k2
                have k3 := cell_kept b3 k3
                have k4 := cell_kept b3 k4
                have hcD := cell_kept b3 hcD
                have hcN3 := cell_kept b3 hcN
                have hfN3 : w3.frozen? ⟨N, i, none⟩ = false := Lib.frozen_of_heap (heap_below b3 HL.out.next hNlt) i
                have HL3 := Lib.hid (HL.out.on b3)
                clear hcN hfN hst b3
                go_wp2_with fail
                go_quiet (fail)
                go_wp2_with fail
                have HLd := HL3.out.on (Ytblooekephkojaa.below_drewN w3.heap.size w3 nq)
                have j0 : (w3.drewN nq).cell? ⟨b, off + k * 6, none⟩ = some (.int .i64 gw) := k0
                have j1 : (w3.drewN nq).cell? ⟨b, off + k * 6 + 1, none⟩ = some (.int .i64 gb) := k1
                have j2 := (show (w3.drewN nq).cell? ⟨b, off + k * 6 + 2, none⟩ = some _ from k2)
                first
                  | (obtain ⟨X, hX⟩ : ∃ X, X = (w3.drewN nq).setCell ⟨N, i, none⟩ (.int .i64 k) := ⟨_, rfl⟩
                     rw [← hX]
                     have HLX := Lib.hid (HLd.setN HRN.out i k (by rw [HR.out.1.1]; omega))
                     rw [← hX] at HLX
                     have i0 := setCell_other_cell (p := ⟨N, i, none⟩) (v := .int .i64 k) (by exact hbN) j0
                     have i1 := setCell_other_cell (p := ⟨N, i, none⟩) (v := .int .i64 k) (by exact hbN) j1
                     have i2 := setCell_other_cell (p := ⟨N, i, none⟩) (v := .int .i64 k) (by exact hbN) j2
                     rw [← hX] at i0 i1 i2)
                  | (obtain ⟨X, hX⟩ : ∃ X, X = w3.drewN nq := ⟨_, rfl⟩
                     have HLX := Lib.hid HLd
                     have i0 := j0
                     have i1 := j1
                     have i2 := j2
                     rw [← hX] at HLX i0 i1 i2
                     rw [← hX])
                have hcR := HLX.out.rest.atI i (by rw [HI.out.1]; omega)
                generalize atI rest i = oldR at hcR
                have hfR : X.frozen? ⟨R, i, none⟩ = false := Lib.frozen_of_heap HLX.out.rest i
                have hRx := HLX.out.rest.lt
                clear hX HLd j0 j1 j2 k0 k1 k2 k3 k4 hcN3 hfN3 HL3 hcD
                go_quiet (fail)
                go_wp2_with fail
                go_roundw
                case rel =>
                  first
                  | exact ⟨i, _, _, by omega, rfl, LInv.step HS.out hF0 hF1 HV.out hl HI.out hi (HR.out.most hik hkl HMU.out) HMID.out, (HLX.out.on (Ytblooekephkojaa.below_drewN _ _ _)).setR HRN.out i _ (by rw [HI.out.1]; omega)⟩
                  | exact ⟨k + 1, _, _, _, by omega, by omega, by go_num, rfl, rfl, HR.out.step HMID.out (fun _ => HWN.out.symm) (fun _ => HMU.out), HLX.out.on (Ytblooekephkojaa.below_drewN _ _ _)⟩
                case measure => first | (simp [intOf]; omega) | simp [intOf]
end Go.Proofs.Ytblooekephkojaa

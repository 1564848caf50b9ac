/- The law ToldHalves: its plain part and its walk. -/
import Derived.Test.YtodjhgalbaelkaaDoorTwQ
namespace Go.Proofs.YtodjhgalbaelkaaDoor
open Go.RowKit Go.BigFrame Go.Shelf
set_option linter.unusedVariables false

theorem fidx_congr (x : ByteArray) : ∀ (l l' : List Fil), l.map (·.n) = l'.map (·.n) → fidx x l = fidx x l'
  | [], [], _ => rfl
  | [], _ :: _, h => by simp at h
  | _ :: _, [], h => by simp at h
  | f :: l, g :: l', h => by
    simp only [List.map_cons, List.cons.injEq] at h
    rw [fidx, fidx, h.1, fidx_congr x l l' h.2]
theorem stepC_some {l r r' : List Fil} {c : Chg} (h : stepC l r c = some r') : ∃ k f t, fidx c.n l = some k ∧ r[k]? = some f ∧ applyE (dl f.t) c.es = some t ∧ r' = r.set k ⟨f.n, str t⟩ := by
  unfold stepC at h
  split at h
  · cases h
  · rename_i k hk
    split at h
    · cases h
    · rename_i f hf
      obtain ⟨t, ht, rfl⟩ := Option.map_eq_some_iff.1 h
      exact ⟨k, f, t, hk, hf, ht, rfl⟩
theorem stepC_names {l r r' : List Fil} {c : Chg} (h : stepC l r c = some r') : r'.map (·.n) = r.map (·.n) := by
  obtain ⟨k, f, t, _, hf, _, rfl⟩ := stepC_some h
  obtain ⟨hk, rfl⟩ := List.getElem?_eq_some_iff.1 hf
  rw [List.map_set]
  apply List.ext_getElem?
  intro i
  rw [List.getElem?_set]
  split
  · rename_i e; subst e
    simp [hk]
  · rfl
theorem runC_names (l : List Fil) : ∀ (c : List Chg) (r r' : List Fil), runC l r c = some r' → r'.map (·.n) = r.map (·.n)
  | [], r, r', h => by cases h; rfl
  | x :: c, r, r', h => by
    rw [runC, Option.bind_eq_some_iff] at h
    obtain ⟨r1, h1, h2⟩ := h
    rw [runC_names l c r1 r' h2, stepC_names h1]
theorem runC_append (l : List Fil) : ∀ (c d : List Chg) (r : List Fil), runC l r (c ++ d) = (runC l r c).bind fun r' => runC l r' d
  | [], d, r => rfl
  | x :: c, d, r => by
    rw [List.cons_append, runC, runC]
    cases stepC l r x with
    | none => rfl
    | some r1 => exact runC_append l c d r1
theorem runC_congr (l l' : List Fil) (h : l.map (·.n) = l'.map (·.n)) : ∀ (c : List Chg) (r : List Fil), runC l r c = runC l' r c
  | [], r => rfl
  | x :: c, r => by
    have : stepC l r x = stepC l' r x := by unfold stepC; rw [fidx_congr x.n l l' h]
    rw [runC, runC, this]
    congr 1
    funext r1
    exact runC_congr l l' h c r1
theorem runC_bound (l : List Fil) (Y X : Nat) : ∀ (c : List Chg) (r r' : List Fil), runC l r c = some r' → (∀ f ∈ r, f.t.size + (chS c + Y) ≤ X) → ∀ f ∈ r', f.t.size + Y ≤ X
  | [], r, r', h, hf => by
    cases h
    intro f hm; have := hf f hm; have h0 : chS [] = 0 := rfl; omega
  | x :: c, r, r', h, hf => by
    rw [runC, Option.bind_eq_some_iff] at h
    obtain ⟨r1, h1, h2⟩ := h
    refine runC_bound l Y X c r1 r' h2 fun g hg => ?_
    obtain ⟨k, f, t, _, hk, ht, rfl⟩ := stepC_some h1
    have hs : chS (x :: c) = edS x.es + chS c := rfl
    rcases List.mem_or_eq_of_mem_set hg with hg | rfl
    · have := hf g hg; omega
    · have h3 := hf f (List.mem_of_getElem? hk)
      have h4 := applyE_len ht
      rw [← size_dl] at h4
      show (str t).size + _ ≤ _
      rw [str_size]
      omega
theorem okC_weak {p : Option ByteArray} {c : Chg} (h : okC p c = true) : okC none c = true := by
  unfold okC at h ⊢
  simp only [Bool.and_eq_true] at h ⊢
  exact ⟨⟨h.1.1, trivial⟩, h.2⟩
theorem okCs_weak {p : Option ByteArray} : ∀ {c : List Chg}, okCs p c = true → okCs none c = true
  | [], _ => rfl
  | x :: c, h => by
    rw [okCs, Bool.and_eq_true] at h ⊢
    exact ⟨okC_weak h.1, h.2⟩
theorem okCs_take : ∀ (c : List Chg) (k : Nat) (p : Option ByteArray), okCs p c = true → okCs p (c.take k) = true
  | _, 0, _, _ => by simp [okCs]
  | [], _, _, _ => by simp [okCs]
  | x :: c, k + 1, p, h => by
    rw [okCs, Bool.and_eq_true] at h
    rw [List.take_succ_cons, okCs, Bool.and_eq_true]
    exact ⟨h.1, okCs_take c k _ h.2⟩
theorem okCs_drop : ∀ (c : List Chg) (k : Nat) (p : Option ByteArray), okCs p c = true → okCs none (c.drop k) = true
  | c, 0, p, h => okCs_weak h
  | [], _ + 1, _, _ => by simp [okCs]
  | x :: c, k + 1, p, h => by
    rw [okCs, Bool.and_eq_true] at h
    exact okCs_drop c k _ h.2
/-- Applied in two parts. -/
theorem appC_parts {l r : List Fil} {c : List Chg} (k : Nat) (h : appC l c = some r) : ∃ r1, appC l (c.take k) = some r1 ∧ appC r1 (c.drop k) = some r := by
  unfold appC at h
  split at h
  · rename_i hc
    rw [Bool.and_eq_true] at hc
    have hr := h
    rw [← List.take_append_drop k c, runC_append, Option.bind_eq_some_iff] at hr
    obtain ⟨r1, h1, h2⟩ := hr
    have hn := runC_names l _ _ _ h1
    refine ⟨r1, ?_, ?_⟩
    · unfold appC
      rw [if_pos (by
        rw [Bool.and_eq_true]
        refine ⟨okCs_take c k none hc.1, ?_⟩
        rw [List.all_eq_true]
        exact fun x hx => List.all_eq_true.1 hc.2 x (List.mem_of_mem_take hx))]
      exact h1
    · unfold appC
      rw [if_pos (by
        rw [Bool.and_eq_true]
        refine ⟨okCs_drop c k none hc.1, ?_⟩
        rw [List.all_eq_true]
        intro x hx
        rw [fidx_congr x.n r1 l hn]
        exact List.all_eq_true.1 hc.2 x (List.mem_of_mem_drop hx))]
      rw [runC_congr r1 l hn]
      exact h2
  · cases h
theorem appC_len {l r : List Fil} {c : List Chg} (h : appC l c = some r) : r.length = l.length := by
  unfold appC at h
  split at h
  · have := congrArg List.length (runC_names l c l r h)
    simpa using this
  · cases h
theorem appC_names {l r : List Fil} {c : List Chg} (h : appC l c = some r) : r.map (·.n) = l.map (·.n) := by
  unfold appC at h
  split at h
  · exact runC_names l c l r h
  · cases h
theorem appC_bound {l r : List Fil} {c : List Chg} {X Y : Nat} (h : appC l c = some r) (hf : ∀ f ∈ l, f.t.size + (chS c + Y) ≤ X) : ∀ f ∈ r, f.t.size + Y ≤ X := by
  unfold appC at h
  split at h
  · exact runC_bound l Y X c l r h hf
  · cases h
theorem chS_parts (c : List Chg) (k : Nat) : chS (c.take k) + chS (c.drop k) = chS c := by
  unfold chS
  rw [← List.sum_append, ← List.map_append, List.take_append_drop]
theorem cut_pos (cut : Int) (n : Nat) (h0 : -9223372036854775808 ≤ cut) (h1 : cut ≤ 9223372036854775807) (hn : n ≤ 2000000) : ∃ k : Nat, k ≤ n ∧ (cut.tmod ((n : Int) + 1) + (n : Int) + 1).tmod ((n : Int) + 1) = (k : Int) ∧ -(n : Int) ≤ cut.tmod ((n : Int) + 1) ∧ cut.tmod ((n : Int) + 1) ≤ n := by
  have h3 : cut.tmod ((n : Int) + 1) < (n : Int) + 1 := Int.tmod_lt_of_pos _ (by omega)
  have h4 : -((n : Int) + 1) < cut.tmod ((n : Int) + 1) := by
    have := Int.lt_tmod_of_pos cut (b := (n : Int) + 1) (by omega)
    omega
  have h5 : (cut.tmod ((n : Int) + 1) + (n : Int) + 1).tmod ((n : Int) + 1) < (n : Int) + 1 := Int.tmod_lt_of_pos _ (by omega)
  have h6 : 0 ≤ (cut.tmod ((n : Int) + 1) + (n : Int) + 1).tmod ((n : Int) + 1) := Int.tmod_nonneg _ (by omega)
  exact ⟨((cut.tmod ((n : Int) + 1) + (n : Int) + 1).tmod ((n : Int) + 1)).toNat, by omega, by omega, by omega, by omega⟩

/-- A slice's part, as the model writes it. -/
theorem row_part {α : Type} {n : Nat} {f : α → List Value} {w : World} {a : Option Addr} {l : List α} (h : RowAt n f w a l) (k cap : Nat) (hc : l.length ≤ cap) : RowAt n f w (if cap = k then a else a.map (fun q => q.add (k * n))) (l.drop k) := by
  by_cases hk : l.length ≤ k
  · left; rw [List.drop_eq_nil_iff]; exact hk
  · obtain ⟨b, off, rfl, hb, hcc⟩ := h.at (by intro e; simp [e] at hk)
    right
    rw [if_neg (by omega)]
    refine ⟨b, off + k * n, by simp [Addr.add], hb, fun i hi => ?_⟩
    have := hcc (k + i) (by simp at hi; omega)
    rw [List.getElem_drop, show off + k * n + i * n = off + (k + i) * n from by rw [Nat.add_mul]; omega]
    exact this
theorem row_take {α : Type} {n : Nat} {f : α → List Value} {w : World} {a : Option Addr} {l : List α} (h : RowAt n f w a l) (k : Nat) : RowAt n f w a (l.take k) := by
  rcases h with rfl | ⟨b, off, ha, hb, hcc⟩
  · left; simp
  · exact .inr ⟨b, off, ha, hb, fun i hi => by
      rw [List.getElem_take]; exact hcc i (by simp at hi; omega)⟩

theorem flat_get {α : Type} (n : Nat) (f : α → List Value) (hf : ∀ g, (f g).length = n) : ∀ (l : List α) (i j : Nat) (h : i < l.length), j < n → (l.flatMap f)[i * n + j]? = (f l[i])[j]?
  | [], i, j, h, _ => by simp at h
  | g :: l, 0, j, h, hj => by
    rw [List.flatMap_cons, List.getElem?_append_left (by rw [hf]; omega)]; simp
  | g :: l, i + 1, j, h, hj => by
    have ih := flat_get n f hf l i j (by simpa using h) hj
    rw [List.flatMap_cons, List.getElem?_append_right (by rw [hf, Nat.add_mul]; omega), hf, show (i + 1) * n + j - n = i * n + j from by rw [Nat.add_mul]; omega, ih]
    rfl
theorem rowAt_owns {α : Type} {n : Nat} {f : α → List Value} (hf : ∀ g, (f g).length = n) {w : World} {base e m cap : Nat} {a : Option Addr} {l : List α} (h : w.ownsRow base e n (.slice a m cap) m (l.flatMap f)) (hm : m = l.length) :
    (a = none → l = [] ∧ cap = 0) ∧ RowAt n f w a l := by
  subst hm
  rcases h.2 with ⟨hv, hz⟩ | ⟨g, cap', cur, hv, hb, hg, hc, _⟩
  · simp only [Value.slice.injEq] at hv
    have : l = [] := List.length_eq_zero_iff.1 hz
    exact ⟨fun _ => ⟨this, hv.2.2⟩, .inl this⟩
  · simp only [Value.slice.injEq] at hv
    obtain ⟨rfl, -, rfl⟩ := hv
    refine ⟨fun e => (by cases e), .inr ⟨g, 0, rfl, (Array.getElem?_eq_some_iff.1 hg).1, fun i hi j u hu => ?_⟩⟩
    have hj : j < n := by rw [← hf l[i]]; exact (List.getElem?_eq_some_iff.1 hu).1
    have hb : i * n + j < l.length * n := by
      have : (i + 1) * n ≤ l.length * n := Nat.mul_le_mul_right _ hi
      rw [Nat.add_mul] at this
      omega
    have := h.cellAt (i * n + j) hb
    rw [Nat.zero_add, this, flat_get n f hf l i j hi hj, hu]

set_option maxRecDepth 100000 in
set_option maxHeartbeats 16000000 in
theorem Td.halves (a : Option Addr) (ca : Nat) (l : List Fil) (b : Option Addr) (cb : Nat) (c : List Chg) (cut : Int) (w : World) (hr : RowAt 2 Fil.f w a l) (hnil : a = none → l = [] ∧ ca = 0) (hl : l.length ≤ 2000000) (hn : ∀ f ∈ l, f.n.size ≤ maxLen)
    (hc : ChsAt w b c) (hcb : c.length ≤ cb) (hcm : cb ≤ maxLen) (hcn : b = none → c = [] ∧ cb = 0) (hb : Bnd c) (hs : ∀ f ∈ l, f.t.size + chS c ≤ 2000000) (hcut0 : -9223372036854775808 ≤ cut) (hcut1 : cut ≤ 9223372036854775807) (ht : Tab w) :
    Calls Tryd.prog 3 #[.slice a l.length ca, .slice b c.length cb, .int .i64 cut] w fun e w' => e = .returned (.bool true) ∧ Below w.heap.size w w' := by
  have HR := Lib.hid hr
  have HNIL := Lib.hid hnil
  have HN := Lib.hid hn
  have HC := Lib.hid hc
  have HB := Lib.hid hb
  have HS := Lib.hid hs
  have HT := Lib.hid ht
  have hcl := hb.len
  obtain ⟨k, hk, hk1, hk2, hk3⟩ := cut_pos cut c.length hcut0 hcut1 hcl
  clear hr hnil hn hc hb hs ht
  go_enter Tryd.func3, Tryd.ntmps3
  go_wp2_with fail
  refine (Td.alive w HT.out).mono ?_
  rintro e w1 ⟨rfl, b1⟩
  have B1 := Lib.hid b1
  have hs1 := b1.size
  clear b1
  go_wp2_with fail
  go_loopw [8, 9] (fun s8 s9 wr => ∃ (n : Int) (i : Nat), i ≤ l.length ∧ s8 = .int .i64 n ∧ s9 = .int .i64 i ∧ Below w.heap.size w wr) (fun _ s9 _ => l.length - (intOf s9).toNat)
  case atStart => exact ⟨0, 0, by omega, rfl, rfl, B1.out⟩
  case round =>
    clear B1 hs1
    obtain ⟨n, i, hi, rfl, rfl, hbel⟩ := hrel
    have HBEL := Lib.hid hbel
    have hsz := hbel.size
    by_cases hlt : i < l.length
    · obtain ⟨bb, off, rfl, hbw, hcc⟩ := HR.out.at (by intro e; simp [e] at hlt)
      have g := fun u : Ext wr => Fil.at (w := u.w) (b := bb) (o := off + i * 2) (x := l[i]) (((hcc i hlt).below hbel hbw).below u.below (by omega))
      have g0 := fun u => (g u).1
      have g1 := fun u => (g u).2
      clear hcc g hbel
      generalize l[i] = x at *
      obtain ⟨xn, xt⟩ := x
      simp only at *
      go_wp2_with fail
      refine wp_region_quiet (C := fun w' => ∃ u : Ext wr, w' = u.w) (by kernel_rfl) (by kernel_rfl) (Ext.drew wr) ?_
      dsimp only []
      repeat (go_big_quiet_step (fail))
      refine wpQuiet_nil ?_
      rintro w' ⟨u, rfl⟩
      have hu := u.below
      clear g0 g1
      generalize u.w = uw at *
      clear u
      have HU := Lib.hid hu
      clear hu
      go_wp2_with fail
      go_roundw
      case rel => exact ⟨_, i + 1, by omega, rfl, by go_num, HBEL.out.trans (HU.out.mono hsz)⟩
      case measure => simp [intOf]; omega
    · obtain rfl : i = l.length := by omega
      have hr2 : RowAt 2 Fil.f wr a l := HR.out.below hbel (Nat.le_refl _) hsz
      have hc2 := HC.out.below hbel
      have HR2 := Lib.hid hr2
      have HC2 := Lib.hid hc2
      clear hbel HR HC hr2 hc2
      by_cases hnn : (400 : Int) < n
      · go_wp2_with fail
        go_ret
        exact ⟨rfl, HBEL.out⟩
      · go_wp2_with fail
        refine (Td.great b cb c wr HC2.out hcl HB.out.es).mono ?_
        rintro e w3 ⟨⟨gb, rfl⟩, b3⟩
        have B3 := Lib.hid b3
        have hs3 := b3.size
        cases gb
        · have hr3 : RowAt 2 Fil.f w3 a l := HR2.out.below b3 (Nat.le_refl _) hs3
          have hc3 := HC2.out.below b3
          have HR3 := Lib.hid hr3
          have HC3 := Lib.hid hc3
          clear b3 hr3 hc3 HR2 HC2
          go_wp2_with fail
          refine (Td.apply a ca l b cb c w3 HR3.out HNIL.out hl HN.out HC3.out HB.out HS.out).mono ?_
          rintro e w4 ⟨hres, b4⟩
          cases hap : appC l c with
          | none =>
            rw [hap] at hres
            obtain ⟨n, hn0, rfl⟩ := hres
            have B4 := Lib.hid b4
            clear b4 hap
            go_wp2_with fail
            go_ret
            exact ⟨rfl, HBEL.out.trans ((B3.out.trans (B4.out.mono hs3)).mono hsz)⟩
          | some r =>
            rw [hap] at hres
            obtain ⟨hrl, v, rfl, hown⟩ := hres
            obtain ⟨ax, cx, rfl⟩ := row_shape hown
            obtain ⟨r1, hap1, hap2⟩ := appC_parts k hap
            have hrl1 := appC_len hap1
            have hs4 := b4.size
            have hr4 : RowAt 2 Fil.f w4 a l := HR3.out.below b4 (Nat.le_refl _) hs4
            have hc4 := HC3.out.below b4
            have HR4 := Lib.hid hr4
            have HC4 := Lib.hid hc4
            have B4 := Lib.hid b4
            have HOWN := Lib.hid hown
            have HAP1 := Lib.hid hap1
            have HAP2 := Lib.hid hap2
            clear b4 hap hap1 hap2 hr4 hc4 hown HR3 HC3
            go_wp2_with fail
            have hkl : (c.take k).length = k := by simp; omega
            have hdl : (c.drop k).length = c.length - k := by simp
            have hcs := chS_parts c k
            have A := Td.apply a ca l b cb (c.take k) w4 HR4.out HNIL.out hl HN.out ⟨row_take HC4.out.1 k, fun x hx => HC4.out.2 x (List.mem_of_mem_take hx)⟩
              ⟨by omega, fun x hx => HB.out.n x (List.mem_of_mem_take hx), fun x hx => HB.out.es x (List.mem_of_mem_take hx), fun x hx => HB.out.t x (List.mem_of_mem_take hx)⟩ (fun f hf => by have := HS.out f hf; omega)
            rw [hkl] at A
            refine A.mono ?_
            clear A
            rintro e w5 ⟨hres, b5⟩
            rw [HAP1.out] at hres
            obtain ⟨-, v, rfl, hown⟩ := hres
            obtain ⟨ay, cy, rfl⟩ := row_shape hown
            have hs5 := b5.size
            obtain ⟨hyn, hyr⟩ := rowAt_owns (f := Fil.f) (fun g => rfl) hown hrl1.symm
            have hyb := appC_bound (Y := chS (c.drop k)) (X := 2000000) HAP1.out (fun f hf => by have := HS.out f hf; omega)
            have hyna : ∀ f ∈ r1, f.n.size ≤ maxLen := fun f hf => by
              have h1 : f.n ∈ r1.map (·.n) := List.mem_map_of_mem hf
              rw [appC_names HAP1.out] at h1
              obtain ⟨g, hg, he⟩ := List.mem_map.1 h1
              rw [← he]; exact HN.out g hg
            have hc5 := HC4.out.below b5
            have HC5 := Lib.hid hc5
            have HYN := Lib.hid hyn
            have HYR := Lib.hid hyr
            have HYB := Lib.hid hyb
            have HYNA := Lib.hid hyna
            have B5 := Lib.hid b5
            clear b5 hown hyn hyr hyb hyna hc5 HC4 HR4
            obtain ⟨b', hif⟩ : ∃ b', (if cb = k then b else b.map (fun q => q.add (k * 2))) = b' := ⟨_, rfl⟩
            have hcd : ChsAt w5 b' (c.drop k) := by
              refine ⟨?_, fun x hx => HC5.out.2 x (List.mem_of_mem_drop hx)⟩
              rw [← hif]
              exact row_part HC5.out.1 k cb hcb
            have HCD := Lib.hid hcd
            clear hcd HC5
            go_wp2_with fail
            have A := Td.apply ay cy r1 b' (cb - k) (c.drop k) w5 HYR.out HYN.out (by omega) HYNA.out HCD.out
              ⟨by omega, fun x hx => HB.out.n x (List.mem_of_mem_drop hx), fun x hx => HB.out.es x (List.mem_of_mem_drop hx), fun x hx => HB.out.t x (List.mem_of_mem_drop hx)⟩ HYB.out
            rw [hdl, hrl1] at A
            refine A.mono ?_
            clear A
            rintro e w6 ⟨hres, b6⟩
            rw [HAP2.out] at hres
            obtain ⟨-, v, rfl, hown⟩ := hres
            rw [hrl1] at hown
            obtain ⟨az, cz, rfl⟩ := row_shape hown
            have hs6 := b6.size
            have hz := (rowAt_owns (f := Fil.f) (fun g => rfl) hown hrl.symm).2
            have hx := (rowAt_owns (f := Fil.f) (fun g => rfl) HOWN.out hrl.symm).2
            have hb46 : Below w4.heap.size w4 w6 := B5.out.trans (b6.mono hs5)
            have hx6 : RowAt 2 Fil.f w6 ax r := hx.below hb46 (Nat.le_refl _) hb46.size
            have HZ := Lib.hid hz
            have HX := Lib.hid hx6
            have hbw6 : Below w.heap.size w w6 := HBEL.out.trans ((B3.out.trans ((B4.out.trans (hb46.mono hs4)).mono hs3)).mono hsz)
            have HW6 := Lib.hid hbw6
            clear b6 hown hz hx hb46 hx6 hif hbw6 HOWN HYR HYN HYB HYNA HCD
            go_wp2_with fail
            obtain ⟨wr0, hwr0⟩ : ∃ wr0, wr0 = wr := ⟨_, rfl⟩
            subst hwr0
            clear hlt hi hnn
            go_loopw [17] (fun s17 wq => ∃ i : Nat, i ≤ l.length ∧ s17 = .int .i64 i ∧ Below w6.heap.size w6 wq) (fun s17 _ => l.length - (intOf s17).toNat)
            case atStart => exact ⟨0, by omega, rfl, Below.refl _ _⟩
            case round =>
              obtain ⟨i, hi, rfl, hbel⟩ := hrel
              have KB := Lib.hid hbel
              have hksz := hbel.size
              by_cases hlt : i < l.length
              · obtain ⟨zb, zo, rfl, hzb, hzc⟩ := HZ.out.at (by intro e; simp [e] at hrl; omega)
                obtain ⟨xb, xo, rfl, hxb, hxc⟩ := HX.out.at (by intro e; simp [e] at hrl; omega)
                have hir : i < r.length := by omega
                have gz := fun u : Ext wr => Fil.at (w := u.w) (b := zb) (o := zo + i * 2) (x := r[i]) (((hzc i hir).below hbel hzb).below u.below (by omega))
                have gx := fun u : Ext wr => Fil.at (w := u.w) (b := xb) (o := xo + i * 2) (x := r[i]) (((hxc i hir).below hbel hxb).below u.below (by omega))
                have z0 := fun u => (gz u).1
                have z1 := fun u => (gz u).2
                have x0 := fun u => (gx u).1
                have x1 := fun u => (gx u).2
                clear gz gx hzc hxc hbel
                generalize r[i] = f at *
                obtain ⟨fn, ft⟩ := f
                simp only at *
                go_wp2_with fail
                refine wp_region_quiet (C := fun w' => ∃ u : Ext wr, w' = u.w) (by kernel_rfl) (by kernel_rfl) (Ext.drew wr) ?_
                dsimp only []
                repeat (go_big_quiet_step (fail))
                refine wpQuiet_nil ?_
                rintro w' ⟨u, rfl⟩
                have HU := Lib.hid u.below
                clear z0 z1 x0 x1
                generalize u.w = uw at *
                clear u
                go_wp2_with fail
                go_roundw
                case rel => exact ⟨i + 1, by omega, by go_num, KB.out.trans (HU.out.mono hksz)⟩
                case measure => simp [intOf]; omega
              · obtain rfl : i = l.length := by omega
                clear hbel
                go_wp2_with fail
                go_ret
                exact ⟨rfl, HW6.out.trans (KB.out.mono HW6.out.size)⟩
        · clear b3
          go_wp2_with fail
          go_ret
          exact ⟨rfl, HBEL.out.trans (B3.out.mono hsz)⟩
end Go.Proofs.YtodjhgalbaelkaaDoor

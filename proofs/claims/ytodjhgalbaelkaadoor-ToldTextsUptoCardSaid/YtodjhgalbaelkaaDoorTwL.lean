/- told.Apply. -/
import Derived.Test.YtodjhgalbaelkaaDoorTwK
import Derived.Laws.OwnMore
namespace Go.Proofs.YtodjhgalbaelkaaDoor
open Go.RowKit Go.BigFrame Go.Shelf Go.ChangeMaps Go.WideMaps
set_option linter.unusedVariables false

theorem fil_set : ∀ (r : List Fil) (k : Nat) (h : k < r.length) (t : ByteArray), (r.flatMap Fil.f).set (k * 2 + 1) (.string t) = (r.set k ⟨r[k].n, t⟩).flatMap Fil.f
  | [], k, h, t => by simp at h
  | f :: r, 0, h, t => by simp [Fil.f]
  | f :: r, k + 1, h, t => by
    have := fil_set r k (by simpa using h) t
    rw [show (k + 1) * 2 + 1 = k * 2 + 1 + 1 + 1 from by omega]
    simp only [List.flatMap_cons, List.set_cons_succ, List.getElem_cons_succ, ← this]
    rfl
theorem fil_get : ∀ (r : List Fil) (k : Nat) (h : k < r.length), (r.flatMap Fil.f)[k * 2 + 1]? = some (.string r[k].t)
  | [], k, h => by simp at h
  | f :: r, 0, h => by simp [Fil.f]
  | f :: r, k + 1, h => by
    have := fil_get r k (by simpa using h)
    rw [show (k + 1) * 2 + 1 = k * 2 + 1 + 1 + 1 from by omega]
    simp only [List.flatMap_cons, List.getElem_cons_succ, ← this]
    rfl
def edS (l : List Edi) : Nat := (l.map (·.t.size)).sum
def chS (c : List Chg) : Nat := (c.map (fun x => edS x.es)).sum
theorem edS_le {l : List Edi} {x : Edi} (h : x ∈ l) : x.t.size ≤ edS l := by
  induction l with
  | nil => cases h
  | cons y l ih =>
    simp only [edS, List.map_cons, List.sum_cons] at *
    rcases List.mem_cons.1 h with rfl | h
    · omega
    · have := ih h; omega
theorem chS_at (c : List Chg) (i : Nat) (h : i < c.length) : chS (c.drop i) = edS c[i].es + chS (c.drop (i + 1)) := by
  rw [List.drop_eq_getElem_cons h]; rfl
theorem apL_len (s : Bs) (p : List Bs) (n : Nat) : ∀ (l : List Edi) (at' : Nat) (last : Int), (at' : Int) ≤ last + 1 → fitB s n last l = true → (apL p at' l).length ≤ (p.drop at').flatten.length + edS l
  | [], at', last, _, _ => by simp [apL, edS]
  | x :: r, at', last, ha, hf => by
    rw [fitB, Bool.and_eq_true] at hf
    obtain ⟨b1, b2, b3, b4⟩ := okB_bounds hf.1
    have ih := apL_len s p n r x.b.toNat x.b (by omega) hf.2
    have h1 : ((p.take x.a.toNat).drop at').flatten.length + (p.drop x.a.toNat).flatten.length = (p.drop at').flatten.length := by
      rw [← List.length_append, ← List.flatten_append]
      congr 2
      have e1 : p.drop at' = (p.take x.a.toNat ++ p.drop x.a.toNat).drop at' := by rw [List.take_append_drop]
      rw [e1, List.drop_append]
      congr 1
      rw [List.length_take]
      by_cases hq : x.a.toNat ≤ p.length
      · rw [show at' - min x.a.toNat p.length = 0 from by omega]; rfl
      · rw [show p.drop x.a.toNat = [] from List.drop_eq_nil_of_le (by omega)]; simp
    have h2 : (p.drop x.b.toNat).flatten.length ≤ (p.drop x.a.toNat).flatten.length := by
      apply flat_sub
      rw [show x.b.toNat = x.a.toNat + (x.b.toNat - x.a.toNat) from by omega, ← List.drop_drop]
      exact List.drop_sublist _ _
    rw [apL, List.length_append, List.length_append]
    have h3 : edS (x :: r) = x.t.size + edS r := rfl
    rw [h3]
    have h4 := size_dl x.t
    omega
theorem applyE_len {s r : Bs} {l : List Edi} (h : applyE s l = some r) : r.length ≤ s.length + edS l := by
  unfold applyE at h
  split at h
  · rename_i hf
    cases h
    have := apL_len s (lines s) _ l 0 (-1) (by omega) hf
    rw [List.drop_zero, lines_flat] at this
    exact this
  · cases h

theorem ownsRow_base {w : World} {B B' e size n : Nat} {v : Value} {xs : List Value} (h : w.ownsRow B e size v n xs) (hB : B' ≤ B) : w.ownsRow B' e size v n xs := by
  refine ⟨h.1, ?_⟩
  rcases h.2 with h | ⟨g, cap, cur, h1, h2, rest⟩
  · exact .inl h
  · exact .inr ⟨g, cap, cur, h1, by omega, rest⟩

/-- One change, of files whose first names are l's. -/
def stepC (l r : List Fil) (c : Chg) : Option (List Fil) :=
  match fidx c.n l with
  | none => none
  | some k => match r[k]? with
    | none => none
    | some f => (applyE (dl f.t) c.es).map fun t => r.set k ⟨f.n, str t⟩
def runC (l : List Fil) : List Fil → List Chg → Option (List Fil)
  | r, [] => some r
  | r, c :: cs => (stepC l r c).bind fun r' => runC l r' cs
def appC (l : List Fil) (c : List Chg) : Option (List Fil) := if okCs none c && c.all (fun x => (fidx x.n l).isSome) then runC l l c else none
theorem runC_at (l r : List Fil) (c : List Chg) (i : Nat) (h : i < c.length) : runC l r (c.drop i) = (stepC l r c[i]).bind fun r' => runC l r' (c.drop (i + 1)) := by
  rw [List.drop_eq_getElem_cons h]; rfl
def ApcPost (l : List Fil) (c : List Chg) (w : World) (e : Ending) (w' : World) : Prop :=
  (match appC l c with
    | some r => r.length = l.length ∧ ∃ v, e = .returned (.tuple #[v, .int .i64 0]) ∧ w'.ownsRow w.heap.size 26 2 v l.length (r.flatMap Fil.f)
    | none => ∃ n : Int, n ≠ 0 ∧ e = .returned (.tuple #[.slice none 0 0, .int .i64 n])) ∧ Below w.heap.size w w'

set_option maxRecDepth 100000 in
set_option maxHeartbeats 16000000 in
theorem Td.apply (a : Option Addr) (ca : Nat) (l : List Fil) (b : Option Addr) (cb : Nat) (c : List Chg) (w : World) (hr : RowAt 2 Fil.f w a l) (hnil : a = none → l = [] ∧ ca = 0) (hl : l.length ≤ 2000000) (hn : ∀ f ∈ l, f.n.size ≤ maxLen)
    (hc : ChsAt w b c) (hb : Bnd c) (hs : ∀ f ∈ l, f.t.size + chS c ≤ 2000000) : Calls Tryd.prog 9 #[.slice a l.length ca, .slice b c.length cb] w (ApcPost l c w) := by
  obtain ⟨A, hA⟩ : ∃ A, appC l c = A := ⟨_, rfl⟩
  have HA := Lib.hid hA
  have HR := Lib.hid hr
  have HNIL := Lib.hid hnil
  have HN := Lib.hid hn
  have HC := Lib.hid hc
  have HB := Lib.hid hb
  have HS := Lib.hid hs
  have hcl := hb.len
  clear hA hr hnil hn hc hb hs
  go_enter Tryd.func9, Tryd.ntmps9
  go_wp2_with fail
  refine (Td.changes b cb c w HC.out HB.out).mono ?_
  rintro e w1 ⟨rfl, b1⟩
  have B1 := Lib.hid b1
  have hs1 := b1.size
  clear b1
  cases hok : okCs none c
  · have HOK := Lib.hid hok
    clear hok
    go_wp2
    go_ret2
    have : appC l c = none := by unfold appC; rw [HOK.out]; rfl
    unfold ApcPost
    rw [this]
    exact ⟨⟨2, by decide, rfl⟩, B1.out⟩
  have HOK := Lib.hid hok
  clear hok
  go_wp2_with fail
  have hr1 : RowAt 2 Fil.f w1 a l := HR.out.below B1.out (Nat.le_refl _) hs1
  have HR1 := Lib.hid hr1
  clear hr1
  refine (Td.first a ca l w1 HR1.out hl HN.out).mono ?_
  rintro e w2 ⟨M, rfl, hf, hM, b2⟩
  have HF := Lib.hid hf
  have B2 := Lib.hid b2
  have hs2 := b2.size
  have hr2 : RowAt 2 Fil.f w2 a l := HR1.out.below b2 (Nat.le_refl _) hs2
  have hc2 : ChsAt w2 b c := (HC.out.below B1.out).below b2
  have HR2 := Lib.hid hr2
  have HC2 := Lib.hid hc2
  clear hf b2 hr2 hc2 HR1 HR HC
  go_wp2_with fail
  go_loopw [24] (fun s24 wr => ∃ i : Nat, i ≤ c.length ∧ s24 = .int .i64 i ∧ (c.take i).all (fun x => (fidx x.n l).isSome) = true ∧ Below w2.heap.size w2 wr) (fun s24 _ => c.length - (intOf s24).toNat)
  case atStart => exact ⟨0, by omega, rfl, rfl, Below.refl _ _⟩
  case round =>
    obtain ⟨i, hi, rfl, hall, hbel⟩ := hrel
    have HBEL := Lib.hid hbel
    have HALL := Lib.hid hall
    have hsz := hbel.size
    clear hall
    by_cases hlt : i < c.length
    · obtain ⟨bb, off, rfl, hbw, hcc⟩ := HC2.out.1.at (by intro e; simp [e] at hlt)
      obtain ⟨g0, g1⟩ := Chg.at (w := wr) (b := bb) (o := off + i * 2) (c := c[i]) ((hcc i hlt).below hbel hbw)
      have htk : c.take (i + 1) = c.take i ++ [c[i]] := List.take_succ_eq_append_getElem hlt
      have hxn := HB.out.n c[i] (List.getElem_mem hlt)
      have hmem : c[i] ∈ c := List.getElem_mem hlt
      obtain ⟨W5, hW5⟩ : ∃ W5, W5 = wr.alloc (.cells #[.string c[i].n, .slice c[i].ea c[i].es.length c[i].ec] 48) := ⟨_, rfl⟩
      have hb5 : Below wr.heap.size wr W5 := by rw [hW5]; exact below_alloc _ _
      have hf5 := (HF.out.on hbel).on hb5
      have hlk := hf5.look c[i].n (by unfold maxLen; omega)
      have HTK := Lib.hid htk
      have HMEM := Lib.hid hmem
      have HW5 := Lib.hid hW5
      have HB5 := Lib.hid hb5
      clear hcc htk hW5 hb5 hf5 hbel hmem
      generalize c[i] = x at *
      obtain ⟨xn, xa, xc, xes⟩ := x
      simp only at *
      cases hq : fidx xn l with
      | some k =>
        rw [hq] at hlk
        simp only [Option.isSome_some] at hlk
        have HQ := Lib.hid hq
        clear hq
        rw [HW5.out] at hlk
        go_wp2
        go_roundw
        case rel => exact ⟨i + 1, by omega, by go_num, by rw [HTK.out, List.all_append, HALL.out]; simp [HQ.out], by rw [← HW5.out]; exact HBEL.out.trans (HB5.out.mono hsz)⟩
        case measure => simp [intOf]; omega
      | none =>
        rw [hq] at hlk
        simp only [Option.isSome_none] at hlk
        have HQ := Lib.hid hq
        clear hq
        rw [HW5.out] at hlk
        go_wp2
        go_ret2
        have hno : (c.all fun x => (fidx x.n l).isSome) = false := by
          rw [List.all_eq_false]
          exact ⟨_, HMEM.out, by simp [HQ.out]⟩
        have : appC l c = none := by unfold appC; rw [HOK.out, hno]; rfl
        unfold ApcPost
        rw [this, ← HW5.out]
        exact ⟨⟨220, by decide, rfl⟩, B1.out.trans ((B2.out.trans ((HBEL.out.trans (HB5.out.mono hsz)).mono hs2)).mono hs1)⟩
    · obtain rfl : i = c.length := by omega
      rw [List.take_length] at HALL
      have hr3 : RowAt 2 Fil.f wr a l := HR2.out.below hbel (Nat.le_refl _) hsz
      have hc3 : ChsAt wr b c := HC2.out.below hbel
      have hf3 := HF.out.on hbel
      have HR3 := Lib.hid hr3
      have HC3 := Lib.hid hc3
      have HF3 := Lib.hid hf3
      have hM3 := hf3.lt
      clear hr3 hc3 hf3 hbel HR2 HC2 HF
      go_wp2_with fail
      refine (Td.clone a ca l wr HR3.out HNIL.out hl).mono ?_
      rintro e w3 ⟨v, rfl, hown, b3⟩
      obtain ⟨ga, gcap, rfl⟩ := row_shape hown
      have HOWN := Lib.hid hown
      have B3 := Lib.hid b3
      have hs3 := b3.size
      clear hown b3
      obtain ⟨w4, hw4⟩ : ∃ w4, w4 = wr := ⟨_, rfl⟩
      subst hw4
      clear hlt hi
      go_wp2_with fail
      go_loopw [42] (fun s42 wq => ∃ (i : Nat) (r : List Fil), i ≤ c.length ∧ s42 = .int .i64 i ∧ runC l l c = runC l r (c.drop i) ∧ r.length = l.length ∧ (∀ f ∈ r, f.t.size + chS (c.drop i) ≤ 2000000) ∧
        wq.ownsRow w4.heap.size 26 2 (.slice ga l.length gcap) l.length (r.flatMap Fil.f) ∧ Below w4.heap.size w4 wq) (fun s42 _ => c.length - (intOf s42).toNat)
      case atStart => exact ⟨0, l, by omega, rfl, rfl, rfl, HS.out, HOWN.out, B3.out⟩
      case round =>
        clear HOWN B3 HS
        obtain ⟨i, r, hi, rfl, hrun, hrl, hfs, hown, hbel⟩ := hrel
        have HRUN := Lib.hid hrun
        have HFS := Lib.hid hfs
        have HOWN := Lib.hid hown
        have KB := Lib.hid hbel
        have hsz' := hbel.size
        clear hrun hfs
        by_cases hlt : i < c.length
        · obtain ⟨bb, off, rfl, hbw, hcc⟩ := HC3.out.1.at (by intro e; simp [e] at hlt)
          obtain ⟨g0, g1⟩ := Chg.at (w := wr) (b := bb) (o := off + i * 2) (c := c[i]) ((hcc i hlt).below hbel hbw)
          have hxn := HB.out.n c[i] (List.getElem_mem hlt)
          have hsome := List.all_eq_true.1 HALL.out c[i] (List.getElem_mem hlt)
          have hrat := runC_at l r c i hlt
          have hchs := chS_at c i hlt
          have hel := HB.out.es c[i] (List.getElem_mem hlt)
          have htl := HB.out.t c[i] (List.getElem_mem hlt)
          have hed := (HC3.out.2 c[i] (List.getElem_mem hlt)).below hbel (Nat.le_refl _) hsz'
          obtain ⟨W5, hW5⟩ : ∃ W5, W5 = wr.alloc (.cells #[.string c[i].n, .slice c[i].ea c[i].es.length c[i].ec] 48) := ⟨_, rfl⟩
          have hb5 : Below wr.heap.size wr W5 := by rw [hW5]; exact below_alloc _ _
          have hw5s : wr.heap.size ≤ W5.heap.size := hb5.size
          have hbx : W5.heap[wr.heap.size]? = some (.cells #[.string c[i].n, .slice c[i].ea c[i].es.length c[i].ec] 48 (0, 0)) := by rw [hW5]; exact heap_alloc_new _ _
          have hb45 : Below w4.heap.size w4 W5 := hbel.trans (hb5.mono hsz')
          obtain ⟨k, hk⟩ := Option.isSome_iff_exists.1 hsome
          obtain ⟨hkl, hkn⟩ := fidx_lt _ _ _ hk
          have hf5 := HF3.out.on hb45
          have hlk := hf5.get c[i].n (by unfold maxLen; omega)
          rw [hk] at hlk
          simp only [Option.getD_some] at hlk
          have hkr : k < r.length := by omega
          have hrk := fil_get r k hkr
          have hset := fil_set r k hkr
          have hrkm := HFS.out r[k] (List.getElem_mem hkr)
          have hstep : stepC l r c[i] = (applyE (dl r[k].t) c[i].es).map fun t => r.set k ⟨r[k].n, str t⟩ := by
            unfold stepC; rw [hk]; simp only [List.getElem?_eq_getElem hkr]
          obtain ⟨G, rfl⟩ : ∃ G, ga = some ⟨G, 0, none⟩ := by
            rcases hown.2 with ⟨h1, h2⟩ | ⟨G, cap', cur, h1, _⟩
            · omega
            · simp only [Value.slice.injEq] at h1; exact ⟨G, h1.1⟩
          have hGb : w4.heap.size ≤ G := (row_cells hown rfl).1
          have hGlt : G < wr.heap.size := by
            obtain ⟨_, cur, hh⟩ := row_cells hown rfl
            exact (Array.getElem?_eq_some_iff.1 hh).1
          have hcell := hown.cellAt (k * 2 + 1) (by omega)
          rw [hrk] at hcell
          have hed5 := hed.below hb5 (Nat.le_refl _) hw5s
          have u0 : ∀ u : Ext W5, u.w.cell? ⟨wr.heap.size, 1, none⟩ = some (.slice c[i].ea c[i].es.length c[i].ec) := fun u => u.cell (by simp [World.cell?, hbx])
          have u1 : ∀ u : Ext W5, u.w.cell? ⟨G, k * 2 + 1, none⟩ = some (.string r[k].t) := fun u => u.cell ((hb5.cell (p := ⟨G, k * 2 + 1, none⟩) hGlt).trans hcell)
          have hap : ∀ u : Ext W5, Calls Tryd.prog 20 #[.string r[k].t, .slice c[i].ea c[i].es.length c[i].ec] u.w (ApPost r[k].t c[i].es u.w) := fun u => Ed.apply _ _ _ _ _ (hed5.below u.below (Nat.le_refl _) u.below.size) (by omega) hel htl
          have HW5 := Lib.hid hW5
          have HB5 := Lib.hid hb5
          have HB45 := Lib.hid hb45
          have HSTEP := Lib.hid hstep
          have HSET := Lib.hid hset
          have HRAT := Lib.hid hrat
          have HAP := Lib.hid hap
          clear hcc hed hed5 hbx hW5 hb5 hb45 hk hkn hf5 hrk hset hstep hrat hap hcell hbel hsome hown htl
          have HOWN5 : Hid (W5.ownsRow w4.heap.size 26 2 (.slice (some ⟨G, 0, none⟩) l.length gcap) l.length (r.flatMap Fil.f)) := Lib.hid (by rw [HW5.out]; exact HOWN.out.alloc _)
          rw [HW5.out] at hlk
          generalize c[i] = x at *
          generalize r[k] = f at *
          obtain ⟨xn, xa, xc, xes⟩ := x
          obtain ⟨fn, ft⟩ := f
          simp only at *
          cases hq : applyE (dl ft) xes with
          | none =>
            have hap : ∀ u : Ext W5, Calls Tryd.prog 20 #[.string ft, .slice xa xes.length xc] u.w fun e w' => e = .returned (.tuple #[.string ⟨#[]⟩, .int .i64 180]) ∧ Below u.w.heap.size u.w w' := fun u => (HAP.out u).mono fun e w' h => by
              unfold ApPost at h; rw [hq] at h; exact h
            have HAP2 := Lib.hid hap
            have hno : runC l l c = none := by rw [HRUN.out, HRAT.out, HSTEP.out, hq]; rfl
            have HNO := Lib.hid hno
            clear hq hap hno HAP
            go_wp2_with fail
            rw [← HW5.out]
            clear g0 g1 hlk
            refine wp_region_quiet (C := fun w' => ∃ u : Ext W5, w' = u.w) (by kernel_rfl) (by kernel_rfl) (Ext.drew W5) ?_
            dsimp only []
            repeat (go_big_quiet_step (fail))
            go_big_quiet_step ((go_at_call 20; rename_i u; refine (HAP2.out u).mono ?_; rintro e w2 ⟨rfl, b2⟩; exact ⟨rfl, u.on b2⟩))
            repeat (go_big_quiet_step (fail))
            refine wpQuiet_nil ?_
            rintro w' ⟨u, rfl⟩
            have HU := Lib.hid u.below
            clear u0 u1
            generalize u.w = uw at *
            clear u
            go_wp2
            go_ret2
            have : appC l c = none := by unfold appC; rw [HOK.out, HALL.out]; exact HNO.out
            unfold ApcPost
            rw [this]
            exact ⟨⟨180, by decide, rfl⟩, B1.out.trans ((B2.out.trans ((HBEL.out.trans ((HB45.out.trans (HU.out.mono (by omega))).mono hsz)).mono hs2)).mono hs1)⟩
          | some t =>
            have hap : ∀ u : Ext W5, Calls Tryd.prog 20 #[.string ft, .slice xa xes.length xc] u.w fun e w' => e = .returned (.tuple #[.string (str t), .int .i64 0]) ∧ Below u.w.heap.size u.w w' := fun u => (HAP.out u).mono fun e w' h => by
              unfold ApPost at h; rw [hq] at h; exact h
            have HAP2 := Lib.hid hap
            have hyes : runC l l c = runC l (r.set k ⟨fn, str t⟩) (c.drop (i + 1)) := by rw [HRUN.out, HRAT.out, HSTEP.out, hq]; rfl
            have htlen := applyE_len hq
            rw [← size_dl] at htlen
            have HYES := Lib.hid hyes
            clear hq hap hyes HAP
            go_wp2_with fail
            rw [← HW5.out]
            clear g0 g1 hlk
            refine wp_region_quiet (C := fun w' => ∃ u : Ext W5, w' = u.w) (by kernel_rfl) (by kernel_rfl) (Ext.drew W5) ?_
            dsimp only []
            repeat (go_big_quiet_step (fail))
            go_big_quiet_step ((go_at_call 20; rename_i u; refine (HAP2.out u).mono ?_; rintro e w2 ⟨rfl, b2⟩; exact ⟨rfl, u.on b2⟩))
            repeat (go_big_quiet_step (fail))
            refine wpQuiet_nil ?_
            rintro w' ⟨u, rfl⟩
            have hub := u.below
            have huc := u1 u
            clear u0 u1
            generalize u.w = uw at *
            clear u
            have hownu : uw.ownsRow w4.heap.size 26 2 (.slice (some ⟨G, 0, none⟩) l.length gcap) l.length (r.flatMap Fil.f) := ownsRow_mod HOWN5.out (Mod.of_below (S := fun _ => False) hub) (fun k _ h => h)
            have hfz := hownu.frozenAt (k * 2 + 1)
            obtain ⟨hst, hgr⟩ := hownu.stored (k * 2 + 1) (.string (str t))
            rw [HSET.out] at hst
            have HST := Lib.hid hst
            have HU := Lib.hid hub
            clear hub hownu hst hgr
            go_wp2
            go_roundw
            case rel =>
              refine ⟨i + 1, r.set k ⟨fn, str t⟩, by omega, by go_num, HYES.out, by simpa using hrl, fun g hg => ?_, HST.out, (HB45.out.trans (HU.out.mono (by omega))).setCell (p := ⟨G, k * 2 + 1, none⟩) hGb _⟩
              rcases List.mem_or_eq_of_mem_set hg with hg | rfl
              · have := HFS.out g hg; omega
              · have : (str t).size = t.length := by simp [str, ByteArray.size]
                show (str t).size + _ ≤ _
                omega
            case measure => simp [intOf]; omega
        · obtain rfl : i = c.length := by omega
          rw [List.drop_length] at HRUN
          have hend : appC l c = some r := by unfold appC; rw [HOK.out, HALL.out]; exact HRUN.out
          have HEND := Lib.hid hend
          clear hend hown hbel
          go_wp2
          go_ret2
          unfold ApcPost
          rw [HEND.out]
          exact ⟨⟨hrl, _, rfl, ownsRow_base HOWN.out (by omega)⟩, B1.out.trans ((B2.out.trans ((HBEL.out.trans (KB.out.mono hsz)).mono hs2)).mono hs1)⟩
end Go.Proofs.YtodjhgalbaelkaaDoor

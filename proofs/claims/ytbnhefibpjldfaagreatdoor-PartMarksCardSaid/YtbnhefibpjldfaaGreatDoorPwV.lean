/- lines: directive. -/
import Derived.Test.YtbnhefibpjldfaaGreatDoorPwR
namespace Go.Proofs.YtbnhefibpjldfaaGreatDoor
open Go.RowKit Go.BigFrame Go.Shelf
set_option linter.unusedVariables false

theorem dirP_at {l : List Tk} {i : Nat} (h : i < l.length) (m : Bool) : dirP m (l.drop i) = if l[i].kind = 8 ∨ l[i].kind = 9 then dirP m (l.drop (i + 1)) else if m then (if l[i].kind = 1 then (l[i].text, true) else ([], true)) else if l[i].kind = 5 ∧ isHash l[i].text = true then dirP true (l.drop (i + 1)) else ([], false) := by
  rw [List.drop_eq_getElem_cons h, dirP]
theorem str_tl (x : Bs) : (str x).toList = x := by rw [toList_dl, dl_str]
theorem hash_no {x : Bs} (h : isHash x = false) : ((str x).toList == [35]) = false ∧ ((str x).toList == [37, 58]) = false := by
  simp only [isHash, Bool.or_eq_false_iff] at h
  rw [str_tl]
  exact h
set_option maxRecDepth 100000 in
set_option maxHeartbeats 8000000 in
theorem Ls.directive (a : Option Addr) (c : Nat) (l : List Tk) (w : World) (hr : RowAt 5 tkC w a l) (hl : l.length ≤ 1000000000) : Calls Tryz.prog 40 #[.slice a l.length c] w fun e w' => e = .returned (.tuple #[.string (str (dirP false l).1), .bool (dirP false l).2]) ∧ Below w.heap.size w w' := by
  have HROW := Lib.hid hr
  clear hr
  go_enter Tryz.func40, Tryz.ntmps40
  go_wp2_with fail
  go_loopw [4, 9] (fun s4 s9 wr => ∃ (i : Nat) (m : Bool), i ≤ l.length ∧ s9 = .int .i64 i ∧ s4 = .bool m ∧ dirP false l = dirP m (l.drop i) ∧ Below w.heap.size w wr) (fun _ s9 _ => l.length - (intOf s9).toNat)
  case atStart => exact ⟨0, false, Nat.zero_le _, rfl, rfl, rfl, Below.refl _ _⟩
  case round =>
    obtain ⟨i, m, hi, rfl, rfl, hb, hbel⟩ := hrel
    by_cases hlt : i < l.length
    · obtain ⟨gb, go, rfl, hgb, hgc⟩ := HROW.out.at (by intro e; simp [e] at hlt)
      obtain ⟨k0, k1, k2, k3, k4⟩ := CellsAt.get5 ((hgc i hlt).below hbel hgb)
      rw [dirP_at hlt] at hb
      have hlt' : (i : Int) < l.length := by omega
      generalize l[i] = t at *
      obtain ⟨kd, tx, lo, hi', sp⟩ := t
      simp only at k0 k1 k2 k3 k4 hb
      have HBEL := Lib.hid hbel
      have hws := hbel.size
      by_cases h8 : kd = 8
      · subst h8
        rw [if_pos (.inl rfl)] at hb
        have HB := Lib.hid hb
        clear hb hbel hgc
        go_wp2_with fail
        go_roundw
        case rel => exact ⟨i + 1, m, by omega, by go_num, rfl, HB.out, HBEL.out.trans ((below_alloc _ _).mono hws)⟩
        case measure => simp [intOf]; omega
      by_cases h9 : kd = 9
      · subst h9
        rw [if_pos (.inr rfl)] at hb
        have HB := Lib.hid hb
        clear hb hbel hgc
        go_wp2_with fail
        go_roundw
        case rel => exact ⟨i + 1, m, by omega, by go_num, rfl, HB.out, HBEL.out.trans ((below_alloc _ _).mono hws)⟩
        case measure => simp [intOf]; omega
      rw [if_neg (by omega)] at hb
      have h8' : ((kd : Int) == 8) = false := by rw [beq_eq_false_iff_ne]; omega
      have h9' : ((kd : Int) == 9) = false := by rw [beq_eq_false_iff_ne]; omega
      cases m
      · rw [if_neg (by simp)] at hb
        by_cases h5 : kd = 5
        · subst h5
          cases hh : isHash tx
          · obtain ⟨n1, n2⟩ := hash_no hh
            rw [if_neg (by simp [hh])] at hb
            have HB := Lib.hid hb
            clear hb hbel hgc h8 h9 hh
            go_wp2_with fail
            refine bodyPost_ret (v := .tuple #[.string (str (dirP false l).1), .bool (dirP false l).2]) (by rw [HB.out]; simp [results, Tryz.results40, go_sem]; try rfl) rfl ⟨rfl, ?_⟩
            exact HBEL.out.trans ((below_alloc _ _).mono hws)
          · rw [if_pos ⟨rfl, hh⟩] at hb
            have HB := Lib.hid hb
            simp only [isHash, Bool.or_eq_true, beq_iff_eq] at hh
            rcases hh with rfl | rfl
            · have n1 : ((str [35]).toList == [35]) = true := by rw [str_tl]; rfl
              clear hb hbel hgc h8 h9
              go_wp2_with fail
              go_roundw
              case rel => exact ⟨i + 1, true, by omega, by go_num, rfl, HB.out, HBEL.out.trans ((below_alloc _ _).mono hws)⟩
              case measure => simp [intOf]; omega
            · have n1 : ((str [37, 58]).toList == [35]) = false := by rw [str_tl]; rfl
              have n2 : ((str [37, 58]).toList == [37, 58]) = true := by rw [str_tl]; rfl
              clear hb hbel hgc h8 h9
              go_wp2_with fail
              go_roundw
              case rel => exact ⟨i + 1, true, by omega, by go_num, rfl, HB.out, HBEL.out.trans ((below_alloc _ _).mono hws)⟩
              case measure => simp [intOf]; omega
        · rw [if_neg (by simp [h5])] at hb
          have h5' : ((kd : Int) != 5) = true := by rw [bne_iff_ne]; omega
          have HB := Lib.hid hb
          clear hb hbel hgc h8 h9 h5
          go_wp2_with fail
          refine bodyPost_ret (v := .tuple #[.string (str (dirP false l).1), .bool (dirP false l).2]) (by rw [HB.out]; simp [results, Tryz.results40, go_sem]; try rfl) rfl ⟨rfl, ?_⟩
          exact HBEL.out.trans ((below_alloc _ _).mono hws)
      · rw [if_pos rfl] at hb
        by_cases h1 : kd = 1
        · subst h1
          rw [if_pos rfl] at hb
          have HB := Lib.hid hb
          clear hb hbel hgc h8 h9
          go_wp2_with fail
          refine bodyPost_ret (v := .tuple #[.string (str (dirP false l).1), .bool (dirP false l).2]) (by rw [HB.out]; simp [results, Tryz.results40, go_sem]; try rfl) rfl ⟨rfl, ?_⟩
          exact HBEL.out.trans ((below_alloc _ _).mono hws)
        · rw [if_neg h1] at hb
          have h1' : ((kd : Int) == 1) = false := by rw [beq_eq_false_iff_ne]; omega
          have HB := Lib.hid hb
          clear hb hbel hgc h8 h9 h1
          go_wp2_with fail
          refine bodyPost_ret (v := .tuple #[.string (str (dirP false l).1), .bool (dirP false l).2]) (by rw [HB.out]; simp [results, Tryz.results40, go_sem]; try rfl) rfl ⟨rfl, ?_⟩
          exact HBEL.out.trans ((below_alloc _ _).mono hws)
    · obtain rfl : i = l.length := by omega
      rw [List.drop_length] at hb
      have HB := Lib.hid hb
      have HBEL := Lib.hid hbel
      clear hb hbel
      go_wp2_with fail
      refine bodyPost_ret (v := .tuple #[.string (str (dirP false l).1), .bool (dirP false l).2]) (by rw [HB.out]; simp [results, Tryz.results40, go_sem, dirP]; try rfl) rfl ⟨rfl, ?_⟩
      exact HBEL.out
end Go.Proofs.YtbnhefibpjldfaaGreatDoor

/- PwU -/
namespace Go.Proofs.YtbnhefibpjldfaaGreatDoor
open Go.RowKit Go.BigFrame Go.Shelf
set_option linter.unusedVariables false

theorem tkC_len (t : Tk) : (tkC t).length = 5 := rfl
theorem tkC_one (t : Tk) : ∀ u ∈ tkC t, u.oneCell' = true := fun u hu => by simp [tkC] at hu; rcases hu with rfl | rfl | rfl | rfl | rfl <;> rfl
/-- A copy of tokens. -/
def CloneTk (l : List Tk) (w : World) (e : Ending) (w' : World) : Prop := ∃ v, e = .returned v ∧ w'.ownsRow w.heap.size 40 5 v l.length (l.flatMap tkC) ∧ Below w.heap.size w w'
set_option maxRecDepth 100000 in
set_option maxHeartbeats 2000000 in
theorem Ls.clone (a : Option Addr) (c : Nat) (l : List Tk) (w : World) (hr : RowAt 5 tkC w a l) (hnil : a = none → l = [] ∧ c = 0) (hl : l.length ≤ 1000000000) : Calls Tryz.prog 41 #[.slice a l.length c] w (CloneTk l w) := by
  obtain ⟨i0, hi, hz0, hz1, hz2⟩ := info_parts info40
  cases a with
  | none =>
    obtain ⟨rfl, rfl⟩ := hnil rfl
    have hq := Lib.run_eql_slice_nil w 30 _ none 0 0 0 0 Tryz.underlying30
    clear hr hnil hi hz0 hz1 hz2
    go_enter Tryz.func41, Tryz.ntmps41
    go_wp2_with fail
    go_ret
    exact ⟨_, rfl, World.ownsRow_nil _ _ _ _, Below.refl _ _⟩
  | some ad =>
    obtain ⟨W, hW⟩ : ∃ W, W = w.alloc (.cells #[] 40) := ⟨_, rfl⟩
    have hown : W.ownsRow w.heap.size 40 5 (.slice (some ⟨w.heap.size, 0, none⟩) 0 0) 0 [] := by rw [hW]; exact World.ownsRow_made w #[] 0 (Nat.le_refl _) (Nat.zero_le _) rfl
    have hbW : Below w.heap.size w W := by rw [hW]; exact below_alloc _ _
    have hrW : RowAt 5 tkC W (some ad) l := hr.below hbW (Nat.le_refl _) hbW.size
    have HI := Lib.hid hi
    have HZ0 := Lib.hid hz0
    have HZ1 := Lib.hid hz1
    have HZ2 := Lib.hid hz2
    have HW := Lib.hid hW
    have HOWN := Lib.hid hown
    have HBW := Lib.hid hbW
    have HRW := Lib.hid hrW
    have hq := Lib.run_eql_slice_nil w 30 _ (some ad) l.length c 0 0 Tryz.underlying30
    clear hr hnil hi hz0 hz1 hz2 hW hown hbW hrW
    go_enter Tryz.func41, Tryz.ntmps41
    go_wp2_with (at_builtin; rw [← HW.out]; refine wpList_append_rows tkC rfl _ _ 30 rfl w.heap.size 40 i0 (.agg #[.int .i64 0, .string ⟨#[]⟩, .int .i64 0, .int .i64 0, .bool false]) 5 48 Tryz.underlying30 HI.out HZ0.out HZ1.out HZ2.out rfl (by decide) tkC_len tkC_one _ 0 [] rfl HOWN.out (some ad) l c rfl (fun e => by cases e) HRW.out (by unfold maxLen; omega) (by omega) HBW.out.size ?_)
    intro v' w1 hown' hgrow
    have hB : Below w.heap.size w w1 := HBW.out.grown hgrow HBW.out.size (fun k hk => by simp [Value.ownBlock] at hk; omega)
    have hown2 : w1.ownsRow w.heap.size 40 5 v' l.length (l.flatMap tkC) := by simpa using hown'
    obtain ⟨a', c', rfl⟩ := row_shape hown2
    have HO2 := Lib.hid hown2
    have HB := Lib.hid hB
    clear hown' hown2 hgrow hB
    go_wp2_with fail
    go_ret
    exact ⟨_, rfl, HO2.out, HB.out⟩
end Go.Proofs.YtbnhefibpjldfaaGreatDoor

/- PwV -/
namespace Go.Proofs.YtbnhefibpjldfaaGreatDoor
open Go.RowKit Go.BigFrame Go.Shelf
set_option linter.unusedVariables false

theorem row_part {α : Type} {n : Nat} {f : α → List Value} {w : World} {a : Option Addr} {l : List α} (h : RowAt n f w a l) (k cap : Nat) (hc : l.length ≤ cap) : RowAt n f w (if cap = k then a else a.map (fun q => q.add (k * n))) (l.drop k) := by
  by_cases hk : l.length ≤ k
  · left; rw [List.drop_eq_nil_iff]; exact hk
  · obtain ⟨b, off, rfl, hb, hcc⟩ := h.at (by intro e; simp [e] at hk)
    right
    rw [if_neg (by omega)]
    refine ⟨b, off + k * n, by simp [Addr.add], hb, fun i hi => ?_⟩
    have := hcc (k + i) (by simp at hi; omega)
    rw [List.getElem_drop, show off + k * n + i * n = off + (k + i) * n from by rw [Nat.add_mul]; omega]
    exact this
theorem row_take {α : Type} {n : Nat} {f : α → List Value} {w : World} {a : Option Addr} {l : List α} (h : RowAt n f w a l) (k : Nat) : RowAt n f w a (l.take k) := by
  rcases h with rfl | ⟨b, off, ha, hb, hcc⟩
  · left; simp
  · exact .inr ⟨b, off, ha, hb, fun i hi => by
      rw [List.getElem_take]; exact hcc i (by simp at hi; omega)⟩
/-- A slice's value that reads as a list. -/
def SlV {α : Type} (n : Nat) (f : α → List Value) (w : World) (v : Value) (l : List α) : Prop :=
  ∃ a cap, v = .slice a l.length cap ∧ l.length ≤ cap ∧ (a = none → l = [] ∧ cap = 0) ∧ RowAt n f w a l
theorem SlV.of {α : Type} {n e : Nat} {f : α → List Value} (hf : ∀ g, (f g).length = n) {w : World} {base m : Nat} {v : Value} {l : List α} (h : w.ownsRow base e n v m (l.flatMap f)) (hm : m = l.length) : SlV n f w v l := by
  subst hm
  obtain ⟨a, cap, rfl⟩ := row_shape h
  obtain ⟨h1, h2⟩ := rowAt_owns hf h rfl
  refine ⟨a, cap, rfl, ?_, h1, h2⟩
  rcases h.2 with ⟨hv, hz⟩ | ⟨g, cap', cur, hv, _, _, hc, _⟩
  · omega
  · simp only [Value.slice.injEq] at hv
    omega
theorem SlV.below {α : Type} {n : Nat} {f : α → List Value} {w w' : World} {v : Value} {l : List α} (h : SlV n f w v l) (hb : Below w.heap.size w w') : SlV n f w' v l := by
  obtain ⟨a, cap, h1, h2, h3, h4⟩ := h
  exact ⟨a, cap, h1, h2, h3, h4.below hb (Nat.le_refl _) hb.size⟩
def rwV (r : Rw) (v : Value) : Value := .agg #[.bool r.dir, .string (str r.name), v]
theorem bare_len : ∀ (l : List Tk) (d : Bool), (bareD d l).length ≤ l.length
  | [], d => Nat.le_refl _
  | t :: r, d => by
    simp only [bareD]
    split
    · exact Nat.le_succ_of_le (bare_len r true)
    · exact Nat.succ_le_succ (bare_len r false)
theorem drop_min {α : Type} (l : List α) (k : Nat) : l.drop (min (k : Int) (l.length : Int)).toNat = l.drop k := by
  by_cases h : k ≤ l.length
  · rw [show (min (k : Int) (l.length : Int)).toNat = k by omega]
  · rw [List.drop_of_length_le (by omega), List.drop_of_length_le (by omega)]
theorem drop_min1 {α : Type} (l : List α) : l.drop (min 1 (l.length : Int)).toNat = l.drop 1 := drop_min l 1
theorem drop_min2 {α : Type} (l : List α) : l.drop (min 2 (l.length : Int)).toNat = l.drop 2 := drop_min l 2
def SaysPost (l : List Tk) (w : World) (e : Ending) (w' : World) : Prop := ∃ v, e = .returned v ∧ w'.ownsRow w.heap.size 40 5 v l.length (l.flatMap tkC) ∧ Below w.heap.size w w'
set_option maxRecDepth 100000 in
set_option maxHeartbeats 8000000 in
theorem Ls.says (r : Rw) (v : Value) (w : World) (hv : SlV 5 tkC w v r.toks) (hl : r.toks.length ≤ 1000000000) : Calls Tryz.prog 37 #[rwV r v] w (SaysPost (YtbnhefibpjldfaaGreatDoor.says r) w) := by
  obtain ⟨a, cap, rfl, hcap, hnil, hrow⟩ := hv
  obtain ⟨d, nm, tk⟩ := r
  simp only at hcap hnil hrow hl ⊢
  obtain ⟨W, hW⟩ : ∃ W, W = w.alloc (.cells #[.bool d, .string (str nm), .slice a tk.length cap] 78) := ⟨_, rfl⟩
  have hbW : Below w.heap.size w W := by rw [hW]; exact below_alloc _ _
  have hq : W.heap[w.heap.size]? = some (.cells #[.bool d, .string (str nm), .slice a tk.length cap] 78 (0, 0)) := by rw [hW]; exact heap_alloc_new _ _
  have hrW := hrow.below hbW (Nat.le_refl _) hbW.size
  have c0 : W.cell? ⟨w.heap.size, 0, none⟩ = some (.bool d) := by simp [World.cell?, hq]
  have c1 : W.cell? ⟨w.heap.size, 1, none⟩ = some (.string (str nm)) := by simp [World.cell?, hq]
  have c2 : W.cell? ⟨w.heap.size, 2, none⟩ = some (.slice a tk.length cap) := by simp [World.cell?, hq]
  have hWs : w.heap.size < W.heap.size := (Array.getElem?_eq_some_iff.1 hq).1
  have HW := Lib.hid hW
  have HBW := Lib.hid hbW
  have HRW := Lib.hid hrW
  have HNIL := Lib.hid hnil
  clear hW hbW hq hrW hrow hnil
  unfold rwV
  go_enter Tryz.func37, Tryz.ntmps37
  go_wp2_with fail
  rw [← HW.out]
  refine (Sc.bare a cap tk W HRW.out hl).mono ?_
  rintro e w1 ⟨v1, rfl, hown, b1⟩
  have hv1 := SlV.of tkC_len hown rfl
  have d0 := (b1.cell (p := ⟨w.heap.size, 0, none⟩) hWs).trans c0
  have d1 := (b1.cell (p := ⟨w.heap.size, 1, none⟩) hWs).trans c1
  have hs1 := b1.size
  have HB1 := Lib.hid (HBW.out.trans (b1.mono (by omega)))
  have HOWN := Lib.hid (own_base hown (Nat.le_of_lt hWs))
  obtain ⟨a1, cap1, rfl, hcap1, hnil1, hrow1⟩ := hv1
  obtain ⟨L, hL⟩ : ∃ L, YtbnhefibpjldfaaGreatDoor.bare tk = L := ⟨_, rfl⟩
  rw [hL] at hown hcap1 hnil1 hrow1 HOWN ⊢
  have HNIL1 := Lib.hid hnil1
  have HROW1 := Lib.hid hrow1
  have hLl : L.length ≤ tk.length := by
    rw [← hL]
    exact bare_len tk false
  have HL := Lib.hid hL
  clear hown hnil1 hrow1 b1 hL
  cases d
  · go_wp2_with fail
    go_ret
    refine ⟨_, rfl, ?_, HB1.out⟩
    simp only [YtbnhefibpjldfaaGreatDoor.says, Bool.false_eq_true, if_false]
    rw [HL.out]
    exact HOWN.out
  · have key : ∀ k : Nat, k ≤ L.length → Calls Tryz.prog 41 #[.slice (if cap1 = k then a1 else a1.map (fun q => q.add (k * 5))) (L.length - k) (cap1 - k)] w1 (CloneTk (L.drop k) w1) := by
      intro k hk
      have := Ls.clone (if cap1 = k then a1 else a1.map (fun q => q.add (k * 5))) (cap1 - k) (L.drop k) w1 (row_part HROW1.out k cap1 hcap1) (fun e => by
        cases a1 with
        | none =>
          obtain ⟨h1, h2⟩ := HNIL1.out rfl
          rw [h1, h2]
          simp
        | some q => split at e <;> simp at e) (by simp; omega)
      simpa using this
    have KEY := Lib.hid key
    clear key
    by_cases hn : nm = []
    · subst hn
      have n1 : ((str []).toList == []) = true := by rw [str_tl]; rfl
      go_wp2_with fail
      all_goals
        have A := KEY.out (min 1 (L.length : Int)).toNat (by omega)
        first
        | rw [if_pos (show cap1 = (min 1 (L.length : Int)).toNat by omega), show cap1 - (min 1 (L.length : Int)).toNat = 0 by omega] at A
        | rw [if_neg (show ¬ cap1 = (min 1 (L.length : Int)).toNat by omega)] at A
        refine A.mono ?_
        clear A
        rintro e w2 ⟨v2, rfl, hown2, b2⟩
        obtain ⟨a2, c2, rfl⟩ := row_shape hown2
        have HO2 := Lib.hid (own_base hown2 (Nat.le_trans (Nat.le_of_lt hWs) hs1))
        have HB2 := Lib.hid (HB1.out.trans (b2.mono (Nat.le_trans (Nat.le_of_lt hWs) hs1)))
        clear hown2 b2
        go_wp2_with fail
        go_ret
        refine ⟨_, rfl, ?_, HB2.out⟩
        simp only [YtbnhefibpjldfaaGreatDoor.says, if_true]
        rw [HL.out]
        have h := HO2.out
        rw [drop_min1] at h
        have e : L.length - (min 1 (L.length : Int)).toNat = (L.drop 1).length := by simp; omega
        try rw [e]
        exact h
    · have n1 : ((str nm).toList == []) = false := by rw [str_tl]; cases nm with | nil => exact absurd rfl hn | cons _ _ => rfl
      go_wp2_with fail
      all_goals
        have A := KEY.out (min 2 (L.length : Int)).toNat (by omega)
        first
        | rw [if_pos (show cap1 = (min 2 (L.length : Int)).toNat by omega), show cap1 - (min 2 (L.length : Int)).toNat = 0 by omega] at A
        | rw [if_neg (show ¬ cap1 = (min 2 (L.length : Int)).toNat by omega)] at A
        refine A.mono ?_
        clear A
        rintro e w2 ⟨v2, rfl, hown2, b2⟩
        obtain ⟨a2, c2, rfl⟩ := row_shape hown2
        have HO2 := Lib.hid (own_base hown2 (Nat.le_trans (Nat.le_of_lt hWs) hs1))
        have HB2 := Lib.hid (HB1.out.trans (b2.mono (Nat.le_trans (Nat.le_of_lt hWs) hs1)))
        clear hown2 b2
        go_wp2_with fail
        go_ret
        refine ⟨_, rfl, ?_, HB2.out⟩
        simp only [YtbnhefibpjldfaaGreatDoor.says, if_true]
        rw [HL.out, if_neg hn]
        have h := HO2.out
        rw [drop_min2] at h
        have e : L.length - (min 2 (L.length : Int)).toNat = (L.drop 2).length := by simp; omega
        try rw [e]
        exact h
end Go.Proofs.YtbnhefibpjldfaaGreatDoor

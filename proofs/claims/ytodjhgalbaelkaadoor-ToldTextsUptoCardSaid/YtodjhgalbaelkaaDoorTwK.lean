/- told: first; slices.Clone of files. -/
import Derived.Test.YtodjhgalbaelkaaDoorTwJ
import Derived.Test.YtodjhgalbaelkaaDoorApp
import Derived.Maps.OwnOps
import Derived.Maps.OwnSet
import Derived.Maps.Views
import Derived.Carry
import Derived.Lib.SliceRun
namespace Go.Proofs.YtodjhgalbaelkaaDoor
open Go.RowKit Go.BigFrame Go.Shelf Go.ChangeMaps Go.WideMaps
set_option linter.unusedVariables false

structure Fil where
  n : ByteArray
  t : ByteArray
def Fil.f (x : Fil) : List Value := [.string x.n, .string x.t]
theorem Fil.at {w : World} {b o : Nat} {x : Fil} (h : ∀ j v, (Fil.f x)[j]? = some v → w.cell? ⟨b, o + j, none⟩ = some v) :
    w.cell? ⟨b, o, none⟩ = some (.string x.n) ∧ w.cell? ⟨b, o + 1, none⟩ = some (.string x.t) := ⟨h 0 _ rfl, h 1 _ rfl⟩
/-- The place of the first file of a name. -/
def fidx (x : ByteArray) : List Fil → Option Nat
  | [] => none
  | f :: r => if f.n = x then some 0 else (fidx x r).map (· + 1)
theorem fidx_snoc (x : ByteArray) : ∀ (l : List Fil) (f : Fil), fidx x (l ++ [f]) = match fidx x l with | some i => some i | none => if f.n = x then some l.length else none
  | [], f => by simp [fidx]
  | g :: l, f => by
    rw [List.cons_append, fidx, fidx, fidx_snoc x l f]
    by_cases hg : g.n = x
    · simp [hg]
    · rw [if_neg hg, if_neg hg]
      cases fidx x l with
      | some i => rfl
      | none => simp only [Option.map_none]; split <;> simp
theorem fidx_lt (x : ByteArray) : ∀ (l : List Fil) (i : Nat), fidx x l = some i → ∃ h : i < l.length, l[i].n = x
  | [], i, h => by cases h
  | g :: l, i, h => by
    rw [fidx] at h
    split at h
    · rename_i hg; cases h; exact ⟨by simp, hg⟩
    · cases hq : fidx x l with
      | none => rw [hq] at h; cases h
      | some k =>
        rw [hq] at h; cases h
        obtain ⟨h1, h2⟩ := fidx_lt x l k hq
        exact ⟨by simp; omega, by simpa using h2⟩
def rawR (v : Value) : Option (DataW Value × List MemPlace) := some (.held v, [])
abbrev keyL (x : ByteArray) : Lit := .string x.data.toList
theorem law9 : Maps.Keyed Tryd.prog 9 := Maps.string_keyed Tryd.underlying9
theorem zero3 (w : World) : (zeroValue 3).run Tryd.prog w = .ok (.int .i64 0) w := by kernel_rfl
theorem keyL_is (x : ByteArray) : WideAt.IsKeyLit (keyL x) := by simp [WideAt.IsKeyLit]
theorem keyL_ne {x y : ByteArray} (h : y ≠ x) : keyL y ≠ keyL x := by
  intro e
  simp only [Lit.string.injEq] at e
  exact h (ByteArray.ext (Array.toList_inj.1 e))
/-- The map at block M says of each name the place of the first file. -/
def FirstAt (w : World) (M : Nat) (l : List Fil) : Prop :=
  ∃ n D, n ≤ l.length ∧ w.ownsMap Tryd.prog 9 rawR M n D ∧ ∀ x : ByteArray, (∀ z, D.atKey (keyL x) z = match fidx x l with | some i => .held (.int .i64 i) | none => z) ∧ Maps.has D (keyL x) = (fidx x l).isSome
theorem ownsMap_mod {w w' : World} {M n : Nat} {D : DataW Value} {S : Nat → Prop} (h : w.ownsMap Tryd.prog 9 rawR M n D) (hm : Mod S w w') (hs : ¬ S M) : w'.ownsMap Tryd.prog 9 rawR M n D := by
  obtain ⟨es, clock, hb, rest⟩ := h
  exact ⟨es, clock, hm.keep hb hs, rest⟩
theorem FirstAt.mod {w w' : World} {M : Nat} {l : List Fil} {S : Nat → Prop} (h : FirstAt w M l) (hm : Mod S w w') (hs : ¬ S M) : FirstAt w' M l := by
  obtain ⟨n, D, h1, h2, h3⟩ := h
  exact ⟨n, D, h1, ownsMap_mod h2 hm hs, h3⟩
theorem FirstAt.on {w w' : World} {M : Nat} {l : List Fil} (h : FirstAt w M l) (hb : Below w.heap.size w w') : FirstAt w' M l := h.mod (S := fun _ => False) (Mod.of_below hb) (fun h => h)
theorem FirstAt.lt {w : World} {M : Nat} {l : List Fil} (h : FirstAt w M l) : M < w.heap.size := by
  obtain ⟨n, D, _, h2, _⟩ := h; exact h2.lt
theorem FirstAt.look {w : World} {M : Nat} {l : List Fil} (h : FirstAt w M l) (x : ByteArray) (hx : x.size ≤ maxLen) :
    (Instr.lookup 51 (.map (some M)) (.string x) true).run Tryd.prog w = .ok (.tuple #[.int .i64 ((fidx x l).getD 0 : Nat), .bool (fidx x l).isSome]) w := by
  obtain ⟨n, D, _, h2, h3⟩ := h
  obtain ⟨v, ps, hrun, hv⟩ := h2.look_ok law9 Tryd.underlying51 (zero3 w) (zd := .held (.int .i64 0)) (zp := []) rfl (keyOf_string_mk Tryd.underlying9 hx)
  obtain ⟨q1, q2⟩ := h3 x
  rw [hrun, q2]
  have hv' : v = .int .i64 ((fidx x l).getD 0 : Nat) := by
    rw [q1] at hv
    unfold rawR at hv
    simp only [Option.some.injEq, Prod.mk.injEq] at hv
    cases hq : fidx x l with
    | none => rw [hq] at hv; simpa using hv.1
    | some i => rw [hq] at hv; simpa using hv.1
  rw [hv']
theorem FirstAt.get {w : World} {M : Nat} {l : List Fil} (h : FirstAt w M l) (x : ByteArray) (hx : x.size ≤ maxLen) :
    (Instr.lookup 51 (.map (some M)) (.string x) false).run Tryd.prog w = .ok (.int .i64 ((fidx x l).getD 0 : Nat)) w := by
  obtain ⟨n, D, _, h2, h3⟩ := h
  obtain ⟨v, ps, hrun, hv⟩ := h2.lookup law9 Tryd.underlying51 (zero3 w) (zd := .held (.int .i64 0)) (zp := []) rfl (keyOf_string_mk Tryd.underlying9 hx)
  obtain ⟨q1, q2⟩ := h3 x
  rw [hrun]
  have hv' : v = .int .i64 ((fidx x l).getD 0 : Nat) := by
    rw [q1] at hv
    unfold rawR at hv
    simp only [Option.some.injEq, Prod.mk.injEq] at hv
    cases hq : fidx x l with
    | none => rw [hq] at hv; simpa using hv.1
    | some i => rw [hq] at hv; simpa using hv.1
  rw [hv']
theorem FirstAt.put {w : World} {M : Nat} {l : List Fil} (h : FirstAt w M l) (f : Fil) (hx : f.n.size ≤ maxLen) (hn : fidx f.n l = none) (hl : l.length < 2000000) :
    ∃ w', (Instr.mapUpdate 51 (.map (some M)) (.string f.n) (.int .i64 l.length)).run Tryd.prog w = .ok () w' ∧ FirstAt w' M (l ++ [f]) ∧ w.grownBy w' (some M) := by
  obtain ⟨n, D, h1, h2, h3⟩ := h
  obtain ⟨w', hrun, hown, hg⟩ := h2.update law9 Tryd.underlying51 (by unfold maxLen; omega) (keyOf_string_mk Tryd.underlying9 hx) (val := .int .i64 l.length) (d := .held (.int .i64 l.length)) (ps := []) rfl
  refine ⟨w', hrun, ⟨n + 1, _, by simp; omega, hown, fun x => ?_⟩, hg⟩
  obtain ⟨q1, q2⟩ := h3 x
  rw [fidx_snoc]
  by_cases hxf : x = f.n
  · subst hxf
    rw [hn, if_pos rfl]
    exact ⟨fun z => Maps.atKey_put_same h2.isMap (keyL_is _) _ _, Maps.has_put_same h2.isMap (keyL_is _) _⟩
  · rw [if_neg (fun e => hxf e.symm)]
    refine ⟨fun z => ?_, ?_⟩
    · rw [Maps.atKey_put_other (keyL_ne hxf), q1]
      cases fidx x l <;> rfl
    · rw [Maps.has_put_other (keyL_ne hxf), q2]
      cases fidx x l <;> rfl
theorem FirstAt.skip {w : World} {M : Nat} {l : List Fil} (h : FirstAt w M l) (f : Fil) (i : Nat) (hn : fidx f.n l = some i) : FirstAt w M (l ++ [f]) := by
  obtain ⟨n, D, h1, h2, h3⟩ := h
  refine ⟨n, D, by simp; omega, h2, fun x => ?_⟩
  obtain ⟨q1, q2⟩ := h3 x
  rw [fidx_snoc]
  by_cases hxf : f.n = x
  · subst hxf
    rw [hn] at q1 q2 ⊢
    exact ⟨q1, q2⟩
  · rw [if_neg hxf]
    cases hq : fidx x l <;> rw [hq] at q1 q2 <;> exact ⟨q1, q2⟩

theorem make_map (k : Int) (w : World) : (Instr.makeMap 51 (some (.int .i64 k))).run Tryd.prog w = .ok (.map (some w.heap.size)) (w.alloc (.map #[] 0)) := by
  simp [Instr.makeMap, run_underlying Tryd.underlying51, asInt, asIntOf, newObj, go_sem]; rfl
def FirstPost (l : List Fil) (w : World) (e : Ending) (w' : World) : Prop := ∃ M, e = .returned (.map (some M)) ∧ FirstAt w' M l ∧ w.heap.size ≤ M ∧ Below w.heap.size w w'

set_option maxRecDepth 100000 in
set_option maxHeartbeats 8000000 in
theorem Td.first (a : Option Addr) (c : Nat) (l : List Fil) (w : World) (hr : RowAt 2 Fil.f w a l) (hl : l.length ≤ 2000000) (hn : ∀ f ∈ l, f.n.size ≤ maxLen) :
    Calls Tryd.prog 18 #[.slice a l.length c] w (FirstPost l w) := by
  have HROW := Lib.hid hr
  have HN := Lib.hid hn
  clear hr hn
  have h0 : FirstAt (w.alloc (.map #[] 0)) w.heap.size [] := ⟨0, .map [], by simp, World.ownsMap_made w Tryd.prog 9 rawR, fun x => ⟨fun z => rfl, rfl⟩⟩
  have H0 := Lib.hid h0
  clear h0
  have hmk := make_map (l.length : Int) w
  go_enter Tryd.func18, Tryd.ntmps18
  go_wp2
  clear hmk
  go_loopw [13] (fun s13 wr => ∃ i : Nat, i ≤ l.length ∧ s13 = .int .i64 i ∧ FirstAt wr w.heap.size (l.take i) ∧ Below w.heap.size w wr) (fun s13 _ => l.length - (intOf s13).toNat)
  case atStart => exact ⟨0, by omega, rfl, H0.out, below_alloc _ _⟩
  case round =>
    clear H0
    obtain ⟨i, hi, rfl, hf, hbel⟩ := hrel
    have HF := Lib.hid hf
    have HBEL := Lib.hid hbel
    have hsz := hbel.size
    by_cases hlt : i < l.length
    · obtain ⟨b, off, rfl, hbw, hc⟩ := HROW.out.at (by intro e; simp [e] at hlt)
      obtain ⟨g0, g1⟩ := Fil.at (w := wr) (b := b) (o := off + i * 2) (x := l[i]) ((hc i hlt).below hbel hbw)
      have htk : l.take (i + 1) = l.take i ++ [l[i]] := List.take_succ_eq_append_getElem hlt
      have htl : (l.take i).length = i := by simp; omega
      have hxn := HN.out l[i] (List.getElem_mem hlt)
      obtain ⟨W5, hW5⟩ : ∃ W5, W5 = wr.alloc (.cells #[.string l[i].n, .string l[i].t] 26) := ⟨_, rfl⟩
      have hbx : W5.heap[wr.heap.size]? = some (.cells #[.string l[i].n, .string l[i].t] 26 (0, 0)) := by rw [hW5]; exact heap_alloc_new _ _
      have hb5 : Below wr.heap.size wr W5 := by rw [hW5]; exact below_alloc _ _
      have hf5 := hf.on hb5
      have hlk := hf5.look l[i].n hxn
      have x0 : W5.cell? ⟨wr.heap.size, 0, none⟩ = some (.string l[i].n) := by simp [World.cell?, hbx]
      have HTK := Lib.hid htk
      have HTL := Lib.hid htl
      have HW5 := Lib.hid hW5
      have HBX := Lib.hid hbx
      have HB5 := Lib.hid hb5
      have HF5 := Lib.hid hf5
      clear hc htk htl hW5 hbx hb5 hf5 hf hbel HROW HN
      generalize l[i] = x at *
      generalize l.take i = L at *
      obtain ⟨xn, xt⟩ := x
      simp only at *
      cases hq : fidx xn L with
      | some k =>
        rw [hq] at hlk
        simp only [Option.isSome_some] at hlk
        have HQ := Lib.hid hq
        clear hq
        rw [HW5.out] at hlk
        clear x0
        go_wp2
        go_roundw
        case rel => exact ⟨i + 1, by omega, by go_num, by rw [HTK.out, ← HW5.out]; exact HF5.out.skip ⟨xn, xt⟩ k HQ.out, by rw [← HW5.out]; exact HBEL.out.trans (HB5.out.mono hsz)⟩
        case measure => simp [intOf]; omega
      | none =>
        rw [hq] at hlk
        simp only [Option.isSome_none] at hlk
        obtain ⟨w6, hrun, hf6, hg6⟩ := HF5.out.put ⟨xn, xt⟩ hxn hq (by rw [HTL.out]; omega)
        simp only at hrun
        rw [HTL.out] at hrun
        have HF6 := Lib.hid hf6
        have HG6 := Lib.hid hg6
        rw [HW5.out] at hlk hrun
        clear hf6 hg6 hq x0
        go_wp2
        go_roundw
        case rel => exact ⟨i + 1, by omega, by go_num, by rw [HTK.out]; exact HF6.out, HBEL.out.trans ((HB5.out.mono hsz).trans ((show Mod (fun k => k = w.heap.size) W5 w6 from ⟨HG6.out.os, HG6.out.tape, HG6.out.output, HG6.out.size, fun k hk hn => HG6.out.block k hk (fun e => hn (by cases e; rfl))⟩).below (by have := HB5.out.size; omega) (fun k hk => by omega)))⟩
        case measure => simp [intOf]; omega
    · obtain rfl : i = l.length := by omega
      rw [List.take_length] at hf
      have HF2 := Lib.hid hf
      clear HROW hf hbel HF
      go_wp2
      go_ret
      exact ⟨_, rfl, HF2.out, Nat.le_refl _, HBEL.out⟩

/-- A copy of files. -/
def ClonePost (l : List Fil) (w : World) (e : Ending) (w' : World) : Prop := ∃ v, e = .returned v ∧ w'.ownsRow w.heap.size 26 2 v l.length (l.flatMap Fil.f) ∧ Below w.heap.size w w'
theorem infoFil : (Tryd.prog.info? 26).map (fun i => (i.zero, i.size, i.bytes)) = some (some (.agg #[.string ⟨#[]⟩, .string ⟨#[]⟩]), 2, 32) := by kernel_rfl
set_option maxRecDepth 100000 in
set_option maxHeartbeats 2000000 in
theorem Td.clone (a : Option Addr) (c : Nat) (l : List Fil) (w : World) (hr : RowAt 2 Fil.f w a l) (hnil : a = none → l = [] ∧ c = 0) (hl : l.length ≤ 2000000) : Calls Tryd.prog 19 #[.slice a l.length c] w (ClonePost l w) := by
  obtain ⟨i0, hi, hz0, hz1, hz2⟩ := info_parts infoFil
  cases a with
  | none =>
    obtain ⟨rfl, rfl⟩ := hnil rfl
    have hq := Lib.run_eql_slice_nil w 22 _ none 0 0 0 0 Tryd.underlying22
    clear hr hnil hi hz0 hz1 hz2
    go_enter Tryd.func19, Tryd.ntmps19
    go_wp2_with fail
    go_ret
    exact ⟨_, rfl, World.ownsRow_nil _ _ _ _, Below.refl _ _⟩
  | some ad =>
    obtain ⟨W, hW⟩ : ∃ W, W = w.alloc (.cells #[] 26) := ⟨_, rfl⟩
    have hown : W.ownsRow w.heap.size 26 2 (.slice (some ⟨w.heap.size, 0, none⟩) 0 0) 0 [] := by rw [hW]; exact World.ownsRow_made w #[] 0 (Nat.le_refl _) (Nat.zero_le _) rfl
    have hbW : Below w.heap.size w W := by rw [hW]; exact below_alloc _ _
    have hrW : RowAt 2 Fil.f W (some ad) l := hr.below hbW (Nat.le_refl _) hbW.size
    have HI := Lib.hid hi
    have HZ0 := Lib.hid hz0
    have HZ1 := Lib.hid hz1
    have HZ2 := Lib.hid hz2
    have HW := Lib.hid hW
    have HOWN := Lib.hid hown
    have HBW := Lib.hid hbW
    have HRW := Lib.hid hrW
    have hq := Lib.run_eql_slice_nil w 22 _ (some ad) l.length c 0 0 Tryd.underlying22
    clear hr hnil hi hz0 hz1 hz2 hW hown hbW hrW
    go_enter Tryd.func19, Tryd.ntmps19
    go_wp2_with (at_builtin; rw [← HW.out]; refine wpList_append_rows Fil.f rfl _ _ 22 rfl w.heap.size 26 i0 (.agg #[.string ⟨#[]⟩, .string ⟨#[]⟩]) 2 32 Tryd.underlying22 HI.out HZ0.out HZ1.out HZ2.out rfl (by decide) (fun g => rfl) (fun g u hu => by simp [Fil.f] at hu; rcases hu with rfl | rfl <;> rfl) _ 0 [] rfl HOWN.out (some ad) l c rfl (fun e => by cases e) HRW.out (by unfold maxLen; omega) (by omega) HBW.out.size ?_)
    intro v' w1 hown' hgrow
    have hB : Below w.heap.size w w1 := HBW.out.grown hgrow HBW.out.size (fun k hk => by simp [Value.ownBlock] at hk; omega)
    have hown2 : w1.ownsRow w.heap.size 26 2 v' l.length (l.flatMap Fil.f) := by simpa using hown'
    obtain ⟨a', c', rfl⟩ := row_shape hown2
    have HO2 := Lib.hid hown2
    have HB := Lib.hid hB
    clear hown' hown2 hgrow hB
    go_wp2_with fail
    go_ret
    exact ⟨_, rfl, HO2.out, HB.out⟩
end Go.Proofs.YtodjhgalbaelkaaDoor

/- lines: Rows. -/
import Derived.Test.YtbnhefibpjldfaaGreatDoorPwY
import Derived.Test.YtbnhefibpjldfaaGreatDoorPwV
import Derived.Test.YtbnhefibpjldfaaGreatDoorRfa
import Derived.Test.YtbnhefibpjldfaaGreatDoorPwP
namespace Go.Proofs.YtbnhefibpjldfaaGreatDoor
open Go.RowKit Go.BigFrame Go.Shelf
set_option linter.unusedVariables false
attribute [local go_sem] Oper.semAt_some

def rowsOf (l : List Tk) (pre : List (Nat × Nat)) : List Rw := (pre.map (fun x => (l.drop x.1).take x.2)).foldl addRow []
theorem rowsOf_sum (l : List Tk) (pre : List (Nat × Nat)) (h : ∀ p ∈ pre, p.1 + p.2 ≤ l.length) : ((rowsOf l pre).map (·.toks.length)).sum = (pre.map (·.2)).sum ∧ (rowsOf l pre).length ≤ pre.length := by
  obtain ⟨h1, h2⟩ := foldl_rows (pre.map (fun x => (l.drop x.1).take x.2)) []
  unfold rowsOf
  refine ⟨?_, by simpa using h2⟩
  rw [h1, List.map_map]
  simp only [List.map_nil, List.sum_nil, Nat.zero_add]
  congr 1
  refine List.map_congr_left fun p hp => ?_
  have := h p hp
  simp; omega
/-- What Rows' loop keeps. -/
def RwI (w : World) (l : List Tk) (pre : List (Nat × Nat)) (W : World) : Prop :=
  ∃ D lv L, RwS w.heap.size D w.heap.size lv L W ∧ L.map (·.1) = rowsOf l pre ∧ W.heap[w.heap.size + 1]? = some (.cells #[.bool (runOf L)] 4 (0, 0)) ∧ Below w.heap.size w W
/-- Rows, read. -/
def RowsV (w : World) (v : Value) (rows : List Rw) : Prop := ∃ L : List Rv, L.map (·.1) = rows ∧ SlV 3 rvC w v L ∧ ∀ p ∈ L, SlV 5 tkC w p.2 p.1.toks
def RowsPost (l : List Tk) (w : World) (e : Ending) (w' : World) : Prop := ∃ v, e = .returned v ∧ RowsV w' v (rowsP l) ∧ Below w.heap.size w w'
theorem RwS.rv {B D p : Nat} {lv : Value} {l : List Rv} {w : World} (h : RwS B D p lv l w) : RowsV w lv (l.map (·.1)) := by
  refine ⟨l, rfl, SlV.of rvC_len h.row rfl, fun c hc => ?_⟩
  rcases last_cases l with rfl | ⟨d, x, rfl⟩
  · cases hc
  · rcases List.mem_append.1 hc with hc | hc
    · exact SlV.of tkC_len (h.old c (by rw [List.dropLast_concat]; exact hc)).1 rfl
    · rw [List.mem_singleton] at hc
      subst hc
      exact SlV.of tkC_len (h.new c (by simp)) rfl
theorem runOf_true {L : List Rv} (h : runOf L = true) : ∃ d x, L = d ++ [x] ∧ x.1.dir = false := by
  rcases last_cases L with rfl | ⟨d, x, rfl⟩
  · cases h
  · exact ⟨d, x, rfl, by simpa [runOf] using h⟩
theorem addRow_push {L : List Rv} {line : List Tk} {nm : Bs} {is : Bool} (hd : dirP false line = (nm, is)) (h : is = true ∨ runOf L = false) : addRow (L.map (·.1)) line = L.map (·.1) ++ [⟨is, nm, line⟩] := by
  unfold addRow
  rw [hd]
  rcases last_cases L with rfl | ⟨d, x, rfl⟩
  · rfl
  · simp only [List.map_append, List.map_cons, List.map_nil, List.getLast?_append, List.getLast?_singleton, Option.some_or]
    rw [if_neg]
    rintro ⟨h1, h2⟩
    rcases h with h | h
    · rw [h] at h2; cases h2
    · simp [runOf, h1] at h
theorem addRow_grow {d : List Rv} {x : Rv} {line : List Tk} {nm : Bs} (hd : dirP false line = (nm, false)) (h : x.1.dir = false) (v : Value) : addRow ((d ++ [x]).map (·.1)) line = (d ++ [(({ x.1 with toks := x.1.toks ++ line }, v) : Rv)]).map (·.1) := by
  unfold addRow
  rw [hd]
  simp [h]
theorem RwS.other {B D p b : Nat} {lv : Value} {l : List Rv} {w : World} {c : Array Value} (h : RwS B D p lv l w) (hb : w.heap[b]? = some (.cells c 4 (0, 0))) (i : Nat) (u : Value) : RwS B D p lv l (w.setCell ⟨b, i, none⟩ u) := by
  have hm : Mod (fun k => k = b) w (w.setCell ⟨b, i, none⟩ u) := Mod.setCell (Mod.refl (fun k => k = b) w) ⟨b, i, none⟩ (.inr rfl) u
  refine ⟨hm.keep h.hd (fun e => ?_), own_set h.row hb (by decide) i u, fun c hc => ⟨own_set (h.old c hc).1 hb (by decide) i u, (h.old c hc).2⟩, fun c hc => own_set (h.new c hc) hb (by decide) i u, h.leB, Nat.le_trans h.leD hm.size, h.leP⟩
  rw [← e, h.hd] at hb
  simp at hb
/-- What the operations that push a row leave. -/
def rwSt (B : Nat) (lv : Value) (is : Bool) (nm : Bs) (lnv : Value) (line : List Tk) (i : Nat) (v : Value) (w : World) : Prop :=
  match i with
  | 0 => v = lv
  | 1 => v = .bool is
  | 2 => v = .string (str nm)
  | 3 => v = lnv
  | 4 => w.ownsRow B 40 5 v line.length (line.flatMap tkC)
  | 5 => ∃ x, v = .agg #[.bool is, .string (str nm), x] ∧ w.ownsRow B 40 5 x line.length (line.flatMap tkC)
  | _ => ∃ x g, v = .slice (some ⟨g, 0, none⟩) 1 1 ∧ w.heap[g]? = some (.cells #[.bool is, .string (str nm), x] 78 (0, 0)) ∧ w.ownsRow B 40 5 x line.length (line.flatMap tkC)
theorem rwSt_mono (B : Nat) (lv : Value) (is : Bool) (nm : Bs) (lnv : Value) (line : List Tk) : ∀ i v w w', Below w.heap.size w w' → rwSt B lv is nm lnv line i v w → rwSt B lv is nm lnv line i v w' := fun i v w w' hb h => by
  match i, h with
  | 0, h => exact h
  | 1, h => exact h
  | 2, h => exact h
  | 3, h => exact h
  | 4, h => exact own_on h hb
  | 5, ⟨x, h1, h2⟩ => exact ⟨x, h1, own_on h2 hb⟩
  | n + 6, ⟨x, g, h1, h2, h3⟩ => exact ⟨x, g, h1, heap_below hb h2 (Array.getElem?_eq_some_iff.1 h2).1, own_on h3 hb⟩
theorem info78 : (Tryz.prog.info? 78).map (fun i => (i.zero, i.size, i.bytes)) = some (some (.agg #[.bool false, .string ⟨#[]⟩, .slice none 0 0]), 3, 48) := by kernel_rfl
theorem wpListIn_append_rows {F : Fence} {nn : Nat} {P : Program} {w : World} {ops : Array Oper} {rest : List Oper} {o : Oper} {a : Act} {Q : Exit → Act → World → Prop} {α : Type} (f : α → List Value) (hgd : o.guard = none) (s x : Operand) (t : TypeId)
    (ho : o.op = .call { callee := .builtin .append, args := #[s, x], argTypes := #[t, t] })
    (base : Nat) (e : TypeId) (i : TypeInfo) (z : Value) (size bytes : Nat) (ht : P.underlying t = some (.slice e)) (hi : P.info? e = some i) (hz : i.zero = some z)
    (hsize : i.size = size) (hby : i.bytes = bytes) (hzs : z.cells.size = size) (hsz : 0 < size) (hf : ∀ g, (f g).length = size) (hf1 : ∀ g, ∀ u ∈ f g, u.oneCell' = true)
    (v : Value) (n : Nat) (xs : List Value) (hs : a.eval s = v) (hown : w.ownsRow base e size v n xs)
    (ad : Addr) (l : List α) (c : Nat) (hx : a.eval x = .slice (some ad) l.length c) (hr : RowAt size f w (some ad) l)
    (h63 : n + l.length ≤ maxLen) (hbytes : (n + l.length) * bytes ≤ 140737488355328) (hbase : base ≤ w.heap.size)
    (h : ∀ v' w', w'.ownsRow base e size v' (n + l.length) (xs ++ l.flatMap f) → w.grownBy w' v.ownBlock → wpListIn F nn P ops Q rest (a.put o.dst v') w') : wpListIn F nn P ops Q (o :: rest) a w := by
  refine wpListIn_append_own _ hgd s x t ho base e i z size bytes ht hi hz hsize hby hzs hsz v n xs hs hown ad l.length c (l.flatMap f) hx (flat_len size f hf l) (fun j u hj => ?_) (fun u hu => ?_) h63 hbytes hbase (fun v' w' h1 h2 _ => h v' w' h1 h2)
  · rcases hr with rfl | ⟨b, off, hab, _, hc⟩
    · simp at hj
    · cases hab
      rw [addr_add']
      exact flat_at size f hf w b l off hc j u hj
  · obtain ⟨g, hg, hu⟩ := List.mem_flatMap.1 hu
    exact hf1 g u hu
set_option maxRecDepth 100000 in
set_option maxHeartbeats 8000000 in
theorem Ls.rows (a : Option Addr) (c : Nat) (l : List Tk) (w : World) (hv : SlV 5 tkC w (.slice a l.length c) l) (hcm : c ≤ maxLen) (hl : l.length ≤ 1000000000) : Calls Tryz.prog 17 #[.slice a l.length c] w (RowsPost l w) := by
  obtain ⟨a', c', he, hlc, hnil, hrow⟩ := hv
  simp only [Value.slice.injEq, true_and] at he
  obtain ⟨rfl, rfl⟩ := he
  obtain ⟨i0, hi, hz0, hz1, hz2⟩ := info_parts info40
  obtain ⟨i1, hj, hy0, hy1, hy2⟩ := info_parts info78
  have HI := Lib.hid hi
  have HZ0 := Lib.hid hz0
  have HZ1 := Lib.hid hz1
  have HZ2 := Lib.hid hz2
  have HJ := Lib.hid hj
  have HY0 := Lib.hid hy0
  have HY1 := Lib.hid hy1
  have HY2 := Lib.hid hy2
  have HROW := Lib.hid hrow
  have HNIL := Lib.hid hnil
  clear hi hz0 hz1 hz2 hj hy0 hy1 hy2 hrow hnil
  refine (callsIn_wide (n := 5)).1 ?_
  refine callsIn_of_wp_marks Tryz.func17 rfl trivial ?_ rfl
  simp only [Tryz.ntmps17, List.size_toArray, List.length_cons, List.length_nil, Nat.reduceAdd, Nat.reduceSub, Array.replicate_succ, Array.replicate_zero, List.push_toArray, List.append_toArray, List.nil_append, List.cons_append]
  gi_wp2_with (fail)
  refine ⟨trivial, ?_⟩
  obtain ⟨gb, go, hgc⟩ : ∃ gb go : Nat, l ≠ [] → a = some ⟨gb, go, none⟩ ∧ gb < w.heap.size ∧ ∀ i (h : i < l.length), CellsAt w gb (go + i * 5) (tkC l[i]) := by
    by_cases h : l = []
    · exact ⟨0, 0, fun k => absurd h k⟩
    · obtain ⟨gb, go, h1, h2, h3⟩ := HROW.out.at h
      exact ⟨gb, go, fun _ => ⟨h1, h2, h3⟩⟩
  obtain ⟨W0, hW0⟩ : ∃ W0, W0 = ((w.alloc (.cells #[.slice none 0 0] 47)).alloc (.cells #[.bool false] 4)).alloc (.cells #[.slice a l.length c] 30) := ⟨_, rfl⟩
  have hs0 : W0.heap.size = w.heap.size + 3 := by rw [hW0]; simp
  have hb0 : Below w.heap.size w W0 := by rw [hW0]; exact (((Below.refl _ _).alloc (Nat.le_refl _) _).alloc (by simp) _).alloc (by simp; omega) _
  have e0 : W0.heap[w.heap.size]? = some (.cells #[.slice none 0 0] 47 (0, 0)) := by
    rw [hW0]; exact heap_alloc_old' _ (heap_alloc_old' _ (heap_alloc_new _ _))
  have e1 : W0.heap[w.heap.size + 1]? = some (.cells #[.bool false] 4 (0, 0)) := by
    have := heap_alloc_new (w.alloc (.cells #[.slice none 0 0] 47)) (.cells #[.bool false] 4)
    rw [hW0]; exact heap_alloc_old' _ (by simpa using this)
  have e2 : W0.heap[w.heap.size + 2]? = some (.cells #[.slice a l.length c] 30 (0, 0)) := by
    have := heap_alloc_new ((w.alloc (.cells #[.slice none 0 0] 47)).alloc (.cells #[.bool false] 4)) (.cells #[.slice a l.length c] 30)
    rw [hW0]; simpa using this
  have hseq := Ls.seq 4 (w.heap.size + 2) w.heap.size gb go c l a W0 e2 hl hlc hcm (by omega) (fun h => by
    obtain ⟨q1, q2, q3⟩ := hgc h
    exact ⟨q1, q2, fun i hi => (q3 i hi).below hb0 q2⟩)
  have hI0 : RwI w l [] W0 := ⟨w.heap.size, .slice none 0 0, [], ⟨e0, World.ownsRow_nil _ _ _ _, fun c hc => (by cases hc), fun c hc => (by cases hc), Nat.le_refl _, by omega, Nat.le_refl _⟩, rfl, e1, hb0⟩
  have HSEQ := Lib.hid hseq
  have HS0 := Lib.hid hs0
  have HI0 := Lib.hid hI0
  have HW0 := Lib.hid hW0
  have HGC := Lib.hid hgc
  clear hW0 hs0 hb0 e0 e1 e2 hseq hI0 hgc HROW HNIL
  refine (callsIn_wide.2 (Ls.pieces a l.length c _)).mono ?_
  rintro e w2 ⟨rfl, rfl⟩
  rw [← HW0.out]
  gi_wp2_with (fail)
  refine wpIn_rangeFunc_asg rfl (by omega) (gf := 78) (lb := #[.pointer (some ⟨w.heap.size + 1 + 1, 0, none⟩)]) rfl trivial (enters_of Tryz.func78 (by kernel_rfl) rfl)
    HSEQ.out (fun k hk => hk.elim) (fun h k => h.trans k) (fun W l o o' hl hW ho _ => KB.putObj (by have := HS0.out; omega) hW ho) (Below.refl _ _) (fun _ => rfl)
    (RwI w l) (fun _ _ _ => False)
    (fun t A B ⟨D, lv, L, h1, h2, h3, h4⟩ hm => by
      have hs0 := HS0.out
      have hm' : Mod (fun k => W0.heap.size ≤ k ∧ nc A k) A B := hm.mono (fun k _ hk => hk.elim (fun h => h.elim) id)
      exact ⟨D, lv, L, h1.nc hm', h2, hm'.keep h3 (fun hk => by have := hk.1; omega), h4.trans (hm'.below (by have := h4.size; omega) (fun k hk => by have := hk.1; omega))⟩)
    (fun c t A B h _ => h)
    HI0.out
    (fun (x : Nat × Nat) a' W => a' = { tmps := #[.slice a l.length c, undef, .slice none 0 0, .pointer (some ⟨w.heap.size, 0, none⟩), .pointer (some ⟨w.heap.size + 1, 0, none⟩), .slice (some ⟨gb, go + x.1 * 5, none⟩) x.2 (c - x.1), undef, undef, undef, .slice a l.length c, .func (.func 78) #[] #[.pointer (some ⟨w.heap.size + 1 + 1, 0, none⟩)], .slice (some ⟨gb, go + x.1 * 5, none⟩) x.2 (c - x.1), undef, undef, undef, undef, undef, undef, undef, undef, undef, undef, undef, undef, undef, undef, undef, undef, undef, undef, undef, undef, undef, undef, undef, undef, undef, undef, undef, undef, undef, undef, undef, undef, undef, undef, undef], defers := [] })
    (fun h => KB.of_below h)
    (fun p a' W l o o' hl ho ha => ha)
    ?assign ?body ?done ?stop
  case assign =>
    intro L z W K hK
    gi_wp2
    exact hK _ _ (Below.refl _ _) rfl
  case body =>
    rintro L0 pre ⟨st, n⟩ a' W ⟨D, lv, L, hst, hL, hrun, hbW⟩ ⟨r, hr⟩ rfl
    have hin := pcsF_in l l 0 0 (Nat.le_refl _) rfl (Nat.zero_le _) (st, n) (by show (st, n) ∈ pcs' l; rw [hr]; simp)
    simp only at hin
    have hsum : ((rowsOf l pre).map (·.toks.length)).sum + n ≤ l.length ∧ (rowsOf l pre).length + 1 ≤ l.length := by
      have h1 := pcsF_sum l 0 0 (Nat.le_refl _)
      have h2 := rowsOf_sum l pre (fun p hp => (pcsF_in l l 0 0 (Nat.le_refl _) rfl (Nat.zero_le _) p (by show p ∈ pcs' l; rw [hr]; simp [hp])).2)
      have hr' : pcsF 0 0 l = pre ++ (st, n) :: r := hr
      rw [hr'] at h1
      simp only [List.map_append, List.sum_append, List.map_cons, List.sum_cons, List.length_append, List.length_cons] at h1
      exact ⟨by omega, by omega⟩
    obtain ⟨rfl, hgb, hgc⟩ := HGC.out (by intro e; rw [e] at hin; simp at hin; omega)
    obtain ⟨line, hline⟩ : ∃ line, (l.drop st).take n = line := ⟨_, rfl⟩
    have hll : line.length = n := by rw [← hline]; simp; omega
    have hrl : RowAt 5 tkC W (some ⟨gb, go + st * 5, none⟩) line := by
      refine .inr ⟨gb, go + st * 5, rfl, by have := hbW.size; omega, fun i hi => ?_⟩
      have hin' : i < n := by rw [← hll]; exact hi
      have := (hgc (st + i) (by omega)).below hbW hgb
      rw [show go + st * 5 + i * 5 = go + (st + i) * 5 by rw [Nat.add_mul]; omega]
      have e : line[i] = l[st + i] := by simp only [← hline, List.getElem_take, List.getElem_drop]
      rw [e]
      exact this
    have hnext : rowsOf l (pre ++ [(st, n)]) = addRow (rowsOf l pre) line := by
      unfold rowsOf; rw [List.map_append, List.foldl_append, ← hline]; rfl
    subst hll
    obtain ⟨dp, hdp⟩ : ∃ dp, dirP false line = dp := ⟨_, rfl⟩
    obtain ⟨nm, is⟩ := dp
    have hdir := Ls.directive (some ⟨gb, go + st * 5, none⟩) (c - st) line W hrl (by omega)
    rw [hdp] at hdir
    simp only at hdir
    have c1 : ∀ u : Ext W, u.w.cell? ⟨w.heap.size + 1, 0, none⟩ = some (.bool (runOf L)) := fun u => u.cell (by simp [World.cell?, hrun])
    have HST := Lib.hid hst
    have HL := Lib.hid hL
    have HRUN := Lib.hid hrun
    have HBW := Lib.hid hbW
    have HSUM := Lib.hid hsum
    have HRL := Lib.hid hrl
    have HNX := Lib.hid hnext
    have HDP := Lib.hid hdp
    have HDIR := Lib.hid hdir
    clear hst hL hrun hbW hsum hrl hnext hdp hdir hr hline hgc
    gi_wp2_with (fail)
    refine ⟨trivial, ?_⟩
    refine (CallsIn.inRound _ (callsIn_wide.2 HDIR.out)).mono ?_
    rintro e w3 ⟨rfl, b3⟩
    have C1 := c1 ⟨w3, b3⟩
    simp only [Ext.w] at C1
    have h3 := HST.out.on b3
    have HS3 := Lib.hid h3
    have hs3 := b3.size
    have HB3 := Lib.hid b3
    have HRL3 := Lib.hid (HRL.out.below b3 (Nat.le_refl _) hs3)
    have HR3 := Lib.hid (heap_below b3 HRUN.out (Array.getElem?_eq_some_iff.1 HRUN.out).1)
    clear h3 b3 c1 HST HRL HDIR
    cases is
    · cases hro : runOf L
      · have C1' : w3.cell? ⟨w.heap.size + 1, 0, none⟩ = some (.bool false) := by rw [C1, hro]
        have HRO := Lib.hid hro
        clear C1 hro
        obtain ⟨la, lc, rfl⟩ := row_shape HS3.out.row
        have hbox : w3.cell? ⟨w.heap.size, 0, none⟩ = some (.slice la L.length lc) := by simp [World.cell?, HS3.out.hd]
        have C0 := Lib.hid (fun u : Ext w3 => u.cell hbox)
        have hLl : L.length < 1000000000 := by have := HSUM.out.2; rw [← HL.out, List.length_map] at this; omega
        have hw0 := HBW.out.size
        clear hbox
        gi_wp2_with (fail)
        refine wpIn_region_each_tail 7 (rwSt w3.heap.size (.slice la L.length lc) false nm (.slice (some ⟨gb, go + st * 5, none⟩) line.length (c - st)) line) (by kernel_rfl) (by kernel_rfl) (by kernel_rfl) (rwSt_mono _ _ _ _ _ _) ?_ ?_
        · intro i o ho v w5 hb5 hd K hK
          have hi : i < 7 := (List.getElem?_eq_some_iff.1 ho).1
          have HK := Lib.hid hK
          have HB5 := Lib.hid hb5
          clear hK
          have hi7 : i = 0 ∨ i = 1 ∨ i = 2 ∨ i = 3 ∨ i = 4 ∨ i = 5 ∨ i = 6 := by omega
          rcases hi7 with rfl | rfl | rfl | rfl | rfl | rfl | rfl
          · -- op 0
            have cf := C0.out ⟨w5, HB5.out⟩
            simp only [Ext.w] at cf
            cases ho
            try clear hd
            simp only [List.take_succ_cons, List.take_zero, putAll, Act.put, List.setIfInBounds_toArray, List.set_cons_succ, List.set_cons_zero, Nat.reduceAdd, Nat.zero_add]
            go_wp2_with fail
            have q := HK.out (.slice la L.length lc) w5 rfl (Below.refl _ _)
            simp only [List.take_succ_cons, List.take_zero, putAll, Act.put, List.setIfInBounds_toArray, List.set_cons_succ, List.set_cons_zero, Nat.reduceAdd, Nat.zero_add] at q
            exact q
          · -- op 1
            cases ho
            try clear hd
            simp only [List.take_succ_cons, List.take_zero, putAll, Act.put, List.setIfInBounds_toArray, List.set_cons_succ, List.set_cons_zero, Nat.reduceAdd, Nat.zero_add]
            go_wp2_with fail
            have q := HK.out (.bool false) w5 rfl (Below.refl _ _)
            simp only [List.take_succ_cons, List.take_zero, putAll, Act.put, List.setIfInBounds_toArray, List.set_cons_succ, List.set_cons_zero, Nat.reduceAdd, Nat.zero_add] at q
            exact q
          · -- op 2
            cases ho
            try clear hd
            simp only [List.take_succ_cons, List.take_zero, putAll, Act.put, List.setIfInBounds_toArray, List.set_cons_succ, List.set_cons_zero, Nat.reduceAdd, Nat.zero_add]
            go_wp2_with fail
            have q := HK.out (.string (str nm)) w5 rfl (Below.refl _ _)
            simp only [List.take_succ_cons, List.take_zero, putAll, Act.put, List.setIfInBounds_toArray, List.set_cons_succ, List.set_cons_zero, Nat.reduceAdd, Nat.zero_add] at q
            exact q
          · -- op 3
            cases ho
            try clear hd
            simp only [List.take_succ_cons, List.take_zero, putAll, Act.put, List.setIfInBounds_toArray, List.set_cons_succ, List.set_cons_zero, Nat.reduceAdd, Nat.zero_add]
            go_wp2_with fail
            have q := HK.out (.slice (some ⟨gb, go + st * 5, none⟩) line.length (c - st)) w5 rfl (Below.refl _ _)
            simp only [List.take_succ_cons, List.take_zero, putAll, Act.put, List.setIfInBounds_toArray, List.set_cons_succ, List.set_cons_zero, Nat.reduceAdd, Nat.zero_add] at q
            exact q
          · -- op 4
            have h3 : v 3 = .slice (some ⟨gb, go + st * 5, none⟩) line.length (c - st) := hd 3 (by kernel_rfl)
            have hcl := Ls.clone (some ⟨gb, go + st * 5, none⟩) (c - st) line w5 (HRL3.out.below HB5.out (Nat.le_refl _) HB5.out.size) (fun e => by cases e) (by omega)
            have HCL := Lib.hid hcl
            cases ho
            try clear hd
            clear hcl
            simp only [List.take_succ_cons, List.take_zero, putAll, Act.put, List.setIfInBounds_toArray, List.set_cons_succ, List.set_cons_zero, Nat.reduceAdd, Nat.zero_add, h3]
            go_wp2_with fail
            refine HCL.out.mono ?_
            rintro e w6 ⟨u, rfl, hu, b6⟩
            have q := HK.out u w6 (own_base hu HB5.out.size) b6
            obtain ⟨ua, uc, rfl⟩ := row_shape hu
            simp only [List.take_succ_cons, List.take_zero, putAll, Act.put, List.setIfInBounds_toArray, List.set_cons_succ, List.set_cons_zero, Nat.reduceAdd, Nat.zero_add, h3] at q
            go_wp2_with fail
            exact q
          · -- op 5
            have h1 : v 1 = .bool false := hd 1 (by kernel_rfl)
            have h2 : v 2 = .string (str nm) := hd 2 (by kernel_rfl)
            have h4 : w5.ownsRow w3.heap.size 40 5 (v 4) line.length (line.flatMap tkC) := hd 4 (by kernel_rfl)
            obtain ⟨ua, uc, h4v⟩ := row_shape h4
            rw [h4v] at h4
            have H4 := Lib.hid h4
            cases ho
            try clear hd
            clear h4
            simp only [List.take_succ_cons, List.take_zero, putAll, Act.put, List.setIfInBounds_toArray, List.set_cons_succ, List.set_cons_zero, Nat.reduceAdd, Nat.zero_add, h1, h2, h4v]
            go_wp2_with fail
            have q := HK.out (.agg #[.bool false, .string (str nm), .slice ua line.length uc]) w5 ⟨_, rfl, H4.out⟩ (Below.refl _ _)
            simp only [List.take_succ_cons, List.take_zero, putAll, Act.put, List.setIfInBounds_toArray, List.set_cons_succ, List.set_cons_zero, Nat.reduceAdd, Nat.zero_add, h1, h2, h4v] at q
            exact q
          · -- op 6
            obtain ⟨x, h5, hx⟩ : ∃ x, v 5 = .agg #[.bool false, .string (str nm), x] ∧ w5.ownsRow w3.heap.size 40 5 x line.length (line.flatMap tkC) := hd 5 (by kernel_rfl)
            obtain ⟨ua, uc, rfl⟩ := row_shape hx
            have HX := Lib.hid hx
            cases ho
            try clear hd
            clear hx
            simp only [List.take_succ_cons, List.take_zero, putAll, Act.put, List.setIfInBounds_toArray, List.set_cons_succ, List.set_cons_zero, Nat.reduceAdd, Nat.zero_add, h5]
            go_wp2_with fail
            have q := HK.out (.slice (some ⟨w5.heap.size, 0, none⟩) 1 1) (w5.alloc (Obj.cells #[.bool false, .string (str nm), .slice ua line.length uc] 78)) ⟨_, w5.heap.size, rfl, heap_alloc_new _ _, HX.out.alloc _⟩ (below_alloc _ _)
            simp only [List.take_succ_cons, List.take_zero, putAll, Act.put, List.setIfInBounds_toArray, List.set_cons_succ, List.set_cons_zero, Nat.reduceAdd, Nat.zero_add, h5] at q
            exact q
        · intro v w5 hb5 hv
          obtain ⟨x, g, h6, hg, hx⟩ : ∃ x g, v 6 = .slice (some ⟨g, 0, none⟩) 1 1 ∧ w5.heap[g]? = some (.cells #[.bool false, .string (str nm), x] 78 (0, 0)) ∧ w5.ownsRow w3.heap.size 40 5 x line.length (line.flatMap tkC) := hv 6 (by decide)
          have h0 : v 0 = .slice la L.length lc := hv 0 (by decide)
          obtain ⟨ua, uc, rfl⟩ := row_shape hx
          have HGO := Lib.hid (CellsAt.of_heap hg)
          have hst5 := HS3.out.on hb5
          have HST5 := Lib.hid hst5
          have HX := Lib.hid hx
          have HB5 := Lib.hid hb5
          have hR5 := heap_below hb5 HR3.out (Array.getElem?_eq_some_iff.1 HR3.out).1
          have HR5 := Lib.hid hR5
          have hs5 := hb5.size
          clear hv hb5 hg hst5 hx hR5
          simp only [List.take_succ_cons, List.take_zero, List.drop_succ_cons, List.drop_zero, putAll, Act.put, List.setIfInBounds_toArray, List.set_cons_succ, List.set_cons_zero, Nat.reduceAdd, Nat.zero_add, h6, h0]
          generalize v 1 = v1
          generalize v 2 = v2
          generalize v 3 = v3
          generalize v 4 = v4
          generalize v 5 = v5
          clear h6 h0
          clear v
          go_wp2_with (at_builtin; refine wpList_append_own _ rfl _ _ 47 rfl w.heap.size 78 i1 (.agg #[.bool false, .string ⟨#[]⟩, .slice none 0 0]) 3 48 Tryz.underlying47 HJ.out HY0.out HY1.out HY2.out rfl (by decide) _ L.length _ rfl HST5.out.row ⟨g, 0, none⟩ 1 1 [.bool false, .string (str nm), .slice ua line.length uc] rfl rfl ?c1 ?c2 ?c3 ?c4 ?c5 ?_)
          case c1 => intro j u hu; simpa using HGO.out j u (by simpa using hu)
          case c2 => first | exact ⟨rfl, rfl, rfl⟩ | (intro u hu; simp at hu; rcases hu with rfl | rfl | rfl <;> rfl)
          case c3 => unfold maxLen; omega
          case c4 => omega
          case c5 => omega
          intro v' w6 hown' hgrow _
          obtain ⟨hst6, hrc6⟩ := HS3.out.push (r := ⟨false, nm, line⟩) (u := .slice ua line.length uc) HB5.out hgrow hown' HX.out
          obtain ⟨va, vc, rfl⟩ := row_shape hown'
          have hR6 := hrc6.kt.2 _ _ 4 (0, 0) rfl HR3.out
          have hp6 : w6.frozen? ⟨w.heap.size, 0, none⟩ = false := Lib.frozen_of_heap (other_block HST5.out.hd HST5.out.row (by decide) hgrow) 0
          have hp7 : w6.cell? ⟨w.heap.size, 0, none⟩ = some (.slice la L.length lc) := by simp [World.cell?, other_block HST5.out.hd HST5.out.row (by decide) hgrow]
          have hw6 := hgrow.size
          have HST6 := Lib.hid hst6
          have HRC6 := Lib.hid hrc6
          have HR6 := Lib.hid hR6
          clear hown' hgrow hst6 hrc6 hR6
          obtain ⟨W2, hW2⟩ : ∃ W2, W2 = w6.setCell ⟨w.heap.size, 0, none⟩ (.slice va (L.length + 1) vc) := ⟨_, rfl⟩
          rw [← hW2] at HST6 HRC6 HR6
          have hW2s : W2.heap.size = w6.heap.size := by rw [hW2]; simp
          have d4 : W2.cell? ⟨w.heap.size + 1, 0, none⟩ = some (.bool (runOf L)) := by simp [World.cell?, HR6.out]
          have d5 : W2.frozen? ⟨w.heap.size + 1, 0, none⟩ = false := Lib.frozen_of_heap HR6.out 0
          have HW2 := Lib.hid hW2
          clear hW2
          go_wp2_with fail
          rw [← HW2.out]
          refine NoOut.normal ?_
          gi_wp2_with (fail)
          have hset := heap_setCell_same W2 (w.heap.size + 1) 0 _ _ (.bool (!false)) HR6.out
          refine ⟨(RC.of_below (B := 0) HB3.out).kf _ |>.trans (HRC6.out.kf _) |>.trans (KeepsFrom.of_cells HR6.out _), ((KB.of_below HB3.out).trans (HRC6.out.kb (Nat.le_refl _) (by omega))).trans ⟨(KT.refl _ _).set HR6.out rfl _ _, fun _ => (Below.refl _ _).setCell (p := ⟨w.heap.size + 1, 0, none⟩) (by simp) _⟩, w3.heap.size, .slice va (L.length + 1) vc, L ++ [(⟨false, nm, line⟩, .slice ua line.length uc)], HST6.out.other HR6.out 0 _, ?_, ?_, ?_⟩
          · rw [HNX.out, ← HL.out, addRow_push HDP.out (by first | exact .inl rfl | exact .inr HRO.out), List.map_append]; rfl
          · simpa [runOf] using hset
          · exact ((HBW.out.trans (HB3.out.mono hw0)).trans (HRC6.out.bel (by omega))).setCell (p := ⟨w.heap.size + 1, 0, none⟩) (by simp) _
      · obtain ⟨d, ⟨xr, xv⟩, rfl, hxd⟩ := runOf_true hro
        simp only at hxd
        obtain ⟨G, cap, rfl, hBG, hcell, hfz⟩ := HS3.out.last
        have hnew := HS3.out.new (xr, xv) (by simp)
        simp only at hnew hcell
        obtain ⟨xa, xc, rfl⟩ := row_shape hnew
        have hdl : d.length < 1000000000 ∧ xr.toks.length + line.length ≤ 1000000000 := by
          have := HSUM.out
          rw [← HL.out] at this
          simp at this
          omega
        obtain ⟨hdl, hxl⟩ := hdl
        have C1' : w3.cell? ⟨w.heap.size + 1, 0, none⟩ = some (.bool true) := by rw [C1, hro]
        have hbox : w3.cell? ⟨w.heap.size, 0, none⟩ = some (.slice (some ⟨G, 0, none⟩) (d.length + 1) cap) := by simp [World.cell?, HS3.out.hd]
        have HNEW := Lib.hid hnew
        have hleD := HS3.out.leD
        obtain ⟨_, curG, hG⟩ := row_cells HS3.out.row rfl
        have HG := Lib.hid hG
        have HCG := Lib.hid hcell
        clear C1 hnew hro hG
        gi_wp2_with (gi_at_builtin; refine wpListIn_append_rows tkC rfl _ _ 30 rfl D 40 i0 (.agg #[.int .i64 0, .string ⟨#[]⟩, .int .i64 0, .int .i64 0, .bool false]) 5 48 Tryz.underlying30 HI.out HZ0.out HZ1.out HZ2.out rfl (by decide) tkC_len tkC_one _ _ _ rfl HNEW.out ⟨gb, go + st * 5, none⟩ line (c - st) rfl HRL3.out (by unfold maxLen; omega) (by omega) (by omega) ?_; intro v' w4 hown' hgrow; have hG4 := other_block HG.out HNEW.out (by decide) hgrow; have f1 := Lib.frozen_of_heap hG4 (d.length * 3 + 2); have d1 : w4.cell? ⟨G, d.length * 3 + 2, none⟩ = some (.slice xa xr.toks.length xc) := (by have q := HCG.out; simp only [World.cell?, HG.out] at q; simp only [World.cell?, hG4]; exact q); have HGR := Lib.hid hgrow; have HOWN' := Lib.hid hown'; obtain ⟨va, vc, hva⟩ := row_shape hown'; subst hva; clear hgrow hown' hG4)
        have hst4 := HS3.out.grow (ts := xr.toks ++ line) HGR.out (v' := .slice va (xr.toks.length + line.length) vc) (by have := HOWN'.out; rw [List.flatMap_append, List.length_append]; exact this)
        have hws := HBW.out.size
        refine ⟨(RC.of_below (B := 0) HB3.out).kf _ |>.trans (hst4.2.kf _), (KB.of_below HB3.out).trans (hst4.2.kb (Nat.le_refl _) (by omega)), D, _, _, hst4.1, ?_, ?_, ?_⟩
        · rw [HNX.out, ← HL.out, addRow_grow HDP.out hxd (.slice va (xr.toks.length + line.length) vc)]
        · have := hst4.2.kt.2 _ _ 4 (0, 0) rfl HR3.out; simpa [runOf, hxd] using this
        · exact (HBW.out.trans (HB3.out.mono hws)).trans (hst4.2.bel (by omega))
    · obtain ⟨la, lc, rfl⟩ := row_shape HS3.out.row
      have hbox : w3.cell? ⟨w.heap.size, 0, none⟩ = some (.slice la L.length lc) := by simp [World.cell?, HS3.out.hd]
      have C0 := Lib.hid (fun u : Ext w3 => u.cell hbox)
      have hLl : L.length < 1000000000 := by have := HSUM.out.2; rw [← HL.out, List.length_map] at this; omega
      have hw0 := HBW.out.size
      clear hbox
      gi_wp2_with (fail)
      refine wpIn_region_each_tail 7 (rwSt w3.heap.size (.slice la L.length lc) true nm (.slice (some ⟨gb, go + st * 5, none⟩) line.length (c - st)) line) (by kernel_rfl) (by kernel_rfl) (by kernel_rfl) (rwSt_mono _ _ _ _ _ _) ?_ ?_
      · intro i o ho v w5 hb5 hd K hK
        have hi : i < 7 := (List.getElem?_eq_some_iff.1 ho).1
        have HK := Lib.hid hK
        have HB5 := Lib.hid hb5
        clear hK
        have hi7 : i = 0 ∨ i = 1 ∨ i = 2 ∨ i = 3 ∨ i = 4 ∨ i = 5 ∨ i = 6 := by omega
        rcases hi7 with rfl | rfl | rfl | rfl | rfl | rfl | rfl
        · -- op 0
          have cf := C0.out ⟨w5, HB5.out⟩
          simp only [Ext.w] at cf
          cases ho
          try clear hd
          simp only [List.take_succ_cons, List.take_zero, putAll, Act.put, List.setIfInBounds_toArray, List.set_cons_succ, List.set_cons_zero, Nat.reduceAdd, Nat.zero_add]
          go_wp2_with fail
          have q := HK.out (.slice la L.length lc) w5 rfl (Below.refl _ _)
          simp only [List.take_succ_cons, List.take_zero, putAll, Act.put, List.setIfInBounds_toArray, List.set_cons_succ, List.set_cons_zero, Nat.reduceAdd, Nat.zero_add] at q
          exact q
        · -- op 1
          cases ho
          try clear hd
          simp only [List.take_succ_cons, List.take_zero, putAll, Act.put, List.setIfInBounds_toArray, List.set_cons_succ, List.set_cons_zero, Nat.reduceAdd, Nat.zero_add]
          go_wp2_with fail
          have q := HK.out (.bool true) w5 rfl (Below.refl _ _)
          simp only [List.take_succ_cons, List.take_zero, putAll, Act.put, List.setIfInBounds_toArray, List.set_cons_succ, List.set_cons_zero, Nat.reduceAdd, Nat.zero_add] at q
          exact q
        · -- op 2
          cases ho
          try clear hd
          simp only [List.take_succ_cons, List.take_zero, putAll, Act.put, List.setIfInBounds_toArray, List.set_cons_succ, List.set_cons_zero, Nat.reduceAdd, Nat.zero_add]
          go_wp2_with fail
          have q := HK.out (.string (str nm)) w5 rfl (Below.refl _ _)
          simp only [List.take_succ_cons, List.take_zero, putAll, Act.put, List.setIfInBounds_toArray, List.set_cons_succ, List.set_cons_zero, Nat.reduceAdd, Nat.zero_add] at q
          exact q
        · -- op 3
          cases ho
          try clear hd
          simp only [List.take_succ_cons, List.take_zero, putAll, Act.put, List.setIfInBounds_toArray, List.set_cons_succ, List.set_cons_zero, Nat.reduceAdd, Nat.zero_add]
          go_wp2_with fail
          have q := HK.out (.slice (some ⟨gb, go + st * 5, none⟩) line.length (c - st)) w5 rfl (Below.refl _ _)
          simp only [List.take_succ_cons, List.take_zero, putAll, Act.put, List.setIfInBounds_toArray, List.set_cons_succ, List.set_cons_zero, Nat.reduceAdd, Nat.zero_add] at q
          exact q
        · -- op 4
          have h3 : v 3 = .slice (some ⟨gb, go + st * 5, none⟩) line.length (c - st) := hd 3 (by kernel_rfl)
          have hcl := Ls.clone (some ⟨gb, go + st * 5, none⟩) (c - st) line w5 (HRL3.out.below HB5.out (Nat.le_refl _) HB5.out.size) (fun e => by cases e) (by omega)
          have HCL := Lib.hid hcl
          cases ho
          try clear hd
          clear hcl
          simp only [List.take_succ_cons, List.take_zero, putAll, Act.put, List.setIfInBounds_toArray, List.set_cons_succ, List.set_cons_zero, Nat.reduceAdd, Nat.zero_add, h3]
          go_wp2_with fail
          refine HCL.out.mono ?_
          rintro e w6 ⟨u, rfl, hu, b6⟩
          have q := HK.out u w6 (own_base hu HB5.out.size) b6
          obtain ⟨ua, uc, rfl⟩ := row_shape hu
          simp only [List.take_succ_cons, List.take_zero, putAll, Act.put, List.setIfInBounds_toArray, List.set_cons_succ, List.set_cons_zero, Nat.reduceAdd, Nat.zero_add, h3] at q
          go_wp2_with fail
          exact q
        · -- op 5
          have h1 : v 1 = .bool true := hd 1 (by kernel_rfl)
          have h2 : v 2 = .string (str nm) := hd 2 (by kernel_rfl)
          have h4 : w5.ownsRow w3.heap.size 40 5 (v 4) line.length (line.flatMap tkC) := hd 4 (by kernel_rfl)
          obtain ⟨ua, uc, h4v⟩ := row_shape h4
          rw [h4v] at h4
          have H4 := Lib.hid h4
          cases ho
          try clear hd
          clear h4
          simp only [List.take_succ_cons, List.take_zero, putAll, Act.put, List.setIfInBounds_toArray, List.set_cons_succ, List.set_cons_zero, Nat.reduceAdd, Nat.zero_add, h1, h2, h4v]
          go_wp2_with fail
          have q := HK.out (.agg #[.bool true, .string (str nm), .slice ua line.length uc]) w5 ⟨_, rfl, H4.out⟩ (Below.refl _ _)
          simp only [List.take_succ_cons, List.take_zero, putAll, Act.put, List.setIfInBounds_toArray, List.set_cons_succ, List.set_cons_zero, Nat.reduceAdd, Nat.zero_add, h1, h2, h4v] at q
          exact q
        · -- op 6
          obtain ⟨x, h5, hx⟩ : ∃ x, v 5 = .agg #[.bool true, .string (str nm), x] ∧ w5.ownsRow w3.heap.size 40 5 x line.length (line.flatMap tkC) := hd 5 (by kernel_rfl)
          obtain ⟨ua, uc, rfl⟩ := row_shape hx
          have HX := Lib.hid hx
          cases ho
          try clear hd
          clear hx
          simp only [List.take_succ_cons, List.take_zero, putAll, Act.put, List.setIfInBounds_toArray, List.set_cons_succ, List.set_cons_zero, Nat.reduceAdd, Nat.zero_add, h5]
          go_wp2_with fail
          have q := HK.out (.slice (some ⟨w5.heap.size, 0, none⟩) 1 1) (w5.alloc (Obj.cells #[.bool true, .string (str nm), .slice ua line.length uc] 78)) ⟨_, w5.heap.size, rfl, heap_alloc_new _ _, HX.out.alloc _⟩ (below_alloc _ _)
          simp only [List.take_succ_cons, List.take_zero, putAll, Act.put, List.setIfInBounds_toArray, List.set_cons_succ, List.set_cons_zero, Nat.reduceAdd, Nat.zero_add, h5] at q
          exact q
      · intro v w5 hb5 hv
        obtain ⟨x, g, h6, hg, hx⟩ : ∃ x g, v 6 = .slice (some ⟨g, 0, none⟩) 1 1 ∧ w5.heap[g]? = some (.cells #[.bool true, .string (str nm), x] 78 (0, 0)) ∧ w5.ownsRow w3.heap.size 40 5 x line.length (line.flatMap tkC) := hv 6 (by decide)
        have h0 : v 0 = .slice la L.length lc := hv 0 (by decide)
        obtain ⟨ua, uc, rfl⟩ := row_shape hx
        have HGO := Lib.hid (CellsAt.of_heap hg)
        have hst5 := HS3.out.on hb5
        have HST5 := Lib.hid hst5
        have HX := Lib.hid hx
        have HB5 := Lib.hid hb5
        have hR5 := heap_below hb5 HR3.out (Array.getElem?_eq_some_iff.1 HR3.out).1
        have HR5 := Lib.hid hR5
        have hs5 := hb5.size
        clear hv hb5 hg hst5 hx hR5
        simp only [List.take_succ_cons, List.take_zero, List.drop_succ_cons, List.drop_zero, putAll, Act.put, List.setIfInBounds_toArray, List.set_cons_succ, List.set_cons_zero, Nat.reduceAdd, Nat.zero_add, h6, h0]
        generalize v 1 = v1
        generalize v 2 = v2
        generalize v 3 = v3
        generalize v 4 = v4
        generalize v 5 = v5
        clear h6 h0
        clear v
        go_wp2_with (at_builtin; refine wpList_append_own _ rfl _ _ 47 rfl w.heap.size 78 i1 (.agg #[.bool false, .string ⟨#[]⟩, .slice none 0 0]) 3 48 Tryz.underlying47 HJ.out HY0.out HY1.out HY2.out rfl (by decide) _ L.length _ rfl HST5.out.row ⟨g, 0, none⟩ 1 1 [.bool true, .string (str nm), .slice ua line.length uc] rfl rfl ?c1 ?c2 ?c3 ?c4 ?c5 ?_)
        case c1 => intro j u hu; simpa using HGO.out j u (by simpa using hu)
        case c2 => first | exact ⟨rfl, rfl, rfl⟩ | (intro u hu; simp at hu; rcases hu with rfl | rfl | rfl <;> rfl)
        case c3 => unfold maxLen; omega
        case c4 => omega
        case c5 => omega
        intro v' w6 hown' hgrow _
        obtain ⟨hst6, hrc6⟩ := HS3.out.push (r := ⟨true, nm, line⟩) (u := .slice ua line.length uc) HB5.out hgrow hown' HX.out
        obtain ⟨va, vc, rfl⟩ := row_shape hown'
        have hR6 := hrc6.kt.2 _ _ 4 (0, 0) rfl HR3.out
        have hp6 : w6.frozen? ⟨w.heap.size, 0, none⟩ = false := Lib.frozen_of_heap (other_block HST5.out.hd HST5.out.row (by decide) hgrow) 0
        have hp7 : w6.cell? ⟨w.heap.size, 0, none⟩ = some (.slice la L.length lc) := by simp [World.cell?, other_block HST5.out.hd HST5.out.row (by decide) hgrow]
        have hw6 := hgrow.size
        have HST6 := Lib.hid hst6
        have HRC6 := Lib.hid hrc6
        have HR6 := Lib.hid hR6
        clear hown' hgrow hst6 hrc6 hR6
        obtain ⟨W2, hW2⟩ : ∃ W2, W2 = w6.setCell ⟨w.heap.size, 0, none⟩ (.slice va (L.length + 1) vc) := ⟨_, rfl⟩
        rw [← hW2] at HST6 HRC6 HR6
        have hW2s : W2.heap.size = w6.heap.size := by rw [hW2]; simp
        have d4 : W2.cell? ⟨w.heap.size + 1, 0, none⟩ = some (.bool (runOf L)) := by simp [World.cell?, HR6.out]
        have d5 : W2.frozen? ⟨w.heap.size + 1, 0, none⟩ = false := Lib.frozen_of_heap HR6.out 0
        have HW2 := Lib.hid hW2
        clear hW2
        go_wp2_with fail
        rw [← HW2.out]
        refine NoOut.normal ?_
        gi_wp2_with (fail)
        have hset := heap_setCell_same W2 (w.heap.size + 1) 0 _ _ (.bool (!true)) HR6.out
        refine ⟨(RC.of_below (B := 0) HB3.out).kf _ |>.trans (HRC6.out.kf _) |>.trans (KeepsFrom.of_cells HR6.out _), ((KB.of_below HB3.out).trans (HRC6.out.kb (Nat.le_refl _) (by omega))).trans ⟨(KT.refl _ _).set HR6.out rfl _ _, fun _ => (Below.refl _ _).setCell (p := ⟨w.heap.size + 1, 0, none⟩) (by simp) _⟩, w3.heap.size, .slice va (L.length + 1) vc, L ++ [(⟨true, nm, line⟩, .slice ua line.length uc)], HST6.out.other HR6.out 0 _, ?_, ?_, ?_⟩
        · rw [HNX.out, ← HL.out, addRow_push HDP.out (by first | exact .inl rfl | exact .inr HRO.out), List.map_append]; rfl
        · simpa [runOf] using hset
        · exact ((HBW.out.trans (HB3.out.mono hw0)).trans (HRC6.out.bel (by omega))).setCell (p := ⟨w.heap.size + 1, 0, none⟩) (by simp) _
  case done =>
    rintro Dd zs W hD rfl ⟨D, lv, L, hst, hL, hrun, hbW⟩ hK
    have c1 : W.cell? ⟨w.heap.size, 0, none⟩ = some lv := by simp [World.cell?, hst.hd]
    obtain ⟨la, lc, rfl⟩ := row_shape hst.row
    have HST := Lib.hid hst
    have HL := Lib.hid hL
    have HBW := Lib.hid hbW
    have HK := Lib.hid hK
    clear hst hL hbW hK hrun
    gi_wp2_with (fail)
    refine ⟨by simp, .inl ⟨_, _, rfl, run_takeDeferred HK.out, ?_⟩⟩
    have hp := HST.out.nc (w' := W.putObj Dd (.deferred none)) (S := fun k => k = Dd) ⟨rfl, rfl, rfl, by simp, fun k hk hn => World.putObj_heap_other (fun e => hn ⟨e, .deferred (some []), by subst e; exact HK.out, rfl⟩)⟩
    refine ⟨_, results_tmp rfl _ _ _, _, rfl, ?_, HBW.out.trans (below_put (by have := HS0.out; omega) HK.out)⟩
    have := hp.rv
    rw [HL.out] at this
    unfold rowsP
    rw [pcs_lns]
    exact this
  case stop =>
    rintro Dd c pre W hD _ h _
    exact h.elim
end Go.Proofs.YtbnhefibpjldfaaGreatDoor

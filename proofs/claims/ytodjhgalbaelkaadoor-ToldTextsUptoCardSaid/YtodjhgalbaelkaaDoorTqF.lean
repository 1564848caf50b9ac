/- The laws of told: twin. Printed by wip/twin_gen.py. -/
import Derived.Test.YtodjhgalbaelkaaDoorTqE
import Derived.Test.YtodjhgalbaelkaaDoorMon
namespace Go.Proofs.YtodjhgalbaelkaaDoor
open Go.RowKit Go.BigFrame Go.Shelf
set_option linter.unusedVariables false

/-- The values of a region's operations: all known, but for operation k, which makes a block that holds O. -/
def frS (vals : List Value) (k : Nat) (O : Obj) (mk : Nat → Value) (i : Nat) (v : Value) (w : World) : Prop :=
  match Nat.beq i k with
  | true => ∃ g, v = mk g ∧ w.heap[g]? = some O
  | false => v = vals.getD i undef
theorem frS_mono (vals : List Value) (k : Nat) (O : Obj) (mk : Nat → Value) : ∀ i v w w', Below w.heap.size w w' → frS vals k O mk i v w → frS vals k O mk i v w' := fun i v w w' hb h => by
  unfold frS at *
  split at h
  · obtain ⟨g, h1, h2⟩ := h
    exact ⟨g, h1, heap_below hb h2 (Array.getElem?_eq_some_iff.1 h2).1⟩
  · exact h
theorem lt13 (i : Nat) (h : i < 13) : i = 0 ∨ i = 1 ∨ i = 2 ∨ i = 3 ∨ i = 4 ∨ i = 5 ∨ i = 6 ∨ i = 7 ∨ i = 8 ∨ i = 9 ∨ i = 10 ∨ i = 11 ∨ i = 12 := by omega
theorem infoTwin : (Tryd.prog.info? 69).map (fun i => (i.zero, i.size, i.bytes)) = some (some (.agg #[.string ⟨#[]⟩, .slice none 0 0]), 2, 40) := by kernel_rfl
def TwinPost (l : List Chg) (w : World) (e : Ending) (w' : World) : Prop :=
  ∃ v, e = .returned v ∧ w'.ownsRow w.heap.size 69 2 v l.length (l.flatMap Chg.f) ∧ Below w.heap.size w w'

set_option maxRecDepth 100000 in
set_option maxHeartbeats 8000000 in
theorem Td.twin (a : Option Addr) (c : Nat) (l : List Chg) (w : World) (hr : RowAt 2 Chg.f w a l) (hl : l.length ≤ 2000000) :
    Calls Tryd.prog 12 #[.slice a l.length c] w (TwinPost l w) := by
  obtain ⟨i0, hi, hz0, hz1, hz2⟩ := info_parts infoTwin
  have HI := Lib.hid hi
  have HZ0 := Lib.hid hz0
  have HZ1 := Lib.hid hz1
  have HZ2 := Lib.hid hz2
  have HROW := Lib.hid hr
  clear hi hz0 hz1 hz2 hr
  go_enter Tryd.func12, Tryd.ntmps12
  go_wp2_with fail
  go_loopw [3, 4] (fun s3 s4 wr => ∃ i : Nat, i ≤ l.length ∧ s4 = .int .i64 i ∧ Below w.heap.size w wr ∧ wr.ownsRow w.heap.size 69 2 s3 i ((l.take i).flatMap Chg.f)) (fun _ s4 _ => l.length - (intOf s4).toNat)
  case atStart => exact ⟨0, by omega, rfl, Below.refl _ _, World.ownsRow_nil _ _ _ _⟩
  case round =>
    obtain ⟨i, hi, rfl, hbel, hown⟩ := hrel
    obtain ⟨oa, oc, rfl⟩ := row_shape hown
    have HBEL := Lib.hid hbel
    have HOWN := Lib.hid hown
    have hsz := hbel.size
    clear hown
    by_cases hlt : i < l.length
    · obtain ⟨bb, off, rfl, hbw, hcc⟩ := HROW.out.at (by intro e; simp [e] at hlt)
      have g := fun (u : World) (hu : Below wr.heap.size wr u) => Chg.at (w := u) (b := bb) (o := off + i * 2) (c := l[i]) (((hcc i hlt).below hbel hbw).below hu (by omega))
      have htk : Hid (((l.take (i + 1)).flatMap Chg.f) = (l.take i).flatMap Chg.f ++ Chg.f l[i]) := Lib.hid (by rw [List.take_succ_eq_append_getElem hlt, List.flatMap_append]; simp)
      have HG := Lib.hid g
      clear hcc g hbel
      generalize l[i] = x at *
      obtain ⟨xn, xa, xc, xes⟩ := x
      simp only at *
      go_wp2_with fail
      refine wp_region_each_tail 13 (frS [Value.slice oa i oc, Value.slice (some ⟨bb, off, none⟩) l.length c, Value.int .i64 i, Value.pointer (some ⟨bb, off + i * 2, none⟩), Value.pointer (some ⟨bb, off + i * 2, none⟩), Value.string xn, Value.slice (some ⟨bb, off, none⟩) l.length c, Value.int .i64 i, Value.pointer (some ⟨bb, off + i * 2, none⟩), Value.pointer (some ⟨bb, off + i * 2 + 1, none⟩), Value.slice xa xes.length xc, Value.agg #[.string xn, .slice xa xes.length xc], undef] 12 (.cells #[.string xn, .slice xa xes.length xc] 69 (0, 0)) (fun g => .slice (some ⟨g, 0, none⟩) 1 1)) (by kernel_rfl) (by kernel_rfl) (frS_mono [Value.slice oa i oc, Value.slice (some ⟨bb, off, none⟩) l.length c, Value.int .i64 i, Value.pointer (some ⟨bb, off + i * 2, none⟩), Value.pointer (some ⟨bb, off + i * 2, none⟩), Value.string xn, Value.slice (some ⟨bb, off, none⟩) l.length c, Value.int .i64 i, Value.pointer (some ⟨bb, off + i * 2, none⟩), Value.pointer (some ⟨bb, off + i * 2 + 1, none⟩), Value.slice xa xes.length xc, Value.agg #[.string xn, .slice xa xes.length xc], undef] 12 (.cells #[.string xn, .slice xa xes.length xc] 69 (0, 0)) (fun g => .slice (some ⟨g, 0, none⟩) 1 1)) ?_ ?_
      · intro i o ho v w5 hb5 hd K hK
        have hi : i < 13 := (List.getElem?_eq_some_iff.1 ho).1
        have HK := Lib.hid hK
        have HB5 := Lib.hid hb5
        clear hK
        rcases lt13 i hi with rfl | rfl | rfl | rfl | rfl | rfl | rfl | rfl | rfl | rfl | rfl | rfl | rfl
        · -- op 0
          cases ho
          try clear hd
          simp only [List.take_succ_cons, List.take_zero, putAll, Act.put, List.setIfInBounds_toArray, List.set_cons_succ, List.set_cons_zero, Nat.reduceAdd, Nat.zero_add]
          go_wp2_with fail
          have q := HK.out (Value.slice oa i oc) w5 (rfl) (Below.refl _ _)
          simp only [List.take_succ_cons, List.take_zero, putAll, Act.put, List.setIfInBounds_toArray, List.set_cons_succ, List.set_cons_zero, Nat.reduceAdd, Nat.zero_add] at q
          exact q
        · -- op 1
          cases ho
          try clear hd
          simp only [List.take_succ_cons, List.take_zero, putAll, Act.put, List.setIfInBounds_toArray, List.set_cons_succ, List.set_cons_zero, Nat.reduceAdd, Nat.zero_add]
          go_wp2_with fail
          have q := HK.out (Value.slice (some ⟨bb, off, none⟩) l.length c) w5 (rfl) (Below.refl _ _)
          simp only [List.take_succ_cons, List.take_zero, putAll, Act.put, List.setIfInBounds_toArray, List.set_cons_succ, List.set_cons_zero, Nat.reduceAdd, Nat.zero_add] at q
          exact q
        · -- op 2
          cases ho
          try clear hd
          simp only [List.take_succ_cons, List.take_zero, putAll, Act.put, List.setIfInBounds_toArray, List.set_cons_succ, List.set_cons_zero, Nat.reduceAdd, Nat.zero_add]
          go_wp2_with fail
          have q := HK.out (Value.int .i64 i) w5 (rfl) (Below.refl _ _)
          simp only [List.take_succ_cons, List.take_zero, putAll, Act.put, List.setIfInBounds_toArray, List.set_cons_succ, List.set_cons_zero, Nat.reduceAdd, Nat.zero_add] at q
          exact q
        · -- op 3
          have h1 : v 1 = Value.slice (some ⟨bb, off, none⟩) l.length c := hd 1 (by kernel_rfl)
          have h2 : v 2 = Value.int .i64 i := hd 2 (by kernel_rfl)
          cases ho
          try clear hd
          simp only [List.take_succ_cons, List.take_zero, putAll, Act.put, List.setIfInBounds_toArray, List.set_cons_succ, List.set_cons_zero, Nat.reduceAdd, Nat.zero_add, h1, h2]
          go_wp2_with fail
          have q := HK.out (Value.pointer (some ⟨bb, off + i * 2, none⟩)) w5 (rfl) (Below.refl _ _)
          simp only [List.take_succ_cons, List.take_zero, putAll, Act.put, List.setIfInBounds_toArray, List.set_cons_succ, List.set_cons_zero, Nat.reduceAdd, Nat.zero_add, h1, h2] at q
          exact q
        · -- op 4
          have h3 : v 3 = Value.pointer (some ⟨bb, off + i * 2, none⟩) := hd 3 (by kernel_rfl)
          cases ho
          try clear hd
          simp only [List.take_succ_cons, List.take_zero, putAll, Act.put, List.setIfInBounds_toArray, List.set_cons_succ, List.set_cons_zero, Nat.reduceAdd, Nat.zero_add, h3]
          go_wp2_with fail
          have q := HK.out (Value.pointer (some ⟨bb, off + i * 2, none⟩)) w5 (rfl) (Below.refl _ _)
          simp only [List.take_succ_cons, List.take_zero, putAll, Act.put, List.setIfInBounds_toArray, List.set_cons_succ, List.set_cons_zero, Nat.reduceAdd, Nat.zero_add, h3] at q
          exact q
        · -- op 5
          have h4 : v 4 = Value.pointer (some ⟨bb, off + i * 2, none⟩) := hd 4 (by kernel_rfl)
          have hc := (HG.out _ HB5.out).1
          cases ho
          try clear hd
          simp only [List.take_succ_cons, List.take_zero, putAll, Act.put, List.setIfInBounds_toArray, List.set_cons_succ, List.set_cons_zero, Nat.reduceAdd, Nat.zero_add, h4]
          go_wp2_with fail
          have q := HK.out (Value.string xn) w5 (rfl) (Below.refl _ _)
          simp only [List.take_succ_cons, List.take_zero, putAll, Act.put, List.setIfInBounds_toArray, List.set_cons_succ, List.set_cons_zero, Nat.reduceAdd, Nat.zero_add, h4] at q
          exact q
        · -- op 6
          cases ho
          try clear hd
          simp only [List.take_succ_cons, List.take_zero, putAll, Act.put, List.setIfInBounds_toArray, List.set_cons_succ, List.set_cons_zero, Nat.reduceAdd, Nat.zero_add]
          go_wp2_with fail
          have q := HK.out (Value.slice (some ⟨bb, off, none⟩) l.length c) w5 (rfl) (Below.refl _ _)
          simp only [List.take_succ_cons, List.take_zero, putAll, Act.put, List.setIfInBounds_toArray, List.set_cons_succ, List.set_cons_zero, Nat.reduceAdd, Nat.zero_add] at q
          exact q
        · -- op 7
          cases ho
          try clear hd
          simp only [List.take_succ_cons, List.take_zero, putAll, Act.put, List.setIfInBounds_toArray, List.set_cons_succ, List.set_cons_zero, Nat.reduceAdd, Nat.zero_add]
          go_wp2_with fail
          have q := HK.out (Value.int .i64 i) w5 (rfl) (Below.refl _ _)
          simp only [List.take_succ_cons, List.take_zero, putAll, Act.put, List.setIfInBounds_toArray, List.set_cons_succ, List.set_cons_zero, Nat.reduceAdd, Nat.zero_add] at q
          exact q
        · -- op 8
          have h6 : v 6 = Value.slice (some ⟨bb, off, none⟩) l.length c := hd 6 (by kernel_rfl)
          have h7 : v 7 = Value.int .i64 i := hd 7 (by kernel_rfl)
          cases ho
          try clear hd
          simp only [List.take_succ_cons, List.take_zero, putAll, Act.put, List.setIfInBounds_toArray, List.set_cons_succ, List.set_cons_zero, Nat.reduceAdd, Nat.zero_add, h6, h7]
          go_wp2_with fail
          have q := HK.out (Value.pointer (some ⟨bb, off + i * 2, none⟩)) w5 (rfl) (Below.refl _ _)
          simp only [List.take_succ_cons, List.take_zero, putAll, Act.put, List.setIfInBounds_toArray, List.set_cons_succ, List.set_cons_zero, Nat.reduceAdd, Nat.zero_add, h6, h7] at q
          exact q
        · -- op 9
          have h8 : v 8 = Value.pointer (some ⟨bb, off + i * 2, none⟩) := hd 8 (by kernel_rfl)
          cases ho
          try clear hd
          simp only [List.take_succ_cons, List.take_zero, putAll, Act.put, List.setIfInBounds_toArray, List.set_cons_succ, List.set_cons_zero, Nat.reduceAdd, Nat.zero_add, h8]
          go_wp2_with fail
          have q := HK.out (Value.pointer (some ⟨bb, off + i * 2 + 1, none⟩)) w5 (rfl) (Below.refl _ _)
          simp only [List.take_succ_cons, List.take_zero, putAll, Act.put, List.setIfInBounds_toArray, List.set_cons_succ, List.set_cons_zero, Nat.reduceAdd, Nat.zero_add, h8] at q
          exact q
        · -- op 10
          have h9 : v 9 = Value.pointer (some ⟨bb, off + i * 2 + 1, none⟩) := hd 9 (by kernel_rfl)
          have hc := (HG.out _ HB5.out).2
          cases ho
          try clear hd
          simp only [List.take_succ_cons, List.take_zero, putAll, Act.put, List.setIfInBounds_toArray, List.set_cons_succ, List.set_cons_zero, Nat.reduceAdd, Nat.zero_add, h9]
          go_wp2_with fail
          have q := HK.out (Value.slice xa xes.length xc) w5 (rfl) (Below.refl _ _)
          simp only [List.take_succ_cons, List.take_zero, putAll, Act.put, List.setIfInBounds_toArray, List.set_cons_succ, List.set_cons_zero, Nat.reduceAdd, Nat.zero_add, h9] at q
          exact q
        · -- op 11
          have h5 : v 5 = Value.string xn := hd 5 (by kernel_rfl)
          have h10 : v 10 = Value.slice xa xes.length xc := hd 10 (by kernel_rfl)
          have hbt : (Tryd.prog.built 69 [(0, Value.string xn), (1, Value.slice xa xes.length xc)]) = some #[.string xn, .slice xa xes.length xc] := by kernel_rfl
          cases ho
          try clear hd
          simp only [List.take_succ_cons, List.take_zero, putAll, Act.put, List.setIfInBounds_toArray, List.set_cons_succ, List.set_cons_zero, Nat.reduceAdd, Nat.zero_add, h5, h10]
          go_wp2_with (refine wpList_build rfl 69 _ rfl (by simp [Act.eval, hbt]) ?_)
          have q := HK.out (Value.agg #[.string xn, .slice xa xes.length xc]) w5 (rfl) (Below.refl _ _)
          simp only [List.take_succ_cons, List.take_zero, putAll, Act.put, List.setIfInBounds_toArray, List.set_cons_succ, List.set_cons_zero, Nat.reduceAdd, Nat.zero_add, h5, h10] at q
          exact q
        · -- op 12
          have h11 : v 11 = Value.agg #[.string xn, .slice xa xes.length xc] := hd 11 (by kernel_rfl)
          cases ho
          try clear hd
          simp only [List.take_succ_cons, List.take_zero, putAll, Act.put, List.setIfInBounds_toArray, List.set_cons_succ, List.set_cons_zero, Nat.reduceAdd, Nat.zero_add, h11]
          go_wp2_with fail
          have q := HK.out (Value.slice (some ⟨w5.heap.size, 0, none⟩) 1 1) (w5.alloc (.cells #[.string xn, .slice xa xes.length xc] 69)) (⟨w5.heap.size, rfl, heap_alloc_new _ _⟩) (below_alloc _ _)
          simp only [List.take_succ_cons, List.take_zero, putAll, Act.put, List.setIfInBounds_toArray, List.set_cons_succ, List.set_cons_zero, Nat.reduceAdd, Nat.zero_add, h11] at q
          exact q
      · intro v w5 hb5 hv
        have HV := Lib.hid hv
        have HB5 := Lib.hid hb5
        obtain ⟨g, h12, hgO⟩ : ∃ g, v 12 = .slice (some ⟨g, 0, none⟩) 1 1 ∧ w5.heap[g]? = some (.cells #[.string xn, .slice xa xes.length xc] 69 (0, 0)) := hv 12 (by decide)
        have h0 : v 0 = .slice oa i oc := hv 0 (by decide)
        have HGO := Lib.hid hgO
        have hown5 := own_on HOWN.out hb5
        have HOWN5 := Lib.hid hown5
        have hws := hb5.size
        clear hv hb5 hgO hown5
        simp only [List.take_succ_cons, List.take_zero, List.drop_succ_cons, List.drop_zero, putAll, Act.put, List.setIfInBounds_toArray, List.set_cons_succ, List.set_cons_zero, Nat.reduceAdd, Nat.zero_add, h12, h0]
        generalize v 1 = v1
        generalize v 2 = v2
        generalize v 3 = v3
        generalize v 4 = v4
        generalize v 5 = v5
        generalize v 6 = v6
        generalize v 7 = v7
        generalize v 8 = v8
        generalize v 9 = v9
        generalize v 10 = v10
        generalize v 11 = v11
        clear h12 h0 HV
        clear v
        go_wp2_with (at_builtin; refine wpList_append_own _ rfl _ _ 36 rfl w.heap.size 69 i0 (.agg #[.string ⟨#[]⟩, .slice none 0 0]) 2 40 Tryd.underlying36 HI.out HZ0.out HZ1.out HZ2.out rfl (by decide) _ i _ rfl HOWN5.out ⟨g, 0, none⟩ 1 1 [.string xn, .slice xa xes.length xc] rfl rfl ?c1 ?c2 ?c3 ?c4 ?c5 ?_)
        case c1 => intro j u hu; rw [addr_add]; exact (CellsAt.of_heap HGO.out) j u (by simpa using hu)
        case c2 => intro u hu; simp at hu; rcases hu with rfl | rfl <;> rfl
        case c3 => unfold maxLen; omega
        case c4 => omega
        case c5 => omega
        intro v' w6 hown' hgrow _
        obtain ⟨a', c', rfl⟩ := row_shape hown'
        have HOWN6 := Lib.hid hown'
        have HB6 : Hid (Below w.heap.size w w6) := Lib.hid ((HBEL.out.trans (HB5.out.mono hsz)).grown hgrow (by omega) (fun k hk => (row_cells HOWN5.out hk).1))
        clear hown' hgrow
        go_wp2_with fail
        go_roundw
        case rel => exact ⟨i + 1, by omega, by go_num, HB6.out, by rw [htk.out]; exact HOWN6.out⟩
        case measure => simp [intOf]; omega
    · obtain rfl : i = l.length := by omega
      clear hbel
      rw [List.take_length] at HOWN
      go_wp2_with fail
      go_ret
      exact ⟨_, rfl, HOWN.out, HBEL.out⟩
end Go.Proofs.YtodjhgalbaelkaaDoor

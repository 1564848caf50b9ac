/- The document's answer for told: three. -/
import Derived.Test.YtodjhgalbaelkaaDoorTrC
namespace Go.Proofs.YtodjhgalbaelkaaDoor
open Go.RowKit Go.BigFrame Go.Shelf
set_option linter.unusedVariables false

/-- So many numbers more. -/
def thrE : Nat → List Int → Bs → Option (List Int)
  | 0, _, _ => none
  | k + 1, vs, l => if numR (cutB l).1 < 0 then none else match (cutB l).2 with
    | none => if k = 0 then some (vs ++ [numR (cutB l).1]) else none
    | some r => thrE k (vs ++ [numR (cutB l).1]) r
theorem thrE_succ (k : Nat) (vs : List Int) (l : Bs) : thrE (k + 1) vs l = if numR (cutB l).1 < 0 then none else match (cutB l).2 with
    | none => if k = 0 then some (vs ++ [numR (cutB l).1]) else none
    | some r => thrE k (vs ++ [numR (cutB l).1]) r := rfl
theorem numO_bd : ∀ o : Option Nat, -1 ≤ numO o ∧ numO o ≤ 65537
  | none => by simp [numO]
  | some n => by unfold numO; simp only; split <;> omega
theorem numR_bd (l : Bs) : -1 ≤ numR l ∧ numR l ≤ 65537 := numO_bd _
theorem cut_mid {l : Bs} {j i : Nat} (hji : j ≤ i) (hi : i < l.length) (hb : l[i] = 32) (hno : (32 : UInt8) ∉ betw l j i) : cutB (l.drop j) = (betw l j i, some (l.drop (i + 1))) := by
  rw [betw_drop hji, List.drop_eq_getElem_cons hi, hb]
  exact cutB_at _ _ hno
theorem cut_end {l : Bs} {j : Nat} (hji : j ≤ l.length) (hno : (32 : UInt8) ∉ betw l j l.length) : cutB (l.drop j) = (betw l j l.length, none) := by
  have h := betw_drop (l := l) (b := l.length) hji
  rw [List.drop_length, List.append_nil] at h
  rw [h]
  exact cutB_none _ hno
def TrMid (s : ByteArray) (n j i : Nat) (a b c : Int) : Prop := j ≤ i ∧ i ≤ s.size ∧ (32 : UInt8) ∉ betw (dl s) j i ∧ thrE (3 - n) ([a, b, c].take n) ((dl s).drop j) = thrE 3 [] (dl s)
def TrEnd (s : ByteArray) (n i : Nat) (a b c : Int) : Prop := i = s.size + 1 ∧ thrE 3 [] (dl s) = if n = 3 then some [a, b, c] else none
/-- A part has been read. -/
theorem tr_part {s : ByteArray} {n j i : Nat} {a b c : Int} {x : Bs} (h : TrMid s n j i a b c) (hn : n < 3) (hx : x = betw (dl s) j i) :
    (i < s.size → (dl s)[i]? = some 32 → (numR x < 0 → thrE 3 [] (dl s) = none) ∧ (¬ numR x < 0 → thrE (3 - (n + 1)) ([a, b, c].take n ++ [numR x]) ((dl s).drop (i + 1)) = thrE 3 [] (dl s))) ∧
    (i = s.size → (numR x < 0 → thrE 3 [] (dl s) = none) ∧ (¬ numR x < 0 → thrE 3 [] (dl s) = if n + 1 = 3 then some ([a, b, c].take n ++ [numR x]) else none)) := by
  obtain ⟨hji, hi, hno, hT⟩ := h
  have h3 : 3 - n = (2 - n) + 1 := by omega
  rw [h3] at hT
  constructor
  · intro hlt hb
    have hlt' : i < (dl s).length := by rw [← size_dl]; exact hlt
    have hb' : (dl s)[i] = 32 := by rw [List.getElem?_eq_getElem hlt'] at hb; exact Option.some.inj hb
    have hc := cut_mid hji hlt' hb' hno
    rw [← hT]
    rw [thrE_succ, hc, ← hx]
    constructor
    · intro hneg; rw [if_pos hneg]
    · intro hneg
      rw [if_neg hneg, show 3 - (n + 1) = 2 - n by omega]
  · intro he
    subst he
    have hc := cut_end (l := dl s) (j := j) (by rw [← size_dl]; exact hji) (by rw [← size_dl]; exact hno)
    rw [← size_dl] at hc
    rw [← hT]
    rw [thrE_succ, hc, ← hx]
    constructor
    · intro hneg; rw [if_pos hneg]
    · intro hneg
      rw [if_neg hneg]
      by_cases h2 : n + 1 = 3
      · simp only [if_pos (show 2 - n = 0 by omega), if_pos h2]
      · simp only [if_neg (show ¬ 2 - n = 0 by omega), if_neg h2]
def ThrPost (s : ByteArray) (w : World) (e : Ending) (w' : World) : Prop :=
  ∃ (a b c : Int) (is : Bool), e = .returned (.tuple #[.agg #[.int .i64 a, .int .i64 b, .int .i64 c], .bool is]) ∧ (-1 ≤ a ∧ a ≤ 65537) ∧ (-1 ≤ b ∧ b ≤ 65537) ∧ (-1 ≤ c ∧ c ≤ 65537) ∧ thrE 3 [] (dl s) = (if is = true then some [a, b, c] else none) ∧ Below w.heap.size w w'

theorem set3 {wr : World} {B t : Nat} {x y z a b c : Value} (h : wr.heap[B]? = some (.cells #[x, y, z] t (0, 0))) : (((wr.setCell ⟨B, 0, none⟩ a).setCell ⟨B, 1, none⟩ b).setCell ⟨B, 2, none⟩ c).heap[B]? = some (.cells #[a, b, c] t (0, 0)) := by
  have k1 := heap_setCell_same wr B 0 _ _ a h
  have k2 := heap_setCell_same _ B 1 _ _ b k1
  have k3 := heap_setCell_same _ B 2 _ _ c k2
  simpa using k3
set_option maxRecDepth 100000 in
set_option maxHeartbeats 8000000 in
theorem Rf.three (s : ByteArray) (w : World) (hs : s.size ≤ 1000000000) : Calls Tryd.prog 33 #[.string s] w (ThrPost s w) := by
  have h2 : ((w.alloc (.cells #[.int .i64 0, .int .i64 0, .int .i64 0] 82)).alloc (.cells #[.int .i64 0, .int .i64 0, .int .i64 0] 82)).heap[w.heap.size]? = some (.cells #[.int .i64 0, .int .i64 0, .int .i64 0] 82 (0, 0)) := by
    rw [Lib.alloc_old _ _ _ (by simp)]
    exact heap_alloc_new _ _
  have h4 : ((w.alloc (.cells #[.int .i64 0, .int .i64 0, .int .i64 0] 82)).alloc (.cells #[.int .i64 0, .int .i64 0, .int .i64 0] 82)).heap[w.heap.size + 1]? = some (.cells #[.int .i64 0, .int .i64 0, .int .i64 0] 82 (0, 0)) := by
    have := heap_alloc_new (w.alloc (.cells #[.int .i64 0, .int .i64 0, .int .i64 0] 82)) (.cells #[.int .i64 0, .int .i64 0, .int .i64 0] 82)
    simpa using this
  have hb0 : Below w.heap.size w ((w.alloc (.cells #[.int .i64 0, .int .i64 0, .int .i64 0] 82)).alloc (.cells #[.int .i64 0, .int .i64 0, .int .i64 0] 82)) := ((Below.refl _ _).alloc (Nat.le_refl _) _).alloc (by simp) _
  have H2 := Lib.hid h2
  have H4 := Lib.hid h4
  have HB0 := Lib.hid hb0
  clear h2 h4 hb0
  go_enter Tryd.func33, Tryd.ntmps33
  go_wp2_with fail
  go_loopw [5, 6, 7] (fun s5 s6 s7 wr => ∃ (n j i : Nat) (a b c : Int), n ≤ 3 ∧ s5 = .int .i64 n ∧ s6 = .int .i64 j ∧ s7 = .int .i64 i ∧ (-1 ≤ a ∧ a ≤ 65537) ∧ (-1 ≤ b ∧ b ≤ 65537) ∧ (-1 ≤ c ∧ c ≤ 65537) ∧
    wr.heap[w.heap.size]? = some (.cells #[.int .i64 0, .int .i64 0, .int .i64 0] 82 (0, 0)) ∧ wr.heap[w.heap.size + 1]? = some (.cells #[.int .i64 a, .int .i64 b, .int .i64 c] 82 (0, 0)) ∧ Below w.heap.size w wr ∧ (TrMid s n j i a b c ∨ TrEnd s n i a b c)) (fun _ _ s7 _ => s.size + 2 - (intOf s7).toNat)
  case atStart => exact ⟨0, 0, 0, 0, 0, 0, by omega, rfl, rfl, rfl, by omega, by omega, by omega, H2.out, H4.out, HB0.out, .inl ⟨by omega, by omega, by simp [betw], rfl⟩⟩
  case round =>
    clear H2 H4 HB0
    obtain ⟨n, j, i, a, b, c, hn, rfl, rfl, rfl, ha, hb, hc, hb2, hb4, hbel, hst⟩ := hrel
    have HA := Lib.hid ha
    have HB := Lib.hid hb
    have HC := Lib.hid hc
    have HB2 := Lib.hid hb2
    have HB4 := Lib.hid hb4
    have HBEL := Lib.hid hbel
    have hlt2 := (Array.getElem?_eq_some_iff.1 hb2).1
    have c0 : wr.cell? ⟨w.heap.size + 1, 0, none⟩ = some (.int .i64 a) := by simp [World.cell?, hb4]
    have c1 : wr.cell? ⟨w.heap.size + 1, 1, none⟩ = some (.int .i64 b) := by simp [World.cell?, hb4]
    have c2 : wr.cell? ⟨w.heap.size + 1, 2, none⟩ = some (.int .i64 c) := by simp [World.cell?, hb4]
    have z0 : wr.cell? ⟨w.heap.size, 0, none⟩ = some (.int .i64 0) := by simp [World.cell?, hb2]
    have z1 : wr.cell? ⟨w.heap.size, 1, none⟩ = some (.int .i64 0) := by simp [World.cell?, hb2]
    have z2 : wr.cell? ⟨w.heap.size, 2, none⟩ = some (.int .i64 0) := by simp [World.cell?, hb2]
    have f0 : wr.frozen? ⟨w.heap.size, 0, none⟩ = false := Lib.frozen_of_heap hb2 0
    have f1 : wr.frozen? ⟨w.heap.size, 1, none⟩ = false := Lib.frozen_of_heap hb2 1
    have f2 : wr.frozen? ⟨w.heap.size, 2, none⟩ = false := Lib.frozen_of_heap hb2 2
    have g0 : wr.frozen? ⟨w.heap.size + 1, 0, none⟩ = false := Lib.frozen_of_heap hb4 0
    have g1 : wr.frozen? ⟨w.heap.size + 1, 1, none⟩ = false := Lib.frozen_of_heap hb4 1
    have g2 : wr.frozen? ⟨w.heap.size + 1, 2, none⟩ = false := Lib.frozen_of_heap hb4 2
    clear ha hb hc hb2 hb4 hbel
    rcases hst with hmid | ⟨rfl, hT⟩
    · by_cases hlt : i < s.size
      · by_cases hsp : s[i].toNat = 32
        · have hsp' : ((s[i].toNat : Int) == 32) = true := by rw [beq_iff_eq]; omega
          obtain h3 | h3 | h3 | h3 : n = 3 ∨ n = 0 ∨ n = 1 ∨ n = 2 := by omega
          all_goals subst h3
          · have hT : thrE 3 [] (dl s) = none := hmid.2.2.2.symm
            have HT := Lib.hid hT
            clear hT hmid
            go_wp2_with fail
            have k3 := set3 (a := .int .i64 a) (b := .int .i64 b) (c := .int .i64 c) HB2.out
            have r0 : ∀ j v, (#[Value.int .i64 a, Value.int .i64 b, Value.int .i64 c] : Array Value)[j]? = some v → (((wr.setCell ⟨w.heap.size, 0, none⟩ (.int .i64 a)).setCell ⟨w.heap.size, 1, none⟩ (.int .i64 b)).setCell ⟨w.heap.size, 2, none⟩ (.int .i64 c)).cell? ⟨w.heap.size, j, none⟩ = some v := fun j v h => by simp only [World.cell?, k3]; simpa using h
            have q0 := r0 0 _ rfl
            have q1 := r0 1 _ rfl
            have q2 := r0 2 _ rfl
            refine bodyPost_ret (v := .tuple #[.agg #[.int .i64 a, .int .i64 b, .int .i64 c], .bool false]) (by simp [results, Tryd.results33, go_sem, q0, q1, q2]) rfl ⟨a, b, c, false, rfl, HA.out, HB.out, HC.out, (by rw [HT.out]; rfl), ?_⟩
            exact ((HBEL.out.setCell (p := ⟨w.heap.size, 0, none⟩) (by simp) _).setCell (p := ⟨w.heap.size, 1, none⟩) (by simp) _).setCell (p := ⟨w.heap.size, 2, none⟩) (by simp) _
          · obtain ⟨x, hx⟩ : ∃ x, x = s.extract j i := ⟨_, rfl⟩
            have hdx : dl x = betw (dl s) j i := by rw [hx, ext_betw, dl_str]
            obtain ⟨hp1, hp2⟩ := tr_part hmid (by decide) hdx
            replace hp1 := hp1 hlt (by rw [List.getElem?_eq_getElem (by rw [← size_dl]; exact hlt), dl_at hlt]; congr 1; exact UInt8.toNat_inj.1 hsp)
            obtain ⟨V, hV⟩ : ∃ V, V = numR (dl x) := ⟨_, rfl⟩
            have hVb := numR_bd (dl x)
            rw [← hV] at hp1 hp2 hVb
            have hV0 : -1 ≤ V := hVb.1
            have hV1 : V ≤ 65537 := hVb.2
            have hxs : x.size ≤ 140737488355328 := by
              have h1 : x.size = (betw (dl s) j i).length := by rw [size_dl x, hdx]
              have h2 : (betw (dl s) j i).length ≤ (dl s).length := by unfold betw; rw [List.length_take, List.length_drop]; omega
              rw [← size_dl] at h2
              omega
            have hcall := Rf.number x wr hxs
            rw [← hV] at hcall
            have hji' : (j : Int) ≤ (i : Int) := by have := hmid.1; omega
            have hset := heap_setCell_same wr (w.heap.size + 1) 0 _ _ (.int .i64 V) HB4.out
            have hset' : (wr.setCell ⟨w.heap.size + 1, 0, none⟩ (.int .i64 V)).heap[w.heap.size + 1]? = some (.cells #[.int .i64 V, .int .i64 b, .int .i64 c] 82 (0, 0)) := by simpa using hset
            have hset2 : (wr.setCell ⟨w.heap.size + 1, 0, none⟩ (.int .i64 V)).heap[w.heap.size]? = some (.cells #[.int .i64 0, .int .i64 0, .int .i64 0] 82 (0, 0)) := by
              rw [Below.heap_setCell _ _ _ _ (by simp)]; exact HB2.out
            obtain ⟨W, hW⟩ : ∃ W, W = wr.setCell ⟨w.heap.size + 1, 0, none⟩ (.int .i64 V) := ⟨_, rfl⟩
            rw [← hW] at hset' hset2
            have hbW : Below w.heap.size w W := by rw [hW]; exact HBEL.out.setCell (p := ⟨w.heap.size + 1, 0, none⟩) (by simp) _
            have d0 : W.cell? ⟨w.heap.size + 1, 0, none⟩ = some (.int .i64 V) := by simp [World.cell?, hset']
            have d1 : W.cell? ⟨w.heap.size + 1, 1, none⟩ = some (.int .i64 b) := by simp [World.cell?, hset']
            have d2 : W.cell? ⟨w.heap.size + 1, 2, none⟩ = some (.int .i64 c) := by simp [World.cell?, hset']
            have e0 : W.cell? ⟨w.heap.size, 0, none⟩ = some (.int .i64 0) := by simp [World.cell?, hset2]
            have e1 : W.cell? ⟨w.heap.size, 1, none⟩ = some (.int .i64 0) := by simp [World.cell?, hset2]
            have e2 : W.cell? ⟨w.heap.size, 2, none⟩ = some (.int .i64 0) := by simp [World.cell?, hset2]
            have q0 : W.frozen? ⟨w.heap.size, 0, none⟩ = false := Lib.frozen_of_heap hset2 0
            have q1 : W.frozen? ⟨w.heap.size, 1, none⟩ = false := Lib.frozen_of_heap hset2 1
            have q2 : W.frozen? ⟨w.heap.size, 2, none⟩ = false := Lib.frozen_of_heap hset2 2
            have HCALL := Lib.hid hcall
            have HX := Lib.hid hx
            have HW := Lib.hid hW
            have HBW := Lib.hid hbW
            have HS2 := Lib.hid hset2
            have HS4 := Lib.hid hset'
            have HP1 := Lib.hid hp1
            have HP2 := Lib.hid hp2
            clear hcall hx hW hbW hset hset' hset2 hp1 hp2 hdx hV hVb hxs hmid
            go_wp2_with fail
            rw [← HX.out]
            refine HCALL.out.mono ?_
            rintro e w2 ⟨rfl, rfl⟩
            by_cases hneg : V < 0
            · have hT : thrE 3 [] (dl s) = none := HP1.out.1 hneg
              have HT := Lib.hid hT
              clear hT
              go_wp2_with fail
              rw [← HW.out]
              go_wp2_with fail
              have k3 := set3 (a := .int .i64 V) (b := .int .i64 b) (c := .int .i64 c) HS2.out
              have r0 : ∀ j v, (#[Value.int .i64 V, Value.int .i64 b, Value.int .i64 c] : Array Value)[j]? = some v → (((W.setCell ⟨w.heap.size, 0, none⟩ (.int .i64 V)).setCell ⟨w.heap.size, 1, none⟩ (.int .i64 b)).setCell ⟨w.heap.size, 2, none⟩ (.int .i64 c)).cell? ⟨w.heap.size, j, none⟩ = some v := fun j v h => by simp only [World.cell?, k3]; simpa using h
              have q0 := r0 0 _ rfl
              have q1 := r0 1 _ rfl
              have q2 := r0 2 _ rfl
              refine bodyPost_ret (v := .tuple #[.agg #[.int .i64 V, .int .i64 b, .int .i64 c], .bool false]) (by simp [results, Tryd.results33, go_sem, q0, q1, q2]) rfl ⟨V, b, c, false, rfl, ⟨hV0, hV1⟩, HB.out, HC.out, (by rw [HT.out]; rfl), ?_⟩
              exact ((HBW.out.setCell (p := ⟨w.heap.size, 0, none⟩) (by simp) _).setCell (p := ⟨w.heap.size, 1, none⟩) (by simp) _).setCell (p := ⟨w.heap.size, 2, none⟩) (by simp) _
            · have HNEG := Lib.hid hneg
              go_wp2_with fail
              rw [← HW.out]
              go_wp2_with fail
              go_roundw
              case rel => exact ⟨1, i + 1, i + 1, V, b, c, by omega, by go_num, by go_num, by go_num, ⟨hV0, hV1⟩, HB.out, HC.out, HS2.out, HS4.out, HBW.out, .inl ⟨by omega, by omega, by rw [betw_self]; simp, HP1.out.2 HNEG.out⟩⟩
              case measure => first | (simp [intOf]; done) | (simp [intOf]; omega)
          · obtain ⟨x, hx⟩ : ∃ x, x = s.extract j i := ⟨_, rfl⟩
            have hdx : dl x = betw (dl s) j i := by rw [hx, ext_betw, dl_str]
            obtain ⟨hp1, hp2⟩ := tr_part hmid (by decide) hdx
            replace hp1 := hp1 hlt (by rw [List.getElem?_eq_getElem (by rw [← size_dl]; exact hlt), dl_at hlt]; congr 1; exact UInt8.toNat_inj.1 hsp)
            obtain ⟨V, hV⟩ : ∃ V, V = numR (dl x) := ⟨_, rfl⟩
            have hVb := numR_bd (dl x)
            rw [← hV] at hp1 hp2 hVb
            have hV0 : -1 ≤ V := hVb.1
            have hV1 : V ≤ 65537 := hVb.2
            have hxs : x.size ≤ 140737488355328 := by
              have h1 : x.size = (betw (dl s) j i).length := by rw [size_dl x, hdx]
              have h2 : (betw (dl s) j i).length ≤ (dl s).length := by unfold betw; rw [List.length_take, List.length_drop]; omega
              rw [← size_dl] at h2
              omega
            have hcall := Rf.number x wr hxs
            rw [← hV] at hcall
            have hji' : (j : Int) ≤ (i : Int) := by have := hmid.1; omega
            have hset := heap_setCell_same wr (w.heap.size + 1) 1 _ _ (.int .i64 V) HB4.out
            have hset' : (wr.setCell ⟨w.heap.size + 1, 1, none⟩ (.int .i64 V)).heap[w.heap.size + 1]? = some (.cells #[.int .i64 a, .int .i64 V, .int .i64 c] 82 (0, 0)) := by simpa using hset
            have hset2 : (wr.setCell ⟨w.heap.size + 1, 1, none⟩ (.int .i64 V)).heap[w.heap.size]? = some (.cells #[.int .i64 0, .int .i64 0, .int .i64 0] 82 (0, 0)) := by
              rw [Below.heap_setCell _ _ _ _ (by simp)]; exact HB2.out
            obtain ⟨W, hW⟩ : ∃ W, W = wr.setCell ⟨w.heap.size + 1, 1, none⟩ (.int .i64 V) := ⟨_, rfl⟩
            rw [← hW] at hset' hset2
            have hbW : Below w.heap.size w W := by rw [hW]; exact HBEL.out.setCell (p := ⟨w.heap.size + 1, 1, none⟩) (by simp) _
            have d0 : W.cell? ⟨w.heap.size + 1, 0, none⟩ = some (.int .i64 a) := by simp [World.cell?, hset']
            have d1 : W.cell? ⟨w.heap.size + 1, 1, none⟩ = some (.int .i64 V) := by simp [World.cell?, hset']
            have d2 : W.cell? ⟨w.heap.size + 1, 2, none⟩ = some (.int .i64 c) := by simp [World.cell?, hset']
            have e0 : W.cell? ⟨w.heap.size, 0, none⟩ = some (.int .i64 0) := by simp [World.cell?, hset2]
            have e1 : W.cell? ⟨w.heap.size, 1, none⟩ = some (.int .i64 0) := by simp [World.cell?, hset2]
            have e2 : W.cell? ⟨w.heap.size, 2, none⟩ = some (.int .i64 0) := by simp [World.cell?, hset2]
            have q0 : W.frozen? ⟨w.heap.size, 0, none⟩ = false := Lib.frozen_of_heap hset2 0
            have q1 : W.frozen? ⟨w.heap.size, 1, none⟩ = false := Lib.frozen_of_heap hset2 1
            have q2 : W.frozen? ⟨w.heap.size, 2, none⟩ = false := Lib.frozen_of_heap hset2 2
            have HCALL := Lib.hid hcall
            have HX := Lib.hid hx
            have HW := Lib.hid hW
            have HBW := Lib.hid hbW
            have HS2 := Lib.hid hset2
            have HS4 := Lib.hid hset'
            have HP1 := Lib.hid hp1
            have HP2 := Lib.hid hp2
            clear hcall hx hW hbW hset hset' hset2 hp1 hp2 hdx hV hVb hxs hmid
            go_wp2_with fail
            rw [← HX.out]
            refine HCALL.out.mono ?_
            rintro e w2 ⟨rfl, rfl⟩
            by_cases hneg : V < 0
            · have hT : thrE 3 [] (dl s) = none := HP1.out.1 hneg
              have HT := Lib.hid hT
              clear hT
              go_wp2_with fail
              rw [← HW.out]
              go_wp2_with fail
              have k3 := set3 (a := .int .i64 a) (b := .int .i64 V) (c := .int .i64 c) HS2.out
              have r0 : ∀ j v, (#[Value.int .i64 a, Value.int .i64 V, Value.int .i64 c] : Array Value)[j]? = some v → (((W.setCell ⟨w.heap.size, 0, none⟩ (.int .i64 a)).setCell ⟨w.heap.size, 1, none⟩ (.int .i64 V)).setCell ⟨w.heap.size, 2, none⟩ (.int .i64 c)).cell? ⟨w.heap.size, j, none⟩ = some v := fun j v h => by simp only [World.cell?, k3]; simpa using h
              have q0 := r0 0 _ rfl
              have q1 := r0 1 _ rfl
              have q2 := r0 2 _ rfl
              refine bodyPost_ret (v := .tuple #[.agg #[.int .i64 a, .int .i64 V, .int .i64 c], .bool false]) (by simp [results, Tryd.results33, go_sem, q0, q1, q2]) rfl ⟨a, V, c, false, rfl, HA.out, ⟨hV0, hV1⟩, HC.out, (by rw [HT.out]; rfl), ?_⟩
              exact ((HBW.out.setCell (p := ⟨w.heap.size, 0, none⟩) (by simp) _).setCell (p := ⟨w.heap.size, 1, none⟩) (by simp) _).setCell (p := ⟨w.heap.size, 2, none⟩) (by simp) _
            · have HNEG := Lib.hid hneg
              go_wp2_with fail
              rw [← HW.out]
              go_wp2_with fail
              go_roundw
              case rel => exact ⟨2, i + 1, i + 1, a, V, c, by omega, by go_num, by go_num, by go_num, HA.out, ⟨hV0, hV1⟩, HC.out, HS2.out, HS4.out, HBW.out, .inl ⟨by omega, by omega, by rw [betw_self]; simp, HP1.out.2 HNEG.out⟩⟩
              case measure => first | (simp [intOf]; done) | (simp [intOf]; omega)
          · obtain ⟨x, hx⟩ : ∃ x, x = s.extract j i := ⟨_, rfl⟩
            have hdx : dl x = betw (dl s) j i := by rw [hx, ext_betw, dl_str]
            obtain ⟨hp1, hp2⟩ := tr_part hmid (by decide) hdx
            replace hp1 := hp1 hlt (by rw [List.getElem?_eq_getElem (by rw [← size_dl]; exact hlt), dl_at hlt]; congr 1; exact UInt8.toNat_inj.1 hsp)
            obtain ⟨V, hV⟩ : ∃ V, V = numR (dl x) := ⟨_, rfl⟩
            have hVb := numR_bd (dl x)
            rw [← hV] at hp1 hp2 hVb
            have hV0 : -1 ≤ V := hVb.1
            have hV1 : V ≤ 65537 := hVb.2
            have hxs : x.size ≤ 140737488355328 := by
              have h1 : x.size = (betw (dl s) j i).length := by rw [size_dl x, hdx]
              have h2 : (betw (dl s) j i).length ≤ (dl s).length := by unfold betw; rw [List.length_take, List.length_drop]; omega
              rw [← size_dl] at h2
              omega
            have hcall := Rf.number x wr hxs
            rw [← hV] at hcall
            have hji' : (j : Int) ≤ (i : Int) := by have := hmid.1; omega
            have hset := heap_setCell_same wr (w.heap.size + 1) 2 _ _ (.int .i64 V) HB4.out
            have hset' : (wr.setCell ⟨w.heap.size + 1, 2, none⟩ (.int .i64 V)).heap[w.heap.size + 1]? = some (.cells #[.int .i64 a, .int .i64 b, .int .i64 V] 82 (0, 0)) := by simpa using hset
            have hset2 : (wr.setCell ⟨w.heap.size + 1, 2, none⟩ (.int .i64 V)).heap[w.heap.size]? = some (.cells #[.int .i64 0, .int .i64 0, .int .i64 0] 82 (0, 0)) := by
              rw [Below.heap_setCell _ _ _ _ (by simp)]; exact HB2.out
            obtain ⟨W, hW⟩ : ∃ W, W = wr.setCell ⟨w.heap.size + 1, 2, none⟩ (.int .i64 V) := ⟨_, rfl⟩
            rw [← hW] at hset' hset2
            have hbW : Below w.heap.size w W := by rw [hW]; exact HBEL.out.setCell (p := ⟨w.heap.size + 1, 2, none⟩) (by simp) _
            have d0 : W.cell? ⟨w.heap.size + 1, 0, none⟩ = some (.int .i64 a) := by simp [World.cell?, hset']
            have d1 : W.cell? ⟨w.heap.size + 1, 1, none⟩ = some (.int .i64 b) := by simp [World.cell?, hset']
            have d2 : W.cell? ⟨w.heap.size + 1, 2, none⟩ = some (.int .i64 V) := by simp [World.cell?, hset']
            have e0 : W.cell? ⟨w.heap.size, 0, none⟩ = some (.int .i64 0) := by simp [World.cell?, hset2]
            have e1 : W.cell? ⟨w.heap.size, 1, none⟩ = some (.int .i64 0) := by simp [World.cell?, hset2]
            have e2 : W.cell? ⟨w.heap.size, 2, none⟩ = some (.int .i64 0) := by simp [World.cell?, hset2]
            have q0 : W.frozen? ⟨w.heap.size, 0, none⟩ = false := Lib.frozen_of_heap hset2 0
            have q1 : W.frozen? ⟨w.heap.size, 1, none⟩ = false := Lib.frozen_of_heap hset2 1
            have q2 : W.frozen? ⟨w.heap.size, 2, none⟩ = false := Lib.frozen_of_heap hset2 2
            have HCALL := Lib.hid hcall
            have HX := Lib.hid hx
            have HW := Lib.hid hW
            have HBW := Lib.hid hbW
            have HS2 := Lib.hid hset2
            have HS4 := Lib.hid hset'
            have HP1 := Lib.hid hp1
            have HP2 := Lib.hid hp2
            clear hcall hx hW hbW hset hset' hset2 hp1 hp2 hdx hV hVb hxs hmid
            go_wp2_with fail
            rw [← HX.out]
            refine HCALL.out.mono ?_
            rintro e w2 ⟨rfl, rfl⟩
            by_cases hneg : V < 0
            · have hT : thrE 3 [] (dl s) = none := HP1.out.1 hneg
              have HT := Lib.hid hT
              clear hT
              go_wp2_with fail
              rw [← HW.out]
              go_wp2_with fail
              have k3 := set3 (a := .int .i64 a) (b := .int .i64 b) (c := .int .i64 V) HS2.out
              have r0 : ∀ j v, (#[Value.int .i64 a, Value.int .i64 b, Value.int .i64 V] : Array Value)[j]? = some v → (((W.setCell ⟨w.heap.size, 0, none⟩ (.int .i64 a)).setCell ⟨w.heap.size, 1, none⟩ (.int .i64 b)).setCell ⟨w.heap.size, 2, none⟩ (.int .i64 V)).cell? ⟨w.heap.size, j, none⟩ = some v := fun j v h => by simp only [World.cell?, k3]; simpa using h
              have q0 := r0 0 _ rfl
              have q1 := r0 1 _ rfl
              have q2 := r0 2 _ rfl
              refine bodyPost_ret (v := .tuple #[.agg #[.int .i64 a, .int .i64 b, .int .i64 V], .bool false]) (by simp [results, Tryd.results33, go_sem, q0, q1, q2]) rfl ⟨a, b, V, false, rfl, HA.out, HB.out, ⟨hV0, hV1⟩, (by rw [HT.out]; rfl), ?_⟩
              exact ((HBW.out.setCell (p := ⟨w.heap.size, 0, none⟩) (by simp) _).setCell (p := ⟨w.heap.size, 1, none⟩) (by simp) _).setCell (p := ⟨w.heap.size, 2, none⟩) (by simp) _
            · have HNEG := Lib.hid hneg
              go_wp2_with fail
              rw [← HW.out]
              go_wp2_with fail
              go_roundw
              case rel => exact ⟨3, i + 1, i + 1, a, b, V, by omega, by go_num, by go_num, by go_num, HA.out, HB.out, ⟨hV0, hV1⟩, HS2.out, HS4.out, HBW.out, .inl ⟨by omega, by omega, by rw [betw_self]; simp, HP1.out.2 HNEG.out⟩⟩
              case measure => first | (simp [intOf]; done) | (simp [intOf]; omega)
        · have hsp' : ((s[i].toNat : Int) == 32) = false := by rw [beq_eq_false_iff_ne]; omega
          have hmid2 : TrMid s n j (i + 1) a b c := by
            obtain ⟨k1, k2, k3, k4⟩ := hmid
            refine ⟨by omega, by omega, ?_, k4⟩
            rw [betw_succ k1 (by rw [← size_dl]; exact hlt), dl_at hlt]
            intro hm
            rcases List.mem_append.1 hm with hm | hm
            · exact k3 hm
            · rw [List.mem_singleton] at hm
              rw [← hm] at hsp
              exact hsp rfl
          have HM2 := Lib.hid hmid2
          clear hmid hmid2 hsp
          go_wp2_with fail
          go_roundw
          case rel => exact ⟨n, j, i + 1, a, b, c, hn, rfl, rfl, by go_num, HA.out, HB.out, HC.out, HB2.out, HB4.out, HBEL.out, .inl HM2.out⟩
          case measure => simp [intOf]; omega
      · obtain rfl : i = s.size := by have := hmid.2.1; omega
        obtain h3 | h3 | h3 | h3 : n = 3 ∨ n = 0 ∨ n = 1 ∨ n = 2 := by omega
        all_goals subst h3
        · have hT : thrE 3 [] (dl s) = none := hmid.2.2.2.symm
          have HT := Lib.hid hT
          clear hT hmid
          go_wp2_with fail
          have k3 := set3 (a := .int .i64 a) (b := .int .i64 b) (c := .int .i64 c) HB2.out
          have r0 : ∀ j v, (#[Value.int .i64 a, Value.int .i64 b, Value.int .i64 c] : Array Value)[j]? = some v → (((wr.setCell ⟨w.heap.size, 0, none⟩ (.int .i64 a)).setCell ⟨w.heap.size, 1, none⟩ (.int .i64 b)).setCell ⟨w.heap.size, 2, none⟩ (.int .i64 c)).cell? ⟨w.heap.size, j, none⟩ = some v := fun j v h => by simp only [World.cell?, k3]; simpa using h
          have q0 := r0 0 _ rfl
          have q1 := r0 1 _ rfl
          have q2 := r0 2 _ rfl
          refine bodyPost_ret (v := .tuple #[.agg #[.int .i64 a, .int .i64 b, .int .i64 c], .bool false]) (by simp [results, Tryd.results33, go_sem, q0, q1, q2]) rfl ⟨a, b, c, false, rfl, HA.out, HB.out, HC.out, (by rw [HT.out]; rfl), ?_⟩
          exact ((HBEL.out.setCell (p := ⟨w.heap.size, 0, none⟩) (by simp) _).setCell (p := ⟨w.heap.size, 1, none⟩) (by simp) _).setCell (p := ⟨w.heap.size, 2, none⟩) (by simp) _
        · obtain ⟨x, hx⟩ : ∃ x, x = s.extract j s.size := ⟨_, rfl⟩
          have hdx : dl x = betw (dl s) j s.size := by rw [hx, ext_betw, dl_str]
          obtain ⟨hp1, hp2⟩ := tr_part hmid (by decide) hdx
          replace hp2 := hp2 rfl
          obtain ⟨V, hV⟩ : ∃ V, V = numR (dl x) := ⟨_, rfl⟩
          have hVb := numR_bd (dl x)
          rw [← hV] at hp1 hp2 hVb
          have hV0 : -1 ≤ V := hVb.1
          have hV1 : V ≤ 65537 := hVb.2
          have hxs : x.size ≤ 140737488355328 := by
            have h1 : x.size = (betw (dl s) j s.size).length := by rw [size_dl x, hdx]
            have h2 : (betw (dl s) j s.size).length ≤ (dl s).length := by unfold betw; rw [List.length_take, List.length_drop]; omega
            rw [← size_dl] at h2
            omega
          have hcall := Rf.number x wr hxs
          rw [← hV] at hcall
          have hji' : (j : Int) ≤ (s.size : Int) := by have := hmid.1; omega
          have hset := heap_setCell_same wr (w.heap.size + 1) 0 _ _ (.int .i64 V) HB4.out
          have hset' : (wr.setCell ⟨w.heap.size + 1, 0, none⟩ (.int .i64 V)).heap[w.heap.size + 1]? = some (.cells #[.int .i64 V, .int .i64 b, .int .i64 c] 82 (0, 0)) := by simpa using hset
          have hset2 : (wr.setCell ⟨w.heap.size + 1, 0, none⟩ (.int .i64 V)).heap[w.heap.size]? = some (.cells #[.int .i64 0, .int .i64 0, .int .i64 0] 82 (0, 0)) := by
            rw [Below.heap_setCell _ _ _ _ (by simp)]; exact HB2.out
          obtain ⟨W, hW⟩ : ∃ W, W = wr.setCell ⟨w.heap.size + 1, 0, none⟩ (.int .i64 V) := ⟨_, rfl⟩
          rw [← hW] at hset' hset2
          have hbW : Below w.heap.size w W := by rw [hW]; exact HBEL.out.setCell (p := ⟨w.heap.size + 1, 0, none⟩) (by simp) _
          have d0 : W.cell? ⟨w.heap.size + 1, 0, none⟩ = some (.int .i64 V) := by simp [World.cell?, hset']
          have d1 : W.cell? ⟨w.heap.size + 1, 1, none⟩ = some (.int .i64 b) := by simp [World.cell?, hset']
          have d2 : W.cell? ⟨w.heap.size + 1, 2, none⟩ = some (.int .i64 c) := by simp [World.cell?, hset']
          have e0 : W.cell? ⟨w.heap.size, 0, none⟩ = some (.int .i64 0) := by simp [World.cell?, hset2]
          have e1 : W.cell? ⟨w.heap.size, 1, none⟩ = some (.int .i64 0) := by simp [World.cell?, hset2]
          have e2 : W.cell? ⟨w.heap.size, 2, none⟩ = some (.int .i64 0) := by simp [World.cell?, hset2]
          have q0 : W.frozen? ⟨w.heap.size, 0, none⟩ = false := Lib.frozen_of_heap hset2 0
          have q1 : W.frozen? ⟨w.heap.size, 1, none⟩ = false := Lib.frozen_of_heap hset2 1
          have q2 : W.frozen? ⟨w.heap.size, 2, none⟩ = false := Lib.frozen_of_heap hset2 2
          have HCALL := Lib.hid hcall
          have HX := Lib.hid hx
          have HW := Lib.hid hW
          have HBW := Lib.hid hbW
          have HS2 := Lib.hid hset2
          have HS4 := Lib.hid hset'
          have HP1 := Lib.hid hp1
          have HP2 := Lib.hid hp2
          clear hcall hx hW hbW hset hset' hset2 hp1 hp2 hdx hV hVb hxs hmid
          go_wp2_with fail
          rw [← HX.out]
          refine HCALL.out.mono ?_
          rintro e w2 ⟨rfl, rfl⟩
          by_cases hneg : V < 0
          · have hT : thrE 3 [] (dl s) = none := HP2.out.1 hneg
            have HT := Lib.hid hT
            clear hT
            go_wp2_with fail
            rw [← HW.out]
            go_wp2_with fail
            have k3 := set3 (a := .int .i64 V) (b := .int .i64 b) (c := .int .i64 c) HS2.out
            have r0 : ∀ j v, (#[Value.int .i64 V, Value.int .i64 b, Value.int .i64 c] : Array Value)[j]? = some v → (((W.setCell ⟨w.heap.size, 0, none⟩ (.int .i64 V)).setCell ⟨w.heap.size, 1, none⟩ (.int .i64 b)).setCell ⟨w.heap.size, 2, none⟩ (.int .i64 c)).cell? ⟨w.heap.size, j, none⟩ = some v := fun j v h => by simp only [World.cell?, k3]; simpa using h
            have q0 := r0 0 _ rfl
            have q1 := r0 1 _ rfl
            have q2 := r0 2 _ rfl
            refine bodyPost_ret (v := .tuple #[.agg #[.int .i64 V, .int .i64 b, .int .i64 c], .bool false]) (by simp [results, Tryd.results33, go_sem, q0, q1, q2]) rfl ⟨V, b, c, false, rfl, ⟨hV0, hV1⟩, HB.out, HC.out, (by rw [HT.out]; rfl), ?_⟩
            exact ((HBW.out.setCell (p := ⟨w.heap.size, 0, none⟩) (by simp) _).setCell (p := ⟨w.heap.size, 1, none⟩) (by simp) _).setCell (p := ⟨w.heap.size, 2, none⟩) (by simp) _
          · have HNEG := Lib.hid hneg
            go_wp2_with fail
            rw [← HW.out]
            go_wp2_with fail
            go_roundw
            case rel => exact ⟨1, s.size + 1, s.size + 1, V, b, c, by omega, by go_num, by go_num, by go_num, ⟨hV0, hV1⟩, HB.out, HC.out, HS2.out, HS4.out, HBW.out, .inr ⟨rfl, by rw [HP2.out.2 HNEG.out]; rfl⟩⟩
            case measure => first | (simp [intOf]; done) | (simp [intOf]; omega)
        · obtain ⟨x, hx⟩ : ∃ x, x = s.extract j s.size := ⟨_, rfl⟩
          have hdx : dl x = betw (dl s) j s.size := by rw [hx, ext_betw, dl_str]
          obtain ⟨hp1, hp2⟩ := tr_part hmid (by decide) hdx
          replace hp2 := hp2 rfl
          obtain ⟨V, hV⟩ : ∃ V, V = numR (dl x) := ⟨_, rfl⟩
          have hVb := numR_bd (dl x)
          rw [← hV] at hp1 hp2 hVb
          have hV0 : -1 ≤ V := hVb.1
          have hV1 : V ≤ 65537 := hVb.2
          have hxs : x.size ≤ 140737488355328 := by
            have h1 : x.size = (betw (dl s) j s.size).length := by rw [size_dl x, hdx]
            have h2 : (betw (dl s) j s.size).length ≤ (dl s).length := by unfold betw; rw [List.length_take, List.length_drop]; omega
            rw [← size_dl] at h2
            omega
          have hcall := Rf.number x wr hxs
          rw [← hV] at hcall
          have hji' : (j : Int) ≤ (s.size : Int) := by have := hmid.1; omega
          have hset := heap_setCell_same wr (w.heap.size + 1) 1 _ _ (.int .i64 V) HB4.out
          have hset' : (wr.setCell ⟨w.heap.size + 1, 1, none⟩ (.int .i64 V)).heap[w.heap.size + 1]? = some (.cells #[.int .i64 a, .int .i64 V, .int .i64 c] 82 (0, 0)) := by simpa using hset
          have hset2 : (wr.setCell ⟨w.heap.size + 1, 1, none⟩ (.int .i64 V)).heap[w.heap.size]? = some (.cells #[.int .i64 0, .int .i64 0, .int .i64 0] 82 (0, 0)) := by
            rw [Below.heap_setCell _ _ _ _ (by simp)]; exact HB2.out
          obtain ⟨W, hW⟩ : ∃ W, W = wr.setCell ⟨w.heap.size + 1, 1, none⟩ (.int .i64 V) := ⟨_, rfl⟩
          rw [← hW] at hset' hset2
          have hbW : Below w.heap.size w W := by rw [hW]; exact HBEL.out.setCell (p := ⟨w.heap.size + 1, 1, none⟩) (by simp) _
          have d0 : W.cell? ⟨w.heap.size + 1, 0, none⟩ = some (.int .i64 a) := by simp [World.cell?, hset']
          have d1 : W.cell? ⟨w.heap.size + 1, 1, none⟩ = some (.int .i64 V) := by simp [World.cell?, hset']
          have d2 : W.cell? ⟨w.heap.size + 1, 2, none⟩ = some (.int .i64 c) := by simp [World.cell?, hset']
          have e0 : W.cell? ⟨w.heap.size, 0, none⟩ = some (.int .i64 0) := by simp [World.cell?, hset2]
          have e1 : W.cell? ⟨w.heap.size, 1, none⟩ = some (.int .i64 0) := by simp [World.cell?, hset2]
          have e2 : W.cell? ⟨w.heap.size, 2, none⟩ = some (.int .i64 0) := by simp [World.cell?, hset2]
          have q0 : W.frozen? ⟨w.heap.size, 0, none⟩ = false := Lib.frozen_of_heap hset2 0
          have q1 : W.frozen? ⟨w.heap.size, 1, none⟩ = false := Lib.frozen_of_heap hset2 1
          have q2 : W.frozen? ⟨w.heap.size, 2, none⟩ = false := Lib.frozen_of_heap hset2 2
          have HCALL := Lib.hid hcall
          have HX := Lib.hid hx
          have HW := Lib.hid hW
          have HBW := Lib.hid hbW
          have HS2 := Lib.hid hset2
          have HS4 := Lib.hid hset'
          have HP1 := Lib.hid hp1
          have HP2 := Lib.hid hp2
          clear hcall hx hW hbW hset hset' hset2 hp1 hp2 hdx hV hVb hxs hmid
          go_wp2_with fail
          rw [← HX.out]
          refine HCALL.out.mono ?_
          rintro e w2 ⟨rfl, rfl⟩
          by_cases hneg : V < 0
          · have hT : thrE 3 [] (dl s) = none := HP2.out.1 hneg
            have HT := Lib.hid hT
            clear hT
            go_wp2_with fail
            rw [← HW.out]
            go_wp2_with fail
            have k3 := set3 (a := .int .i64 a) (b := .int .i64 V) (c := .int .i64 c) HS2.out
            have r0 : ∀ j v, (#[Value.int .i64 a, Value.int .i64 V, Value.int .i64 c] : Array Value)[j]? = some v → (((W.setCell ⟨w.heap.size, 0, none⟩ (.int .i64 a)).setCell ⟨w.heap.size, 1, none⟩ (.int .i64 V)).setCell ⟨w.heap.size, 2, none⟩ (.int .i64 c)).cell? ⟨w.heap.size, j, none⟩ = some v := fun j v h => by simp only [World.cell?, k3]; simpa using h
            have q0 := r0 0 _ rfl
            have q1 := r0 1 _ rfl
            have q2 := r0 2 _ rfl
            refine bodyPost_ret (v := .tuple #[.agg #[.int .i64 a, .int .i64 V, .int .i64 c], .bool false]) (by simp [results, Tryd.results33, go_sem, q0, q1, q2]) rfl ⟨a, V, c, false, rfl, HA.out, ⟨hV0, hV1⟩, HC.out, (by rw [HT.out]; rfl), ?_⟩
            exact ((HBW.out.setCell (p := ⟨w.heap.size, 0, none⟩) (by simp) _).setCell (p := ⟨w.heap.size, 1, none⟩) (by simp) _).setCell (p := ⟨w.heap.size, 2, none⟩) (by simp) _
          · have HNEG := Lib.hid hneg
            go_wp2_with fail
            rw [← HW.out]
            go_wp2_with fail
            go_roundw
            case rel => exact ⟨2, s.size + 1, s.size + 1, a, V, c, by omega, by go_num, by go_num, by go_num, HA.out, ⟨hV0, hV1⟩, HC.out, HS2.out, HS4.out, HBW.out, .inr ⟨rfl, by rw [HP2.out.2 HNEG.out]; rfl⟩⟩
            case measure => first | (simp [intOf]; done) | (simp [intOf]; omega)
        · obtain ⟨x, hx⟩ : ∃ x, x = s.extract j s.size := ⟨_, rfl⟩
          have hdx : dl x = betw (dl s) j s.size := by rw [hx, ext_betw, dl_str]
          obtain ⟨hp1, hp2⟩ := tr_part hmid (by decide) hdx
          replace hp2 := hp2 rfl
          obtain ⟨V, hV⟩ : ∃ V, V = numR (dl x) := ⟨_, rfl⟩
          have hVb := numR_bd (dl x)
          rw [← hV] at hp1 hp2 hVb
          have hV0 : -1 ≤ V := hVb.1
          have hV1 : V ≤ 65537 := hVb.2
          have hxs : x.size ≤ 140737488355328 := by
            have h1 : x.size = (betw (dl s) j s.size).length := by rw [size_dl x, hdx]
            have h2 : (betw (dl s) j s.size).length ≤ (dl s).length := by unfold betw; rw [List.length_take, List.length_drop]; omega
            rw [← size_dl] at h2
            omega
          have hcall := Rf.number x wr hxs
          rw [← hV] at hcall
          have hji' : (j : Int) ≤ (s.size : Int) := by have := hmid.1; omega
          have hset := heap_setCell_same wr (w.heap.size + 1) 2 _ _ (.int .i64 V) HB4.out
          have hset' : (wr.setCell ⟨w.heap.size + 1, 2, none⟩ (.int .i64 V)).heap[w.heap.size + 1]? = some (.cells #[.int .i64 a, .int .i64 b, .int .i64 V] 82 (0, 0)) := by simpa using hset
          have hset2 : (wr.setCell ⟨w.heap.size + 1, 2, none⟩ (.int .i64 V)).heap[w.heap.size]? = some (.cells #[.int .i64 0, .int .i64 0, .int .i64 0] 82 (0, 0)) := by
            rw [Below.heap_setCell _ _ _ _ (by simp)]; exact HB2.out
          obtain ⟨W, hW⟩ : ∃ W, W = wr.setCell ⟨w.heap.size + 1, 2, none⟩ (.int .i64 V) := ⟨_, rfl⟩
          rw [← hW] at hset' hset2
          have hbW : Below w.heap.size w W := by rw [hW]; exact HBEL.out.setCell (p := ⟨w.heap.size + 1, 2, none⟩) (by simp) _
          have d0 : W.cell? ⟨w.heap.size + 1, 0, none⟩ = some (.int .i64 a) := by simp [World.cell?, hset']
          have d1 : W.cell? ⟨w.heap.size + 1, 1, none⟩ = some (.int .i64 b) := by simp [World.cell?, hset']
          have d2 : W.cell? ⟨w.heap.size + 1, 2, none⟩ = some (.int .i64 V) := by simp [World.cell?, hset']
          have e0 : W.cell? ⟨w.heap.size, 0, none⟩ = some (.int .i64 0) := by simp [World.cell?, hset2]
          have e1 : W.cell? ⟨w.heap.size, 1, none⟩ = some (.int .i64 0) := by simp [World.cell?, hset2]
          have e2 : W.cell? ⟨w.heap.size, 2, none⟩ = some (.int .i64 0) := by simp [World.cell?, hset2]
          have q0 : W.frozen? ⟨w.heap.size, 0, none⟩ = false := Lib.frozen_of_heap hset2 0
          have q1 : W.frozen? ⟨w.heap.size, 1, none⟩ = false := Lib.frozen_of_heap hset2 1
          have q2 : W.frozen? ⟨w.heap.size, 2, none⟩ = false := Lib.frozen_of_heap hset2 2
          have HCALL := Lib.hid hcall
          have HX := Lib.hid hx
          have HW := Lib.hid hW
          have HBW := Lib.hid hbW
          have HS2 := Lib.hid hset2
          have HS4 := Lib.hid hset'
          have HP1 := Lib.hid hp1
          have HP2 := Lib.hid hp2
          clear hcall hx hW hbW hset hset' hset2 hp1 hp2 hdx hV hVb hxs hmid
          go_wp2_with fail
          rw [← HX.out]
          refine HCALL.out.mono ?_
          rintro e w2 ⟨rfl, rfl⟩
          by_cases hneg : V < 0
          · have hT : thrE 3 [] (dl s) = none := HP2.out.1 hneg
            have HT := Lib.hid hT
            clear hT
            go_wp2_with fail
            rw [← HW.out]
            go_wp2_with fail
            have k3 := set3 (a := .int .i64 a) (b := .int .i64 b) (c := .int .i64 V) HS2.out
            have r0 : ∀ j v, (#[Value.int .i64 a, Value.int .i64 b, Value.int .i64 V] : Array Value)[j]? = some v → (((W.setCell ⟨w.heap.size, 0, none⟩ (.int .i64 a)).setCell ⟨w.heap.size, 1, none⟩ (.int .i64 b)).setCell ⟨w.heap.size, 2, none⟩ (.int .i64 V)).cell? ⟨w.heap.size, j, none⟩ = some v := fun j v h => by simp only [World.cell?, k3]; simpa using h
            have q0 := r0 0 _ rfl
            have q1 := r0 1 _ rfl
            have q2 := r0 2 _ rfl
            refine bodyPost_ret (v := .tuple #[.agg #[.int .i64 a, .int .i64 b, .int .i64 V], .bool false]) (by simp [results, Tryd.results33, go_sem, q0, q1, q2]) rfl ⟨a, b, V, false, rfl, HA.out, HB.out, ⟨hV0, hV1⟩, (by rw [HT.out]; rfl), ?_⟩
            exact ((HBW.out.setCell (p := ⟨w.heap.size, 0, none⟩) (by simp) _).setCell (p := ⟨w.heap.size, 1, none⟩) (by simp) _).setCell (p := ⟨w.heap.size, 2, none⟩) (by simp) _
          · have HNEG := Lib.hid hneg
            go_wp2_with fail
            rw [← HW.out]
            go_wp2_with fail
            go_roundw
            case rel => exact ⟨3, s.size + 1, s.size + 1, a, b, V, by omega, by go_num, by go_num, by go_num, HA.out, HB.out, ⟨hV0, hV1⟩, HS2.out, HS4.out, HBW.out, .inr ⟨rfl, by rw [HP2.out.2 HNEG.out]; rfl⟩⟩
            case measure => first | (simp [intOf]; done) | (simp [intOf]; omega)
    · have HT := Lib.hid hT
      clear hT
      by_cases h3 : n = 3
      · subst h3
        go_wp2_with fail
        have k3 := set3 (a := .int .i64 a) (b := .int .i64 b) (c := .int .i64 c) HB2.out
        have r0 : ∀ j v, (#[Value.int .i64 a, Value.int .i64 b, Value.int .i64 c] : Array Value)[j]? = some v → (((wr.setCell ⟨w.heap.size, 0, none⟩ (.int .i64 a)).setCell ⟨w.heap.size, 1, none⟩ (.int .i64 b)).setCell ⟨w.heap.size, 2, none⟩ (.int .i64 c)).cell? ⟨w.heap.size, j, none⟩ = some v := fun j v h => by simp only [World.cell?, k3]; simpa using h
        have q0 := r0 0 _ rfl
        have q1 := r0 1 _ rfl
        have q2 := r0 2 _ rfl
        refine bodyPost_ret (v := .tuple #[.agg #[.int .i64 a, .int .i64 b, .int .i64 c], .bool true]) (by simp [results, Tryd.results33, go_sem, q0, q1, q2]) rfl ⟨a, b, c, true, rfl, HA.out, HB.out, HC.out, (by rw [HT.out]; rfl), ?_⟩
        exact ((HBEL.out.setCell (p := ⟨w.heap.size, 0, none⟩) (by simp) _).setCell (p := ⟨w.heap.size, 1, none⟩) (by simp) _).setCell (p := ⟨w.heap.size, 2, none⟩) (by simp) _
      · have h3' : ((n : Int) == 3) = false := by rw [beq_eq_false_iff_ne]; omega
        have H3 := Lib.hid h3
        clear h3
        go_wp2_with fail
        have k3 := set3 (a := .int .i64 a) (b := .int .i64 b) (c := .int .i64 c) HB2.out
        have r0 : ∀ j v, (#[Value.int .i64 a, Value.int .i64 b, Value.int .i64 c] : Array Value)[j]? = some v → (((wr.setCell ⟨w.heap.size, 0, none⟩ (.int .i64 a)).setCell ⟨w.heap.size, 1, none⟩ (.int .i64 b)).setCell ⟨w.heap.size, 2, none⟩ (.int .i64 c)).cell? ⟨w.heap.size, j, none⟩ = some v := fun j v h => by simp only [World.cell?, k3]; simpa using h
        have q0 := r0 0 _ rfl
        have q1 := r0 1 _ rfl
        have q2 := r0 2 _ rfl
        refine bodyPost_ret (v := .tuple #[.agg #[.int .i64 a, .int .i64 b, .int .i64 c], .bool false]) (by simp [results, Tryd.results33, go_sem, q0, q1, q2]) rfl ⟨a, b, c, false, rfl, HA.out, HB.out, HC.out, (by rw [HT.out, if_neg H3.out]; rfl), ?_⟩
        exact ((HBEL.out.setCell (p := ⟨w.heap.size, 0, none⟩) (by simp) _).setCell (p := ⟨w.heap.size, 1, none⟩) (by simp) _).setCell (p := ⟨w.heap.size, 2, none⟩) (by simp) _
end Go.Proofs.YtodjhgalbaelkaaDoor

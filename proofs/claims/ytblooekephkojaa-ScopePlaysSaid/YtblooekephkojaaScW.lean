/- scope: the document's list in memory; New, Open, IsType, Declare, Close of regletref10. -/
import Derived.Test.YtblooekephkojaaScV
import Derived.Test.YtblooekephkojaaApp
namespace Go.Proofs.Ytblooekephkojaa
open Go.RowKit Go.BigFrame Go.ChangeMaps Go.WideMaps
set_option linter.unusedVariables false

def Sd.f (e : Sd) : List Value := [.int .i64 e.b, .string e.x, .bool e.t]
theorem infoSd : (Try.prog.info? 99).map (fun i => (i.zero, i.size, i.bytes)) = some (some (.agg #[.int .i64 0, .string ⟨#[]⟩, .bool false]), 3, 32) := by kernel_rfl
/-- What lies at the document's scope. -/
structure RfAt (w : World) (base B many : Nat) (v : Value) (L : List Sd) : Prop where
  hd : w.heap[B]? = some (.cells #[.int .i64 many, v] 49 (0, 0))
  row : w.ownsRow base 99 3 v L.length (L.flatMap Sd.f)
  le : base ≤ B
def Rf (base B many : Nat) (L : List Sd) (w : World) : Prop := ∃ v, RfAt w base B many v L
/-- Blocks of the document's scope. -/
def isRf (base : Nat) (w : World) (k : Nat) : Prop := base ≤ k ∧ ∃ c t fz, w.heap[k]? = some (.cells c t fz) ∧ (t = 49 ∨ t = 99)
theorem flat3 (L : List Sd) (i : Nat) (h : i < L.length) : (L.flatMap Sd.f)[i * 3]? = some (.int .i64 L[i].b) ∧ (L.flatMap Sd.f)[i * 3 + 1]? = some (.string L[i].x) ∧ (L.flatMap Sd.f)[i * 3 + 2]? = some (.bool L[i].t) := by
  induction L generalizing i with
  | nil => simp at h
  | cons p l ih =>
    cases i with
    | zero => simp [Sd.f]
    | succ i =>
      have := ih i (by simpa using h)
      have e1 : (p :: l).flatMap Sd.f = (.int .i64 p.b) :: (.string p.x) :: (.bool p.t) :: l.flatMap Sd.f := by simp [Sd.f]
      rw [e1, show (i + 1) * 3 = i * 3 + 1 + 1 + 1 from by omega]
      simpa using this
theorem RfAt.B_ne {w : World} {base B many : Nat} {v : Value} {L : List Sd} (h : RfAt w base B many v L) : v.ownBlock ≠ some B := row_ne_hd h.row h.hd (by decide)
theorem RfAt.cells {w : World} {base B many : Nat} {v : Value} {L : List Sd} (h : RfAt w base B many v L) : w.cell? ⟨B, 0, none⟩ = some (.int .i64 many) ∧ w.cell? ⟨B, 1, none⟩ = some v := by
  refine ⟨?_, ?_⟩ <;> simp [World.cell?, h.hd]
theorem RfAt.keep {w w' : World} {base B many : Nat} {v : Value} {L : List Sd} {T : Nat → Prop} (h : RfAt w base B many v L) (hm : Mod T w w') (hT : ∀ k, T k → ¬ isRf base w k) : RfAt w' base B many v L := by
  refine ⟨hm.keep h.hd (fun e => hT _ e ⟨h.le, _, _, _, h.hd, .inl rfl⟩), ownsRow_mod h.row hm (fun k hk e => hT _ e ?_), h.le⟩
  rcases h.row.2 with ⟨rfl, _⟩ | ⟨g, cap, cur, rfl, hbb, hg, _⟩
  · simp [Value.ownBlock] at hk
  · simp only [Value.ownBlock, Option.some.injEq] at hk
    subst hk
    exact ⟨hbb, _, _, _, hg, .inr rfl⟩
theorem RfAt.row_is {w : World} {base B many : Nat} {v : Value} {L : List Sd} (h : RfAt w base B many v L) : ∀ k, v.ownBlock = some k → isRf base w k := by
  intro k hk
  rcases h.row.2 with ⟨rfl, _⟩ | ⟨g, cap, cur, rfl, hbb, hg, _⟩
  · simp [Value.ownBlock] at hk
  · simp only [Value.ownBlock, Option.some.injEq] at hk
    subst hk
    exact ⟨hbb, _, _, _, hg, .inr rfl⟩
theorem RfAt.row_at {w : World} {base B many : Nat} {v : Value} {L : List Sd} (h : RfAt w base B many v L) (h0 : 0 < L.length) : ∃ g cap, v = .slice (some ⟨g, 0, none⟩) L.length cap ∧ g < w.heap.size ∧ ∀ i (hi : i < L.length), w.cell? ⟨g, i * 3, none⟩ = some (.int .i64 L[i].b) ∧ w.cell? ⟨g, i * 3 + 1, none⟩ = some (.string L[i].x) ∧ w.cell? ⟨g, i * 3 + 2, none⟩ = some (.bool L[i].t) := by
  have hr := h.row
  rcases hr.2 with ⟨rfl, hz⟩ | ⟨g, cap, cur, rfl, _, hg, _⟩
  · omega
  · refine ⟨g, cap, rfl, (Array.getElem?_eq_some_iff.1 hg).1, fun i hi => ?_⟩
    obtain ⟨h1, h2, h3⟩ := flat3 L i hi
    have hlen : (L.flatMap Sd.f).length = L.length * 3 := hr.1
    exact ⟨by rw [hr.cellAt _ (by omega)]; exact h1, by rw [hr.cellAt _ (by omega)]; exact h2, by rw [hr.cellAt _ (by omega)]; exact h3⟩

theorem Rf.new (w : World) : Calls Try.prog 26 #[] w fun e w' => e = .returned (.agg #[.int .i64 1, .slice none 0 0]) ∧ Below w.heap.size w w' := by
  go_enter Try.func26, Try.ntmps26
  go_wp2
  exact bodyPost_ret (v := .agg #[.int .i64 1, .slice none 0 0]) (by simp [results, Try.results26, go_sem]) rfl ⟨rfl, (Below.refl _ _).alloc (Nat.le_refl _) _⟩

/-- What a call of the document's scope leaves. -/
def RfLeaves (base B many : Nat) (L : List Sd) (w w' : World) : Prop := Rf base B many L w' ∧ Mod (isRf base w) w w'

set_option maxRecDepth 100000 in
set_option maxHeartbeats 1000000 in
theorem Rf.opens (base B many : Nat) (L : List Sd) (w : World) (h : Rf base B many L w) (hm : many ≤ 65536) :
    Calls Try.prog 27 #[.pointer (some ⟨B, 0, none⟩)] w fun e w' => e = .returned (.int .i64 (if 65536 ≤ many then 4 else 0)) ∧ RfLeaves base B (if 65536 ≤ many then many else many + 1) L w w' := by
  obtain ⟨v, h⟩ := h
  obtain ⟨c0, c1⟩ := h.cells
  have H := Lib.hid h
  have hf : w.frozen? ⟨B, 0, none⟩ = false := Lib.frozen_of_heap h.hd 0
  have hBl := (Array.getElem?_eq_some_iff.1 h.hd).1
  clear h
  by_cases hb : many = 65536
  · subst hb
    go_enter Try.func27, Try.ntmps27
    go_wp2
    go_ret
    exact ⟨rfl, ⟨v, H.out⟩, Mod.refl _ _⟩
  · have hb1 : ((many : Int) == 65536) = false := by rw [beq_eq_false_iff_ne]; omega
    rw [if_neg (by omega), if_neg (by omega)]
    clear hb
    go_enter Try.func27, Try.ntmps27
    go_wp2
    go_ret
    have hmod : Mod (isRf base w) w (w.setCell ⟨B, 0, none⟩ (.int .i64 ((many : Int) + 1))) := Mod.setCell (Mod.refl (isRf base w) w) _ (.inr ⟨H.out.le, _, _, _, H.out.hd, .inl rfl⟩) _
    refine ⟨rfl, ⟨v, ⟨?_, ?_, H.out.le⟩⟩, hmod⟩
    · have := heap_setCell_same w B 0 _ _ (.int .i64 ((many : Int) + 1)) H.out.hd
      simpa using this
    · exact ownsRow_mod H.out.row (Mod.setCell (Mod.refl (fun k => k = B) w) _ (.inr rfl) _) (fun k hk e => H.out.B_ne (by rw [← e]; exact hk))

set_option maxRecDepth 100000 in
set_option maxHeartbeats 4000000 in
theorem Rf.isType (base B many : Nat) (L : List Sd) (x : ByteArray) (w : World) (h : Rf base B many L w) (hL : L.length ≤ 1000000) (hx : x.size ≤ maxLen) (hb : ∀ e ∈ L, e.b ≤ 1000000) :
    Calls Try.prog 32 #[.pointer (some ⟨B, 0, none⟩), .string x] w fun e w' => e = .returned (.bool (rIs L x).2) ∧ w' = w := by
  obtain ⟨v, h⟩ := h
  obtain ⟨c0, c1⟩ := h.cells
  obtain ⟨a, cap, rfl⟩ := row_shape h.row
  have hBl := (Array.getElem?_eq_some_iff.1 h.hd).1
  have H := Lib.hid h
  have HB := Lib.hid hb
  clear h hb
  go_enter Try.func32, Try.ntmps32
  go_wp2
  go_loop [5, 6, 7] (fun s5 s6 s7 => ∃ i : Nat, i ≤ L.length ∧ s7 = .int .i64 i ∧ s5 = .int .i64 (rIs (L.take i) x).1 ∧ s6 = .bool (rIs (L.take i) x).2) (fun _ _ s7 => L.length - (intOf s7).toNat)
  case atStart => exact ⟨0, Nat.zero_le _, rfl, rfl, rfl⟩
  case round =>
    obtain ⟨i, hi, rfl, rfl, rfl⟩ := hrel
    by_cases hlt : i < L.length
    · obtain ⟨g, cap', hv, hg, hc⟩ := H.out.row_at (by omega)
      simp only [Value.slice.injEq] at hv
      obtain ⟨rfl, _, _⟩ := hv
      obtain ⟨k0, k1, k2⟩ := hc i hlt
      have hs := rIs_snoc (L.take i) x L[i]
      rw [← List.take_succ_eq_append_getElem hlt] at hs
      unfold rstep at hs
      have HS := Lib.hid hs
      have hbb := HB.out L[i] (List.getElem_mem hlt)
      clear hc hs H HB
      generalize L[i] = e at *
      generalize hq : rIs (L.take i) x = q at *
      obtain ⟨m, t⟩ := q
      simp only at *
      clear hq
      by_cases hex : e.x = x
      · have hxx : (e.x.toList == x.toList) = true := by rw [hex]; simp
        by_cases hm : m ≤ (e.b : Int)
        · have HE := Lib.hid hex
          clear hex
          go_wp2
          go_round
          case rel => refine ⟨i + 1, by omega, by go_num, ?_, ?_⟩ <;> rw [HS.out, if_pos ⟨HE.out, hm⟩]
          case measure => simp [intOf]; omega
        · have HE := Lib.hid hex
          clear hex
          go_wp2
          go_round
          case rel => refine ⟨i + 1, by omega, by go_num, ?_, ?_⟩ <;> rw [HS.out, if_neg (fun h => hm h.2)]
          case measure => simp [intOf]; omega
      · have hxx : (e.x.toList == x.toList) = false := by
          rw [beq_eq_false_iff_ne]
          intro e2
          rw [Lib.toList_data, Lib.toList_data] at e2
          exact hex (by cases hh : e.x; cases x; simp only [hh] at e2; rw [Array.toList_inj.1 e2])
        have HE := Lib.hid hex
        clear hex
        go_wp2
        go_round
        case rel => refine ⟨i + 1, by omega, by go_num, ?_, ?_⟩ <;> rw [HS.out, if_neg (fun h => HE.out h.1)]
        case measure => simp [intOf]; omega
    · obtain rfl : i = L.length := by omega
      rw [List.take_length]
      clear H HB
      go_wp2
      go_ret
      exact ⟨rfl, rfl⟩
end Go.Proofs.Ytblooekephkojaa

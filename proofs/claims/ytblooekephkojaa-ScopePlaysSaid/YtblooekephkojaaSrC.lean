/- Search: check and Check, over a slice of gaps in memory. -/
import Derived.Test.YtblooekephkojaaSrV
namespace Go.Proofs.Ytblooekephkojaa
open Go.RowKit
set_option linter.unusedVariables false

def Gap.f (g : Gap) : List Value := [.int .i64 g.w, .int .i64 g.b, .bool g.must, .bool g.may, .int .i64 g.cost, .int .i64 g.ind]

theorem Gap.at {w : World} {b o : Nat} {g : Gap} (h : ∀ j v, (Gap.f g)[j]? = some v → w.cell? ⟨b, o + j, none⟩ = some v) :
    w.cell? ⟨b, o, none⟩ = some (.int .i64 g.w) ∧ w.cell? ⟨b, o + 1, none⟩ = some (.int .i64 g.b) ∧ w.cell? ⟨b, o + 2, none⟩ = some (.bool g.must) ∧ w.cell? ⟨b, o + 3, none⟩ = some (.bool g.may) ∧ w.cell? ⟨b, o + 4, none⟩ = some (.int .i64 g.cost) ∧ w.cell? ⟨b, o + 5, none⟩ = some (.int .i64 g.ind) :=
  ⟨h 0 _ rfl, h 1 _ rfl, h 2 _ rfl, h 3 _ rfl, h 4 _ rfl, h 5 _ rfl⟩

/-- What check says of a line and a style. -/
def chk (first : Int) (l : List Gap) (s : Sty) : Int :=
  if s.c < 1 ∨ 4096 < s.c ∨ s.e < 0 ∨ 1000000 < s.e then 90 else if 65536 < l.length then 4 else if first < 0 ∨ 65536 < first then 2 else if l.all Gap.valid then 0 else 2

set_option maxHeartbeats 2000000 in
set_option maxRecDepth 100000 in
theorem Sr.check (first : Int) (a : Option Addr) (l : List Gap) (cap : Nat) (s : Sty) (w : World) (hl : l.length ≤ 9223372036854775807) (hr : RowAt 6 Gap.f w a l) :
    Calls Try.prog 46 #[.int .i64 first, .slice a l.length cap, .agg s.cells] w fun e w' => e = .returned (.int .i64 (chk first l s)) ∧ Below w.heap.size w w' := by
  obtain ⟨c, i1, i2, i3, b1, b2, b3, ex, o1, o2, o3, o4, o5, o6, o7, o8, o9, o10⟩ := s
  have hch : chk first l ⟨c, i1, i2, i3, b1, b2, b3, ex, o1, o2, o3, o4, o5, o6, o7, o8, o9, o10⟩ = if c < 1 ∨ 4096 < c ∨ ex < 0 ∨ 1000000 < ex then 90 else if 65536 < l.length then 4 else if first < 0 ∨ 65536 < first then 2 else if l.all Gap.valid then 0 else 2 := rfl
  generalize chk first l ⟨c, i1, i2, i3, b1, b2, b3, ex, o1, o2, o3, o4, o5, o6, o7, o8, o9, o10⟩ = z at *
  by_cases hs : c < 1 ∨ 4096 < c ∨ ex < 0 ∨ 1000000 < ex
  · rw [if_pos hs] at hch
    subst hch
    have HS := Lib.hid hs
    clear hs
    go_enter Try.func46, Try.ntmps46
    go_wp2
    all_goals (first | (exfalso; have := HS.out; omega) | (go_ret; exact ⟨rfl, (Below.refl _ _).alloc (Nat.le_refl _) _⟩))
  rw [if_neg hs] at hch
  have h1 : 1 ≤ c := by omega
  have h2 : c ≤ 4096 := by omega
  have h3 : 0 ≤ ex := by omega
  have h4 : ex ≤ 1000000 := by omega
  clear hs
  by_cases hn : 65536 < l.length
  · rw [if_pos hn] at hch
    subst hch
    go_enter Try.func46, Try.ntmps46
    go_wp2
    go_ret
    exact ⟨rfl, (Below.refl _ _).alloc (Nat.le_refl _) _⟩
  rw [if_neg hn] at hch
  have hn' : ¬ (65536 : Int) < (l.length : Int) := by omega
  by_cases hf : first < 0 ∨ 65536 < first
  · rw [if_pos hf] at hch
    subst hch
    have HS := Lib.hid hf
    clear hf
    go_enter Try.func46, Try.ntmps46
    go_wp2
    all_goals (first | (exfalso; have := HS.out; omega) | (go_ret; exact ⟨rfl, (Below.refl _ _).alloc (Nat.le_refl _) _⟩))
  rw [if_neg hf] at hch
  have h5 : 0 ≤ first := by omega
  have h6 : first ≤ 65536 := by omega
  clear hf
  have HC := Lib.hid hch
  clear hch
  go_enter Try.func46, Try.ntmps46
  go_wp2
  go_loopw [38] (fun i wr => ∃ k : Nat, k ≤ l.length ∧ i = .int .i64 k ∧ (l.take k).all Gap.valid = true ∧ Below w.heap.size w wr) (fun i _ => l.length - (intOf i).toNat)
  case atStart => exact ⟨0, Nat.zero_le _, rfl, rfl, (Below.refl _ _).alloc (Nat.le_refl _) _⟩
  case round =>
    obtain ⟨k, hk, rfl, hall, hb⟩ := hrel
    have HA := Lib.hid hall
    clear hall
    by_cases hlt : k < l.length
    · obtain ⟨b, off, rfl, hbw, hc⟩ := hr.at (by intro e; simp [e] at hlt)
      obtain ⟨g0, g1, g2, g3, g4, g5⟩ := Gap.at (w := wr) (b := b) (o := off + k * 6) (g := l[k]) ((hc k hlt).below hb hbw)
      have hta : (l.take (k + 1)).all Gap.valid = ((l.take k).all Gap.valid && l[k].valid) := by rw [List.take_succ_eq_append_getElem hlt, List.all_append]; simp
      have hva : l[k].valid = false → l.all Gap.valid = false := fun h => by
        rw [List.all_eq_false]; exact ⟨l[k], List.getElem_mem hlt, by simp [h]⟩
      have HT := Lib.hid hta
      have HF := Lib.hid hva
      clear hc hr hta hva
      have hsz := hb.size
      generalize l[k] = g at *
      cases hv : g.valid
      · have HV := Lib.hid hv
        clear hv
        go_wp2_with fail
        refine (Sr.valid g _).mono ?_
        rintro e w1 ⟨rfl, b1⟩
        rw [HV.out]
        go_wp2
        go_ret
        exact ⟨ret_int (by rw [HC.out, HF.out HV.out]; rfl), hb.trans (((Below.refl _ _).alloc hsz _).trans (b1.mono (by simp; omega)))⟩
      · have HV := Lib.hid hv
        clear hv
        go_wp2_with fail
        refine (Sr.valid g _).mono ?_
        rintro e w1 ⟨rfl, b1⟩
        rw [HV.out]
        go_wp2
        go_roundw
        case rel => exact ⟨k + 1, by omega, by go_num, by rw [HT.out, HA.out, HV.out]; rfl, hb.trans (((Below.refl _ _).alloc hsz _).trans (b1.mono (by simp; omega)))⟩
        case measure => simp [intOf]; omega
    · go_wp2
      go_ret
      rw [List.take_of_length_le (by omega)] at HA
      exact ⟨ret_int (by rw [HC.out, HA.out]; rfl), hb⟩
end Go.Proofs.Ytblooekephkojaa

/- The laws of told: how much statements go through. -/
import Derived.Test.YtodjhgalbaelkaaDoorTqG
namespace Go.Proofs.YtodjhgalbaelkaaDoor
open Go.RowKit Go.BigFrame Go.Shelf
set_option linter.unusedVariables false

def gE (l : List Edi) : Nat := (l.map (fun x => 10 + x.t.size)).sum
def gN (l : List Chg) : Nat := (l.map (fun c => 20 + c.n.size + gE c.es)).sum
theorem sum_take {α : Type} (f : α → Nat) (l : List α) (i : Nat) : ((l.take i).map f).sum ≤ (l.map f).sum := by
  conv => rhs; rw [← List.take_append_drop i l, List.map_append, List.sum_append]
  omega
theorem sum_succ {α : Type} (f : α → Nat) (l : List α) (i : Nat) (h : i < l.length) : ((l.take (i + 1)).map f).sum = ((l.take i).map f).sum + f l[i] := by
  rw [List.take_succ_eq_append_getElem h, List.map_append, List.sum_append]; simp
theorem gE_take (l : List Edi) (i : Nat) : gE (l.take i) ≤ gE l := sum_take _ l i
theorem gE_succ (l : List Edi) (i : Nat) (h : i < l.length) : gE (l.take (i + 1)) = gE (l.take i) + (10 + l[i].t.size) := sum_succ _ l i h
theorem gN_take (l : List Chg) (i : Nat) : gN (l.take i) ≤ gN l := sum_take _ l i
theorem gN_succ (l : List Chg) (i : Nat) (h : i < l.length) : gN (l.take (i + 1)) = gN (l.take i) + (20 + l[i].n.size + gE l[i].es) := sum_succ _ l i h
theorem gE_wt : ∀ l : List Edi, gE l ≤ 20 * wtE l ∧ wtE l ≤ gE l
  | [] => by simp [gE, wtE]
  | x :: l => by
    have ih := gE_wt l
    have h1 : gE (x :: l) = 10 + x.t.size + gE l := rfl
    have h2 : wtE (x :: l) = x.t.size + 1 + wtE l := rfl
    omega
theorem gN_wt : ∀ l : List Chg, gN l ≤ 20 * wt l ∧ wt l ≤ gN l
  | [] => by simp [gN, wt]
  | c :: l => by
    have ih := gN_wt l
    have h0 := gE_wt c.es
    have h1 : gN (c :: l) = 20 + c.n.size + gE c.es + gN l := rfl
    have h2 : wt (c :: l) = c.n.size + 1 + wtE c.es + wt l := rfl
    omega

set_option maxRecDepth 100000 in
set_option maxHeartbeats 4000000 in
theorem Td.greatN (a : Option Addr) (c : Nat) (l : List Chg) (w : World) (hr : ChsAt w a l) (hl : l.length ≤ 2000000) (hb : ∀ c ∈ l, c.es.length ≤ 2000000) (hg : gN l ≤ 1000000000) :
    Calls Tryd.prog 8 #[.slice a l.length c] w fun e w' => e = .returned (.bool (decide (2000 < (gN l : Int)))) ∧ Below w.heap.size w w' := by
  have HG := Lib.hid hg
  clear hg
  have HROW := Lib.hid hr
  have HB := Lib.hid hb
  clear hr hb
  go_enter Tryd.func8, Tryd.ntmps8
  go_wp2_with fail
  go_loopw [3, 4] (fun s3 s4 wr => ∃ (n : Int) (i : Nat), i ≤ l.length ∧ n = (gN (l.take i) : Int) ∧ s3 = .int .i64 n ∧ s4 = .int .i64 i ∧ Below w.heap.size w wr) (fun _ s4 _ => l.length - (intOf s4).toNat)
  case atStart => exact ⟨0, 0, by omega, rfl, rfl, rfl, Below.refl _ _⟩
  case round =>
    obtain ⟨n, i, hi, hn, rfl, rfl, hbel⟩ := hrel
    have HN := Lib.hid hn
    have n0 : (0 : Int) ≤ n := by omega
    have n1 : n ≤ 1000000000 := by have := gN_take l i; have := HG.out; omega
    clear hn
    have HBEL := Lib.hid hbel
    by_cases hlt : i < l.length
    · obtain ⟨bb, off, rfl, hbw, hcc⟩ := HROW.out.1.at (by intro e; simp [e] at hlt)
      obtain ⟨g0, g1⟩ := Chg.at (w := wr) (b := bb) (o := off + i * 2) (c := l[i]) ((hcc i hlt).below hbel hbw)
      have hel := HB.out l[i] (List.getElem_mem hlt)
      have hed := HROW.out.2 l[i] (List.getElem_mem hlt)
      have HED := Lib.hid hed
      have HCC := Lib.hid (fun (u : World) (hu : Below w.heap.size w u) => Chg.at (w := u) (b := bb) (o := off + i * 2) (c := l[i]) ((hcc i hlt).below hu hbw))
      clear hcc hed hbel
      have hsucc := gN_succ l i hlt
      have htot := gN_take l (i + 1)
      have HSUCC := Lib.hid hsucc
      have HTOT := Lib.hid htot
      have hnb : (l[i].n.size : Int) ≤ 1000000000 := by have := HG.out; omega
      clear hsucc htot
      generalize l[i] = x at *
      obtain ⟨xn, xa, xc, xes⟩ := x
      simp only at *
      go_wp2_with fail
      go_loopw [3, 5] (fun s3 s5 wq => ∃ (m : Int) (j : Nat), j ≤ xes.length ∧ m = n + 20 + (xn.size : Int) + (gE (xes.take j) : Int) ∧ s3 = .int .i64 m ∧ s5 = .int .i64 j ∧ Below w.heap.size w wq) (fun _ s5 _ => xes.length - (intOf s5).toNat)
      case atStart => exact ⟨_, 0, by omega, by simp [gE], rfl, rfl, HBEL.out⟩
      case round =>
        clear g0 g1
        obtain ⟨m, j, hj, hm, rfl, rfl, hbel⟩ := hrel
        have HM := Lib.hid hm
        have m0 : (0 : Int) ≤ m := by omega
        have m1 : m ≤ 1000000000 := by have := gE_take xes j; have := HG.out; have := HTOT.out; have := HSUCC.out; have := HN.out; omega
        clear hm
        obtain ⟨g0, g1⟩ := HCC.out _ hbel
        have HBEL := Lib.hid hbel
        by_cases hjl : j < xes.length
        · obtain ⟨eb, eo, rfl, heb, hec⟩ := HED.out.at (by intro e; simp [e] at hjl)
          obtain ⟨q0, q1, q2⟩ := Edi.at (b := eb) (o := eo + j * 3) (x := xes[j]) ((hec j hjl).below hbel heb)
          have hsE := gE_succ xes j hjl
          have HSE := Lib.hid hsE
          have htb : (xes[j].t.size : Int) ≤ 1000000000 := by have := gE_take xes (j + 1); have := HG.out; have := HTOT.out; have := HSUCC.out; omega
          clear hec hbel q0 q1 g0 hsE
          generalize xes[j] = y at *
          obtain ⟨ya, yb, yt⟩ := y
          simp only at *
          go_wp2_with fail
          go_roundw
          case rel => exact ⟨_, j + 1, by omega, by have := HSE.out; have := HM.out; omega, rfl, by go_num, HBEL.out⟩
          case measure => simp [intOf]; omega
        · obtain rfl : j = xes.length := by omega
          rw [List.take_length] at HM
          clear hbel g0
          go_wp2_with fail
          go_roundw
          case rel => exact ⟨_, i + 1, by omega, by have := HSUCC.out; have := HM.out; have := HN.out; omega, rfl, by go_num, HBEL.out⟩
          case measure => simp [intOf]; omega
    · obtain rfl : i = l.length := by omega
      rw [List.take_length] at HN
      clear hbel
      go_wp2_with fail
      go_ret
      exact ⟨by rw [HN.out]; rfl, HBEL.out⟩
end Go.Proofs.YtodjhgalbaelkaaDoor

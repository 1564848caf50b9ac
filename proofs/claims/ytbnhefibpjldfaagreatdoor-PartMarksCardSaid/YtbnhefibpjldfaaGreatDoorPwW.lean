/- lines: same. -/
import Derived.Test.YtbnhefibpjldfaaGreatDoorPwV
import Derived.BigQuiet
import Derived.Laws.StructEq
namespace Go.Proofs.YtbnhefibpjldfaaGreatDoor
open Go.RowKit Go.BigFrame Go.Shelf
set_option linter.unusedVariables false

theorem sameT_len (sp : Bool) : ∀ (f : Bool) (l m : List Tk), l.length ≠ m.length → sameT sp f l m = false
  | f, [], [], h => absurd rfl h
  | f, [], _ :: _, h => rfl
  | f, _ :: _, [], h => rfl
  | f, a :: x, b :: y, h => by simp only [sameT]; rw [sameT_len sp false x y (by simpa using h), Bool.and_false]
theorem sameT_at (sp f : Bool) {l m : List Tk} {i : Nat} (h : i < l.length) (h2 : i < m.length) : sameT sp f (l.drop i) (m.drop i) = (l[i].kind == m[i].kind && l[i].text == m[i].text && (!sp || f || l[i].space == m[i].space) && sameT sp false (l.drop (i + 1)) (m.drop (i + 1))) := by
  rw [List.drop_eq_getElem_cons h, List.drop_eq_getElem_cons h2, sameT]
theorem guard125 : Tryz.prog.eqGuardType Tryz.prog.depth 125 = false := by kernel_rfl
theorem stood125 : Tryz.prog.stoodInHeld 125 = false := by kernel_rfl
theorem neq125 (w : World) (k k2 : Nat) (x y : Bs) (s s2 : Bool) : (binOp .neq 125 (.agg #[.int .i64 k, .string (str x), .bool s]) (.agg #[.int .i64 k2, .string (str y), .bool s2])).run Tryz.prog w = .ok (.bool (!(k == k2 && x == y && s == s2))) w := by
  have hu := Tryz.underlying125
  have hs := stood125
  simp only [go_sem, hu, hs]
  simp [go_sem, str_tl, hu, hs]
  by_cases h1 : k = k2
  · by_cases h2 : x = y
    · cases s <;> cases s2 <;> simp_all
    · have h2' : (x == y) = false := by simpa using h2
      simp_all
  · have h1' : ¬ ((k : Int) = k2) := by omega
    simp_all
/-- The three things that are compared. -/
theorem key_of {k k2 : Nat} {x y : Bs} {a b c : Bool} (h : (k == k2 && x == y && a == b) = c) : c = true ∧ k = k2 ∧ x = y ∧ a = b ∨ c = false := by
  cases c
  · exact .inr rfl
  · simp only [Bool.and_eq_true, beq_iff_eq] at h
    exact .inl ⟨rfl, h.1.1, h.1.2, h.2⟩
set_option maxRecDepth 100000 in
set_option maxHeartbeats 8000000 in
theorem Ls.same (a1 a2 : Option Addr) (c1 c2 : Nat) (l m : List Tk) (sp : Bool) (w : World) (hr1 : RowAt 5 tkC w a1 l) (hr2 : RowAt 5 tkC w a2 m) (hl : l.length ≤ 1000000000) (hm : m.length ≤ 1000000000) :
    Calls Tryz.prog 38 #[.slice a1 l.length c1, .slice a2 m.length c2, .bool sp] w fun e w' => e = .returned (.bool (sameT sp true l m)) ∧ Below w.heap.size w w' := by
  have HR1 := Lib.hid hr1
  have HR2 := Lib.hid hr2
  clear hr1 hr2
  by_cases hlen : l.length = m.length
  · have hne : ((l.length : Int) != m.length) = false := by rw [bne_eq_false_iff_eq]; omega
    go_enter Tryz.func38, Tryz.ntmps38
    go_wp2_with fail
    go_loopw [17] (fun s17 wr => ∃ (i : Nat), i ≤ l.length ∧ s17 = .int .i64 i ∧ sameT sp true l m = sameT sp (decide (i = 0)) (l.drop i) (m.drop i) ∧ Below w.heap.size w wr) (fun s17 _ => l.length - (intOf s17).toNat)
    case atStart => exact ⟨0, Nat.zero_le _, rfl, rfl, Below.refl _ _⟩
    case round =>
      obtain ⟨i, hi, rfl, hb, hbel⟩ := hrel
      by_cases hlt : i < l.length
      · have hlt2 : i < m.length := by omega
        obtain ⟨gb, go, rfl, hgb, hgc⟩ := HR1.out.at (by intro e; simp [e] at hlt)
        obtain ⟨k0, k1, k2, k3, k4⟩ := CellsAt.get5 ((hgc i hlt).below hbel hgb)
        obtain ⟨hb', ho, rfl, hhb, hhc⟩ := HR2.out.at (by intro e; simp [e] at hlt2)
        obtain ⟨g0, g1, g2, g3, g4⟩ := CellsAt.get5 ((hhc i hlt2).below hbel hhb)
        rw [sameT_at _ _ hlt hlt2] at hb
        have hlt' : (i : Int) < l.length := by omega
        have hlt2' : (i : Int) < m.length := by omega
        generalize l[i] = t at *
        generalize m[i] = u at *
        obtain ⟨kd, tx, lo, hi', s⟩ := t
        obtain ⟨kd2, tx2, lo2, hi2, s2⟩ := u
        simp only at k0 k1 k2 k3 k4 g0 g1 g2 g3 g4 hb
        have HBEL := Lib.hid hbel
        have hws := hbel.size
        have hgw : gb < wr.heap.size := by omega
        have hhw : hb' < wr.heap.size := by omega
        have HB := hb
        clear hb hbel hgc hhc
        have hB : ∀ n, Below w.heap.size w ((wr.alloc (.cells #[.int .i64 kd, .string (str tx), .int .i64 lo, .int .i64 hi', .bool s] 40)).drewN n) := fun n => (HBEL.out.trans ((below_alloc _ _).mono hws)).trans (below_drewN _ _ n)
        have HBB := Lib.hid hB
        clear hB
        have key : ∀ g : Bool, (sp && !decide (i = 0)) = g → ∃ q, (∀ wx, (binOp .neq 125 (.agg #[.int .i64 kd, .string (str tx), .bool (g && s)]) (.agg #[.int .i64 kd2, .string (str tx2), .bool (g && s2)])).run Tryz.prog wx = .ok (.bool (!q)) wx) ∧
            sameT sp true l m = (q && sameT sp false (l.drop (i + 1)) (m.drop (i + 1))) := by
          intro g hg
          have h3 : (!sp || decide (i = 0) || s == s2) = ((g && s) == (g && s2)) := by
            rw [← hg]; cases sp <;> cases decide (i = 0) <;> cases s <;> cases s2 <;> rfl
          rw [h3] at HB
          exact ⟨_, fun wx => neq125 wx kd kd2 tx tx2 (g && s) (g && s2), HB⟩
        clear HB
        cases sp
        · obtain ⟨q, NEQ, HB⟩ := key false rfl
          simp only [Bool.false_and] at NEQ
          clear key
          cases q
          · have HB' := Lib.hid HB
            clear HB
            go_wp2_with fail
            go_quiet (fail)
            go_wp2_with fail
            go_ret
            exact ⟨by rw [HB'.out]; rfl, HBB.out _⟩
          · have HB' := Lib.hid HB
            clear HB
            go_wp2_with fail
            go_quiet (fail)
            go_wp2_with fail
            go_roundw
            case rel => exact ⟨i + 1, by omega, by go_num, by rw [HB'.out]; simp, HBB.out _⟩
            case measure => simp [intOf]; omega
        · by_cases hi0 : i = 0
          · obtain ⟨q, NEQ, HB⟩ := key false (by simp [hi0])
            simp only [Bool.false_and] at NEQ
            have hi1 : decide (0 < i) = false := by rw [decide_eq_false_iff_not]; omega
            clear key hi0
            cases q
            · have HB' := Lib.hid HB
              clear HB
              go_wp2_with fail
              go_quiet (fail)
              go_wp2_with fail
              go_ret
              exact ⟨by rw [HB'.out]; rfl, HBB.out _⟩
            · have HB' := Lib.hid HB
              clear HB
              go_wp2_with fail
              go_quiet (fail)
              go_wp2_with fail
              go_roundw
              case rel => exact ⟨i + 1, by omega, by go_num, by rw [HB'.out]; simp, HBB.out _⟩
              case measure => simp [intOf]; omega
          · obtain ⟨q, NEQ, HB⟩ := key true (by simp [hi0])
            simp only [Bool.true_and] at NEQ
            have hi1 : decide (0 < i) = true := by rw [decide_eq_true_iff]; omega
            clear key hi0
            cases q
            · have HB' := Lib.hid HB
              clear HB
              go_wp2_with fail
              go_quiet (fail)
              go_wp2_with fail
              go_ret
              exact ⟨by rw [HB'.out]; rfl, HBB.out _⟩
            · have HB' := Lib.hid HB
              clear HB
              go_wp2_with fail
              go_quiet (fail)
              go_wp2_with fail
              go_roundw
              case rel => exact ⟨i + 1, by omega, by go_num, by rw [HB'.out]; simp, HBB.out _⟩
              case measure => simp [intOf]; omega
      · obtain rfl : i = l.length := by omega
        rw [List.drop_length, hlen, List.drop_length] at hb
        have HB := Lib.hid hb
        have HBEL := Lib.hid hbel
        clear hb hbel
        go_wp2_with fail
        go_ret
        exact ⟨by rw [HB.out]; rfl, HBEL.out⟩
  · have hne : ((l.length : Int) != m.length) = true := by rw [bne_iff_ne]; omega
    have HE := Lib.hid (sameT_len sp true l m hlen)
    clear hlen
    go_enter Tryz.func38, Tryz.ntmps38
    go_wp2_with fail
    go_ret
    exact ⟨by rw [HE.out]; rfl, Below.refl _ _⟩
end Go.Proofs.YtbnhefibpjldfaaGreatDoor

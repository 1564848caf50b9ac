/- edit: fit (printed by wip/fit_gen.py). -/
import Derived.Test.YtodjhgalbaelkaaDoorTwF
namespace Go.Proofs.YtodjhgalbaelkaaDoor
open Go.RowKit Go.BigFrame Go.Shelf
set_option linter.unusedVariables false

structure Edi where
  a : Int
  b : Int
  t : ByteArray
def Edi.f (x : Edi) : List Value := [.int .i64 x.a, .int .i64 x.b, .string x.t]
theorem Edi.at {w : World} {b o : Nat} {x : Edi} (h : ∀ j v, (Edi.f x)[j]? = some v → w.cell? ⟨b, o + j, none⟩ = some v) :
    w.cell? ⟨b, o, none⟩ = some (.int .i64 x.a) ∧ w.cell? ⟨b, o + 1, none⟩ = some (.int .i64 x.b) ∧ w.cell? ⟨b, o + 2, none⟩ = some (.string x.t) :=
  ⟨h 0 _ rfl, h 1 _ rfl, h 2 _ rfl⟩
def okB (s : Bs) (n : Nat) (last : Int) (x : Edi) : Bool :=
  !(decide (x.a ≤ last) || decide (x.a < 0) || decide (x.b < x.a) || decide ((n : Int) < x.b)) &&
    (if x.t.size = 0 then !(x.a == x.b) else !((decide (x.b < (n : Int)) && !ends (dl x.t)) || (x.a == (n : Int) && decide (0 < n) && !ends s)))
def fitB (s : Bs) (n : Nat) : Int → List Edi → Bool
  | _, [] => true
  | last, x :: r => okB s n last x && fitB s n x.b r
theorem fitB_at (s : Bs) (n : Nat) (last : Int) (l : List Edi) (i : Nat) (h : i < l.length) : fitB s n last (l.drop i) = (okB s n last l[i] && fitB s n l[i].b (l.drop (i + 1))) := by
  rw [List.drop_eq_getElem_cons h]; rfl

set_option maxRecDepth 100000 in
set_option maxHeartbeats 8000000 in
theorem Ed.fit (s : ByteArray) (n : Nat) (a : Option Addr) (c : Nat) (l : List Edi) (w : World) (hr : RowAt 3 Edi.f w a l) (hs : s.size ≤ 100000000) (hl : l.length ≤ 100000000) (hn : n ≤ 100000000) (ht : ∀ x ∈ l, x.t.size ≤ 100000000) :
    Calls Tryd.prog 38 #[.string s, .int .i64 n, .slice a l.length c] w fun e w' => e = .returned (.bool (fitB (dl s) n (-1) l)) ∧ Below w.heap.size w w' := by
  obtain ⟨r, hrr⟩ : ∃ r, fitB (dl s) n (-1) l = r := ⟨_, rfl⟩
  rw [hrr]
  have HR := Lib.hid hrr
  have HROW := Lib.hid hr
  have HT := Lib.hid ht
  clear hrr hr ht
  go_enter Tryd.func38, Tryd.ntmps38
  go_wp2
  go_loopw [7, 12] (fun s7 s12 wr => ∃ (i : Nat) (last : Int), i ≤ l.length ∧ s12 = .int .i64 i ∧ s7 = .int .i64 last ∧ fitB (dl s) n (-1) l = fitB (dl s) n last (l.drop i) ∧ Below w.heap.size w wr) (fun _ s12 _ => l.length - (intOf s12).toNat)
  case atStart => exact ⟨0, -1, by omega, rfl, rfl, rfl, Below.refl _ _⟩
  case round =>
    obtain ⟨i, last, hi, rfl, rfl, hinv, hb⟩ := hrel
    have HI := Lib.hid hinv
    have HB := Lib.hid hb
    clear hinv
    by_cases hlt : i < l.length
    · obtain ⟨b, off, rfl, hbw, hc⟩ := HROW.out.at (by intro e; simp [e] at hlt)
      obtain ⟨g0, g1, g2⟩ := Edi.at (w := wr) (b := b) (o := off + i * 3) (x := l[i]) ((hc i hlt).below hb hbw)
      have hst := fitB_at (dl s) n last l i hlt
      have HST := Lib.hid hst
      have htt := HT.out l[i] (List.getElem_mem hlt)
      clear hc hst hb HROW HT
      generalize l[i] = x at *
      by_cases c1 : x.a ≤ last
      · have hok : okB (dl s) n last x = false := by unfold okB; simp [c1]
        have HOK := Lib.hid hok
        clear hok
        go_wp2
        go_ret
        exact ⟨ret_bool (by rw [← HR.out, HI.out, HST.out, show okB (dl s) n last x = false from HOK.out]; rfl), HB.out.trans ((below_alloc _ _).mono HB.out.size)⟩
      by_cases c2 : x.a < 0
      · have hok : okB (dl s) n last x = false := by unfold okB; simp [c2]
        have HOK := Lib.hid hok
        clear hok
        go_wp2
        go_ret
        exact ⟨ret_bool (by rw [← HR.out, HI.out, HST.out, show okB (dl s) n last x = false from HOK.out]; rfl), HB.out.trans ((below_alloc _ _).mono HB.out.size)⟩
      by_cases c3 : x.b < x.a
      · have hok : okB (dl s) n last x = false := by unfold okB; simp [c3]
        have HOK := Lib.hid hok
        clear hok
        go_wp2
        go_ret
        exact ⟨ret_bool (by rw [← HR.out, HI.out, HST.out, show okB (dl s) n last x = false from HOK.out]; rfl), HB.out.trans ((below_alloc _ _).mono HB.out.size)⟩
      by_cases c4 : (n : Int) < x.b
      · have hok : okB (dl s) n last x = false := by unfold okB; simp [c4]
        have HOK := Lib.hid hok
        clear hok
        go_wp2
        go_ret
        exact ⟨ret_bool (by rw [← HR.out, HI.out, HST.out, show okB (dl s) n last x = false from HOK.out]; rfl), HB.out.trans ((below_alloc _ _).mono HB.out.size)⟩
      by_cases t0 : x.t.size = 0
      · have te := isEmpty_of t0
        by_cases ab : x.a = x.b
        · have ab' : (x.a == x.b) = true := by rw [beq_iff_eq]; exact ab
          have hok : okB (dl s) n last x = false := by unfold okB; rw [if_pos t0, ab']; simp
          have HOK := Lib.hid hok
          clear hok
          clear ab t0
          go_wp2
          go_ret
          exact ⟨ret_bool (by rw [← HR.out, HI.out, HST.out, show okB (dl s) n last x = false from HOK.out]; rfl), HB.out.trans ((below_alloc _ _).mono HB.out.size)⟩
        · have ab' : (x.a == x.b) = false := by rw [beq_eq_false_iff_ne]; exact ab
          have hok : okB (dl s) n last x = true := by unfold okB; rw [if_pos t0, ab']; simp [c1, c2, c3, c4]
          have HOK := Lib.hid hok
          clear hok
          clear ab t0
          go_wp2
          go_roundw
          case rel => exact ⟨i + 1, x.b, by omega, by go_num, rfl, by rw [HI.out, HST.out, show okB (dl s) n last x = true from HOK.out]; rfl, HB.out.trans ((below_alloc _ _).mono HB.out.size)⟩
          case measure => simp [intOf]; omega
      · have te := not_isEmpty_of t0
        by_cases bn : x.b < (n : Int)
        · have an : (x.a == (n : Int)) = false := by rw [beq_eq_false_iff_ne]; omega
          cases et : ends (dl x.t)
          · have HET := Lib.hid et
            have hok : okB (dl s) n last x = false := by unfold okB; rw [if_neg t0, et]; simp [bn]
            have HOK := Lib.hid hok
            clear hok
            clear et t0
            go_wp2_with fail
            refine (Td.ended x.t _ (by omega)).mono ?_
            rintro e w2 ⟨rfl, rfl⟩
            rw [show ends x.t.data.toList = false from HET.out]
            go_wp2
            go_ret
            exact ⟨ret_bool (by rw [← HR.out, HI.out, HST.out, show okB (dl s) n last x = false from HOK.out]; rfl), HB.out.trans ((below_alloc _ _).mono HB.out.size)⟩
          · have HET := Lib.hid et
            have hok : okB (dl s) n last x = true := by unfold okB; rw [if_neg t0, et, an]; simp [c1, c2, c3, c4]
            have HOK := Lib.hid hok
            clear hok
            clear et t0
            go_wp2_with fail
            refine (Td.ended x.t _ (by omega)).mono ?_
            rintro e w2 ⟨rfl, rfl⟩
            rw [show ends x.t.data.toList = true from HET.out]
            go_wp2
            go_roundw
            case rel => exact ⟨i + 1, x.b, by omega, by go_num, rfl, by rw [HI.out, HST.out, show okB (dl s) n last x = true from HOK.out]; rfl, HB.out.trans ((below_alloc _ _).mono HB.out.size)⟩
            case measure => simp [intOf]; omega
        · by_cases an : x.a = (n : Int)
          · have an' : (x.a == (n : Int)) = true := by rw [beq_iff_eq]; exact an
            by_cases n0 : 0 < n
            · have n0' : (0 : Int) < (n : Int) := by omega
              cases es : ends (dl s)
              · have HES := Lib.hid es
                have hok : okB (dl s) n last x = false := by unfold okB; rw [if_neg t0, an', es]; simp [n0]
                have HOK := Lib.hid hok
                clear hok
                clear es t0 an
                go_wp2_with fail
                refine (Td.ended s _ (by omega)).mono ?_
                rintro e w2 ⟨rfl, rfl⟩
                rw [show ends s.data.toList = false from HES.out]
                go_wp2
                go_ret
                exact ⟨ret_bool (by rw [← HR.out, HI.out, HST.out, show okB (dl s) n last x = false from HOK.out]; rfl), HB.out.trans ((below_alloc _ _).mono HB.out.size)⟩
              · have HES := Lib.hid es
                have hok : okB (dl s) n last x = true := by unfold okB; rw [if_neg t0, es]; simp [c1, c2, c3, c4, bn]
                have HOK := Lib.hid hok
                clear hok
                clear es t0 an
                go_wp2_with fail
                refine (Td.ended s _ (by omega)).mono ?_
                rintro e w2 ⟨rfl, rfl⟩
                rw [show ends s.data.toList = true from HES.out]
                go_wp2
                go_roundw
                case rel => exact ⟨i + 1, x.b, by omega, by go_num, rfl, by rw [HI.out, HST.out, show okB (dl s) n last x = true from HOK.out]; rfl, HB.out.trans ((below_alloc _ _).mono HB.out.size)⟩
                case measure => simp [intOf]; omega
            · have n0' : ¬ (0 : Int) < (n : Int) := by omega
              have hok : okB (dl s) n last x = true := by unfold okB; rw [if_neg t0]; simp [c1, c2, c3, c4, bn, n0]
              have HOK := Lib.hid hok
              clear hok
              clear t0 an
              go_wp2
              go_roundw
              case rel => exact ⟨i + 1, x.b, by omega, by go_num, rfl, by rw [HI.out, HST.out, show okB (dl s) n last x = true from HOK.out]; rfl, HB.out.trans ((below_alloc _ _).mono HB.out.size)⟩
              case measure => simp [intOf]; omega
          · have an' : (x.a == (n : Int)) = false := by rw [beq_eq_false_iff_ne]; exact an
            have hok : okB (dl s) n last x = true := by unfold okB; rw [if_neg t0, an']; simp [c1, c2, c3, c4, bn]
            have HOK := Lib.hid hok
            clear hok
            clear t0 an
            go_wp2
            go_roundw
            case rel => exact ⟨i + 1, x.b, by omega, by go_num, rfl, by rw [HI.out, HST.out, show okB (dl s) n last x = true from HOK.out]; rfl, HB.out.trans ((below_alloc _ _).mono HB.out.size)⟩
            case measure => simp [intOf]; omega
    · obtain rfl : i = l.length := by omega
      clear HROW HT hb
      go_wp2
      go_ret
      exact ⟨ret_bool (by rw [← HR.out, HI.out, List.drop_length]; rfl), HB.out⟩
end Go.Proofs.YtodjhgalbaelkaaDoor

/- The law SearchLeast. -/
import Derived.Test.YtblooekephkojaaLsQ
import Derived.Test.YtblooekephkojaaSrH
namespace Go.Proofs.Ytblooekephkojaa
open Go.RowKit Go.BigFrame Go.Shelf
set_option linter.unusedVariables false

/-- The way that is tried at gap i: as it was asked, put right where it may not be. -/
def wayAt (l : List Gap) (ws : List Bool) (i : Nat) : Bool :=
  match l[i]? with
  | none => false
  | some g => g.must || (ws.getD i false && g.may)
def wayTo (l : List Gap) (ws : List Bool) (i : Nat) : List Bool := (List.range i).map (wayAt l ws)
theorem wayTo_len (l : List Gap) (ws : List Bool) (i : Nat) : (wayTo l ws i).length = i := by simp [wayTo]
theorem wayTo_succ (l : List Gap) (ws : List Bool) (i : Nat) : wayTo l ws (i + 1) = wayTo l ws i ++ [wayAt l ws i] := by simp [wayTo, List.range_succ]
theorem wayTo_get (l : List Gap) (ws : List Bool) (n i : Nat) (h : i < n) : (wayTo l ws n).getD i false = wayAt l ws i := by simp [wayTo, h]
theorem wayTo_fit (l : List Gap) (ws : List Bool) (hv : ∀ g ∈ l, g.valid = true) : (l.zip (wayTo l ws l.length)).all fitB = true := by
  rw [fit_at (wayTo_len l ws l.length)]
  intro j hj
  rw [wayTo_get l ws _ j hj]
  have h1 := hv l[j] (List.getElem_mem _)
  unfold wayAt
  rw [List.getElem?_eq_getElem hj]
  dsimp only
  unfold fitB
  generalize l[j] = g at *
  unfold Gap.valid at h1
  cases hm : g.must <;> cases hy : g.may <;> simp_all

theorem opt_first {s : Sty} {first : Int} {l : List Gap} {y x : List Bool} {c : Int} (h : IsOpt s first l y c) (hx : x.length = l.length) (hf : (l.zip x).all fitB = true) (i : Nat) (hi : i < l.length)
    (hs : ∀ q, q < i → x.getD q false = y.getD q false) (hd : x.getD i false ≠ y.getD i false) (hxi : x.getD i false = false) : c < cost s first (l.zip x) :=
  h.lex x hx hf i hi hs (by cases hy : y.getD i false with
    | true => rfl
    | false => rw [hxi, hy] at hd; exact absurd rfl hd) hxi
theorem opt_same {s : Sty} {first : Int} {l : List Gap} {y x : List Bool} {c : Int} (h : IsOpt s first l y c) (hx : x.length = l.length) (hs : ∀ q, q < l.length → x.getD q false = y.getD q false) : cost s first (l.zip x) = c := by
  have : x = y := by
    apply List.ext_getElem (by rw [hx, h.len])
    intro j h1 h2
    have := hs j (by omega)
    rw [List.getD_eq_getElem?_getD, List.getD_eq_getElem?_getD, List.getElem?_eq_getElem h1, List.getElem?_eq_getElem h2] at this
    exact this
  rw [this, h.cost]

set_option maxRecDepth 100000 in
set_option maxHeartbeats 4000000 in
theorem Ls.law_least (first : Int) (a1 a2 : Option Addr) (l : List Gap) (ws : List Bool) (c1 c2 : Nat) (s : Sty) (w : World) (hl : l.length ≤ 9223372036854775807) (hl2 : ws.length ≤ 140737488351232)
    (hr : RowAt 6 Gap.f w a1 l) (hr2 : RowAt 1 boolF w a2 ws) :
    Calls Try.prog 13 #[.int .i64 first, .slice a1 l.length c1, .agg (wayCells a2 ws.length c2 s)] w fun e w' => e = .returned (.bool true) ∧ Below w.heap.size w w' := by
  obtain ⟨i0, hi, hz0, hz1, hz2⟩ := info_parts infoBool
  have HI := Lib.hid hi
  have HZ0 := Lib.hid hz0
  have HZ1 := Lib.hid hz1
  have HZ2 := Lib.hid hz2
  clear hi hz0 hz1 hz2
  obtain ⟨W1, hW1⟩ : ∃ W1, W1 = w.alloc (.cells (wayCells a2 ws.length c2 s) 29) := ⟨_, rfl⟩
  have hg : W1.heap[w.heap.size]? = some (.cells (wayCells a2 ws.length c2 s) 29 (0, 0)) := by rw [hW1]; exact heap_alloc_new _ _
  have hB1 : Below w.heap.size w W1 := by rw [hW1]; exact below_alloc _ _
  have hs1 : W1.heap.size = w.heap.size + 1 := by rw [hW1]; simp
  have HW1 := Lib.hid hW1
  have HG := Lib.hid hg
  have HB1 := Lib.hid hB1
  clear hW1 hg hB1
  go_enter Try.func13, Try.ntmps13
  go_wp2_with fail
  rw [← HW1.out]
  refine (Ls.alive W1).mono ?_
  rintro e w2 ⟨rfl, b2⟩
  have hg2 := heap_below b2 HG.out (by omega)
  have hB2 : Below w.heap.size w w2 := HB1.out.trans (b2.mono (by omega))
  have hr1 := hr.below hB2 (Nat.le_refl _) hB2.size
  have hrw := hr2.below hB2 (Nat.le_refl _) hB2.size
  have hlt2 : w.heap.size < w2.heap.size := by have := b2.size; omega
  have HB2 := Lib.hid hB2
  clear hr hr2 b2 hB2
  by_cases hbad : 3000 < l.length
  · have hb : decide ((3000 : Int) < (l.length : Int)) = true := by simp; omega
    clear hbad
    go_wp2_with fail
    go_ret
    exact ⟨rfl, HB2.out⟩
  have hb : decide ((3000 : Int) < (l.length : Int)) = false := by simp; omega
  have n1 : (l.length : Int) ≤ 3000 := by omega
  have hcl : CellsAt w2 w.heap.size 1 s.cells.toList := by
    have := (CellsAt.of_heap hg2).part 1 18
    exact this
  go_wp2_with (with_reducible refine wpList_load_at rfl 27 _ rfl _ _ rfl s.cells.toList _ hcl Try.underlying27 rfl (by kernel_rfl) ?_)
  obtain ⟨z, hz⟩ : ∃ z, z = chk first l s := ⟨_, rfl⟩
  by_cases h0 : z = 0
  · subst h0
    obtain ⟨hS, hL, hF0, hF1, hV⟩ := chk_ok hz.symm
    refine (Ls.best_ok first a1 l c1 s w2 hr1 hz.symm).mono ?_
    rintro e w3 ⟨y, c, b, ho, rfl, hY, hb3, b3, hc0, hc1⟩
    have hyl := ho.len
    have hfit := wayTo_fit l ws hV
    have hcr : ∀ x : List Bool, x.length = l.length → (l.zip x).all fitB = true → costR first l x s = (cost s first (l.zip x), 0) := fun x hx hf => by
      unfold costR; rw [if_neg (by rw [← hz]; simp), if_neg (by simpa using hx), hf, if_pos rfl]
    have HCR := Lib.hid hcr
    have HO := Lib.hid ho
    have HF := Lib.hid hfit
    have HV := Lib.hid hV
    have HZ := Lib.hid hz
    have HYL := Lib.hid hyl
    have hB3 : Below w.heap.size w w3 := HB2.out.trans (b3.mono HB2.out.size)
    have hr3 := hr1.below b3 (Nat.le_refl _) b3.size
    have hrw3 := hrw.below b3 (Nat.le_refl _) b3.size
    have hg3 := heap_below b3 hg2 (by omega)
    have hs3 : w.heap.size < w3.heap.size := by have := b3.size; omega
    have hbl := hY.lt
    have HB3 := Lib.hid hB3
    clear hcr ho hfit hV hz hyl b3 hB3 hr1 hrw hg2 hcl hb hbad hS
    go_wp2_with fail
    go_loopw [11, 12] (fun s11 s12 wr => ∃ i : Nat, i ≤ l.length ∧ s12 = .int .i64 i ∧ wr.ownsRow w3.heap.size 4 1 s11 i ((wayTo l ws i).map Value.bool) ∧ Below w3.heap.size w3 wr) (fun _ s12 _ => l.length - (intOf s12).toNat)
    case atStart => exact ⟨0, Nat.zero_le _, rfl, World.ownsRow_nil _ _ _ _, Below.refl _ _⟩
    case round =>
      obtain ⟨i, hi, rfl, hown, hBr⟩ := hrel
      have hgr := heap_below hBr hg3 hs3
      have hcr0 : wr.cell? ⟨w.heap.size, 0, none⟩ = some (.slice a2 ws.length c2) := CellsAt.of_heap hgr 0 _ rfl
      have hrr := hr3.below hBr (Nat.le_refl _) hBr.size
      have hrwr := hrw3.below hBr (Nat.le_refl _) hBr.size
      have hsr : w.heap.size < wr.heap.size := by have := hBr.size; omega
      by_cases hlt : i < l.length
      · obtain ⟨b1, o1, ha1, hb1, hc1'⟩ := hrr.at (by intro e; simp [e] at hlt)
        obtain ⟨-, -, g2, g3, -⟩ := Gap.at (w := wr) (b := b1) (o := o1 + i * 6) (g := l[i]) (hc1' i hlt)
        have hwa : wayAt l ws i = (l[i].must || (ws.getD i false && l[i].may)) := by unfold wayAt; rw [List.getElem?_eq_getElem hlt]
        have hcase : (¬ i < ws.length ∧ wayAt l ws i = l[i].must) ∨
            (i < ws.length ∧ ∃ b2 o2, a2 = some ⟨b2, o2, none⟩ ∧ wr.cell? ⟨b2, o2 + i, none⟩ = some (.bool false) ∧ wayAt l ws i = l[i].must) ∨
            (i < ws.length ∧ ∃ b2 o2, a2 = some ⟨b2, o2, none⟩ ∧ wr.cell? ⟨b2, o2 + i, none⟩ = some (.bool true) ∧ l[i].may = false ∧ wayAt l ws i = l[i].must) ∨
            (i < ws.length ∧ ∃ b2 o2, a2 = some ⟨b2, o2, none⟩ ∧ wr.cell? ⟨b2, o2 + i, none⟩ = some (.bool true) ∧ l[i].may = true ∧ wayAt l ws i = true) := by
          by_cases hiw : i < ws.length
          · obtain ⟨b2, o2, ha2, hb2, hc2'⟩ := hrwr.at (by intro e; simp [e] at hiw)
            have cx : wr.cell? ⟨b2, o2 + i * 1, none⟩ = some (.bool ws[i]) := hc2' i hiw 0 _ rfl
            rw [Nat.mul_one] at cx
            have hwx : ws.getD i false = ws[i] := by rw [List.getD_eq_getElem?_getD, List.getElem?_eq_getElem hiw]; rfl
            have hd := hiw
            rw [hwx] at hwa
            cases hx : ws[i] with
            | false => rw [hx] at cx hwa; exact .inr (.inl ⟨hd, b2, o2, ha2, cx, by rw [hwa]; simp⟩)
            | true =>
              rw [hx] at cx hwa
              cases hm : l[i].may with
              | false => rw [hm] at hwa; exact .inr (.inr (.inl ⟨hd, b2, o2, ha2, cx, rfl, by rw [hwa]; simp⟩))
              | true => rw [hm] at hwa; exact .inr (.inr (.inr ⟨hd, b2, o2, ha2, cx, rfl, by rw [hwa]; simp⟩))
          · refine .inl ⟨hiw, ?_⟩
            rw [hwa, List.getD_eq_getElem?_getD, List.getElem?_eq_none (by omega)]; simp
        subst ha1
        have hi0 : (0 : Int) ≤ (i : Int) := by omega
        have hi1 : (i : Int) < (l.length : Int) := by omega
        clear hwa hc1' hrr hrwr hgr hg3 hr3 hrw3
        generalize l[i] = gi at *
        obtain ⟨gw, gb, gm, gy, gc, gn⟩ := gi
        dsimp only at g2 g3 hcase
        rcases hcase with ⟨d, hw⟩ | ⟨d, b2, o2, rfl, cx, hw⟩ | ⟨d, b2, o2, rfl, cx, rfl, hw⟩ | ⟨d, b2, o2, rfl, cx, rfl, hw⟩
        all_goals
          have HW := Lib.hid hw
          clear hw
          go_wp2_with (at_builtin; refine wpList_append_own _ rfl _ _ 25 rfl w3.heap.size 4 i0 (.bool false) 1 1 Try.underlying25 HI.out HZ0.out HZ1.out HZ2.out rfl (by decide) _ _ _ rfl (hown.alloc _) ⟨wr.heap.size, 0, none⟩ 1 1 [.bool (wayAt l ws i)] rfl rfl ?c1 ?c2 ?c3 ?c4 ?c5 ?_)
          case c1 =>
            intro j u hj
            match j, hj with
            | 0, hj => simp at hj; subst hj; simp [Addr.add, HW.out]
          case c2 => first | rfl | (intro u hu; simp at hu; subst hu; rfl)
          case c3 => unfold maxLen; omega
          case c4 => omega
          case c5 => have := hBr.size; simp; omega
          intro v' w1 hown' hgrow _
          have hB' : Below w3.heap.size w3 w1 := (hBr.alloc hBr.size _).grown hgrow (by have := hBr.size; simp; omega) (fun k hk => (hown.lt k hk).1)
          have hown2 : w1.ownsRow w3.heap.size 4 1 v' (i + 1) ((wayTo l ws (i + 1)).map Value.bool) := by
            rw [wayTo_succ, List.map_append]; exact hown'
          have HO2 := Lib.hid hown2
          have HB' := Lib.hid hB'
          clear hown' hgrow hown hBr hown2 hB'
          go_wp2_with fail
          go_roundw
          case rel => exact ⟨i + 1, by omega, by go_num, HO2.out, HB'.out⟩
          case measure => simp [intOf]; omega
      · obtain rfl : i = l.length := by omega
        obtain ⟨a3, c3, rfl, hl3, hrx⟩ := own_row hown
        obtain ⟨x, hx⟩ : ∃ x, x = wayTo l ws l.length := ⟨_, rfl⟩
        rw [← hx] at hrx hl3
        have hfx : (l.zip x).all fitB = true := by rw [hx]; exact HF.out
        have hq1 := Sr.costAll first a1 a3 l x c1 c3 s wr hl (by omega) hrr hrx
        rw [HCR.out x hl3 hfx, hl3] at hq1
        have HQ1 := Lib.hid hq1
        have HFX := Lib.hid hfx
        have HX := Lib.hid hl3
        have hcl4 : CellsAt wr w.heap.size 1 s.cells.toList := by
          have := (CellsAt.of_heap hgr).part 1 18
          exact this
        clear hx hfx hl3 hq1 hown hrwr hrw3 hr3 hcr0 hg3
        go_wp2_with (with_reducible refine wpList_load_at rfl 27 _ rfl _ _ rfl s.cells.toList _ hcl4 Try.underlying27 rfl (by kernel_rfl) ?_)
        refine HQ1.out.mono ?_
        rintro e w5 ⟨rfl, b5⟩
        have hgr5 := heap_below b5 hgr hsr
        have hcl5 : CellsAt w5 w.heap.size 1 s.cells.toList := by
          have := (CellsAt.of_heap hgr5).part 1 18
          exact this
        have hrr5 := hrr.below b5 (Nat.le_refl _) b5.size
        have hrx5 := hrx.below b5 (Nat.le_refl _) b5.size
        have hB5 : Below w3.heap.size w3 w5 := hBr.trans (b5.mono hBr.size)
        have hY5 : BoolBlk w5 b y := heap_below hB5 hY hY.lt
        have hq2 := Sr.costAll first a1 (some ⟨b, 0, none⟩) l y c1 l.length s w5 hl (by have := HYL.out; omega) hrr5 hY5.rowAt
        rw [HCR.out y HYL.out HO.out.fit, HYL.out, HO.out.cost] at hq2
        have HQ2 := Lib.hid hq2
        have HB5 := Lib.hid hB5
        clear hq2 hB5 hBr hgr hrr hrx hcl4 b5
        obtain ⟨d, hd⟩ : ∃ d, d = cost s first (l.zip x) := ⟨_, rfl⟩
        rw [← hd]
        have HD := Lib.hid hd
        have hdc : ¬ d < c := by have := HO.out.least x HX.out HFX.out; rw [← HD.out] at this; omega
        clear hd
        go_wp2_with (with_reducible refine wpList_load_at rfl 27 _ rfl _ _ rfl s.cells.toList _ hcl5 Try.underlying27 rfl (by kernel_rfl) ?_)
        refine HQ2.out.mono ?_
        rintro e w6 ⟨rfl, b6⟩
        have hrx6 := hrx5.below b6 (Nat.le_refl _) b6.size
        have hY6 : BoolBlk w6 b y := heap_below b6 hY5 hY5.lt
        have hB6 : Below w.heap.size w w6 := HB3.out.trans ((HB5.out.trans (b6.mono HB5.out.size)).mono HB3.out.size)
        have HB6 := Lib.hid hB6
        clear hY5 hrx5 hrr5 hgr5 hcl5 b6 hB6 hY
        have hbw6 := hY6.lt
        go_wp2_with fail
        go_loopw [18] (fun s18 wr => ∃ i : Nat, i ≤ l.length ∧ s18 = .int .i64 i ∧ (∀ q, q < i → x.getD q false = y.getD q false) ∧ ∃ n, wr = w6.drewN n) (fun s18 _ => l.length - (intOf s18).toNat)
        case atStart => exact ⟨0, Nat.zero_le _, rfl, fun q hq => by omega, 0, rfl⟩
        case round =>
          obtain ⟨i, hi, rfl, hsame, n0, rfl⟩ := hrel
          have HSM := Lib.hid hsame
          clear hsame
          by_cases hlt : i < l.length
          · obtain ⟨b3, o3, rfl, hb3w, hc3⟩ := hrx6.at (by intro e; have := HX.out; rw [e] at this; simp at this; omega)
            have hix : i < x.length := by rw [HX.out]; exact hlt
            have hiy : i < y.length := by rw [HYL.out]; exact hlt
            have cx : w6.cell? ⟨b3, o3 + i * 1, none⟩ = some (.bool x[i]) := hc3 i hix 0 _ rfl
            rw [Nat.mul_one] at cx
            have cy := hY6.cell i hiy
            have hxv : x.getD i false = x[i] := by rw [List.getD_eq_getElem?_getD, List.getElem?_eq_getElem hix]; rfl
            have hyv : y.getD i false = y[i] := by rw [List.getD_eq_getElem?_getD, List.getElem?_eq_getElem hiy]; rfl
            have i0 : (0 : Int) ≤ (i : Int) := by omega
            have i1 : (i : Int) < (l.length : Int) := by omega
            have HH := Lib.hid hrx6
            have HHY := Lib.hid hY6
            have HIX := Lib.hid hix
            have HIY := Lib.hid hiy
            clear hc3 hrx6 hY6
            generalize x[i]'_ = xv at *
            generalize y[i]'_ = yv at *
            have HXV := Lib.hid hxv
            have HYV := Lib.hid hyv
            clear hix hiy hxv hyv
            by_cases hne : xv = yv
            · subst hne
              have hvv : (xv != xv) = false := by simp
              go_wp2_with fail
              go_quiet (fail)
              go_wp2_with fail
              go_roundw
              case rel =>
                refine ⟨i + 1, by omega, by go_num, fun q hq => ?_, _, rfl⟩
                by_cases hqi : q = i
                · rw [hqi, HXV.out, HYV.out]
                · exact HSM.out q (by omega)
              case measure => simp [intOf]; omega
            · have hvv : (xv != yv) = true := by simpa using hne
              have hdd : xv = true ∨ (xv = false ∧ c < d) := by
                cases hxx : xv with
                | true => exact .inl rfl
                | false =>
                  refine .inr ⟨rfl, ?_⟩
                  rw [HD.out]
                  exact opt_first HO.out HX.out HFX.out i hlt HSM.out (by rw [HXV.out, HYV.out]; exact hne) (by rw [HXV.out, hxx])
              have hyx : yv = !xv := by
                cases xv <;> cases yv <;> simp_all
              clear hne hvv
              subst hyx
              rcases hdd with rfl | ⟨rfl, hcd⟩
              · by_cases hcd : c < d
                · go_wp2_with fail
                  go_quiet (fail)
                  go_wp2_with fail
                  go_ret
                  exact ⟨rfl, HB6.out.trans (Ytblooekephkojaa.below_drewN _ _ _)⟩
                · go_wp2_with fail
                  go_quiet (fail)
                  go_wp2_with fail
                  go_ret
                  exact ⟨rfl, HB6.out.trans (Ytblooekephkojaa.below_drewN _ _ _)⟩
              · go_wp2_with fail
                go_quiet (fail)
                go_wp2_with fail
                go_ret
                exact ⟨rfl, HB6.out.trans (Ytblooekephkojaa.below_drewN _ _ _)⟩
          · obtain rfl : i = l.length := by omega
            have hdd : d = c := by rw [HD.out]; exact opt_same HO.out HX.out HSM.out
            subst hdd
            go_wp2_with fail
            go_ret
            exact ⟨rfl, HB6.out.trans (Ytblooekephkojaa.below_drewN _ _ _)⟩
  · refine (Ls.best_bad first a1 l c1 s w2 hl hr1 z hz.symm h0).mono ?_
    rintro e w3 ⟨rfl, b3⟩
    have hz1 : (z != 0) = true := by simpa using h0
    have HZ := Lib.hid hz
    clear h0 hz
    go_wp2_with fail
    go_ret
    exact ⟨rfl, HB2.out.trans (b3.mono HB2.out.size)⟩
end Go.Proofs.Ytblooekephkojaa

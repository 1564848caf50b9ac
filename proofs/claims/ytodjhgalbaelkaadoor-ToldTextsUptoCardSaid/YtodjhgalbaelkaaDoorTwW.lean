/- told: the reader's put. -/
import Derived.Test.YtodjhgalbaelkaaDoorTwV
import Derived.Laws.IdiomStrings
import Derived.Lib.BufferRead
namespace Go.Proofs.YtodjhgalbaelkaaDoor
open Go.RowKit Go.BigFrame Go.Shelf
set_option linter.unusedVariables false

theorem conv_pre {B n cap : Nat} {a : Option Addr} {text : Bs} {w : World} (h : w.ownsRow B 5 1 (.slice a n cap) text.length (Lib.byteCells text)) (k : Nat) (hk : k ≤ text.length) :
    (convert 58 9 (.slice a k cap)).run Tryd.prog w = .ok (.string (str (text.take k))) w := by
  rcases h.2 with ⟨hv, hz⟩ | ⟨g, cap', cur, hv, hb, hg, hc, hm, hcs, htk⟩
  · simp only [Value.slice.injEq] at hv
    obtain ⟨rfl, -, rfl⟩ := hv
    obtain rfl : k = 0 := by omega
    rw [Lib.run_convert_nil_bytes w 58 9 5 0 Tryd.underlying58 Tryd.underlying5 Tryd.underlying9]
    rfl
  · simp only [Value.slice.injEq] at hv
    obtain ⟨rfl, -, rfl⟩ := hv
    have hl : (text.take k).length = k := by simp; omega
    have := run_convert_bytes_back (P := Tryd.prog) w 58 9 5 ⟨g, 0, none⟩ cap (text.take k) Tryd.underlying58 Tryd.underlying5 Tryd.underlying9 (fun j hj => by
      have := Lib.bytes_of_row hg (by rw [Nat.mul_one] at htk; exact htk) j (by omega)
      rw [List.getElem_take]
      exact this)
    rw [hl] at this
    exact this
theorem edi_set (d : List Edi) (x : Edi) (t : ByteArray) : ((d ++ [x]).flatMap Edi.f).set (d.length * 3 + 2) (.string t) = (d ++ [(⟨x.a, x.b, t⟩ : Edi)]).flatMap Edi.f := by
  rw [List.flatMap_append, List.flatMap_append, List.set_append, if_neg (by rw [flat_len 3 Edi.f (fun g => rfl)]; omega), flat_len 3 Edi.f (fun g => rfl)]
  rw [show d.length * 3 + 2 - d.length * 3 = 2 from by omega]
  simp [Edi.f]
/-- The last edit's text. -/
theorem RdC.patch {B K r g ec : Nat} {lv tv : Value} {d : List Chg} {n : ByteArray} {es0 : List Edi} {x : Edi} {last want : Int} {text : Bs} {opn : Bool} {w : World}
    (h : RdC B K r lv tv (d ++ [⟨n, some ⟨g, 0, none⟩, ec, es0 ++ [x]⟩]) last want text opn w) (t : ByteArray) :
    RdC B K r lv tv (d ++ [⟨n, some ⟨g, 0, none⟩, ec, es0 ++ [⟨x.a, x.b, t⟩]⟩]) last want text opn (w.setCell ⟨g, es0.length * 3 + 2, none⟩ (.string t)) := by
  have hc := h.new ⟨n, some ⟨g, 0, none⟩, ec, es0 ++ [x]⟩ (by simp)
  have hlen : (es0 ++ [x]).length = es0.length + 1 := by simp
  unfold Chg.ev at hc
  simp only [hlen] at hc
  obtain ⟨hKg, cur, hg⟩ := row_cells hc rfl
  have hm : Mod (fun k => k = g) w (w.setCell ⟨g, es0.length * 3 + 2, none⟩ (.string t)) := Mod.setCell (S := fun k => k = g) (Mod.refl _ w) ⟨g, es0.length * 3 + 2, none⟩ (.inr rfl) _
  have key : ∀ {X e size n : Nat} {v : Value} {xs : List Value}, e ≠ 50 → w.ownsRow X e size v n xs → (w.setCell ⟨g, es0.length * 3 + 2, none⟩ (.string t)).ownsRow X e size v n xs := fun he hx =>
    ownsRow_mod hx hm (fun k hk hkr => by
      subst hkr
      obtain ⟨_, cur', hc'⟩ := row_cells hx hk
      rw [hg] at hc'
      simp only [Option.some.injEq, Obj.cells.injEq] at hc'
      exact he hc'.2.1.symm)
  have hst := (hc.stored (es0.length * 3 + 2) (.string t)).1
  rw [edi_set] at hst
  have hrow := key (by decide) h.row
  refine ⟨hm.keep h.hd (fun e => ?_), ?_, key (by decide) h.txt, fun c' hc' => ?_, fun c' hc' => ?_, h.leB, by simpa using h.leK, h.leR⟩
  · have hh := h.hd
    rw [e, hg] at hh
    simp at hh
  · simpa [Chg.f] using hrow
  · rw [List.dropLast_concat] at hc'
    obtain ⟨h1, h2⟩ := h.old c' (by rw [List.dropLast_concat]; exact hc')
    refine ⟨ownsRow_mod h1 hm (fun k hk hs => ?_), h2⟩
    have h3 := h2 k hk
    have hK2 : K ≤ g := hKg
    subst hs
    omega
  · have : c' = ⟨n, some ⟨g, 0, none⟩, ec, es0 ++ [⟨x.a, x.b, t⟩]⟩ := by simpa using hc'.symm
    subst this
    simpa [Chg.ev] using hst

set_option maxRecDepth 100000 in
set_option maxHeartbeats 4000000 in
theorem Rd.put {B K r : Nat} {lv tv : Value} {d : List Chg} {n : ByteArray} {ea : Option Addr} {ec : Nat} {es0 : List Edi} {x : Edi} {last want : Int} {text : Bs} {opn : Bool} {w : World}
    (h : RdC B K r lv tv (d ++ [⟨n, ea, ec, es0 ++ [x]⟩]) last want text opn w) (hl : d.length ≤ 4000000) (hes : es0.length ≤ 4000000) (ta : Option Addr) (tl tc : Nat) (t : Bs)
    (hconv : ∀ u, Below w.heap.size w u → (convert 58 9 (.slice ta tl tc)).run Tryd.prog u = .ok (.string (str t)) u) :
    Calls Tryd.prog 45 #[.pointer (some ⟨r, 0, none⟩), .slice ta tl tc] w fun e w' => (∃ v, e = .returned v) ∧ Below B w w' ∧ RdC B K r lv tv (d ++ [⟨n, ea, ec, es0 ++ [⟨x.a, x.b, str t⟩]⟩]) last want text opn w' ∧ K9 w w' := by
  have hlen : (es0 ++ [x]).length = es0.length + 1 := by simp
  have hc := h.new ⟨n, ea, ec, es0 ++ [x]⟩ (by simp)
  unfold Chg.ev at hc
  simp only [hlen] at hc
  obtain ⟨g, rfl⟩ : ∃ g, ea = some ⟨g, 0, none⟩ := by
    rcases hc.2 with ⟨_, h2⟩ | ⟨g, cap', cur, h1, _⟩
    · omega
    · simp only [Value.slice.injEq] at h1; exact ⟨g, h1.1⟩
  have hKg := (row_cells hc rfl).1
  obtain ⟨G, cap, rfl, hG, -, -⟩ := h.last
  have hdl : (d.length : Int) ≤ 4000000 := by omega
  have hel : (es0.length : Int) ≤ 4000000 := by omega
  have H := Lib.hid h
  have HC := Lib.hid hc
  have HCONV := Lib.hid hconv
  have u0 : ∀ u : Ext w, u.w.cell? ⟨r, 0, none⟩ = some (.slice (some ⟨G, 0, none⟩) (d.length + 1) cap) := fun u => (h.on u.below).cell.1
  have u1 : ∀ u : Ext w, u.w.cell? ⟨G, d.length * 2 + 1, none⟩ = some (.slice (some ⟨g, 0, none⟩) (es0.length + 1) ec) := fun u => by
    obtain ⟨G', cap', e, -, -, g1⟩ := (h.on u.below).last
    simp only [Value.slice.injEq, Option.some.injEq, Addr.mk.injEq, and_true] at e
    obtain ⟨rfl, -, rfl⟩ := e
    unfold Chg.ev at g1
    simpa only [hlen] using g1
  clear h hc hconv hlen hl hes
  go_enter Tryd.func45, Tryd.ntmps45
  go_wp2_with fail
  refine wp_region_quiet (C := fun w' => ∃ u : Ext w, w' = u.w) (by kernel_rfl) (by kernel_rfl) (Ext.drew w) ?_
  dsimp only []
  repeat (go_big_quiet_step (fail))
  refine wpQuiet_nil ?_
  rintro w' ⟨u, rfl⟩
  have HU := Lib.hid u.below
  have hcv := HCONV.out _ u.below
  clear u0 u1
  generalize u.w = uw at *
  clear u
  have H2 := Lib.hid (H.out.on HU.out)
  have hc2 := own_on HC.out HU.out
  have k0 : ∃ v0, uw.cell? ⟨g, es0.length * 3 + 2, none⟩ = some v0 := by
    have hx := hc2.cellAt (es0.length * 3 + 2) (by omega)
    have hlt : es0.length * 3 + 2 < ((es0 ++ [x]).flatMap Edi.f).length := by rw [flat_len 3 Edi.f (fun g => rfl)]; simp; omega
    exact ⟨_, hx.trans (List.getElem?_eq_getElem hlt)⟩
  obtain ⟨v0, k0⟩ := k0
  have z0 := hc2.frozenAt (es0.length * 3 + 2)
  obtain ⟨_, curg, hgc⟩ := row_cells hc2 rfl
  have H99 := Lib.hid ((K9.of_below HU.out).set hgc (by decide) (es0.length * 3 + 2) (.string (str t)))
  clear hgc
  clear hc2
  go_wp2_with fail
  go_end0
  exact ⟨⟨_, rfl⟩, (HU.out.mono H.out.B_le).setCell (p := ⟨g, es0.length * 3 + 2, none⟩) (Nat.le_trans H.out.leB hKg) _, H2.out.patch (str t), H99.out⟩
end Go.Proofs.YtodjhgalbaelkaaDoor

/- The document's answer for told: Names. -/
import Derived.Test.YtodjhgalbaelkaaDoorTrD
namespace Go.Proofs.YtodjhgalbaelkaaDoor
open Go.RowKit Go.BigFrame Go.Shelf
set_option linter.unusedVariables false

theorem parts_slash : ∀ (u r : Bs), (47 : UInt8) ∉ u → parts (u ++ 47 :: r) = u :: parts r
  | [], r, _ => by simp [parts_cons]
  | c :: u, r, h => by
    have hc : c ≠ 47 := fun e => h (by simp [e])
    rw [List.cons_append, parts_cons, if_neg hc, parts_slash u r (fun hm => h (List.mem_cons_of_mem _ hm))]
theorem parts_one : ∀ (u : Bs), (47 : UInt8) ∉ u → parts u = [u]
  | [], _ => rfl
  | c :: u, h => by
    have hc : c ≠ 47 := fun e => h (by simp [e])
    rw [parts_cons, if_neg hc, parts_one u (fun hm => h (List.mem_cons_of_mem _ hm))]
theorem isPath_bad {l x : Bs} (hx : x ∈ parts l) (hn : isName x = false) : isPath l = false := by
  unfold isPath
  have : (parts l).all isName = false := by
    rw [List.all_eq_false]; exact ⟨x, hx, by simp [hn]⟩
  rw [this]; simp
theorem isName_byte {x : Bs} {c : UInt8} (hc : c ∈ x) (h : okc c = false) : isName x = false := by
  rw [isName_eq]
  have : x.all okc = false := by rw [List.all_eq_false]; exact ⟨c, hc, by simp [h]⟩
  rw [this]; simp
/-- Amid Names: xs are the names so far; another one begins at j. -/
def NmMid (s : ByteArray) (xs : List ByteArray) (j i : Nat) : Prop := j ≤ i ∧ i ≤ s.size ∧ (betw (dl s) j i).all okc = true ∧ parts (dl s) = xs.map dl ++ parts ((dl s).drop j) ∧ (xs.map dl).all isName = true
def NmEnd (s : ByteArray) (xs : List ByteArray) (i : Nat) : Prop := i = s.size + 1 ∧ parts (dl s) = xs.map dl ∧ (xs.map dl).all isName = true
theorem okc_not {u : Bs} (h : u.all okc = true) : (47 : UInt8) ∉ u := fun hm => by
  have := List.all_eq_true.1 h 47 hm
  revert this; decide
theorem nm_at {s : ByteArray} {xs : List ByteArray} {j i : Nat} {x : ByteArray} (h : NmMid s xs j i) (hx : dl x = betw (dl s) j i) :
    (i < s.size → (dl s)[i]? = some 47 → parts (dl s) = xs.map dl ++ dl x :: parts ((dl s).drop (i + 1))) ∧ (i = s.size → parts (dl s) = xs.map dl ++ [dl x]) ∧ (dl x).all okc = true := by
  obtain ⟨h1, h2, h3, h4, h5⟩ := h
  refine ⟨fun hlt hb => ?_, fun he => ?_, by rw [hx]; exact h3⟩
  · have hlt' : i < (dl s).length := by rw [← size_dl]; exact hlt
    have hb' : (dl s)[i] = 47 := by rw [List.getElem?_eq_getElem hlt'] at hb; exact Option.some.inj hb
    rw [h4, betw_drop (l := dl s) h1, List.drop_eq_getElem_cons hlt', hb', parts_slash _ _ (okc_not h3), hx]
  · subst he
    have := betw_drop (l := dl s) h1
    rw [show (dl s).drop s.size = [] from List.drop_eq_nil_iff.2 (by rw [← size_dl]; exact Nat.le_refl _), List.append_nil] at this
    rw [h4, this, parts_one _ (okc_not h3), hx]
theorem nm_name {x : Bs} (h : x.all okc = true) : isName x = !(x == [] || decide (32 < x.length) || x == [46] || x == [46, 46]) := by
  rw [isName_eq, h, Bool.and_true]
def NmsPost (s : ByteArray) (w : World) (e : Ending) (w' : World) : Prop := (∃ v, e = .returned (.tuple #[v, .bool (isPath (dl s))])) ∧ Below w.heap.size w w'

set_option maxRecDepth 100000 in
set_option maxHeartbeats 8000000 in
theorem Rf.names (s : ByteArray) (w : World) (hs : s.size ≤ 1000000000) : Calls Tryd.prog 32 #[.string s] w (NmsPost s w) := by
  obtain ⟨i0, hi, hz0, hz1, hz2⟩ := info_parts infoStr
  have HI := Lib.hid hi
  have HZ0 := Lib.hid hz0
  have HZ1 := Lib.hid hz1
  have HZ2 := Lib.hid hz2
  clear hi hz0 hz1 hz2
  obtain ⟨R, hR⟩ : ∃ R, isPath (dl s) = R := ⟨_, rfl⟩
  have HPOST := Lib.hid (fun (e : Ending) (w' : World) (v : Value) (he : e = .returned (.tuple #[v, .bool R])) (hb : Below w.heap.size w w') => show NmsPost s w e w' from ⟨⟨v, by rw [hR]; exact he⟩, hb⟩)
  have HR := Lib.hid hR
  clear hR
  go_enter Tryd.func32, Tryd.ntmps32
  go_wp2_with fail
  go_loopw [4, 5, 6] (fun s4 s5 s6 wr => ∃ (xs : List ByteArray) (j i : Nat), s5 = .int .i64 j ∧ s6 = .int .i64 i ∧ xs.length ≤ i ∧ wr.ownsRow w.heap.size 9 1 s4 xs.length (xs.map Value.string) ∧ Below w.heap.size w wr ∧ (NmMid s xs j i ∨ NmEnd s xs i)) (fun _ _ s6 _ => s.size + 2 - (intOf s6).toNat)
  case atStart => exact ⟨[], 0, 0, rfl, rfl, by simp, World.ownsRow_nil _ _ _ _, Below.refl _ _, .inl ⟨by omega, by omega, by simp [betw], by simp, by simp⟩⟩
  case round =>
    obtain ⟨xs, j, i, rfl, rfl, hxl, hown, hbel, hst⟩ := hrel
    obtain ⟨oa, oc, rfl⟩ := row_shape hown
    have hsz := hbel.size
    have HOWN := Lib.hid hown
    have HBEL := Lib.hid hbel
    clear hown hbel
    rcases hst with hmid | ⟨rfl, hend, hall⟩
    · obtain ⟨x, hx⟩ : ∃ x, x = s.extract j i := ⟨_, rfl⟩
      have hdx : dl x = betw (dl s) j i := by rw [hx, ext_betw, dl_str]
      obtain ⟨hp1, hp2, hp3⟩ := nm_at hmid hdx
      have hji : (j : Int) ≤ (i : Int) := by have := hmid.1; omega
      have hii : (i : Int) ≤ (s.size : Int) := by have := hmid.2.1; omega
      by_cases hlt : i < s.size
      · by_cases hsl : s[i].toNat = 47
        · have hparts := hp1 hlt (by rw [List.getElem?_eq_getElem (by rw [← size_dl]; exact hlt), dl_at hlt]; congr 1; exact UInt8.toNat_inj.1 hsl)
          have hmem : dl x ∈ parts (dl s) := by rw [hparts]; simp
          have hsl' : ((s[i].toNat : Int) == 47) = true := by rw [beq_iff_eq]; omega
          have hnm := nm_name hp3
          have hszx := size_dl x
          have hall := hmid.2.2.2.2
          have HX := Lib.hid hx
          have hbadR : isName (dl x) = false → R = false := fun h => by rw [← HR.out]; exact isPath_bad hmem h
          by_cases g1 : x.size < 1
          · have g1' : (x.size : Int) < 1 := by omega
            have hb := hbadR (by rw [hnm]; have : dl x = [] := List.length_eq_zero_iff.1 (by rw [← hszx]; omega); rw [this]; rfl)
            subst hb
            clear g1 hbadR hnm hmem hparts hp1 hp2 hp3 hdx hx hmid hall hszx
            go_wp2_with (rw [← HX.out])
            go_ret2
            exact HPOST.out _ _ _ rfl HBEL.out
          have g1' : ¬ (x.size : Int) < 1 := by omega
          by_cases g2 : 32 < x.size
          · have g2' : (32 : Int) < (x.size : Int) := by omega
            have hb := hbadR (by rw [hnm, ← hszx]; simp [g2])
            subst hb
            clear g1 g2 hbadR hnm hmem hparts hp1 hp2 hp3 hdx hx hmid hall hszx
            go_wp2_with (rw [← HX.out])
            go_ret2
            exact HPOST.out _ _ _ rfl HBEL.out
          have g2' : ¬ (32 : Int) < (x.size : Int) := by omega
          by_cases g3 : dl x = [46]
          · have g3' : (x.toList == [46]) = true := by rw [Lib.toList_data, show x.data.toList = dl x from rfl, g3]; rfl
            have hb := hbadR (by rw [hnm, g3]; simp)
            subst hb
            clear g1 g2 g3 hbadR hnm hmem hparts hp1 hp2 hp3 hdx hx hmid hall hszx
            go_wp2_with (rw [← HX.out])
            go_ret2
            exact HPOST.out _ _ _ rfl HBEL.out
          have g3' : (x.toList == [46]) = false := by rw [Lib.toList_data, show x.data.toList = dl x from rfl, beq_eq_false_iff_ne]; exact g3
          by_cases g4 : dl x = [46, 46]
          · have g4' : (x.toList == [46, 46]) = true := by rw [Lib.toList_data, show x.data.toList = dl x from rfl, g4]; rfl
            have hb := hbadR (by rw [hnm, g4]; simp)
            subst hb
            clear g1 g2 g3 g4 hbadR hnm hmem hparts hp1 hp2 hp3 hdx hx hmid hall hszx
            go_wp2_with (rw [← HX.out])
            go_ret2
            exact HPOST.out _ _ _ rfl HBEL.out
          have g4' : (x.toList == [46, 46]) = false := by rw [Lib.toList_data, show x.data.toList = dl x from rfl, beq_eq_false_iff_ne]; exact g4
          have hgood : isName (dl x) = true := by
            rw [hnm, ← hszx]
            have e1 : (dl x == []) = false := by rw [beq_eq_false_iff_ne]; intro e; exact absurd (show x.size = 0 by rw [hszx, e]; rfl) (by omega)
            have e2 : (dl x == [46]) = false := by rw [beq_eq_false_iff_ne]; exact g3
            have e3 : (dl x == [46, 46]) = false := by rw [beq_eq_false_iff_ne]; exact g4
            rw [e1, e2, e3]
            simp [g2]
          have hnext : NmMid s (xs ++ [x]) (i + 1) (i + 1) := ⟨by omega, by omega, by rw [betw_self]; rfl, by rw [hparts, List.map_append, List.append_assoc]; rfl, by rw [List.map_append, List.all_append, hall]; simp [hgood]⟩
          have HNX := Lib.hid hnext
          clear hnext hsl
          obtain ⟨W, hW⟩ : ∃ W, W = wr.alloc (.cells #[.string x] 9) := ⟨_, rfl⟩
          have hbW : Below wr.heap.size wr W := by rw [hW]; exact below_alloc _ _
          have hlit : W.heap[wr.heap.size]? = some (.cells #[.string x] 9 (0, 0)) := by rw [hW]; exact heap_alloc_new _ _
          have hownW := own_on HOWN.out hbW
          have hWs := hbW.size
          have HW := Lib.hid hW
          have HLIT := Lib.hid hlit
          have HOWNW := Lib.hid hownW
          have HBW := Lib.hid (HBEL.out.trans (hbW.mono hsz))
          clear hW hbW hlit hownW g1 g2 g3 g4 hbadR hnm hmem hparts hp1 hp2 hp3 hdx hx hmid hall hszx hgood
          go_wp2_with (first | (at_builtin; rw [← HW.out]; refine wpList_append_own _ rfl _ _ 70 rfl w.heap.size 9 i0 (.string ⟨#[]⟩) 1 16 Tryd.underlying70 HI.out HZ0.out HZ1.out HZ2.out rfl (by decide) _ _ _ rfl HOWNW.out ⟨wr.heap.size, 0, none⟩ 1 1 [.string x] rfl rfl ?c1 ?c2 ?c3 ?c4 ?c5 ?_) | rw [← HX.out])
          case c1 => intro k u hu; have := (CellsAt.of_heap HLIT.out) k u (by simpa using hu); first | (rw [addr_add]; exact this) | (simpa using this)
          case c2 => first | rfl | (intro u hu; simp at hu; rcases hu with rfl | rfl <;> rfl)
          case c3 => unfold maxLen; omega
          case c4 => omega
          case c5 => omega
          intro v' w6 hown' hgrow _
          obtain ⟨a', c', rfl⟩ := row_shape hown'
          have HOWN6 := Lib.hid hown'
          have HB6 : Hid (Below w.heap.size w w6) := Lib.hid (HBW.out.grown hgrow (by omega) (fun k hk => (row_cells HOWNW.out hk).1))
          clear hown' hgrow
          go_wp2_with fail
          go_roundw
          case rel => exact ⟨xs ++ [x], i + 1, i + 1, by go_num, by go_num, by simp; omega, by simpa using HOWN6.out, HB6.out, .inl HNX.out⟩
          case measure => first | (simp [intOf]; done) | (simp [intOf]; omega)
        · have hsl' : ((s[i].toNat : Int) == 47) = false := by rw [beq_eq_false_iff_ne]; omega
          by_cases hlo : s[i].toNat < 33 ∨ 126 < s[i].toNat
          · have hbad : R = false := by
              rw [← HR.out]
              have hok : okc s[i] = false := by
                unfold okc
                rcases hlo with h | h
                · have : decide (33 ≤ s[i].toNat) = false := decide_eq_false (by omega)
                  rw [this]; rfl
                · have : decide (s[i].toNat ≤ 126) = false := decide_eq_false (by omega)
                  rw [this]; simp
              have hmem : s[i] ∈ dl s := by
                rw [← dl_at hlt]; exact List.getElem_mem _
              rcases parts_mem _ _ hmem with h | ⟨y, hy, hc⟩
              · rw [h] at hsl; exact absurd rfl hsl
              · exact isPath_bad hy (isName_byte hc hok)
            clear hp1 hp2 hp3 hdx hx hmid
            subst hbad
            by_cases h33 : s[i].toNat < 33
            · have h33' : (s[i].toNat : Int) < 33 := by omega
              clear hlo h33 hsl
              go_wp2_with fail
              go_ret2
              exact HPOST.out _ _ _ rfl HBEL.out
            · have h33' : ¬ (s[i].toNat : Int) < 33 := by omega
              have h126 : (126 : Int) < (s[i].toNat : Int) := by omega
              clear hlo h33 hsl
              go_wp2_with fail
              go_ret2
              exact HPOST.out _ _ _ rfl HBEL.out
          · have h33' : ¬ (s[i].toNat : Int) < 33 := by omega
            have h126 : ¬ (126 : Int) < (s[i].toNat : Int) := by omega
            have hmid2 : NmMid s xs j (i + 1) := by
              obtain ⟨h1, h2, h3, h4, h5⟩ := hmid
              refine ⟨by omega, by omega, ?_, h4, h5⟩
              rw [betw_succ h1 (by rw [← size_dl]; exact hlt), dl_at hlt, List.all_append, h3]
              have : okc s[i] = true := by
                unfold okc
                simp only [Bool.and_eq_true, decide_eq_true_eq]
                omega
              simp [this]
            have HM2 := Lib.hid hmid2
            clear hmid hmid2 hlo hsl hp1 hp2 hp3 hdx hx
            go_wp2_with fail
            go_roundw
            case rel => exact ⟨xs, j, i + 1, rfl, by go_num, by omega, HOWN.out, HBEL.out, .inl HM2.out⟩
            case measure => simp [intOf]; omega
      · obtain rfl : i = s.size := by omega
        have hparts := hp2 rfl
        have hmem : dl x ∈ parts (dl s) := by rw [hparts]; simp
        have hnm := nm_name hp3
        have hszx := size_dl x
        have hall := hmid.2.2.2.2
        have HX := Lib.hid hx
        have hbadR : isName (dl x) = false → R = false := fun h => by rw [← HR.out]; exact isPath_bad hmem h
        by_cases g1 : x.size < 1
        · have g1' : (x.size : Int) < 1 := by omega
          have hb := hbadR (by rw [hnm]; have : dl x = [] := List.length_eq_zero_iff.1 (by rw [← hszx]; omega); rw [this]; rfl)
          subst hb
          clear g1 hbadR hnm hmem hparts hp1 hp2 hp3 hdx hx hmid hall hszx
          go_wp2_with (rw [← HX.out])
          go_ret2
          exact HPOST.out _ _ _ rfl HBEL.out
        have g1' : ¬ (x.size : Int) < 1 := by omega
        by_cases g2 : 32 < x.size
        · have g2' : (32 : Int) < (x.size : Int) := by omega
          have hb := hbadR (by rw [hnm, ← hszx]; simp [g2])
          subst hb
          clear g1 g2 hbadR hnm hmem hparts hp1 hp2 hp3 hdx hx hmid hall hszx
          go_wp2_with (rw [← HX.out])
          go_ret2
          exact HPOST.out _ _ _ rfl HBEL.out
        have g2' : ¬ (32 : Int) < (x.size : Int) := by omega
        by_cases g3 : dl x = [46]
        · have g3' : (x.toList == [46]) = true := by rw [Lib.toList_data, show x.data.toList = dl x from rfl, g3]; rfl
          have hb := hbadR (by rw [hnm, g3]; simp)
          subst hb
          clear g1 g2 g3 hbadR hnm hmem hparts hp1 hp2 hp3 hdx hx hmid hall hszx
          go_wp2_with (rw [← HX.out])
          go_ret2
          exact HPOST.out _ _ _ rfl HBEL.out
        have g3' : (x.toList == [46]) = false := by rw [Lib.toList_data, show x.data.toList = dl x from rfl, beq_eq_false_iff_ne]; exact g3
        by_cases g4 : dl x = [46, 46]
        · have g4' : (x.toList == [46, 46]) = true := by rw [Lib.toList_data, show x.data.toList = dl x from rfl, g4]; rfl
          have hb := hbadR (by rw [hnm, g4]; simp)
          subst hb
          clear g1 g2 g3 g4 hbadR hnm hmem hparts hp1 hp2 hp3 hdx hx hmid hall hszx
          go_wp2_with (rw [← HX.out])
          go_ret2
          exact HPOST.out _ _ _ rfl HBEL.out
        have g4' : (x.toList == [46, 46]) = false := by rw [Lib.toList_data, show x.data.toList = dl x from rfl, beq_eq_false_iff_ne]; exact g4
        have hgood : isName (dl x) = true := by
          rw [hnm, ← hszx]
          have e1 : (dl x == []) = false := by rw [beq_eq_false_iff_ne]; intro e; exact absurd (show x.size = 0 by rw [hszx, e]; rfl) (by omega)
          have e2 : (dl x == [46]) = false := by rw [beq_eq_false_iff_ne]; exact g3
          have e3 : (dl x == [46, 46]) = false := by rw [beq_eq_false_iff_ne]; exact g4
          rw [e1, e2, e3]
          simp [g2]
        have hnext : NmEnd s (xs ++ [x]) (s.size + 1) := ⟨rfl, by rw [hparts, List.map_append]; rfl, by rw [List.map_append, List.all_append, hall]; simp [hgood]⟩
        have HNX := Lib.hid hnext
        clear hnext
        obtain ⟨W, hW⟩ : ∃ W, W = wr.alloc (.cells #[.string x] 9) := ⟨_, rfl⟩
        have hbW : Below wr.heap.size wr W := by rw [hW]; exact below_alloc _ _
        have hlit : W.heap[wr.heap.size]? = some (.cells #[.string x] 9 (0, 0)) := by rw [hW]; exact heap_alloc_new _ _
        have hownW := own_on HOWN.out hbW
        have hWs := hbW.size
        have HW := Lib.hid hW
        have HLIT := Lib.hid hlit
        have HOWNW := Lib.hid hownW
        have HBW := Lib.hid (HBEL.out.trans (hbW.mono hsz))
        clear hW hbW hlit hownW g1 g2 g3 g4 hbadR hnm hmem hparts hp1 hp2 hp3 hdx hx hmid hall hszx hgood
        go_wp2_with (first | (at_builtin; rw [← HW.out]; refine wpList_append_own _ rfl _ _ 70 rfl w.heap.size 9 i0 (.string ⟨#[]⟩) 1 16 Tryd.underlying70 HI.out HZ0.out HZ1.out HZ2.out rfl (by decide) _ _ _ rfl HOWNW.out ⟨wr.heap.size, 0, none⟩ 1 1 [.string x] rfl rfl ?c1 ?c2 ?c3 ?c4 ?c5 ?_) | rw [← HX.out])
        case c1 => intro k u hu; have := (CellsAt.of_heap HLIT.out) k u (by simpa using hu); first | (rw [addr_add]; exact this) | (simpa using this)
        case c2 => first | rfl | (intro u hu; simp at hu; rcases hu with rfl | rfl <;> rfl)
        case c3 => unfold maxLen; omega
        case c4 => omega
        case c5 => omega
        intro v' w6 hown' hgrow _
        obtain ⟨a', c', rfl⟩ := row_shape hown'
        have HOWN6 := Lib.hid hown'
        have HB6 : Hid (Below w.heap.size w w6) := Lib.hid (HBW.out.grown hgrow (by omega) (fun k hk => (row_cells HOWNW.out hk).1))
        clear hown' hgrow
        go_wp2_with fail
        go_roundw
        case rel => exact ⟨xs ++ [x], s.size + 1, s.size + 1, by go_num, by go_num, by simp; omega, by simpa using HOWN6.out, HB6.out, .inr HNX.out⟩
        case measure => first | (simp [intOf]; done) | (simp [intOf]; omega)
    · have hres : R = decide (xs.length ≤ 20) := by
        rw [← HR.out]
        unfold isPath
        rw [hend, hall, List.length_map]; simp
      have HRES := Lib.hid hres
      clear hend hall hres
      go_wp2_with fail
      go_ret2
      exact HPOST.out _ _ (.slice oa xs.length oc) (by rw [HRES.out]; simp; omega) HBEL.out
end Go.Proofs.YtodjhgalbaelkaaDoor

/- the document: Marks. -/
import Derived.Test.YtbnhefibpjldfaaGreatDoorPyK
import Derived.Test.YtbnhefibpjldfaaGreatDoorPyM
import Derived.Test.YtbnhefibpjldfaaGreatDoorPyC
import Derived.Deep.CutBlock
namespace Go.Proofs.YtbnhefibpjldfaaGreatDoor
open Go.RowKit Go.BigFrame Go.Shelf
set_option linter.unusedVariables false

/-- The ranges, and the error. -/
def MksPost (R : Nat × List (Nat × Nat)) (w : World) (e : Ending) (w' : World) : Prop := Below w.heap.size w w' ∧ ∃ v, SlV 2 rgC w' v R.2 ∧ e = .returned (.tuple #[v, .int .i64 R.1])
theorem SlV.none {α : Type} (n : Nat) (f : α → List Value) (w : World) : SlV n f w (.slice none 0 0) [] := ⟨_, 0, rfl, Nat.le_refl _, fun _ => ⟨rfl, rfl⟩, .inl rfl⟩
theorem scan_ends {s : Bs} (h : (scanP s).1 = 0) : s.length ≤ 65536 ∧ (s.length = 0 ∨ s.getLast? = some 10) := by
  have hc : chk s = 0 := by
    unfold scanP at h
    split at h
    · exact h
    · omega
  unfold chk at hc
  by_cases h1 : 65536 < s.length
  · rw [if_pos h1] at hc; cases hc
  rw [if_neg h1, badEnd_ref] at hc
  refine ⟨by omega, ?_⟩
  by_cases h0 : s.length = 0
  · exact .inl h0
  · right
    rw [decide_eq_true (by omega), Bool.true_and] at hc
    split at hc
    · cases hc
    · rename_i hb
      simp only [Bool.or_eq_true, not_or, Bool.not_eq_true] at hb
      simpa using hb.2
theorem ord_mem {n : Nat} : ∀ (l : List Tk) (b : Nat), Ord n b l → ∀ x ∈ l, x.lo < x.hi ∧ x.hi ≤ n
  | [], _, _, x, hx => by cases hx
  | y :: r, b, ⟨h1, h2, h3, h4⟩, x, hx => by
    rcases List.mem_cons.1 hx with rfl | hx
    · exact ⟨h2, h3⟩
    · exact ord_mem r _ h4 x hx
theorem nlc_mono (s : Bs) {p q : Nat} (h : p ≤ q) : nlc s p ≤ nlc s q := by
  unfold nlc
  exact ((List.take_sublist_take_left h)).count_le 10
theorem nlc_le (s : Bs) (p : Nat) : nlc s p ≤ p := by
  unfold nlc
  exact Nat.le_trans List.count_le_length (by rw [List.length_take]; omega)
theorem prot_at (s : Bs) (T : List Tk) {i : Nat} (h : i < T.length) (off : Bool) (f : Nat) (S : List Nat) : prot s (T.drop i) off f S =
    if (if T[i].kind = 8 then markP T[i].text else 0) = 0 then prot s (T.drop (i + 1)) off f S
    else if off = decide ((if T[i].kind = 8 then markP T[i].text else 0) = 1) then none
    else if (if T[i].kind = 8 then markP T[i].text else 0) = 1 then prot s (T.drop (i + 1)) true (nlc s T[i].lo) S
    else prot s (T.drop (i + 1)) false f (S ++ upto' f (nlc s (T[i].hi - 1) + 1)) := by
  rw [List.drop_eq_getElem_cons h]; rfl
theorem upto_more {S : List Nat} {f k : Nat} (h : f ≤ k) (j : Nat) : (S ++ upto' f (k + 1)).contains j = if j = k then true else (S ++ upto' f k).contains j := by
  rw [Bool.eq_iff_iff]
  simp only [upto', List.contains_iff_mem, List.mem_append, List.mem_range']
  by_cases e : j = k
  · subst e
    simp only [if_true, iff_true]
    exact .inr ⟨j - f, by omega, by omega⟩
  · rw [if_neg e]
    simp only [List.contains_iff_mem, List.mem_append, List.mem_range']
    constructor
    · rintro (h1 | ⟨i, h1, h2⟩)
      · exact .inl h1
      · exact .inr ⟨i, by omega, h2⟩
    · rintro (h1 | ⟨i, h1, h2⟩)
      · exact .inl h1
      · exact .inr ⟨i, by omega, h2⟩
theorem upto_none {f k : Nat} (h : k ≤ f) : upto' f k = [] := by unfold upto'; rw [Nat.sub_eq_zero_of_le h]; rfl
theorem upto_lt {S : List Nat} {f k n : Nat} (h : ∀ x ∈ S, x < n) (hk : k ≤ n) : ∀ x ∈ S ++ upto' f k, x < n := by
  intro x hx
  rcases List.mem_append.1 hx with hx | hx
  · exact h x hx
  · unfold upto' at hx
    obtain ⟨i, h1, h2⟩ := List.mem_range'.1 hx
    omega
theorem BlkB.below {w w' : World} {b n : Nat} {mem : Nat → Bool} (h : BlkB w b n mem) (hb : Below w.heap.size w w') : BlkB w' b n mem := by
  obtain ⟨cs, h1, h2⟩ := h
  exact ⟨cs, heap_below hb h1 (Array.getElem?_eq_some_iff.1 h1).1, h2⟩
theorem rmark_call (x : Bs) (w : World) (m : Nat) (hs : x.length ≤ 1000000000) (hc : isCom x) (h : markP x = m) : Calls Tryz.prog 13 #[.string (str x)] w fun e w' => e = .returned (.int .i64 m) ∧ Below w.heap.size w w' := by
  subst h
  have := Rf.mark (str x) w (by rw [str_size]; exact hs) (by rw [dl_str]; exact hc)
  rwa [dl_str] at this
theorem rline_call (s : ByteArray) (p : Int) (n q : Nat) (w : World) (hp : p = n) (hn : n ≤ s.size) (hs : s.size ≤ 1000000000) (h : nlc (dl s) n = q) : Calls Tryz.prog 14 #[.string s, .int .i64 p] w fun e w' => e = .returned (.int .i64 q) ∧ w' = w := by
  subst hp h
  exact Rf.line s n w hn hs
theorem mark_le (x : Bs) : markP x ≤ 2 := by
  unfold markP markW
  repeat' split
  all_goals omega
theorem make_bools' (n m : Nat) (i : Int) (hi : i = m) (hm : m ≤ 1000000) (w : World) : (Instr.makeSlice 38 (.int .i64 i) (.int .i64 i)).run Tryz.prog w = .ok (.slice (some ⟨w.heap.size, 0, none⟩) m m) (w.alloc (.cells (zb m) 4)) := by
  subst hi; exact make_bools m hm w
set_option maxRecDepth 100000 in
set_option maxHeartbeats 8000000 in
theorem Rf.marks (s : ByteArray) (w : World) (hs : s.size ≤ 60000) : Calls Tryz.prog 5 #[.string s] w (MksPost (marksP (dl s)) w) := by
  obtain ⟨E, T, hET⟩ : ∃ E T, scanP (dl s) = (E, T) := ⟨_, _, rfl⟩
  obtain ⟨V, hV⟩ : ∃ V, marksP (dl s) = V := ⟨_, rfl⟩
  rw [hV]
  have S1 := Lib.hid (fun W : World => rscan_call s W (by omega) E T hET)
  unfold marksP at hV
  rw [hET] at hV
  simp only at hV
  by_cases hE0 : E = 0
  · subst hE0
    obtain ⟨hsz, hend⟩ := scan_ends (s := dl s) (by rw [hET])
    rw [← size_dl] at hsz hend
    rw [if_neg (by simp)] at hV
    obtain ⟨PR, hPR⟩ : ∃ PR, prot (dl s) T false 0 [] = PR := ⟨_, rfl⟩
    rw [hPR] at hV
    have hnn : PR = none → V = (210, []) := by rintro rfl; exact hV.symm
    have hss : ∀ S, PR = some S → V = (0, rgs (fun i => S.contains i) none 0 65536) := by rintro S rfl; exact hV.symm
    have hTl := scan_len (dl s)
    have hct := scan_com (dl s)
    have htx := scan_text (dl s)
    have hor := ord_mem _ _ (scan_ord (dl s))
    rw [hET, ← size_dl] at hTl htx hor
    rw [hET] at hct
    simp only at hTl htx hor hct
    have HNN := Lib.hid hnn
    have HSS := Lib.hid hss
    have HPR := Lib.hid hPR
    have HCT := Lib.hid hct
    have HTX := Lib.hid htx
    have HOR := Lib.hid hor
    obtain ⟨N, hN⟩ : ∃ N, nlc (dl s) s.size = N := ⟨_, rfl⟩
    have hNs := nlc_le (dl s) s.size
    rw [hN] at hNs
    have HN := Lib.hid hN
    have hL := fun W : World => Rf.lines12 s W (by omega) hend
    rw [hN] at hL
    have HL := Lib.hid hL
    obtain ⟨N1, hN1⟩ : ∃ N1, N + 1 = N1 := ⟨_, rfl⟩
    have hmk : ∀ wx, (Instr.makeSlice 38 (.int .i64 ((N : Int) + 1)) (.int .i64 ((N : Int) + 1))).run Tryz.prog wx = .ok (.slice (some ⟨wx.heap.size, 0, none⟩) N1 N1) (wx.alloc (.cells (zb N1) 4)) := make_bools' N N1 _ (by omega) (by omega)
    obtain ⟨Z, hZ⟩ : ∃ Z, zb N1 = Z := ⟨_, rfl⟩
    have hz0 : Z.size = N1 := by rw [← hZ, zb_size]
    have hz1 : ∀ i, i < N1 → Z[i]? = some (.bool false) := fun i hi => by rw [← hZ, zb_at hi]
    rw [hZ] at hmk
    have HZ0 := Lib.hid hz0
    have HZ1 := Lib.hid hz1
    clear hET hV hnn hss hPR hct htx hor hN hL hend hZ hz0 hz1
    go_enter Tryz.func5, Tryz.ntmps5
    go_wp2_with fail
    refine (S1.out _).mono ?_
    rintro e w1 ⟨hb1, v1, hv1, rfl⟩
    obtain ⟨a1, c1, rfl, h11, h12, h13⟩ := hv1
    have HV1 := Lib.hid h13
    have HB1 := Lib.hid hb1
    have hws1 := hb1.size
    clear hb1 h11 h12 h13 S1
    go_wp2_with fail
    refine (HL.out _).mono ?_
    rintro e w3 ⟨a2, c2, rfl, hb3⟩
    have HROW := Lib.hid (show RowAt 5 tkC w3 a1 T from HV1.out.below hb3 (Nat.le_refl _) hb3.size)
    have hB3 := HB1.out.trans (hb3.mono hws1)
    have hws3 := hB3.size
    have HB3 := Lib.hid hB3
    clear hb3 hB3
    go_wp2_with fail
    go_loopw [8, 9, 10] (fun s8 s9 s10 wr => ∃ (i first : Nat) (off : Bool) (S : List Nat), s8 = .bool off ∧ s9 = .int .i64 first ∧ s10 = .int .i64 i ∧ first ≤ N ∧ (i ≤ T.length ∧ PR = prot (dl s) (T.drop i) off first S ∨ i = T.length + 1 ∧ PR = some S) ∧ (∀ x ∈ S, x < N1) ∧ BlkB wr w3.heap.size N1 (fun j => S.contains j) ∧ Below w3.heap.size w3 wr) (fun _ _ s10 _ => T.length + 1 - (intOf s10).toNat)
    case atStart => exact ⟨0, 0, false, [], rfl, rfl, rfl, Nat.zero_le _, .inl ⟨Nat.zero_le _, HPR.out.symm⟩, by simp, ⟨Z, heap_alloc_new _ _, HZ0.out, fun i hi => by rw [HZ1.out i hi]; simp⟩, below_alloc _ _⟩
    case round =>
      clear hmk HZ0 HZ1 HPR
      obtain ⟨i, first, off, S, rfl, rfl, rfl, hfN, hpr, hSN, hblk, hbel⟩ := hrel
      have hws := hbel.size
      have HSN := Lib.hid hSN
      have HBLK := Lib.hid hblk
      have HBEL := Lib.hid hbel
      by_cases hle : i ≤ T.length
      · have hle' : (i : Int) ≤ T.length := by omega
        have hp : PR = prot (dl s) (T.drop i) off first S := by
          rcases hpr with h | h
          · exact h.2
          · omega
        by_cases hlt : i < T.length
        · have hlt' : (i : Int) < T.length := by omega
          obtain ⟨gb, go, rfl, hgb, hgc⟩ := HROW.out.at (by intro e; simp [e] at hlt)
          have hci := (hgc i hlt).below hbel hgb
          obtain ⟨k0, k1, k2, k3, k4⟩ := CellsAt.get5 hci
          rw [prot_at _ _ hlt] at hp
          have hc8 := HCT.out T[i] (List.getElem_mem hlt)
          have ht8 := HTX.out T[i] (List.getElem_mem hlt)
          have ho8 := HOR.out T[i] (List.getElem_mem hlt)
          have HCI := Lib.hid hci
          generalize T[i] = t at *
          obtain ⟨kd, tx, lo, hi, sp⟩ := t
          simp only at k0 k1 k2 k3 k4 hp hc8 ht8 ho8
          by_cases h8 : kd = 8
          · subst h8
            rw [if_pos rfl] at hp
            have hcm := hc8.1 rfl
            obtain ⟨m, hm⟩ : ∃ m, markP tx = m := ⟨_, rfl⟩
            have hm2 := mark_le tx
            rw [hm] at hp hm2
            have MK := Lib.hid (fun W : World => rmark_call tx W m (by omega) hcm hm)
            have HP := Lib.hid hp
            clear hp hpr hc8 hcm hm hgc hci hblk hbel hSN
            go_wp2_with fail
            refine (MK.out _).mono ?_
            rintro e w5 ⟨rfl, hb5⟩
            have hci := HCI.out.below hb5 (show gb < wr.heap.size by omega)
            obtain ⟨k0, k1, k2, k3, k4⟩ := CellsAt.get5 hci
            simp only at k0 k1 k2 k3 k4
            have HBLK := Lib.hid (HBLK.out.below hb5)
            have HBEL := Lib.hid (HBEL.out.trans (hb5.mono hws))
            have hws5 := HBEL.out.size
            clear hci hb5 MK
            by_cases hm0 : m = 0
            · subst hm0
              have hp := HP.out
              rw [if_pos rfl] at hp
              have HP := Lib.hid hp
              clear hp
              go_wp2_with fail
              go_roundw
              case rel => exact ⟨i + 1, first, off, S, rfl, rfl, by go_num, hfN, .inl ⟨by omega, HP.out⟩, HSN.out, HBLK.out, HBEL.out⟩
              case measure => simp [intOf]; omega
            · have hm0' : ((m : Int) == 0) = false := by rw [beq_eq_false_iff_ne]; omega
              have hp := HP.out
              rw [if_neg hm0] at hp
              obtain ⟨q0, hq0⟩ : ∃ q0, nlc (dl s) (hi - 1) = q0 := ⟨_, rfl⟩
              have hqN : q0 ≤ N := by rw [← hq0, ← HN.out]; exact nlc_mono _ (by omega)
              rw [hq0] at hp
              have LN := Lib.hid (fun W : World => rline_call s ((hi : Int) - 1) (hi - 1) q0 W (by omega) (by omega) (by omega) hq0)
              obtain ⟨q, hq⟩ : ∃ q, q0 + 1 = q := ⟨_, rfl⟩
              rw [hq] at hp
              obtain ⟨f2, hf2⟩ : ∃ f2, nlc (dl s) lo = f2 := ⟨_, rfl⟩
              have hf2N : f2 ≤ N := by rw [← hf2, ← HN.out]; exact nlc_mono _ (by omega)
              rw [hf2] at hp
              have LN2 := Lib.hid (fun W : World => rline_call s (lo : Int) lo f2 W rfl (by omega) (by omega) hf2)
              have HP := Lib.hid hp
              clear hp hq0 hf2
              by_cases hm1 : m = 1
              · subst hm1
                cases off with
                | true =>
                  have hp := HP.out
                  rw [if_pos (by decide)] at hp
                  have hv := HNN.out hp
                  subst hv
                  clear hp
                  go_wp2_with fail
                  refine (LN.out _).mono ?_
                  rintro e w6 ⟨rfl, rfl⟩
                  go_wp2_with fail
                  go_ret2
                  exact ⟨HB3.out.trans (HBEL.out.mono hws3), _, SlV.none _ _ _, rfl⟩
                | false =>
                  have hp := HP.out
                  rw [if_neg (by decide), if_pos rfl] at hp
                  have HP := Lib.hid hp
                  clear hp
                  go_wp2_with fail
                  refine (LN.out _).mono ?_
                  rintro e w6 ⟨rfl, rfl⟩
                  rename World => w5
                  go_upto_block 2 with fail
                  go_cut [13] (fun s13 wx => wx = w5)
                  case first =>
                    go_wp2_with fail
                    go_loopw [13] (fun s13 wq => s13 = .int .i64 first ∧ wq = w5) (fun _ _ => 0)
                    case atStart => exact ⟨rfl, rfl⟩
                    case round =>
                      obtain ⟨rfl, rfl⟩ := hrel
                      by_cases hft : (first : Int) ≤ q0
                      · go_wp2_with fail
                        go_meet
                        rfl
                      · go_wp2_with fail
                        go_meet
                        rfl
                  case rest =>
                    obtain rfl := hcut
                    rename World => w5
                    go_wp2_with fail
                    refine (LN2.out _).mono ?_
                    rintro e w6 ⟨rfl, rfl⟩
                    go_wp2_with fail
                    go_roundw
                    case rel => exact ⟨i + 1, f2, true, S, rfl, rfl, by go_num, hf2N, .inl ⟨by omega, HP.out⟩, HSN.out, HBLK.out, HBEL.out⟩
                    case measure => simp [intOf]; omega
              · have hm1' : ((m : Int) == 1) = false := by rw [beq_eq_false_iff_ne]; omega
                cases off with
                | false =>
                  have hp := HP.out
                  rw [if_pos (by simp [hm1])] at hp
                  have hv := HNN.out hp
                  subst hv
                  clear hp hm1
                  go_wp2_with fail
                  refine (LN.out _).mono ?_
                  rintro e w6 ⟨rfl, rfl⟩
                  go_wp2_with fail
                  go_ret2
                  exact ⟨HB3.out.trans (HBEL.out.mono hws3), _, SlV.none _ _ _, rfl⟩
                | true =>
                  have hp := HP.out
                  rw [if_neg (by simp [hm1]), if_neg hm1] at hp
                  have HP := Lib.hid hp
                  clear hp hm1
                  go_wp2_with fail
                  refine (LN.out _).mono ?_
                  rintro e w6 ⟨rfl, rfl⟩
                  rename World => w5
                  go_upto_block 2 with fail
                  go_cut [13] (fun s13 wx => BlkB wx w3.heap.size N1 (fun j => (S ++ upto' first q).contains j) ∧ Below w3.heap.size w3 wx)
                  case first =>
                    go_wp2_with fail
                    go_loopw [13] (fun s13 wq => ∃ k : Nat, first ≤ k ∧ (k ≤ q ∨ k = first) ∧ s13 = .int .i64 k ∧ BlkB wq w3.heap.size N1 (fun j => (S ++ upto' first k).contains j) ∧ Below w3.heap.size w3 wq) (fun s13 _ => q - (intOf s13).toNat)
                    case atStart => exact ⟨first, Nat.le_refl _, .inr rfl, rfl, by rw [upto_none (Nat.le_refl _), List.append_nil]; exact HBLK.out, HBEL.out⟩
                    case round =>
                      obtain ⟨k, hk1, hk2, rfl, hblk, hbel⟩ := hrel
                      by_cases hkq : k < q
                      · have hkt : (k : Int) ≤ q0 := by omega
                        have hkn : (k : Int) < N1 := by omega
                        have hkn' : k < N1 := by omega
                        obtain ⟨cs, hcs, hcn, hcm⟩ := hblk
                        have fz : wr.frozen? ⟨w3.heap.size, k, none⟩ = false := Lib.frozen_of_heap hcs k
                        have cx : wr.cell? ⟨w3.heap.size, k, none⟩ = some (.bool ((S ++ upto' first k).contains k)) := by have := hcm k hkn'; simp [World.cell?, hcs, this]
                        have HBK := Lib.hid (show BlkB wr w3.heap.size N1 (fun j => (S ++ upto' first k).contains j) from ⟨cs, hcs, hcn, hcm⟩)
                        have HBL := Lib.hid hbel
                        clear hcs hcn hcm hbel hk2
                        go_wp2_with fail
                        go_roundw
                        case rel => exact ⟨k + 1, by omega, .inl (by omega), by go_num, HBK.out.set k true hkn' (fun j => upto_more hk1 j), HBL.out.setCell (by simp) _⟩
                        case measure => simp [intOf]; omega
                      · have hkt : ¬ (k : Int) ≤ q0 := by omega
                        have hu : upto' first k = upto' first q := by
                          rcases hk2 with h | h
                          · rw [show k = q by omega]
                          · rw [upto_none (by omega), upto_none (by omega)]
                        rw [hu] at hblk
                        have HBK := Lib.hid hblk
                        have HBL := Lib.hid hbel
                        clear hblk hbel hk2 hu
                        go_wp2_with fail
                        go_meet
                        exact ⟨HBK.out, HBL.out⟩
                  case rest =>
                    obtain ⟨hblk, hbel⟩ := hcut
                    have HBLK := Lib.hid hblk
                    have HBEL := Lib.hid hbel
                    clear hblk hbel
                    go_wp2_with fail
                    go_roundw
                    case rel => exact ⟨i + 1, first, false, _, rfl, rfl, by go_num, hfN, .inl ⟨by omega, HP.out⟩, upto_lt HSN.out (by omega), HBLK.out, HBEL.out⟩
                    case measure => simp [intOf]; omega
          · have h8' : ((kd : Int) == 8) = false := by rw [beq_eq_false_iff_ne]; omega
            rw [if_neg h8, if_pos rfl] at hp
            have HP := Lib.hid hp
            clear hp hpr hc8 hgc hci hblk hbel hSN h8
            go_wp2_with fail
            go_roundw
            case rel => exact ⟨i + 1, first, off, S, rfl, rfl, by go_num, hfN, .inl ⟨by omega, HP.out⟩, HSN.out, HBLK.out, HBEL.out⟩
            case measure => simp [intOf]; omega
        · obtain rfl : i = T.length := by omega
          have hlt' : ¬ (T.length : Int) < T.length := by omega
          rw [List.drop_length] at hp
          simp only [prot, ← size_dl, HN.out] at hp
          have HP := Lib.hid hp
          clear hp hpr hblk hbel hSN
          rename World => w5
          cases off with
          | false =>
            have hp := HP.out
            rw [if_neg (by decide)] at hp
            have HP := Lib.hid hp
            clear hp
            go_upto_block 2 with fail
            go_cut [13] (fun s13 wx => wx = w5)
            case first =>
              go_wp2_with fail
              go_loopw [13] (fun s13 wq => s13 = .int .i64 first ∧ wq = w5) (fun _ _ => 0)
              case atStart => exact ⟨rfl, rfl⟩
              case round =>
                obtain ⟨rfl, rfl⟩ := hrel
                by_cases hft : (first : Int) ≤ (N : Int) - 1
                · go_wp2_with fail
                  go_meet
                  rfl
                · go_wp2_with fail
                  go_meet
                  rfl
            case rest =>
              obtain rfl := hcut
              go_wp2_with fail
              go_roundw
              case rel => exact ⟨T.length + 1, first, false, S, rfl, rfl, by go_num, hfN, .inr ⟨rfl, HP.out⟩, HSN.out, HBLK.out, HBEL.out⟩
              case measure => simp [intOf]
          | true =>
            have hp := HP.out
            rw [if_pos rfl] at hp
            have HP := Lib.hid hp
            clear hp
            go_upto_block 2 with fail
            go_cut [13] (fun s13 wx => BlkB wx w3.heap.size N1 (fun j => (S ++ upto' first N).contains j) ∧ Below w3.heap.size w3 wx)
            case first =>
              go_wp2_with fail
              go_loopw [13] (fun s13 wq => ∃ k : Nat, first ≤ k ∧ (k ≤ N ∨ k = first) ∧ s13 = .int .i64 k ∧ BlkB wq w3.heap.size N1 (fun j => (S ++ upto' first k).contains j) ∧ Below w3.heap.size w3 wq) (fun s13 _ => N - (intOf s13).toNat)
              case atStart => exact ⟨first, Nat.le_refl _, .inr rfl, rfl, by rw [upto_none (Nat.le_refl _), List.append_nil]; exact HBLK.out, HBEL.out⟩
              case round =>
                obtain ⟨k, hk1, hk2, rfl, hblk, hbel⟩ := hrel
                by_cases hkq : k < N
                · have hkt : (k : Int) ≤ (N : Int) - 1 := by omega
                  have hkn : (k : Int) < N1 := by omega
                  have hkn' : k < N1 := by omega
                  obtain ⟨cs, hcs, hcn, hcm⟩ := hblk
                  have fz : wr.frozen? ⟨w3.heap.size, k, none⟩ = false := Lib.frozen_of_heap hcs k
                  have cx : wr.cell? ⟨w3.heap.size, k, none⟩ = some (.bool ((S ++ upto' first k).contains k)) := by have := hcm k hkn'; simp [World.cell?, hcs, this]
                  have HBK := Lib.hid (show BlkB wr w3.heap.size N1 (fun j => (S ++ upto' first k).contains j) from ⟨cs, hcs, hcn, hcm⟩)
                  have HBL := Lib.hid hbel
                  clear hcs hcn hcm hbel hk2
                  go_wp2_with fail
                  go_roundw
                  case rel => exact ⟨k + 1, by omega, .inl (by omega), by go_num, HBK.out.set k true hkn' (fun j => upto_more hk1 j), HBL.out.setCell (by simp) _⟩
                  case measure => simp [intOf]; omega
                · have hkt : ¬ (k : Int) ≤ (N : Int) - 1 := by omega
                  have hu : upto' first k = upto' first N := by
                    rcases hk2 with h | h
                    · rw [show k = N by omega]
                    · rw [upto_none (by omega), upto_none (by omega)]
                  rw [hu] at hblk
                  have HBK := Lib.hid hblk
                  have HBL := Lib.hid hbel
                  clear hblk hbel hk2 hu
                  go_wp2_with fail
                  go_meet
                  exact ⟨HBK.out, HBL.out⟩
            case rest =>
              obtain ⟨hblk, hbel⟩ := hcut
              have HBLK := Lib.hid hblk
              have HBEL := Lib.hid hbel
              clear hblk hbel
              go_wp2_with fail
              go_roundw
              case rel => exact ⟨T.length + 1, first, false, _, rfl, rfl, by go_num, hfN, .inr ⟨rfl, HP.out⟩, upto_lt HSN.out (by omega), HBLK.out, HBEL.out⟩
              case measure => simp [intOf]
      · have hle' : ¬ (i : Int) ≤ T.length := by omega
        obtain ⟨rfl, hp⟩ : i = T.length + 1 ∧ PR = some S := by
          rcases hpr with h | h
          · omega
          · exact h
        have hv := HSS.out S hp
        have hrg : rgs (fun i => S.contains i) none 0 65536 = rgs (fun i => S.contains i) none 0 N1 := by
          rw [show 65536 = N1 + (65536 - N1) by omega]
          refine rgs_more _ _ _ _ _ fun j h1 h2 => ?_
          rw [List.contains_eq_mem, decide_eq_false_iff_not]
          intro hj
          have := hSN j hj
          omega
        have hst := Rf.set w3.heap.size N1 N1 _ wr hblk (by omega)
        obtain ⟨R, hR⟩ : ∃ R, rgs (fun i => S.contains i) none 0 N1 = R := ⟨_, rfl⟩
        rw [hrg, hR] at hv
        rw [hR] at hst
        subst hv
        have ST := Lib.hid hst
        clear hst hR
        clear hp hpr hblk hbel hSN hrg
        go_wp2_with fail
        refine ST.out.mono ?_
        rintro e w6 ⟨v, rfl, h2, h3⟩
        obtain ⟨oa, oc, rfl⟩ := row_shape h2
        have H2 := Lib.hid (SlV.of rgC_len h2 rfl)
        have H3 := Lib.hid h3
        clear h2 h3 ST
        go_wp2_with fail
        go_ret2
        exact ⟨HB3.out.trans ((HBEL.out.trans (H3.out.mono hws)).mono hws3), _, H2.out, rfl⟩
  · have he1 : ((E : Int) != 0) = true := by rw [bne_iff_ne]; omega
    rw [if_pos hE0] at hV
    subst hV
    clear hE0
    go_enter Tryz.func5, Tryz.ntmps5
    go_wp2_with fail
    refine (S1.out _).mono ?_
    rintro e w1 ⟨hb1, v1, hv1, rfl⟩
    have HB1 := Lib.hid hb1
    clear hb1 hv1
    go_wp2_with fail
    go_ret2
    exact ⟨HB1.out, _, SlV.none _ _ _, rfl⟩
end Go.Proofs.YtbnhefibpjldfaaGreatDoor

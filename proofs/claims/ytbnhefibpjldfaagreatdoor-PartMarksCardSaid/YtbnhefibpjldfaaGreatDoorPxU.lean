/- the document: Scan. -/
import Derived.Test.YtbnhefibpjldfaaGreatDoorPxT
namespace Go.Proofs.YtbnhefibpjldfaaGreatDoor
open Go.RowKit Go.BigFrame Go.Shelf
set_option linter.unusedVariables false

theorem flat_set {α : Type} (n : Nat) (f : α → List Value) (hf : ∀ g, (f g).length = n) (pre : List α) (t : α) (post : List α) (j : Nat) (hj : j < n) (u : Value) :
    ((pre ++ t :: post).flatMap f).set (pre.length * n + j) u = pre.flatMap f ++ ((f t).set j u ++ post.flatMap f) := by
  rw [List.flatMap_append, List.flatMap_cons, List.set_append, if_neg (by rw [flat_len n f hf]; omega), flat_len n f hf, show pre.length * n + j - pre.length * n = j by omega, List.set_append, if_pos (by rw [hf]; exact hj)]
theorem rtokens_call (s : ByteArray) (w : World) (hs : s.size ≤ 100000000) (T : List Tk × Nat) (h : tks (dl s) 0 0 false = T) : Calls Tryz.prog 35 #[.string s] w (TkP T w) := by
  subst h
  exact Rf.tokens s w hs
def mixT (Q : List Pt) (T : List Tk) (i : Nat) : List Tk := (T.take i).map (place Q) ++ T.drop i
theorem mixT_at (Q : List Pt) {T : List Tk} {i : Nat} (h : i < T.length) : mixT Q T i = (T.take i).map (place Q) ++ T[i] :: T.drop (i + 1) := by
  unfold mixT; rw [List.drop_eq_getElem_cons h]
theorem mixT_next (Q : List Pt) {T : List Tk} {i : Nat} (h : i < T.length) : mixT Q T (i + 1) = (T.take i).map (place Q) ++ place Q T[i] :: T.drop (i + 1) := by
  unfold mixT
  have e : T.take (i + 1) = T.take i ++ [T[i]] := by rw [List.take_add_one, List.getElem?_eq_getElem h]; rfl
  rw [e, List.map_append, List.append_assoc]; rfl
theorem mixT_len (Q : List Pt) (T : List Tk) {i : Nat} (h : i ≤ T.length) : (mixT Q T i).length = T.length := by
  unfold mixT; simp; omega
set_option maxRecDepth 100000 in
set_option maxHeartbeats 8000000 in
theorem Rf.scanBad (s : ByteArray) (w : World) (hs : s.size ≤ 100000000) (hc : chk (dl s) ≠ 0) : Calls Tryz.prog 11 #[.string s] w (ScPost s w) := by
  obtain ⟨c, hcc⟩ : ∃ c, chk (dl s) = c := ⟨_, rfl⟩
  rw [hcc] at hc
  have hsc : (scanP (dl s)).1 = c := by unfold scanP; rw [if_pos (by rw [hcc]; exact hc)]; exact hcc
  refine Calls.mono (R := fun e w' => e = .returned (.tuple #[.slice none 0 0, .int .i64 c]) ∧ Below w.heap.size w w') ?_ (fun e w' h => ⟨h.2, by rw [hsc, if_neg hc]; exact h.1⟩)
  have HCH := Lib.hid (rchars_call s w (by omega) c hcc)
  have hc1 : ((c : Int) != 0) = true := by simpa using hc
  have HC0 := Lib.hid hc
  clear hcc hc hsc
  go_enter Tryz.func11, Tryz.ntmps11
  go_wp2_with fail
  refine HCH.out.mono ?_
  rintro e w1 ⟨b1, h1⟩
  rw [if_neg HC0.out] at h1
  subst h1
  have B1 := Lib.hid b1
  clear b1
  go_wp2_with fail
  go_ret2
  exact ⟨rfl, B1.out⟩
set_option maxRecDepth 100000 in
set_option maxHeartbeats 8000000 in
theorem Rf.scanOk (s : ByteArray) (w : World) (hs : s.size ≤ 100000000) (hc : chk (dl s) = 0) : Calls Tryz.prog 11 #[.string s] w (ScPost s w) := by
  have hcl : (YtbnhefibpjldfaaGreatDoor.chars (dl s)).length ≤ s.size := by rw [size_dl]; exact chars_len _
  have HCH := Lib.hid (rchars_call s w (by omega) 0 hc)
  have HLG := Lib.hid (fun W : World => Rf.logical s W (by omega) hc)
  have hcko : ∀ p ∈ YtbnhefibpjldfaaGreatDoor.chars (dl s), p.pos + p.len ≤ s.size := fun p hp => by rw [size_dl]; exact ((chars_ok (dl s)).2 p hp).2
  obtain ⟨L, hL⟩ : ∃ L, str (logic (dl s)) = L := ⟨_, rfl⟩
  have hdl : dl L = logic (dl s) := by rw [← hL, dl_str]
  have hLs : L.size = (YtbnhefibpjldfaaGreatDoor.chars (dl s)).length := by rw [← hL, str_size]; simp [logic]
  have hall := toks_all _ (dl L) (dl L) 0 0 false 0 (Nat.le_refl _) rfl (Nat.zero_le _) (Nat.le_refl _) (by simp)
  obtain ⟨T, hT⟩ : ∃ T, tks (dl L) 0 0 false = T := ⟨_, rfl⟩
  have HTC := Lib.hid (fun W : World => rtokens_call L W (by rw [hLs]; omega) T hT)
  have hpost : ∀ e w', (Below w.heap.size w w' ∧ (if T.2 = 0 then ∃ v, e = .returned (.tuple #[v, .int .i64 0]) ∧ w'.ownsRow w.heap.size 40 5 v T.1.length ((T.1.map (place (YtbnhefibpjldfaaGreatDoor.chars (dl s)))).flatMap tkC) else e = .returned (.tuple #[.slice none 0 0, .int .i64 T.2]))) → ScPost s w e w' := fun e w' ⟨h1, h2⟩ => by
    refine ⟨h1, ?_⟩
    rw [scanP_of hc, ← hdl, hT]
    by_cases h0 : T.2 = 0
    · rw [if_pos h0] at h2
      have hsc : (if T.2 ≠ 0 then (T.2, []) else (0, T.1.map (place (YtbnhefibpjldfaaGreatDoor.chars (dl s))))) = (0, T.1.map (place (YtbnhefibpjldfaaGreatDoor.chars (dl s)))) := if_neg (by simp [h0])
      rw [hsc]
      refine Eq.mpr (if_pos rfl) ?_
      simpa using h2
    · rw [if_neg h0] at h2
      have hsc : (if T.2 ≠ 0 then (T.2, []) else (0, T.1.map (place (YtbnhefibpjldfaaGreatDoor.chars (dl s))))) = (T.2, []) := if_pos h0
      rw [hsc]
      exact Eq.mpr (if_neg h0) h2
  refine Calls.mono (R := fun e w' => Below w.heap.size w w' ∧ (if T.2 = 0 then ∃ v, e = .returned (.tuple #[v, .int .i64 0]) ∧ w'.ownsRow w.heap.size 40 5 v T.1.length ((T.1.map (place (YtbnhefibpjldfaaGreatDoor.chars (dl s)))).flatMap tkC) else e = .returned (.tuple #[.slice none 0 0, .int .i64 T.2]))) ?_ hpost
  rw [hT] at hall
  rw [hL] at HLG
  have HSP := Lib.hid hall.1
  have HLI := Lib.hid hall.2.1
  clear hpost hall hT hL hdl hc
  generalize YtbnhefibpjldfaaGreatDoor.chars (dl s) = Q at *
  have HLS := Lib.hid hLs
  have HCK := Lib.hid hcko
  clear hLs hcko
  obtain ⟨TL, TE⟩ := T
  simp only at HSP HLI ⊢
  by_cases hte : TE = 0
  · subst hte
    refine Calls.mono (R := fun e w' => Below w.heap.size w w' ∧ ∃ v, e = .returned (.tuple #[v, .int .i64 0]) ∧ w'.ownsRow w.heap.size 40 5 v TL.length ((TL.map (place Q)).flatMap tkC)) ?_ (fun e w' h => ⟨h.1, (if_pos rfl).mpr h.2⟩)
    go_enter Tryz.func11, Tryz.ntmps11
    go_wp2_with fail
    refine HCH.out.mono ?_
    rintro e w1 ⟨b1, h1⟩
    rw [if_pos trivial] at h1
    obtain ⟨v, rfl, hown⟩ := h1
    obtain ⟨qa, qc, rfl⟩ := row_shape hown
    have hrow := (rowAt_owns (f := chC) (fun g => rfl) hown rfl).2
    have HROW := Lib.hid hrow
    have B1 := Lib.hid b1
    clear b1 hown hrow
    go_wp2_with fail
    refine (HLG.out w1).mono ?_
    rintro e w2 ⟨rfl, b2⟩
    have B2 := Lib.hid b2
    clear b2
    go_wp2_with fail
    refine (HTC.out w2).mono ?_
    rintro e w3 ⟨b3, h3⟩
    have h3 := (if_pos rfl).mp h3
    obtain ⟨v, rfl, hown⟩ := h3
    obtain ⟨ta, tc, rfl⟩ := row_shape hown
    simp only at hown
    have HOWN := Lib.hid hown
    have B3 := Lib.hid b3
    clear b3 hown
    simp only
    have hTl := lies_len TL 0 (Nat.zero_le _) HLI.out
    rw [← size_dl, HLS.out] at hTl
    have hTL : TL.length ≤ 100000000 := by omega
    clear hTl
    go_wp2_with fail
    go_loopw [10] (fun s10 wr => ∃ i : Nat, i ≤ TL.length ∧ s10 = .int .i64 i ∧ wr.ownsRow w2.heap.size 40 5 (.slice ta TL.length tc) TL.length ((mixT Q TL i).flatMap tkC) ∧ Below w2.heap.size w2 wr) (fun s10 _ => TL.length - (intOf s10).toNat)
    case atStart => exact ⟨0, Nat.zero_le _, rfl, HOWN.out, B3.out⟩
    case round =>
      clear HOWN B3
      obtain ⟨i, hi, rfl, hown, hbel⟩ := hrel
      have HBEL := Lib.hid hbel
      have hws := hbel.size
      by_cases hlt : i < TL.length
      · have hlt' : (i : Int) < TL.length := by omega
        obtain ⟨g, rfl⟩ : ∃ g, ta = some ⟨g, 0, none⟩ := by
          rcases hown.2 with ⟨hv, hz⟩ | ⟨g, cap', cur, hv, _⟩
          · omega
          · simp only [Value.slice.injEq] at hv
            exact ⟨g, hv.1⟩
        have hg40 := row_cells hown rfl
        obtain ⟨hgB, cur, hgc0⟩ := hg40
        have hgB : w2.heap.size ≤ g := hgB
        have hgc0 : wr.heap[g]? = some (.cells cur 40 (0, 0)) := hgc0
        obtain ⟨t1, t2, t3, t4, t5, t6⟩ := tok_at (l := dl L) TL 0 i hlt HSP.out HLI.out
        rw [← size_dl, HLS.out] at t3
        have hmi := mixT_at Q hlt
        have hmn := mixT_next Q hlt
        have hpre : ((TL.take i).map (place Q)).length = i := by simp; omega
        generalize TL[i] = t at *
        generalize (TL.take i).map (place Q) = pre at *
        generalize TL.drop (i + 1) = post at *
        obtain ⟨kd, tx, lo, hi', sp⟩ := t
        simp only at t1 t2 t3 t4 t5 t6
        obtain ⟨m, rfl⟩ : ∃ m, hi' = m + 1 := ⟨hi' - 1, by omega⟩
        rw [hmi] at hown
        have hlen : TL.length = pre.length + 1 + post.length := by
          have h1 := hown.1
          rw [flat_len 5 tkC tkC_len] at h1
          simp at h1; omega
        have cellk : ∀ j, j < 5 → wr.cell? ⟨g, i * 5 + j, none⟩ = (tkC ⟨kd, tx, lo, m + 1, sp⟩)[j]? := fun j hj => by
          have h1 := hown.cellAt (i * 5 + j) (by omega)
          rw [h1, List.flatMap_append, List.flatMap_cons, List.getElem?_append_right (by rw [flat_len 5 tkC tkC_len, hpre]; omega), flat_len 5 tkC tkC_len, hpre, show i * 5 + j - i * 5 = j by omega, List.getElem?_append_left (by rw [tkC_len]; exact hj)]
        have c2 : wr.cell? ⟨g, i * 5 + 2, none⟩ = some (.int .i64 lo) := cellk 2 (by omega)
        have c3 : wr.cell? ⟨g, i * 5 + 3, none⟩ = some (.int .i64 ((m : Int) + 1)) := cellk 3 (by omega)
        have hQ := HROW.out
        have hlo : lo < Q.length := by omega
        have hmq : m < Q.length := by omega
        obtain ⟨gq, oq, rfl, hgq, hgqc⟩ := HROW.out.at (by intro e; simp [e] at hlo)
        have hbq : Below w1.heap.size w1 wr := B2.out.trans (hbel.mono B2.out.size)
        have p3 := CellsAt.get3 ((hgqc lo hlo).below hbq hgq)
        have q3 := CellsAt.get3 ((hgqc m hmq).below hbq hgq)
        have hpl : (place Q ⟨kd, tx, lo, m + 1, sp⟩) = ⟨kd, tx, Q[lo].pos, Q[m].pos + Q[m].len, sp⟩ := by
          unfold place
          simp [List.getD_eq_getElem?_getD, List.getElem?_eq_getElem hlo, List.getElem?_eq_getElem hmq]
        have hqs := HCK.out Q[m] (List.getElem_mem hmq)
        obtain ⟨p, hp⟩ : ∃ p, Q[lo] = p := ⟨_, rfl⟩
        obtain ⟨q, hq⟩ : ∃ q, Q[m] = q := ⟨_, rfl⟩
        rw [hp] at p3 hpl
        rw [hq] at q3 hqs hpl
        rw [hpl] at hmn
        obtain ⟨-, p1, -⟩ := p3
        obtain ⟨q0, q1, q2⟩ := q3
        have n1 : (lo : Int) < Q.length := by omega
        have n2 : (m : Int) < Q.length := by omega
        have n5 : (q.pos : Int) + q.len ≤ 1000000000 := by omega
        have hb2s := B2.out.size
        have hne : g ≠ gq := fun e => by subst e; omega
        have HMN := Lib.hid hmn
        have HOWN := Lib.hid hown
        have HNE := Lib.hid hne
        have HPRE := Lib.hid hpre
        have fz : wr.frozen? ⟨g, i * 5 + 2, none⟩ = false := Lib.frozen_of_heap hgc0 _
        have fz3 : wr.frozen? ⟨g, i * 5 + 3, none⟩ = false := Lib.frozen_of_heap hgc0 _
        have hgl : g < wr.heap.size := (Array.getElem?_eq_some_iff.1 hgc0).1
        have hgql : gq < wr.heap.size := by omega
        clear t1 t2 t3 t4 t5 t6 hmi hmn hpre hown hlen cellk hQ hgqc hbq hqs hp hq hpl hne hbel hgc0 hb2s
        go_wp2_with fail
        go_roundw
        case rel =>
          have r1 := (HOWN.out.stored (i * 5 + 2) (.int .i64 p.pos)).1
          rw [← HPRE.out, flat_set 5 tkC tkC_len pre _ post 2 (by omega)] at r1
          have e1 : pre.flatMap tkC ++ ((tkC ⟨kd, tx, lo, m + 1, sp⟩).set 2 (.int .i64 p.pos) ++ post.flatMap tkC) = (pre ++ (⟨kd, tx, p.pos, m + 1, sp⟩ : Tk) :: post).flatMap tkC := by
            rw [List.flatMap_append, List.flatMap_cons]; rfl
          rw [e1] at r1
          have r2 := (r1.stored (pre.length * 5 + 3) (.int .i64 ((q.pos : Int) + q.len))).1
          rw [flat_set 5 tkC tkC_len pre _ post 3 (by omega)] at r2
          have e2 : pre.flatMap tkC ++ ((tkC ⟨kd, tx, p.pos, m + 1, sp⟩).set 3 (.int .i64 ((q.pos : Int) + q.len)) ++ post.flatMap tkC) = (pre ++ (⟨kd, tx, p.pos, q.pos + q.len, sp⟩ : Tk) :: post).flatMap tkC := by
            rw [List.flatMap_append, List.flatMap_cons]; rfl
          rw [e2, HPRE.out] at r2
          refine ⟨i + 1, by omega, by go_num, ?_, ((HBEL.out.setCell (p := ⟨g, i * 5 + 2, none⟩) hgB _).setCell (p := ⟨g, i * 5 + 3, none⟩) hgB _).alloc (by simp; omega) _⟩
          rw [HMN.out]
          exact r2.alloc _
        case measure => simp [intOf]; omega
      · obtain rfl : i = TL.length := by omega
        have hm : mixT Q TL TL.length = TL.map (place Q) := by unfold mixT; simp
        rw [hm] at hown
        have HOWN := Lib.hid hown
        have hlt' : ¬ (TL.length : Int) < TL.length := by omega
        clear hown hbel hm
        go_wp2_with fail
        go_ret2
        have hb12 := B1.out.size
        have hb23 := B2.out.size
        exact ⟨(B1.out.trans (B2.out.mono B1.out.size)).trans (HBEL.out.mono (by omega)), _, rfl, own_base HOWN.out (by omega)⟩
  · refine Calls.mono (R := fun e w' => Below w.heap.size w w' ∧ e = .returned (.tuple #[.slice none 0 0, .int .i64 TE])) ?_ (fun e w' h => ⟨h.1, (if_neg hte).mpr h.2⟩)
    have HTE := Lib.hid hte
    clear hte
    go_enter Tryz.func11, Tryz.ntmps11
    go_wp2_with fail
    refine HCH.out.mono ?_
    rintro e w1 ⟨b1, h1⟩
    rw [if_pos trivial] at h1
    obtain ⟨v, rfl, hown⟩ := h1
    obtain ⟨qa, qc, rfl⟩ := row_shape hown
    have B1 := Lib.hid b1
    clear b1 hown
    go_wp2_with fail
    refine (HLG.out w1).mono ?_
    rintro e w2 ⟨rfl, b2⟩
    have B2 := Lib.hid b2
    clear b2
    go_wp2_with fail
    refine (HTC.out w2).mono ?_
    rintro e w3 ⟨b3, h3⟩
    have h3 := (if_neg HTE.out).mp h3
    subst h3
    have B3 := Lib.hid (B1.out.trans ((B2.out.trans (b3.mono B2.out.size)).mono B1.out.size))
    clear b3
    simp only
    go_wp2_with fail
    go_loopw [10] (fun s10 wr => s10 = .int .i64 0 ∧ wr = w3) (fun s10 _ => 0)
    case atStart => exact ⟨rfl, rfl⟩
    case round =>
      obtain ⟨rfl, rfl⟩ := hrel
      go_wp2_with fail
      go_ret2
      exact ⟨B3.out, rfl⟩
theorem Rf.scan (s : ByteArray) (w : World) (hs : s.size ≤ 100000000) : Calls Tryz.prog 11 #[.string s] w (ScPost s w) := by
  by_cases h : chk (dl s) = 0
  · exact Rf.scanOk s w hs h
  · exact Rf.scanBad s w hs h
end Go.Proofs.YtbnhefibpjldfaaGreatDoor

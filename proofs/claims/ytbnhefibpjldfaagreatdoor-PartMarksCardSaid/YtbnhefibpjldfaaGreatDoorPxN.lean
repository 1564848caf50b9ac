/- the document: Check, Chars, Logical. -/
import Derived.Test.YtbnhefibpjldfaaGreatDoorPxL
import Derived.Laws.IdiomStrings
import Derived.Lib.BufferRead
import Derived.Test.YtbnhefibpjldfaaGreatDoorPwF
namespace Go.Proofs.YtbnhefibpjldfaaGreatDoor
open Go.RowKit Go.BigFrame Go.Shelf
set_option linter.unusedVariables false

theorem conv_bytes {B n cap : Nat} {a : Option Addr} {text : Bs} {w : World} (h : w.ownsRow B 5 1 (.slice a n cap) text.length (Lib.byteCells text)) :
    (convert 59 9 (.slice a text.length cap)).run Tryz.prog w = .ok (.string (str text)) w := by
  rcases h.2 with ⟨hv, hz⟩ | ⟨g, cap', cur, hv, hb, hg, hc, hm, hcs, htk⟩
  · simp only [Value.slice.injEq] at hv
    obtain ⟨rfl, -, rfl⟩ := hv
    have ht : text = [] := List.length_eq_zero_iff.1 hz
    subst ht
    rw [List.length_nil, Lib.run_convert_nil_bytes w 59 9 5 0 Tryz.underlying59 Tryz.underlying5 Tryz.underlying9]
    rfl
  · simp only [Value.slice.injEq] at hv
    obtain ⟨rfl, -, rfl⟩ := hv
    exact run_convert_bytes_back (P := Tryz.prog) w 59 9 5 ⟨g, 0, none⟩ cap text Tryz.underlying59 Tryz.underlying5 Tryz.underlying9 (fun j hj => by
      have := Lib.bytes_of_row hg (by rw [Nat.mul_one] at htk; exact htk) j (by omega)
      exact this)
set_option maxRecDepth 100000 in
set_option maxHeartbeats 4000000 in
theorem Rf.check (s : ByteArray) (w : World) (hs : s.size ≤ 1000000000) : Calls Tryz.prog 71 #[.string s] w fun e w' => e = .returned (.int .i64 (chk (dl s))) ∧ Below w.heap.size w w' := by
  have hsz : (dl s).length = s.size := (size_dl s).symm
  by_cases h1 : 65536 < s.size
  · have hc : chk (dl s) = 3 := by unfold chk; rw [if_pos (by rw [hsz]; exact h1)]
    have h1' : (65536 : Int) < s.size := by omega
    have HC := Lib.hid hc
    clear hc hsz h1
    go_enter Tryz.func71, Tryz.ntmps71
    go_wp2_with fail
    go_ret
    exact ⟨by rw [HC.out]; rfl, Below.refl _ _⟩
  · have hc : chk (dl s) = if (decide (0 < s.size) && (lastSpl (dl s) || (dl s).getLast? != some 10)) = true then 10 else 0 := by
      unfold chk; rw [if_neg (by rw [hsz]; exact h1), badEnd_ref, hsz]; rfl
    have h1' : ¬ (65536 : Int) < s.size := by omega
    have HB := Lib.hid (Rf.both s w hs)
    unfold BothPost at HB
    obtain ⟨la, hla⟩ : ∃ la, lastSpl (dl s) = la := ⟨_, rfl⟩
    rw [hla] at hc HB
    clear hla
    by_cases h0 : 0 < s.size
    · have h0' : (0 : Int) < s.size := by omega
      have w1' : IntKind.i64.wrap ((s.size : Int) - 1) = (s.size : Int) - 1 := IntWalk.i64_in _ (by omega)
      have w2' : (0 : Int) ≤ (s.size : Int) - 1 := by omega
      have w3' : (s.size : Int) - 1 < (s.size : Int) := by omega
      have w4' : ((s.size : Int) - 1).toNat = s.size - 1 := by omega
      have w5' : s.size - 1 < s.size := by omega
      have hgl : (dl s).getLast? = some (s[s.size - 1]'w5') := by
        rw [List.getLast?_eq_getElem?, hsz, dl_get w5']
      rw [hgl, decide_eq_true h0] at hc
      cases la with
      | true =>
        have hc' : chk (dl s) = 10 := hc
        have HC := Lib.hid hc'
        clear hc hc' hgl hsz h0 h1
        go_enter Tryz.func71, Tryz.ntmps71
        go_wp2_with fail
        refine HB.out.mono ?_
        rintro e w2 ⟨v, u, rfl, h2, h3⟩
        have H3 := Lib.hid h3
        clear h2 h3
        go_wp2_with fail
        go_ret
        exact ⟨by rw [HC.out]; rfl, H3.out⟩
      | false =>
        by_cases h10 : (s[s.size - 1]'w5') = 10
        · have hb : (((s[s.size - 1]'w5').toNat : Int) != 10) = false := by rw [h10]; rfl
          have hc' : chk (dl s) = 0 := by rw [hc, h10]; rfl
          have HC := Lib.hid hc'
          clear hc hc' hgl hsz h0 h1 h10
          go_enter Tryz.func71, Tryz.ntmps71
          go_wp2_with fail
          refine HB.out.mono ?_
          rintro e w2 ⟨v, u, rfl, h2, h3⟩
          have H3 := Lib.hid h3
          clear h2 h3
          go_wp2_with fail
          go_ret
          exact ⟨by rw [HC.out]; rfl, H3.out⟩
        · have hb : (((s[s.size - 1]'w5').toNat : Int) != 10) = true := by
            rw [bne_iff_ne]
            intro e
            exact h10 (UInt8.toNat_inj.1 (by have : (10 : UInt8).toNat = 10 := rfl; omega))
          have hc' : chk (dl s) = 10 := by rw [hc]; simp [h10]
          have HC := Lib.hid hc'
          clear hc hc' hgl hsz h0 h1 h10
          go_enter Tryz.func71, Tryz.ntmps71
          go_wp2_with fail
          refine HB.out.mono ?_
          rintro e w2 ⟨v, u, rfl, h2, h3⟩
          have H3 := Lib.hid h3
          clear h2 h3
          go_wp2_with fail
          go_ret
          exact ⟨by rw [HC.out]; rfl, H3.out⟩
    · have h0' : ¬ (0 : Int) < s.size := by omega
      have hc' : chk (dl s) = 0 := by rw [hc, decide_eq_false h0]; rfl
      have HC := Lib.hid hc'
      clear hc hc' hsz h0 h1
      go_enter Tryz.func71, Tryz.ntmps71
      go_wp2_with fail
      refine HB.out.mono ?_
      rintro e w2 ⟨v, u, rfl, h2, h3⟩
      have H3 := Lib.hid h3
      clear h2 h3
      go_wp2_with fail
      go_ret
      exact ⟨by rw [HC.out]; rfl, H3.out⟩
theorem rcheck_call (s : ByteArray) (w : World) (n : Nat) (hs : s.size ≤ 1000000000) (h : chk (dl s) = n) : Calls Tryz.prog 71 #[.string s] w fun e w' => e = .returned (.int .i64 n) ∧ Below w.heap.size w w' := h ▸ Rf.check s w hs
set_option maxRecDepth 100000 in
set_option maxHeartbeats 4000000 in
theorem Rf.chars (s : ByteArray) (w : World) (hs : s.size ≤ 1000000000) : Calls Tryz.prog 33 #[.string s] w (ChPost s w) := by
  obtain ⟨c, hc⟩ : ∃ c, chk (dl s) = c := ⟨_, rfl⟩
  by_cases hc0 : c = 0
  · subst hc0
    have hpost : ∀ e w', ChPost s w e w' ↔ Below w.heap.size w w' ∧ ∃ v, e = .returned (.tuple #[v, .int .i64 0]) ∧ w'.ownsRow w.heap.size 61 3 v (YtbnhefibpjldfaaGreatDoor.chars (dl s)).length ((YtbnhefibpjldfaaGreatDoor.chars (dl s)).flatMap chC) := fun e w' => by unfold ChPost; rw [if_pos hc]
    refine Calls.mono (R := fun e w' => Below w.heap.size w w' ∧ ∃ v, e = .returned (.tuple #[v, .int .i64 0]) ∧ w'.ownsRow w.heap.size 61 3 v (YtbnhefibpjldfaaGreatDoor.chars (dl s)).length ((YtbnhefibpjldfaaGreatDoor.chars (dl s)).flatMap chC)) ?_ (fun e w' h => (hpost e w').2 h)
    have HC := Lib.hid hc
    clear hpost hc
    go_enter Tryz.func33, Tryz.ntmps33
    go_wp2_with fail
    refine (rcheck_call s w 0 hs HC.out).mono ?_
    rintro e w1 ⟨rfl, b1⟩
    have B1 := Lib.hid b1
    clear b1
    go_wp2_with fail
    refine (Rf.both s w1 hs).mono ?_
    rintro e w2 ⟨v, u, rfl, h2, h3⟩
    obtain ⟨a, cap, rfl⟩ := row_shape h2
    have H2 := Lib.hid h2
    have H3 := Lib.hid h3
    clear h2 h3
    go_wp2_with fail
    go_ret2
    exact ⟨B1.out.trans (H3.out.mono B1.out.size), _, rfl, own_base H2.out B1.out.size⟩
  · have hpost : ∀ e w', ChPost s w e w' ↔ Below w.heap.size w w' ∧ e = .returned (.tuple #[.slice none 0 0, .int .i64 c]) := fun e w' => by unfold ChPost; rw [hc, if_neg hc0]
    refine Calls.mono (R := fun e w' => e = .returned (.tuple #[.slice none 0 0, .int .i64 c]) ∧ Below w.heap.size w w') ?_ (fun e w' h => (hpost e w').2 ⟨h.2, h.1⟩)
    have HC := Lib.hid hc
    have hc1 : ((c : Int) != 0) = true := by simpa using hc0
    clear hpost hc hc0
    go_enter Tryz.func33, Tryz.ntmps33
    go_wp2_with fail
    refine (rcheck_call s w c hs HC.out).mono ?_
    rintro e w1 ⟨rfl, b1⟩
    have B1 := Lib.hid b1
    clear b1
    go_wp2_with fail
    go_ret2
    exact ⟨rfl, B1.out⟩
theorem rchars_call (s : ByteArray) (w : World) (hs : s.size ≤ 1000000000) (c : Nat) (h : chk (dl s) = c) : Calls Tryz.prog 33 #[.string s] w fun e w' => Below w.heap.size w w' ∧ (if c = 0 then ∃ v, e = .returned (.tuple #[v, .int .i64 0]) ∧ w'.ownsRow w.heap.size 61 3 v (YtbnhefibpjldfaaGreatDoor.chars (dl s)).length ((YtbnhefibpjldfaaGreatDoor.chars (dl s)).flatMap chC) else e = .returned (.tuple #[.slice none 0 0, .int .i64 c])) := by
  subst h
  exact Rf.chars s w hs
theorem cells1_new (w : World) (p : Value) (ty : TypeId) : ∀ j u, [p][j]? = some u → (w.alloc (.cells #[p] ty)).cell? ((⟨w.heap.size, 0, none⟩ : Addr).add j) = some u := by
  intro j u h
  match j with
  | 0 => simp at h; subst h; simp [Addr.add]
  | k + 1 => simp at h
set_option maxRecDepth 100000 in
set_option maxHeartbeats 8000000 in
theorem Rf.logical (s : ByteArray) (w : World) (hs : s.size ≤ 1000000000) (hc : chk (dl s) = 0) : Calls Tryz.prog 34 #[.string s] w fun e w' => e = .returned (.tuple #[.string (str (logic (dl s))), .int .i64 0]) ∧ Below w.heap.size w w' := by
  obtain ⟨i0, hi, hz0, hz1, hz2⟩ := info_parts info5
  have HI := Lib.hid hi
  have HZ0 := Lib.hid hz0
  have HZ1 := Lib.hid hz1
  have HZ2 := Lib.hid hz2
  have hll := chars_len (dl s)
  rw [← size_dl] at hll
  have HC := Lib.hid hc
  have hch := fun W : World => rchars_call s W hs 0 hc
  have hlg : logic (dl s) = (YtbnhefibpjldfaaGreatDoor.chars (dl s)).map (·.b) := rfl
  rw [hlg]
  generalize YtbnhefibpjldfaaGreatDoor.chars (dl s) = Q at *
  have HCH := Lib.hid hch
  clear hi hz0 hz1 hz2 hc hlg hch
  go_enter Tryz.func34, Tryz.ntmps34
  go_wp2_with fail
  refine (HCH.out w).mono ?_
  rintro e w1 ⟨b1, h1⟩
  rw [if_pos trivial] at h1
  obtain ⟨v, rfl, hown⟩ := h1
  obtain ⟨a, cap, rfl⟩ := row_shape hown
  have hrow := (rowAt_owns (f := chC) (fun g => rfl) hown rfl).2
  have HROW := Lib.hid hrow
  have B1 := Lib.hid b1
  clear b1 hown hrow
  go_wp2_with fail
  go_loopw [6, 7] (fun s6 s7 wr => ∃ (i : Nat), i ≤ Q.length ∧ s7 = .int .i64 i ∧ Below w1.heap.size w1 wr ∧ wr.ownsRow w1.heap.size 5 1 s6 i (Lib.byteCells ((Q.take i).map (·.b)))) (fun _ s7 _ => Q.length - (intOf s7).toNat)
  case atStart => exact ⟨0, Nat.zero_le _, rfl, Below.refl _ _, World.ownsRow_nil _ _ _ _⟩
  case round =>
    obtain ⟨i, hi, rfl, hbel, hob⟩ := hrel
    obtain ⟨oa, oc, rfl⟩ := row_shape hob
    have hws := hbel.size
    by_cases hlt : i < Q.length
    · obtain ⟨gb, go, rfl, hgb, hgc⟩ := HROW.out.at (by intro e; simp [e] at hlt)
      have p3 := CellsAt.get3 ((hgc i hlt).below hbel hgb)
      have hlt' : (i : Int) < Q.length := by omega
      have htk : (Q.take (i + 1)).map (·.b) = (Q.take i).map (·.b) ++ [Q[i].b] := by
        have e : Q.take (i + 1) = Q.take i ++ [Q[i]] := by rw [List.take_add_one, List.getElem?_eq_getElem hlt]; rfl
        rw [e, List.map_append]; rfl
      generalize Q[i] = q at *
      obtain ⟨qb, qp, ql, qs⟩ := q
      obtain ⟨p0, -, -⟩ := p3
      have HBEL := Lib.hid hbel
      have HOB := Lib.hid hob
      have HTK := Lib.hid htk
      clear hbel hob hgc htk
      go_wp2_with (at_builtin; refine wpList_append_own _ rfl _ _ 59 rfl w1.heap.size 5 i0 (.int .u8 0) 1 1 Tryz.underlying59 HI.out HZ0.out HZ1.out HZ2.out rfl (by decide) _ i _ rfl (HOB.out.alloc _) ⟨wr.heap.size, 0, none⟩ 1 1 [.int .u8 qb.toNat] rfl rfl (cells1_new _ _ 5) (fun u hu => by simp at hu; subst hu; rfl) (by unfold maxLen; omega) (by omega) (by simp; omega) ?_; intro v' w2 hown' hgrow _)
      have HOWN' := Lib.hid hown'
      have HBE' := Lib.hid ((HBEL.out.alloc hws _).grown hgrow (by simp; omega) (fun k hk => (row_cells HOB.out hk).1))
      clear hown' hgrow
      go_wp2_with fail
      go_roundw
      case rel =>
        refine ⟨i + 1, by omega, by go_num, HBE'.out, ?_⟩
        rw [HTK.out, show Lib.byteCells ((Q.take i).map (·.b) ++ [qb]) = Lib.byteCells ((Q.take i).map (·.b)) ++ [.int .u8 qb.toNat] by simp [Lib.byteCells]]
        exact HOWN'.out
      case measure => simp [intOf]; omega
    · obtain rfl : i = Q.length := by omega
      rw [List.take_length] at hob
      have hlt' : ¬ (Q.length : Int) < Q.length := by omega
      have hconv := conv_bytes (n := Q.length) (text := Q.map (·.b)) (by simpa using hob)
      rw [List.length_map] at hconv
      have HBEL := Lib.hid hbel
      clear hbel hob
      go_wp2_with fail
      refine bodyPost_ret (v := .tuple #[.string (str (Q.map (·.b))), .int .i64 0]) (by simp [results, Tryz.results34, go_sem]) rfl ?_
      exact ⟨rfl, B1.out.trans (HBEL.out.mono B1.out.size)⟩
end Go.Proofs.YtbnhefibpjldfaaGreatDoor

/- PxN -/
namespace Go.Proofs.YtbnhefibpjldfaaGreatDoor
open Go.RowKit Go.BigFrame
set_option linter.unusedVariables false

theorem rletter_call (c : UInt8) (w : World) (b : Bool) (h : letter c = b) : Calls Tryz.prog 130 #[.int .u8 c.toNat] w fun e w' => e = .returned (.bool b) ∧ w' = w := h ▸ Rf.letterF c w
theorem rdigit_call (c : UInt8) (w : World) (b : Bool) (h : digit c = b) : Calls Tryz.prog 131 #[.int .u8 c.toNat] w fun e w' => e = .returned (.bool b) ∧ w' = w := h ▸ Rf.digitF c w
theorem rsign_call (c : UInt8) (w : World) (b : Bool) (h : sign c = b) : Calls Tryz.prog 132 #[.int .u8 c.toNat] w fun e w' => e = .returned (.bool b) ∧ w' = w := h ▸ Rf.signF c w
theorem rexpo_call (c : UInt8) (w : World) (b : Bool) (h : expo c = b) : Calls Tryz.prog 133 #[.int .u8 c.toNat] w fun e w' => e = .returned (.bool b) ∧ w' = w := h ▸ Rf.expoF c w
/-- What is left of a word behind a place. -/
def wdAt (l : Bs) (i : Nat) : Bool := if i = 0 then isWord l else (l.drop i).all fun x => letter x || digit x
theorem wdAt_step {l : Bs} {i : Nat} (h : i < l.length) : wdAt l i = ((letter l[i] || (decide (0 < i) && digit l[i])) && wdAt l (i + 1)) := by
  unfold wdAt
  rw [if_neg (show ¬ i + 1 = 0 by omega)]
  by_cases h0 : i = 0
  · subst h0
    rw [if_pos rfl]
    cases l with
    | nil => cases h
    | cons c r => simp [isWord]
  · rw [if_neg h0, List.drop_eq_getElem_cons h, List.all_cons, decide_eq_true (show 0 < i by omega), Bool.true_and]
set_option maxRecDepth 100000 in
set_option maxHeartbeats 4000000 in
theorem Rf.isWord (s : ByteArray) (w : World) (hs : s.size ≤ 1000000000) : Calls Tryz.prog 115 #[.string s] w fun e w' => e = .returned (.bool (isWord (dl s))) ∧ w' = w := by
  obtain ⟨V, hV⟩ : ∃ V, YtbnhefibpjldfaaGreatDoor.isWord (dl s) = V := ⟨_, rfl⟩
  have h0 : wdAt (dl s) 0 = V := hV
  have hz : s.size = 0 → V = false := fun e => by
    rw [← hV]
    have : dl s = [] := List.length_eq_zero_iff.1 (by rw [← size_dl]; exact e)
    rw [this]; rfl
  rw [hV]
  have HZ := Lib.hid hz
  have H0 := Lib.hid h0
  clear hV h0 hz
  go_enter Tryz.func115, Tryz.ntmps115
  go_wp2_with fail
  go_loopw [3] (fun s3 wr => ∃ i : Nat, i ≤ s.size ∧ s3 = .int .i64 i ∧ wr = w ∧ wdAt (dl s) i = V) (fun s3 _ => s.size - (intOf s3).toNat)
  case atStart => exact ⟨0, Nat.zero_le _, rfl, rfl, H0.out⟩
  case round =>
    obtain ⟨i, hi, rfl, rfl, hw⟩ := hrel
    by_cases hlt : i < s.size
    · have hlt' : (i : Int) < s.size := by omega
      rw [wdAt_step (by rw [← size_dl]; exact hlt), dl_at hlt] at hw
      cases hl : letter s[i] with
      | true =>
        rw [hl, Bool.true_or, Bool.true_and] at hw
        have HL := Lib.hid hl
        have HW := Lib.hid hw
        clear hl hw
        go_wp2_with (first | (go_at_call 130; refine (rletter_call _ _ _ HL.out).mono ?_; rintro e w1 ⟨rfl, rfl⟩) | fail)
        go_roundw
        case rel => exact ⟨i + 1, by omega, by go_num, by trivial, HW.out⟩
        case measure => simp [intOf]; omega
      | false =>
        rw [hl, Bool.false_or] at hw
        by_cases hi0 : i = 0
        · subst hi0
          have hv : V = false := by rw [← hw]; rfl
          have HL := Lib.hid hl
          subst hv
          clear hl hw HZ H0
          go_wp2_with (first | (go_at_call 130; refine (rletter_call _ _ _ HL.out).mono ?_; rintro e w1 ⟨rfl, rfl⟩) | fail)
          go_ret
          exact ⟨rfl, rfl⟩
        · have hi1 : ((i : Int) == 0) = false := by rw [beq_eq_false_iff_ne]; omega
          rw [decide_eq_true (show 0 < i by omega), Bool.true_and] at hw
          cases hd : digit s[i] with
          | true =>
            rw [hd, Bool.true_and] at hw
            have HL := Lib.hid hl
            have HD := Lib.hid hd
            have HW := Lib.hid hw
            clear hl hd hw hi0
            go_wp2_with (first | (go_at_call 130; refine (rletter_call _ _ _ HL.out).mono ?_; rintro e w1 ⟨rfl, rfl⟩) | (go_at_call 131; refine (rdigit_call _ _ _ HD.out).mono ?_; rintro e w1 ⟨rfl, rfl⟩) | fail)
            go_roundw
            case rel => exact ⟨i + 1, by omega, by go_num, by trivial, HW.out⟩
            case measure => simp [intOf]; omega
          | false =>
            rw [hd, Bool.false_and] at hw
            have HL := Lib.hid hl
            have HD := Lib.hid hd
            subst hw
            clear hl hd hi0 HZ H0
            go_wp2_with (first | (go_at_call 130; refine (rletter_call _ _ _ HL.out).mono ?_; rintro e w1 ⟨rfl, rfl⟩) | (go_at_call 131; refine (rdigit_call _ _ _ HD.out).mono ?_; rintro e w1 ⟨rfl, rfl⟩) | fail)
            go_ret
            exact ⟨rfl, rfl⟩
    · obtain rfl : i = s.size := by omega
      have hlt' : ¬ (s.size : Int) < s.size := by omega
      have hend : decide (0 < s.size) = V := by
        by_cases h0 : s.size = 0
        · rw [HZ.out h0, h0]; rfl
        · rw [← hw]
          unfold wdAt
          rw [if_neg h0, List.drop_of_length_le (by rw [← size_dl]; exact Nat.le_refl _), decide_eq_true (by omega)]; rfl
      have HE := Lib.hid hend
      clear hw hend
      go_wp2_with fail
      go_ret
      exact ⟨by rw [← HE.out]; rfl, rfl⟩
theorem pcs_at {s : ByteArray} {q : UInt8} {i : Nat} (h : i < s.size) : isPcs q ((dl s).drop i) =
    if s[i] = q ∨ s[i] = 10 then false else if s[i] = 92 then (if h1 : i + 1 < s.size then decide (s[i + 1] ≠ 10) && isPcs q ((dl s).drop (i + 2)) else false) else isPcs q ((dl s).drop (i + 1)) := by
  rw [drop_at h]
  by_cases h1 : i + 1 < s.size
  · rw [drop_at h1, isPcs, dif_pos h1]
  · rw [drop_end (by omega), isPcs, dif_neg h1]
    by_cases e1 : s[i] = q ∨ s[i] = 10
    · rw [if_pos e1]
      rcases e1 with e1 | e1 <;> simp [e1, isPcs]
    · rw [if_neg e1]
      rw [not_or] at e1
      by_cases e2 : s[i] = 92
      · rw [if_pos e2]; simp [e2, isPcs]
      · rw [if_neg e2]; simp [e1, e2, isPcs]
set_option maxRecDepth 100000 in
set_option maxHeartbeats 4000000 in
theorem Rf.pieces (s : ByteArray) (q : UInt8) (w : World) (hs : s.size ≤ 1000000000) : Calls Tryz.prog 134 #[.string s, .int .u8 q.toNat] w fun e w' => e = .returned (.bool (isPcs q (dl s))) ∧ w' = w := by
  obtain ⟨V, hV⟩ : ∃ V, isPcs q (dl s) = V := ⟨_, rfl⟩
  rw [hV]
  have HV := Lib.hid hV
  clear hV
  have ten : ∀ c : UInt8, ((c.toNat : Int) == 10) = decide (c = 10) := fun c => by
    rw [Bool.eq_iff_iff, beq_iff_eq, decide_eq_true_iff, ← UInt8.toNat_inj]
    have : (10 : UInt8).toNat = 10 := rfl
    omega
  have bsl : ∀ c : UInt8, ((c.toNat : Int) == 92) = decide (c = 92) := fun c => by
    rw [Bool.eq_iff_iff, beq_iff_eq, decide_eq_true_iff, ← UInt8.toNat_inj]
    have : (92 : UInt8).toNat = 92 := rfl
    omega
  have quo : ∀ c : UInt8, ((c.toNat : Int) == (q.toNat : Int)) = decide (c = q) := fun c => by
    rw [Bool.eq_iff_iff, beq_iff_eq, decide_eq_true_iff, ← UInt8.toNat_inj]
    omega
  have TEN := Lib.hid ten
  have BSL := Lib.hid bsl
  have QUO := Lib.hid quo
  clear ten bsl quo
  go_enter Tryz.func134, Tryz.ntmps134
  go_wp2_with fail
  go_loopw [5] (fun s5 wr => ∃ i : Nat, i ≤ s.size ∧ s5 = .int .i64 i ∧ wr = w ∧ isPcs q ((dl s).drop i) = V) (fun s5 _ => s.size - (intOf s5).toNat)
  case atStart => exact ⟨0, Nat.zero_le _, rfl, rfl, HV.out⟩
  case round =>
    obtain ⟨i, hi, rfl, rfl, hw⟩ := hrel
    by_cases hlt : i < s.size
    · have hlt' : (i : Int) < s.size := by omega
      rw [pcs_at hlt] at hw
      have t1 := TEN.out s[i]
      have b1 := BSL.out s[i]
      have q1 := QUO.out s[i]
      by_cases eq : s[i] = q
      · rw [if_pos (.inl eq)] at hw
        rw [decide_eq_true eq] at q1
        subst hw
        clear HV eq t1 b1
        go_wp2_with fail
        go_ret
        exact ⟨rfl, rfl⟩
      rw [decide_eq_false eq] at q1
      by_cases e10 : s[i] = 10
      · rw [if_pos (.inr e10)] at hw
        rw [decide_eq_true e10] at t1
        subst hw
        clear HV eq e10 b1
        go_wp2_with fail
        go_ret
        exact ⟨rfl, rfl⟩
      rw [decide_eq_false e10] at t1
      rw [if_neg (fun h => h.elim eq e10)] at hw
      by_cases e92 : s[i] = 92
      · rw [if_pos e92] at hw
        rw [decide_eq_true e92] at b1
        by_cases h1 : i + 1 < s.size
        · have h1' : (i : Int) + 1 < s.size := by omega
          have h1n : ((i : Int) + 1 == s.size) = false := by rw [beq_eq_false_iff_ne]; omega
          have t2 := TEN.out s[i + 1]
          rw [dif_pos h1] at hw
          by_cases f10 : s[i + 1] = 10
          · have hv : V = false := by rw [← hw]; simp [f10]
            rw [decide_eq_true f10] at t2
            subst hv
            clear HV eq e10 e92 f10 hw
            go_wp2_with fail
            go_ret
            exact ⟨rfl, rfl⟩
          · rw [decide_eq_true f10, Bool.true_and] at hw
            rw [decide_eq_false f10] at t2
            have HW := Lib.hid hw
            clear HV eq e10 e92 f10 hw
            go_wp2_with fail
            go_roundw
            case rel => exact ⟨i + 2, by omega, by go_num, by trivial, HW.out⟩
            case measure => simp [intOf]; omega
        · have h1n : ((i : Int) + 1 == s.size) = true := by rw [beq_iff_eq]; omega
          rw [dif_neg h1] at hw
          subst hw
          clear HV eq e10 e92
          go_wp2_with fail
          go_ret
          exact ⟨rfl, rfl⟩
      · rw [if_neg e92] at hw
        rw [decide_eq_false e92] at b1
        have HW := Lib.hid hw
        clear HV eq e10 e92 hw
        go_wp2_with fail
        go_roundw
        case rel => exact ⟨i + 1, by omega, by go_num, by trivial, HW.out⟩
        case measure => simp [intOf]; omega
    · obtain rfl : i = s.size := by omega
      have hlt' : ¬ (s.size : Int) < s.size := by omega
      rw [drop_end (Nat.le_refl _)] at hw
      have hv : V = true := by rw [← hw]; rfl
      subst hv
      clear HV hw
      go_wp2_with fail
      go_ret
      exact ⟨rfl, rfl⟩
end Go.Proofs.YtbnhefibpjldfaaGreatDoor

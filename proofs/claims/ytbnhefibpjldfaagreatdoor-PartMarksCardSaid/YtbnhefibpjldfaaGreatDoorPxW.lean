/- the document: Bare, hash. -/
import Derived.Test.YtbnhefibpjldfaaGreatDoorPwZ
import Derived.Test.YtbnhefibpjldfaaGreatDoorPwV
namespace Go.Proofs.YtbnhefibpjldfaaGreatDoor
open Go.RowKit Go.BigFrame Go.Shelf
set_option linter.unusedVariables false

/-- Does a comment or a line end stand ahead of a place? -/
def gapAt (l : List Tk) (i : Nat) : Bool := match i with
  | 0 => false
  | j + 1 => match l[j]? with
    | some t => decide (t.kind = 8 ∨ t.kind = 9)
    | none => false
theorem gapAt_succ {l : List Tk} {i : Nat} (h : i < l.length) : gapAt l (i + 1) = decide (l[i].kind = 8 ∨ l[i].kind = 9) := by
  unfold gapAt; simp [h]
set_option maxRecDepth 100000 in
set_option maxHeartbeats 8000000 in
theorem Rf.bare (a : Option Addr) (c : Nat) (l : List Tk) (w : World) (hr : RowAt 5 tkC w a l) (hl : l.length ≤ 1000000000) : Calls Tryz.prog 50 #[.slice a l.length c] w (BarePost l w) := by
  have HROW := Lib.hid hr
  obtain ⟨i0, hi, hz0, hz1, hz2⟩ := info_parts info40
  have HI := Lib.hid hi
  have HZ0 := Lib.hid hz0
  have HZ1 := Lib.hid hz1
  have HZ2 := Lib.hid hz2
  clear hi hz0 hz1 hz2 hr
  go_enter Tryz.func50, Tryz.ntmps50
  go_wp2_with fail
  go_loopw [3, 4] (fun s3 s4 wr => ∃ (i : Nat) (acc : List Tk), i ≤ l.length ∧ s4 = .int .i64 i ∧ YtbnhefibpjldfaaGreatDoor.bare l = acc ++ bareD (gapAt l i) (l.drop i) ∧ Below w.heap.size w wr ∧ wr.ownsRow w.heap.size 40 5 s3 acc.length (acc.flatMap tkC) ∧ acc.length ≤ i) (fun _ s4 _ => l.length - (intOf s4).toNat)
  case atStart => exact ⟨0, [], Nat.zero_le _, rfl, rfl, Below.refl _ _, World.ownsRow_nil _ _ _ _, Nat.le_refl _⟩
  case round =>
    obtain ⟨i, acc, hi, rfl, hb, hbel, hown, hal⟩ := hrel
    obtain ⟨oa, oc, rfl⟩ := row_shape hown
    by_cases hlt : i < l.length
    · obtain ⟨gb, go, rfl, hgb, hgc⟩ := HROW.out.at (by intro e; simp [e] at hlt)
      obtain ⟨k0, k1, k2, k3, k4⟩ := CellsAt.get5 ((hgc i hlt).below hbel hgb)
      have hg1 := gapAt_succ hlt
      rw [bareD_at hlt] at hb
      have hlt' : (i : Int) < l.length := by omega
      have hprev : ∀ h : 0 < i, gapAt l i = decide ((l[i - 1]'(by omega)).kind = 8 ∨ (l[i - 1]'(by omega)).kind = 9) ∧ wr.cell? ⟨gb, go + (i - 1) * 5, none⟩ = some (.int .i64 (l[i - 1]'(by omega)).kind) := fun h => by
        refine ⟨?_, (CellsAt.get5 ((hgc (i - 1) (by omega)).below hbel hgb)).1⟩
        have := gapAt_succ (show i - 1 < l.length by omega)
        rwa [show i - 1 + 1 = i by omega] at this
      generalize l[i] = t at *
      obtain ⟨kd, tx, lo, hi', sp⟩ := t
      simp only at k0 k1 k2 k3 k4 hb hg1
      have HBEL := Lib.hid hbel
      have HOWN := Lib.hid hown
      have hws := hbel.size
      have hgw : gb < wr.heap.size := by omega
      by_cases h8 : kd = 8
      · subst h8
        rw [if_pos (.inl rfl)] at hb
        have hg : gapAt l (i + 1) = true := hg1
        have HG := Lib.hid hg
        have HB := Lib.hid hb
        clear hb hbel hown hgc hg hg1 hprev
        go_wp2_with fail
        go_roundw
        case rel => exact ⟨i + 1, acc, by omega, by go_num, by rw [HG.out]; exact HB.out, HBEL.out, HOWN.out, by omega⟩
        case measure => simp [intOf]; omega
      by_cases h9 : kd = 9
      · subst h9
        rw [if_pos (.inr rfl)] at hb
        have hg : gapAt l (i + 1) = true := hg1
        have HG := Lib.hid hg
        have HB := Lib.hid hb
        clear hb hbel hown hgc hg hg1 hprev
        go_wp2_with fail
        go_roundw
        case rel => exact ⟨i + 1, acc, by omega, by go_num, by rw [HG.out]; exact HB.out, HBEL.out, HOWN.out, by omega⟩
        case measure => simp [intOf]; omega
      rw [if_neg (by omega)] at hb
      have h8' : ((kd : Int) == 8) = false := by rw [beq_eq_false_iff_ne]; omega
      have h9' : ((kd : Int) == 9) = false := by rw [beq_eq_false_iff_ne]; omega
      have hg : gapAt l (i + 1) = false := by rw [hg1, decide_eq_false_iff_not]; omega
      have HG := Lib.hid hg
      clear hg hg1 h8 h9 hgc hbel hown
      by_cases hi0 : i = 0
      · subst hi0
        have hd : gapAt l 0 = false := rfl
        rw [hd] at hb
        have HB := Lib.hid hb
        simp only [Nat.zero_mul, Nat.add_zero] at k0 k1 k2 k3 k4
        clear hb hprev hd
        go_wp2_with (at_builtin; refine wpList_append_own _ rfl _ _ 30 rfl w.heap.size 40 i0 (.agg #[.int .i64 0, .string ⟨#[]⟩, .int .i64 0, .int .i64 0, .bool false]) 5 48 Tryz.underlying30 HI.out HZ0.out HZ1.out HZ2.out rfl (by decide) _ acc.length _ rfl ((HOWN.out.alloc _).alloc _) ⟨wr.heap.size + 1, 0, none⟩ 1 1 [.int .i64 kd, .string (str tx), .int .i64 lo, .int .i64 hi', .bool sp] rfl rfl (by simpa using five_cells (wr.alloc (.cells #[.int .i64 kd, .string (str tx), .int .i64 lo, .int .i64 hi', .bool sp] 40)) (.int .i64 kd) (.string (str tx)) (.int .i64 lo) (.int .i64 hi') (.bool sp) 40) (fun u hu => by simp at hu; rcases hu with rfl | rfl | rfl | rfl | rfl <;> rfl) (by unfold maxLen; omega) (by omega) (by simp; omega) ?_; intro v' w1 hown' hgrow _)
        have HOWN' := Lib.hid hown'
        have HBE' := Lib.hid (((HBEL.out.alloc hws (.cells #[.int .i64 kd, .string (str tx), .int .i64 lo, .int .i64 hi', .bool sp] 40)).alloc (by simp; omega) (.cells #[.int .i64 kd, .string (str tx), .int .i64 lo, .int .i64 hi', .bool sp] 40)).grown hgrow (by simp; omega) (fun k hk => (row_cells HOWN.out hk).1))
        clear hown' hgrow
        go_wp2_with fail
        go_roundw
        case rel =>
          refine ⟨0 + 1, acc ++ [⟨kd, tx, lo, hi', sp⟩], by omega, by go_num, by rw [HG.out, HB.out, List.append_assoc]; simp, HBE'.out, ?_, by rw [List.length_append, List.length_singleton]; omega⟩
          have h := HOWN'.out
          rw [List.flatMap_append, List.length_append]
          simpa [tkC] using h
        case measure => simp [intOf]; omega
      · have hi1 : (0 : Int) < i := by omega
        obtain ⟨hgi, kp⟩ := hprev (by omega)
        have w1' : IntKind.i64.wrap ((i : Int) - 1) = (i : Int) - 1 := IntWalk.i64_in _ (by omega)
        have w0' : (1 : Int) ≤ (i : Int) := by omega
        have w2' : (0 : Int) ≤ (i : Int) - 1 := by omega
        have w3' : (i : Int) - 1 < (l.length : Int) := by omega
        have w4' : ((i : Int) - 1).toNat = i - 1 := by omega
        generalize (l[i - 1]'(by omega)).kind = kp' at *
        rw [hgi] at hb
        by_cases e8 : kp' = 8
        · subst e8
          rw [decide_eq_true (.inl rfl)] at hb
          have HB := Lib.hid hb
          clear hb hprev hgi hi0
          go_wp2_with (at_builtin; refine wpList_append_own _ rfl _ _ 30 rfl w.heap.size 40 i0 (.agg #[.int .i64 0, .string ⟨#[]⟩, .int .i64 0, .int .i64 0, .bool false]) 5 48 Tryz.underlying30 HI.out HZ0.out HZ1.out HZ2.out rfl (by decide) _ acc.length _ rfl ((HOWN.out.alloc _).alloc _) ⟨wr.heap.size + 1, 0, none⟩ 1 1 [.int .i64 kd, .string (str tx), .int .i64 lo, .int .i64 hi', .bool true] rfl rfl (by simpa using five_cells (wr.alloc (.cells #[.int .i64 kd, .string (str tx), .int .i64 lo, .int .i64 hi', .bool true] 40)) (.int .i64 kd) (.string (str tx)) (.int .i64 lo) (.int .i64 hi') (.bool true) 40) (fun u hu => by simp at hu; rcases hu with rfl | rfl | rfl | rfl | rfl <;> rfl) (by unfold maxLen; omega) (by omega) (by simp; omega) ?_; intro v' w1 hown' hgrow _)
          have HOWN' := Lib.hid hown'
          have HBE' := Lib.hid (((HBEL.out.alloc hws (.cells #[.int .i64 kd, .string (str tx), .int .i64 lo, .int .i64 hi', .bool true] 40)).alloc (by simp; omega) (.cells #[.int .i64 kd, .string (str tx), .int .i64 lo, .int .i64 hi', .bool true] 40)).grown hgrow (by simp; omega) (fun k hk => (row_cells HOWN.out hk).1))
          clear hown' hgrow
          go_wp2_with fail
          go_roundw
          case rel =>
            refine ⟨i + 1, acc ++ [⟨kd, tx, lo, hi', true⟩], by omega, by go_num, by rw [HG.out, HB.out, List.append_assoc]; simp, HBE'.out, ?_, by rw [List.length_append, List.length_singleton]; omega⟩
            have h := HOWN'.out
            rw [List.flatMap_append, List.length_append]
            simpa [tkC] using h
          case measure => simp [intOf]; omega
        by_cases e9 : kp' = 9
        · subst e9
          rw [decide_eq_true (.inr rfl)] at hb
          have HB := Lib.hid hb
          clear hb hprev hgi hi0 e8
          go_wp2_with (at_builtin; refine wpList_append_own _ rfl _ _ 30 rfl w.heap.size 40 i0 (.agg #[.int .i64 0, .string ⟨#[]⟩, .int .i64 0, .int .i64 0, .bool false]) 5 48 Tryz.underlying30 HI.out HZ0.out HZ1.out HZ2.out rfl (by decide) _ acc.length _ rfl ((HOWN.out.alloc _).alloc _) ⟨wr.heap.size + 1, 0, none⟩ 1 1 [.int .i64 kd, .string (str tx), .int .i64 lo, .int .i64 hi', .bool true] rfl rfl (by simpa using five_cells (wr.alloc (.cells #[.int .i64 kd, .string (str tx), .int .i64 lo, .int .i64 hi', .bool true] 40)) (.int .i64 kd) (.string (str tx)) (.int .i64 lo) (.int .i64 hi') (.bool true) 40) (fun u hu => by simp at hu; rcases hu with rfl | rfl | rfl | rfl | rfl <;> rfl) (by unfold maxLen; omega) (by omega) (by simp; omega) ?_; intro v' w1 hown' hgrow _)
          have HOWN' := Lib.hid hown'
          have HBE' := Lib.hid (((HBEL.out.alloc hws (.cells #[.int .i64 kd, .string (str tx), .int .i64 lo, .int .i64 hi', .bool true] 40)).alloc (by simp; omega) (.cells #[.int .i64 kd, .string (str tx), .int .i64 lo, .int .i64 hi', .bool true] 40)).grown hgrow (by simp; omega) (fun k hk => (row_cells HOWN.out hk).1))
          clear hown' hgrow
          go_wp2_with fail
          go_roundw
          case rel =>
            refine ⟨i + 1, acc ++ [⟨kd, tx, lo, hi', true⟩], by omega, by go_num, by rw [HG.out, HB.out, List.append_assoc]; simp, HBE'.out, ?_, by rw [List.length_append, List.length_singleton]; omega⟩
            have h := HOWN'.out
            rw [List.flatMap_append, List.length_append]
            simpa [tkC] using h
          case measure => simp [intOf]; omega
        · rw [decide_eq_false (by omega)] at hb
          have e8' : ((kp' : Int) == 8) = false := by rw [beq_eq_false_iff_ne]; omega
          have e9' : ((kp' : Int) == 9) = false := by rw [beq_eq_false_iff_ne]; omega
          have HB := Lib.hid hb
          clear hb hprev hgi hi0 e8 e9
          go_wp2_with (at_builtin; refine wpList_append_own _ rfl _ _ 30 rfl w.heap.size 40 i0 (.agg #[.int .i64 0, .string ⟨#[]⟩, .int .i64 0, .int .i64 0, .bool false]) 5 48 Tryz.underlying30 HI.out HZ0.out HZ1.out HZ2.out rfl (by decide) _ acc.length _ rfl ((HOWN.out.alloc _).alloc _) ⟨wr.heap.size + 1, 0, none⟩ 1 1 [.int .i64 kd, .string (str tx), .int .i64 lo, .int .i64 hi', .bool sp] rfl rfl (by simpa using five_cells (wr.alloc (.cells #[.int .i64 kd, .string (str tx), .int .i64 lo, .int .i64 hi', .bool sp] 40)) (.int .i64 kd) (.string (str tx)) (.int .i64 lo) (.int .i64 hi') (.bool sp) 40) (fun u hu => by simp at hu; rcases hu with rfl | rfl | rfl | rfl | rfl <;> rfl) (by unfold maxLen; omega) (by omega) (by simp; omega) ?_; intro v' w1 hown' hgrow _)
          have HOWN' := Lib.hid hown'
          have HBE' := Lib.hid (((HBEL.out.alloc hws (.cells #[.int .i64 kd, .string (str tx), .int .i64 lo, .int .i64 hi', .bool sp] 40)).alloc (by simp; omega) (.cells #[.int .i64 kd, .string (str tx), .int .i64 lo, .int .i64 hi', .bool sp] 40)).grown hgrow (by simp; omega) (fun k hk => (row_cells HOWN.out hk).1))
          clear hown' hgrow
          go_wp2_with fail
          go_roundw
          case rel =>
            refine ⟨i + 1, acc ++ [⟨kd, tx, lo, hi', sp⟩], by omega, by go_num, by rw [HG.out, HB.out, List.append_assoc]; simp, HBE'.out, ?_, by rw [List.length_append, List.length_singleton]; omega⟩
            have h := HOWN'.out
            rw [List.flatMap_append, List.length_append]
            simpa [tkC] using h
          case measure => simp [intOf]; omega
    · obtain rfl : i = l.length := by omega
      rw [List.drop_length] at hb
      have HB := Lib.hid hb
      have HBEL := Lib.hid hbel
      have HOWN := Lib.hid hown
      clear hb hbel hown
      go_wp2_with fail
      go_ret
      refine ⟨_, rfl, ?_, HBEL.out⟩
      have h := HB.out
      simp only [bareD, List.append_nil] at h
      rw [h]
      exact HOWN.out
theorem hashB {x : Bs} (h : isHash x = true) : ((str x).toList == [35]) = true ∨ (((str x).toList == [35]) = false ∧ ((str x).toList == [37, 58]) = true) := by
  rw [isHash, Bool.or_eq_true, beq_iff_eq, beq_iff_eq] at h
  rcases h with h | h
  · exact .inl (by rw [str_tl, h]; rfl)
  · exact .inr ⟨by rw [str_tl, h]; rfl, by rw [str_tl, h]; rfl⟩
/-- Is the first of some bare tokens the one of a directive? -/
def hashP (b : List Tk) : Bool := match b with
  | [] => false
  | t :: _ => decide (t.kind = 5) && isHash t.text
set_option maxRecDepth 100000 in
set_option maxHeartbeats 4000000 in
theorem Rf.hash (a : Option Addr) (c : Nat) (l : List Tk) (w : World) (hr : RowAt 5 tkC w a l) (hl : l.length ≤ 1000000000) : Calls Tryz.prog 51 #[.slice a l.length c] w fun e w' => e = .returned (.bool (hashP l)) ∧ w' = w := by
  cases l with
  | nil =>
    clear hr hl
    go_enter Tryz.func51, Tryz.ntmps51
    go_wp2_with fail
    go_ret
    exact ⟨rfl, rfl⟩
  | cons t r =>
    obtain ⟨gb, go, rfl, hgb, hgc⟩ := hr.at (by simp)
    obtain ⟨k0, k1, -, -, -⟩ := CellsAt.get5 (hgc 0 (by simp))
    simp only [List.getElem_cons_zero, Nat.zero_mul, Nat.add_zero] at k0 k1
    have hh : hashP (t :: r) = (decide (t.kind = 5) && isHash t.text) := rfl
    rw [hh]
    obtain ⟨n, hn⟩ : ∃ n, (t :: r).length = n := ⟨_, rfl⟩
    rw [hn]
    have hn0 : (0 : Int) < n := by rw [← hn]; simp
    obtain ⟨kd, tx, lo, hi', sp⟩ := t
    simp only at k0 k1 ⊢
    clear hr hl hgc hh hn
    by_cases h5 : kd = 5
    · subst h5
      cases hx : isHash tx with
      | true =>
        rcases hashB hx with e | ⟨e, e'⟩
        · clear hx
          go_enter Tryz.func51, Tryz.ntmps51
          go_wp2_with fail
          go_ret
          exact ⟨rfl, rfl⟩
        · clear hx
          go_enter Tryz.func51, Tryz.ntmps51
          go_wp2_with fail
          go_ret
          exact ⟨rfl, rfl⟩
      | false =>
        obtain ⟨e, e'⟩ := hash_no hx
        clear hx
        go_enter Tryz.func51, Tryz.ntmps51
        go_wp2_with fail
        go_ret
        exact ⟨rfl, rfl⟩
    · have h5' : ((kd : Int) == 5) = false := by rw [beq_eq_false_iff_ne]; omega
      rw [decide_eq_false h5]
      clear h5
      go_enter Tryz.func51, Tryz.ntmps51
      go_wp2_with fail
      go_ret
      exact ⟨rfl, rfl⟩
end Go.Proofs.YtbnhefibpjldfaaGreatDoor

/- PxW -/
namespace Go.Proofs.YtbnhefibpjldfaaGreatDoor
open Go.RowKit Go.BigFrame Go.Shelf
set_option linter.unusedVariables false

/-- Rows and a line that has begun: each row's tokens are its own, the last one's from D on, the line's from E on. -/
structure RwD (B D E : Nat) (lv nv : Value) (L : List Rv) (line : List Tk) (w : World) : Prop where
  row : w.ownsRow B 78 3 lv L.length (L.flatMap rvC)
  old : ∀ c ∈ L.dropLast, w.ownsRow B 40 5 c.2 c.1.toks.length (c.1.toks.flatMap tkC) ∧ ∀ k, c.2.ownBlock = some k → k < D
  new : ∀ c, L.getLast? = some c → w.ownsRow D 40 5 c.2 c.1.toks.length (c.1.toks.flatMap tkC) ∧ ∀ k, c.2.ownBlock = some k → k < E
  ln : w.ownsRow E 40 5 nv line.length (line.flatMap tkC)
  leB : B ≤ D
  leD : D ≤ E
  leE : E ≤ w.heap.size
theorem RwD.on {B D E : Nat} {lv nv : Value} {L : List Rv} {line : List Tk} {w w' : World} (h : RwD B D E lv nv L line w) (hb : Below w.heap.size w w') : RwD B D E lv nv L line w' :=
  ⟨own_on h.row hb, fun c hc => ⟨own_on (h.old c hc).1 hb, (h.old c hc).2⟩, fun c hc => ⟨own_on (h.new c hc).1 hb, (h.new c hc).2⟩, own_on h.ln hb, h.leB, h.leD, Nat.le_trans h.leE hb.size⟩
theorem mod_grown {w w' : World} {b : Option Nat} (hg : w.grownBy w' b) : Mod (fun k => b = some k) w w' := ⟨hg.os, hg.tape, hg.output, hg.size, fun k hk hn => hg.block k hk (fun e => hn e.symm)⟩
/-- A token more. -/
theorem RwD.more {B D E : Nat} {lv nv nv' : Value} {L : List Rv} {line : List Tk} {t : Tk} {w w1 w2 : World} (h0 : RwD B D E lv nv L line w) (hb : Below w.heap.size w w1) (hg : w1.grownBy w2 nv.ownBlock)
    (hown : w2.ownsRow E 40 5 nv' (line.length + 1) (line.flatMap tkC ++ tkC t)) : RwD B D E lv nv' L (line ++ [t]) w2 ∧ Below B w w2 := by
  have h := h0.on hb
  have hm := mod_grown hg
  have hE : ∀ k, nv.ownBlock = some k → E ≤ k := fun k hk => (row_cells h.ln hk).1
  refine ⟨⟨other_row h.row h.ln (by decide) hg, fun c hc => ⟨ownsRow_mod (h.old c hc).1 hm (fun k hk hs => ?_), (h.old c hc).2⟩, fun c hc => ⟨ownsRow_mod (h.new c hc).1 hm (fun k hk hs => ?_), (h.new c hc).2⟩, ?_, h.leB, h.leD, Nat.le_trans h.leE hg.size⟩, (hb.mono (Nat.le_trans h0.leB (Nat.le_trans h0.leD h0.leE))).trans (hm.below (Nat.le_trans h.leB (Nat.le_trans h.leD h.leE)) (fun k hk => Nat.le_trans h.leB (Nat.le_trans h.leD (hE k hk))))⟩
  · have := (h.old c hc).2 k hk
    have := hE k hs
    have := h.leD
    omega
  · have := (h.new c hc).2 k hk
    have := hE k hs
    omega
  · rw [List.flatMap_append, List.length_append]
    simpa using hown
/-- The line is put behind the last row's tokens. -/
theorem RwD.grow {B D E G cap : Nat} {nv v' : Value} {d : List Rv} {c : Rv} {line ts : List Tk} {w w2 : World}
    (h : RwD B D E (.slice (some ⟨G, 0, none⟩) (d.length + 1) cap) nv (d ++ [c]) line w) (hg : w.grownBy w2 c.2.ownBlock)
    (hown : w2.ownsRow D 40 5 v' ts.length (ts.flatMap tkC)) :
    RwD B D w2.heap.size (.slice (some ⟨G, 0, none⟩) (d.length + 1) cap) (.slice none 0 0) (d ++ [({ c.1 with toks := ts }, v')]) [] (w2.setCell ⟨G, d.length * 3 + 2, none⟩ v') ∧ Below B w (w2.setCell ⟨G, d.length * 3 + 2, none⟩ v') := by
  obtain ⟨hc, hcE⟩ := h.new c (by simp)
  have hl : (d ++ [c]).length = d.length + 1 := by simp
  have hrow := other_row h.row hc (by decide) hg
  rw [hl] at hrow
  obtain ⟨hBG, cur, hG⟩ := row_cells hrow rfl
  have hm : Mod (fun k => k = G) w2 (w2.setCell ⟨G, d.length * 3 + 2, none⟩ v') := Mod.setCell (S := fun k => k = G) (Mod.refl _ w2) ⟨G, d.length * 3 + 2, none⟩ (.inr rfl) _
  have key : ∀ {X e size n : Nat} {v : Value} {xs : List Value}, e ≠ 78 → w2.ownsRow X e size v n xs → (w2.setCell ⟨G, d.length * 3 + 2, none⟩ v').ownsRow X e size v n xs := fun he hx =>
    ownsRow_mod hx hm (fun k hk hkr => by
      subst hkr
      obtain ⟨_, cur', hc'⟩ := row_cells hx hk
      rw [hG] at hc'
      simp only [Option.some.injEq, Obj.cells.injEq] at hc'
      exact he hc'.2.1.symm)
  have hst := (hrow.stored (d.length * 3 + 2) v').1
  rw [rv_set d c ts v'] at hst
  have hmg := mod_grown hg
  have hs2 := hg.size
  refine ⟨⟨by simpa using hst, fun c' hc' => ?_, fun c' hc' => ?_, World.ownsRow_nil _ _ _ _, h.leB, Nat.le_trans h.leD (Nat.le_trans h.leE hs2), by simp⟩, (hmg.below (Nat.le_trans h.leB (Nat.le_trans h.leD h.leE)) (fun k hk => Nat.le_trans h.leB (row_cells hc hk).1)).trans (hm.below (Nat.le_trans (Nat.le_trans h.leB (Nat.le_trans h.leD h.leE)) hs2) (fun k hk => by rw [hk]; exact hBG))⟩
  · rw [List.dropLast_concat] at hc'
    obtain ⟨h1, h2⟩ := h.old c' (by rw [List.dropLast_concat]; exact hc')
    refine ⟨key (by decide) (ownsRow_mod (S := fun k => c.2.ownBlock = some k) h1 hmg (fun k hk hs => ?_)), h2⟩
    have := h2 k hk
    have := (row_cells hc hs).1
    omega
  · have : c' = ({ c.1 with toks := ts }, v') := by simpa using hc'.symm
    subst this
    refine ⟨key (by decide) hown, fun k hk => ?_⟩
    obtain ⟨_, cur', hc'⟩ := row_cells hown hk
    exact (Array.getElem?_eq_some_iff.1 hc').1
/-- The line becomes a row. -/
theorem RwD.push {B D E : Nat} {lv nv v' : Value} {L : List Rv} {line : List Tk} {r : Rw} {w w1 w2 : World} (h0 : RwD B D E lv nv L line w) (hb : Below w.heap.size w w1) (hg : w1.grownBy w2 lv.ownBlock)
    (hown : w2.ownsRow B 78 3 v' (L.length + 1) (L.flatMap rvC ++ rvC (r, nv))) (hr : r.toks = line) :
    RwD B E w2.heap.size v' (.slice none 0 0) (L ++ [(r, nv)]) [] w2 ∧ Below B w w2 := by
  have h := h0.on hb
  have hm := mod_grown hg
  refine ⟨⟨by rw [List.flatMap_append, List.length_append]; simpa using hown, fun c hc => ?_, fun c hc => ?_, World.ownsRow_nil _ _ _ _, Nat.le_trans h.leB h.leD, Nat.le_trans h.leE hg.size, Nat.le_refl _⟩, (hb.mono (Nat.le_trans h0.leB (Nat.le_trans h0.leD h0.leE))).trans (hm.below (Nat.le_trans h.leB (Nat.le_trans h.leD h.leE)) (fun k hk => (row_cells h.row hk).1))⟩
  · rw [List.dropLast_concat] at hc
    rcases last_cases L with rfl | ⟨d, x, rfl⟩
    · cases hc
    · rcases List.mem_append.1 hc with hc | hc
      · obtain ⟨q1, q2⟩ := h.old c (by rw [List.dropLast_concat]; exact hc)
        exact ⟨other_row q1 h.row (by decide) hg, fun k hk => Nat.lt_of_lt_of_le (q2 k hk) h.leD⟩
      · rw [List.mem_singleton] at hc
        subst hc
        obtain ⟨q1, q2⟩ := h.new c (by simp)
        exact ⟨other_row (own_base q1 h.leB) h.row (by decide) hg, q2⟩
  · have : c = (r, nv) := by simpa using hc.symm
    subst this
    have q := other_row h.ln h.row (by decide) hg
    rw [← hr] at q
    refine ⟨q, fun k hk => ?_⟩
    obtain ⟨_, cur', hc'⟩ := row_cells q hk
    exact (Array.getElem?_eq_some_iff.1 hc').1
theorem RwD.rv {B D E : Nat} {lv nv : Value} {L : List Rv} {line : List Tk} {w : World} (h : RwD B D E lv nv L line w) : RowsV w lv (L.map (·.1)) := by
  refine ⟨L, rfl, SlV.of rvC_len h.row rfl, fun c hc => ?_⟩
  rcases last_cases L with rfl | ⟨d, x, rfl⟩
  · cases hc
  · rcases List.mem_append.1 hc with hc | hc
    · exact SlV.of tkC_len (h.old c (by rw [List.dropLast_concat]; exact hc)).1 rfl
    · rw [List.mem_singleton] at hc
      subst hc
      exact SlV.of tkC_len (h.new c (by simp)).1 rfl
/-- The last row's cells. -/
theorem RwD.last {B D E : Nat} {lv nv : Value} {d : List Rv} {c : Rv} {line : List Tk} {w : World} (h : RwD B D E lv nv (d ++ [c]) line w) :
    ∃ G cap, lv = .slice (some ⟨G, 0, none⟩) (d.length + 1) cap ∧ B ≤ G ∧ G < w.heap.size ∧ w.cell? ⟨G, d.length * 3, none⟩ = some (.bool c.1.dir) ∧ w.cell? ⟨G, d.length * 3 + 2, none⟩ = some c.2 ∧ ∀ o, (w.alloc o).frozen? ⟨G, d.length * 3 + 2, none⟩ = false := by
  have hl : (d ++ [c]).length = d.length + 1 := by simp
  have hrow := h.row
  rw [hl] at hrow
  rcases hrow.2 with ⟨_, h2⟩ | ⟨G, cap, cur, rfl, hb, hg, _⟩
  · omega
  · obtain ⟨e0, _, e2⟩ := rv_flat d c
    exact ⟨G, cap, rfl, hb, (Array.getElem?_eq_some_iff.1 hg).1, by rw [hrow.cellAt _ (by omega), e0], by rw [hrow.cellAt _ (by omega), e2], fun o => Lib.frozen_of_heap (heap_alloc_old' o hg) _⟩
end Go.Proofs.YtbnhefibpjldfaaGreatDoor

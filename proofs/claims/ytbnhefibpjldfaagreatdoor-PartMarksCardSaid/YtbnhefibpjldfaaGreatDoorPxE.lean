/- part: the iterator over comments; whether a comment is a block. -/
import Derived.Test.YtbnhefibpjldfaaGreatDoorPxA
import Derived.Test.YtbnhefibpjldfaaGreatDoorPwO
namespace Go.Proofs.YtbnhefibpjldfaaGreatDoor
open Go.RowKit Go.BigFrame Go.Shelf
set_option linter.unusedVariables false
attribute [local go_sem] Oper.semAt_some

theorem Sc.scan (s : ByteArray) (w : World) (hs : s.size ≤ 1000000000) (hm : Mx w) : Calls Tryz.prog 9 #[.string s] w (ScPost s w) := by
  by_cases h : chk (dl s) = 0
  · exact Sc.scanOk s w hs h hm
  · exact Sc.scanBad s w hs h
/-- A box stays, and the blocks below a bound. -/
def KX (B K : Nat) (a b : World) : Prop := a.heap.size ≤ b.heap.size ∧ (∀ cs t, a.heap[B]? = some (.cells cs t (0, 0)) → b.heap[B]? = some (.cells cs t (0, 0))) ∧ (K ≤ a.heap.size → Below K a b)
theorem KX.trans {B K : Nat} {a b c : World} (h : KX B K a b) (k : KX B K b c) : KX B K a c := ⟨Nat.le_trans h.1 k.1, fun cs t x => k.2.1 cs t (h.2.1 cs t x), fun x => (h.2.2 x).trans (k.2.2 (Nat.le_trans x h.1))⟩
theorem KX.of_below {B K : Nat} {w w' : World} (h : Below w.heap.size w w') : KX B K w w' := ⟨h.size, fun cs t x => heap_below h x (Array.getElem?_eq_some_iff.1 x).1, fun x => h.mono x⟩
theorem KX.putObj {B K : Nat} {w : World} {l : Nat} {o o' : Obj} (hK : K ≤ l) (ho : w.heap[l]? = some o) (hc : o.isCells = false) : KX B K w (w.putObj l o') := ⟨by simp, fun cs t x => by
  rw [World.putObj_heap_other (fun e => by
    subst e
    rw [ho] at x
    cases x
    cases hc)]
  exact x, fun _ => below_put hK ho⟩
theorem Cm.comments (a : Option Addr) (n c : Nat) (w : World) : Calls Tryz.prog 20 #[.slice a n c] w fun e w' => e = .returned (.func (.func 43) #[] #[.pointer (some ⟨w.heap.size, 0, none⟩)]) ∧ w' = w.alloc (.cells #[.slice a n c] 30) := by
  go_enter Tryz.func20, Tryz.ntmps20
  go_wp2
  go_ret
  exact ⟨rfl, rfl⟩
def tkV (t : Tk) : Value := .agg #[.int .i64 t.kind, .string (str t.text), .int .i64 t.lo, .int .i64 t.hi, .bool t.space]
def cmsT (l : List Tk) : List Tk := l.filter fun t => t.kind == 8
theorem cms_at {l : List Tk} {i : Nat} (h : i < l.length) : cmsT (l.drop i) = if l[i].kind = 8 then l[i] :: cmsT (l.drop (i + 1)) else cmsT (l.drop (i + 1)) := by
  rw [List.drop_eq_getElem_cons h]
  unfold cmsT
  by_cases h8 : l[i].kind = 8
  · rw [if_pos h8, List.filter_cons, if_pos (by simpa using h8)]
  · rw [if_neg h8, List.filter_cons, if_neg (by simpa using h8)]
set_option maxRecDepth 100000 in
set_option maxHeartbeats 8000000 in
theorem Cm.seq (n B K gb go c : Nat) (l : List Tk) (a : Option Addr) (w : World) (h0 : w.heap[B]? = some (.cells #[.slice a l.length c] 30 (0, 0))) (hl : l.length ≤ 1000000000) (hK : K ≤ w.heap.size)
    (hrow : l ≠ [] → a = some ⟨gb, go, none⟩ ∧ gb < K ∧ ∀ i (h : i < l.length), CellsAt w gb (go + i * 5) (tkC l[i])) :
    SeqG Fence.wide n Tryz.prog 43 #[.pointer (some ⟨B, 0, none⟩)] (fun t : Tk => #[tkV t]) (KX B K) (fun pre x => ∃ r, cmsT l = pre ++ x :: r) (fun _ => False)
      (fun zs => zs = cmsT l) (fun zs => ∃ r, cmsT l = zs ++ r) w := fun L J Jx W hW hJ hJx hY hj0 => by
  have g0 := heap_below hW h0 (Array.getElem?_eq_some_iff.1 h0).1
  have hbK : Below K w W := hW.mono hK
  have HJ := Lib.hid hJ
  have HY := Lib.hid hY
  have HJ0 := Lib.hid hj0
  have G0 := Lib.hid g0
  have HBK := Lib.hid hbK
  have HROW := Lib.hid hrow
  clear h0 hJ hJx g0 hY hj0 hbK hrow
  refine callsIn_of_wp Tryz.func43 rfl trivial ?_ rfl
  simp only [Tryz.ntmps43, List.size_toArray, List.length_cons, List.length_nil, Nat.reduceAdd, Nat.reduceSub, Array.replicate_succ, Array.replicate_zero, List.push_toArray, List.append_toArray, List.nil_append, List.cons_append]
  have c00 : W.cell? ⟨B, 0, none⟩ = some (.slice a l.length c) := by simp [World.cell?, G0.out]
  gi_wp2_with (fail)
  gi_loopw [7] (fun s7 wr => ∃ (pre : List Tk) (i : Nat), cmsT l = pre ++ cmsT (l.drop i) ∧ i ≤ l.length ∧ s7 = .int .i64 i ∧ wr.heap[B]? = some (.cells #[.slice a l.length c] 30 (0, 0)) ∧ Below K w wr ∧ J pre wr) (fun s7 _ => l.length - (intOf s7).toNat)
  case atStart => exact ⟨[], 0, rfl, Nat.zero_le _, rfl, G0.out, HBK.out, HJ0.out⟩
  case round =>
    clear HJ0 G0 HBK c00
    obtain ⟨pre, i, hpre, hi, rfl, g0, hbk, hjp⟩ := hrel
    have G0 := Lib.hid g0
    have HJP := Lib.hid hjp
    have HBK := Lib.hid hbk
    clear g0 hjp hbk
    have hws := HBK.out.size
    by_cases hlt : i < l.length
    · obtain ⟨rfl, hgb, hgc⟩ := HROW.out (by intro e; simp [e] at hlt)
      obtain ⟨k0, k1, k2, k3, k4⟩ := CellsAt.get5 ((hgc i hlt).below HBK.out hgb)
      rw [cms_at hlt] at hpre
      have hlt' : (i : Int) < l.length := by omega
      generalize l[i] = t at *
      obtain ⟨kd, tx, lo, hi', sp⟩ := t
      simp only at k0 k1 k2 k3 k4 hpre
      by_cases h8 : kd = 8
      · subst h8
        rw [if_pos rfl] at hpre
        have HPRE := Lib.hid hpre
        have hjw := HJ.out pre wr (wr.alloc (.cells #[.int .i64 8, .string (str tx), .int .i64 lo, .int .i64 hi', .bool sp] 40)) HJP.out (Mod.of_below (below_alloc _ _))
        obtain ⟨fn1, tm1, as1, bo1, hyy1, hR1⟩ := HY.out pre ⟨8, tx, lo, hi', sp⟩ _ hjw ⟨_, HPRE.out⟩
        rw [show tkV ⟨8, tx, lo, hi', sp⟩ = .agg #[.int .i64 8, .string (str tx), .int .i64 lo, .int .i64 hi', .bool sp] from rfl] at hyy1
        clear hpre hgc hjw
        gi_wp2_with (fail)
        refine ⟨(fun hh => by cases hh), hR1.mono ?_⟩
        rintro e W1 (⟨rfl, hJ1, hk1⟩ | ⟨rfl, hx1⟩)
        · have g0 := hk1.2.1 _ 30 ((Lib.alloc_old wr _ B (Array.getElem?_eq_some_iff.1 G0.out).1).trans G0.out)
          have HB1 := Lib.hid ((HBK.out.trans ((below_alloc _ _).mono (Nat.le_trans hK hws))).trans (hk1.2.2 (by simp; omega)))
          have HJ1 := Lib.hid hJ1
          have GB := Lib.hid g0
          clear g0 hk1 hJ1 hyy1 hR1
          gi_wp2_with (fail)
          go_roundw
          case rel =>
            refine ⟨pre ++ [⟨8, tx, lo, hi', sp⟩], i + 1, ?_, by omega, by go_num, GB.out, HB1.out, HJ1.out⟩
            rw [HPRE.out, List.append_assoc]; rfl
          case measure => simp [intOf]; omega
        · have HX1 := Lib.hid hx1
          clear hx1 hyy1 hR1
          gi_wp2_with (fail)
          refine bodyPost_ret (results_none rfl _ _ _) rfl ?_
          exact ⟨⟨_, rfl⟩, .inr ⟨_, ⟨_, by rw [HPRE.out, List.append_assoc]; rfl⟩, HX1.out⟩⟩
      · rw [if_neg h8] at hpre
        have h8' : ((kd : Int) == 8) = false := by rw [beq_eq_false_iff_ne]; omega
        have HPRE := Lib.hid hpre
        clear hpre hgc h8
        gi_wp2_with (fail)
        try refine ⟨(fun f hh => by cases hh), ?_⟩
        gi_wp2_with (fail)
        go_roundw
        case rel => exact ⟨pre, i + 1, HPRE.out, by omega, by go_num, (Lib.alloc_old wr _ B (Array.getElem?_eq_some_iff.1 G0.out).1).trans G0.out, HBK.out.trans ((below_alloc _ _).mono (Nat.le_trans hK hws)), HJ.out _ _ _ HJP.out (Mod.of_below (below_alloc _ _))⟩
        case measure => simp [intOf]; omega
    · obtain rfl : i = l.length := by omega
      rw [List.drop_length, show cmsT [] = [] from rfl, List.append_nil] at hpre
      have HP := Lib.hid hpre
      clear hpre
      gi_wp2_with (fail)
      go_end0
      first
      | exact ⟨⟨_, rfl⟩, .inl ⟨_, HP.out.symm, HJP.out⟩⟩
      | exact ⟨⟨_, rfl⟩, .inl (by rw [HP.out]; exact HJP.out)⟩
end Go.Proofs.YtbnhefibpjldfaaGreatDoor

/- PxC -/
namespace Go.Proofs.YtbnhefibpjldfaaGreatDoor
open Go.RowKit Go.BigFrame Go.Shelf
set_option linter.unusedVariables false

theorem Cm.block (s : ByteArray) (w : World) : Calls Tryz.prog 44 #[.string s] w fun e w' => e = .returned (.bool (isBlock (dl s))) ∧ w' = w := by
  have h : Lib.hasPrefix (dl s) (dl ⟨#[47, 42]⟩) = isBlock (dl s) := by
    rw [hasPrefix_take]
    unfold isBlock
    rw [Bool.eq_iff_iff, decide_eq_true_iff, beq_iff_eq]
    rfl
  have H := Lib.hid (fun u : World => hasPrefix_call s ⟨#[47, 42]⟩ u _ h)
  clear h
  go_enter Tryz.func44, Tryz.ntmps44
  go_wp2_with fail
  refine (H.out w).mono ?_
  rintro e w2 ⟨rfl, rfl⟩
  go_wp2_with fail
  go_ret
  exact ⟨rfl, rfl⟩
/-- A rune that is white space, with 10; without. -/
def r6 (r : Int) : Bool := decide (r = 32) || (decide (9 ≤ r) && decide (r ≤ 13))
def r5 (r : Int) : Bool := decide (r = 32) || decide (r = 9) || decide (r = 11) || decide (r = 12) || decide (r = 13)
set_option maxRecDepth 100000 in
theorem Cm.rune6 (r : Int) (w : World) : Calls Tryz.prog 67 #[.int .i32 r] w fun e w' => e = .returned (.bool (r6 r)) ∧ w' = w := by
  by_cases h1 : r = 32
  · subst h1
    go_enter Tryz.func67, Tryz.ntmps67
    go_wp2_with fail
    go_ret
    exact ⟨rfl, rfl⟩
  · have h1' : (r == 32) = false := by simpa using h1
    by_cases h2 : 9 ≤ r
    · by_cases h3 : r ≤ 13
      · have e : r6 r = true := by simp [r6, h2, h3]
        have HE := Lib.hid e
        clear e h1
        go_enter Tryz.func67, Tryz.ntmps67
        go_wp2_with fail
        go_ret
        exact ⟨by rw [HE.out]; rfl, rfl⟩
      · have e : r6 r = false := by simp [r6, h1, h3]
        have HE := Lib.hid e
        clear e h1
        go_enter Tryz.func67, Tryz.ntmps67
        go_wp2_with fail
        go_ret
        exact ⟨by rw [HE.out]; rfl, rfl⟩
    · have e : r6 r = false := by simp [r6, h1, h2]
      have HE := Lib.hid e
      clear e h1
      go_enter Tryz.func67, Tryz.ntmps67
      go_wp2_with fail
      go_ret
      exact ⟨by rw [HE.out]; rfl, rfl⟩
set_option maxRecDepth 100000 in
theorem Cm.rune5 (r : Int) (w : World) : Calls Tryz.prog 80 #[.int .i32 r] w fun e w' => e = .returned (.bool (r5 r)) ∧ w' = w := by
  by_cases h32 : r = 32
  · subst h32
    go_enter Tryz.func80, Tryz.ntmps80
    go_wp2_with fail
    go_ret
    exact ⟨rfl, rfl⟩
  by_cases h9 : r = 9
  · subst h9
    go_enter Tryz.func80, Tryz.ntmps80
    go_wp2_with fail
    go_ret
    exact ⟨rfl, rfl⟩
  by_cases h11 : r = 11
  · subst h11
    go_enter Tryz.func80, Tryz.ntmps80
    go_wp2_with fail
    go_ret
    exact ⟨rfl, rfl⟩
  by_cases h12 : r = 12
  · subst h12
    go_enter Tryz.func80, Tryz.ntmps80
    go_wp2_with fail
    go_ret
    exact ⟨rfl, rfl⟩
  by_cases h13 : r = 13
  · subst h13
    go_enter Tryz.func80, Tryz.ntmps80
    go_wp2_with fail
    go_ret
    exact ⟨rfl, rfl⟩
  have e : r5 r = false := by simp [r5, h32, h9, h11, h12, h13]
  have HE := Lib.hid e
  have g32 : (r == 32) = false := by simpa using h32
  have g9 : (r == 9) = false := by simpa using h9
  have g11 : (r == 11) = false := by simpa using h11
  have g12 : (r == 12) = false := by simpa using h12
  have g13 : (r == 13) = false := by simpa using h13
  clear e h32 h9 h11 h12 h13
  go_enter Tryz.func80, Tryz.ntmps80
  go_wp2_with fail
  go_ret
  exact ⟨by rw [HE.out]; rfl, rfl⟩
end Go.Proofs.YtbnhefibpjldfaaGreatDoor

/- PxD -/
namespace Go.Proofs.YtbnhefibpjldfaaGreatDoor
open Go.RowKit Go.BigFrame Go.Shelf
set_option linter.unusedVariables false

theorem Cm.pred6 (w : World) : PredAtRunes Tryz.prog 67 #[] (fun x => r6 x) w := fun W x _ _ => by
  refine (Cm.rune6 x W).mono ?_
  rintro e w' ⟨rfl, rfl⟩
  exact ⟨rfl, 0, rfl⟩
theorem Cm.pred5 (w : World) : PredAtRunes Tryz.prog 80 #[] (fun x => r5 x) w := fun W x _ _ => by
  refine (Cm.rune5 x W).mono ?_
  rintro e w' ⟨rfl, rfl⟩
  exact ⟨rfl, 0, rfl⟩
/-- The pieces of a text by a predicate, as a new slice. -/
def FieldsPost (p : Nat → Bool) (s : ByteArray) (w : World) (e : Ending) (w' : World) : Prop :=
  ∃ A, e = .returned (.slice (some ⟨A, 0, none⟩) (Lib.goFieldsP p s).length (Lib.goFieldsP p s).length) ∧ w'.ownsRow w.heap.size 9 1 (.slice (some ⟨A, 0, none⟩) (Lib.goFieldsP p s).length (Lib.goFieldsP p s).length) (Lib.goFieldsP p s).length ((Lib.goFieldsP p s).map Value.string) ∧ Below w.heap.size w w'
theorem Cm.fields5 (s : ByteArray) (w : World) (hs : s.size ≤ 4294967296) : Calls Tryz.prog 66 #[.string s, .func (.func 80) #[] #[]] w (FieldsPost (fun x => r5 x) s w) := by
  refine (Tryz.strings_FieldsFunc_runes 80 #[] (enters_of Tryz.func80 (by kernel_rfl) rfl) (fun x => r5 x) s w hs (Cm.pred5 w)).mono ?_
  rintro e w' ⟨A, h1, _, h2, h3⟩
  exact ⟨A, h1, h2, h3⟩
theorem Cm.fields6 (s : ByteArray) (w : World) (hs : s.size ≤ 4294967296) : Calls Tryz.prog 66 #[.string s, .func (.func 67) #[] #[]] w (FieldsPost (fun x => r6 x) s w) := by
  refine (Tryz.strings_FieldsFunc_runes 67 #[] (enters_of Tryz.func67 (by kernel_rfl) rfl) (fun x => r6 x) s w hs (Cm.pred6 w)).mono ?_
  rintro e w' ⟨A, h1, _, h2, h3⟩
  exact ⟨A, h1, h2, h3⟩
def noPre (x : Bs) : Bs := Lib.trimPrefix x [47, 47]
theorem trim_call (s : ByteArray) (w : World) (t : ByteArray) (h : str (noPre (dl s)) = t) : Calls Tryz.prog 81 #[.string s, .string ⟨#[47, 47]⟩] w fun e w' => e = .returned (.string t) ∧ w' = w := by
  subst h
  exact Tryz.strings_TrimPrefix s ⟨#[47, 47]⟩ w
theorem Cm.words (s : ByteArray) (w : World) (hs : s.size ≤ 1000000000) : Calls Tryz.prog 46 #[.string s] w (FieldsPost (fun x => r5 x) (str (noPre (dl s))) w) := by
  obtain ⟨t, ht⟩ : ∃ t, str (noPre (dl s)) = t := ⟨_, rfl⟩
  have hts : t.size ≤ 4294967296 := by
    rw [← ht, str_size]
    have : (dl s).length = s.size := (size_dl s).symm
    unfold noPre Lib.trimPrefix
    split <;> simp <;> omega
  have HT := Lib.hid (fun u : World => trim_call s u t ht)
  rw [ht]
  clear ht
  go_enter Tryz.func46, Tryz.ntmps46
  go_wp2_with fail
  refine (HT.out w).mono ?_
  rintro e w2 ⟨rfl, rfl⟩
  go_wp2_with fail
  refine (Cm.fields5 t _ hts).mono ?_
  rintro e w3 ⟨A, rfl, h2, h3⟩
  have H2 := Lib.hid h2
  have H3 := Lib.hid h3
  clear h2 h3
  go_wp2_with fail
  go_ret
  exact ⟨A, rfl, H2.out, H3.out⟩
end Go.Proofs.YtbnhefibpjldfaaGreatDoor

/- PxE -/
namespace Go.Proofs.YtbnhefibpjldfaaGreatDoor
open Go.RowKit Go.BigFrame Go.Shelf
set_option linter.unusedVariables false

set_option maxRecDepth 100000 in
set_option maxHeartbeats 2000000 in
theorem Cm.mark (s : ByteArray) (w : World) (hs : s.size ≤ 1000000000) (h2 : 2 ≤ s.size) (h4 : isBlock (dl s) = true → 4 ≤ s.size) :
    Calls Tryz.prog 31 #[.string s] w fun e w' => e = .returned (.int .i64 (markW ((Lib.goFieldsP (fun x => r6 x) (str (inside (dl s)))).map dl))) ∧ Below w.heap.size w w' := by
  obtain ⟨t, ht⟩ : ∃ t, str (inside (dl s)) = t := ⟨_, rfl⟩
  have hts : t.size ≤ 4294967296 := by
    rw [← ht, str_size]
    have : (dl s).length = s.size := (size_dl s).symm
    unfold inside
    split <;> simp <;> omega
  have hbl := fun u : World => Cm.block s u
  have hF := fun u : World => Cm.fields6 t u hts
  rw [ht]
  obtain ⟨F, hFF⟩ : ∃ F, Lib.goFieldsP (fun x => r6 x) t = F := ⟨_, rfl⟩
  rw [hFF]
  obtain ⟨M, hM⟩ : ∃ M, markW (F.map dl) = M := ⟨_, rfl⟩
  rw [hM]
  have HFF := Lib.hid hFF
  clear hFF
  cases hb : isBlock (dl s)
  · have htx : s.extract 2 s.size = t := by rw [← ht, ext_to]; simp [inside, hb]
    rw [hb] at hbl
    have HBL := Lib.hid hbl
    have HF := Lib.hid hF
    have hs2 : (2 : Int) ≤ s.size := by omega
    clear hbl hF hb ht h4
    go_enter Tryz.func31, Tryz.ntmps31
    go_wp2_with fail
    refine (HBL.out w).mono ?_
    rintro e w2 ⟨rfl, rfl⟩
    go_wp2_with fail
    refine (HF.out _).mono ?_
    rintro e w3 ⟨A, rfl, hown, hbel⟩
    rw [HFF.out] at hown ⊢
    have HBEL := Lib.hid hbel
    clear hbel HF HFF
    by_cases hl : F.length = 2
    · match F, hl with
      | [a, b], _ =>
        have c0 : w3.cell? ⟨A, 0, none⟩ = some (.string a) := by have := hown.cellAt 0 (by simp); simpa using this
        have c1 : w3.cell? ⟨A, 1, none⟩ = some (.string b) := by have := hown.cellAt 1 (by simp); simpa using this
        clear hown
        simp only [List.map_cons, List.map_nil, markW] at hM
        by_cases ha : dl a = cfmt'
        · have a1 : (a.toList == [99, 102, 109, 116]) = true := by rw [toList_dl, ha]; rfl
          rw [if_pos ha] at hM
          by_cases hb1 : dl b = off'
          · have b1 : (b.toList == [111, 102, 102]) = true := by rw [toList_dl, hb1]; rfl
            rw [if_pos hb1] at hM
            have HM := Lib.hid hM
            clear ha hb1 hM
            go_wp2_with fail
            go_ret
            exact ⟨by rw [← HM.out]; rfl, HBEL.out⟩
          · have b1 : (b.toList == [111, 102, 102]) = false := by rw [toList_dl]; simpa [off'] using hb1
            rw [if_neg hb1] at hM
            by_cases hb2 : dl b = on'
            · have b2 : (b.toList == [111, 110]) = true := by rw [toList_dl, hb2]; rfl
              rw [if_pos hb2] at hM
              have HM := Lib.hid hM
              clear ha hb1 hb2 hM
              go_wp2_with fail
              go_ret
              exact ⟨by rw [← HM.out]; rfl, HBEL.out⟩
            · have b2 : (b.toList == [111, 110]) = false := by rw [toList_dl]; simpa [on'] using hb2
              rw [if_neg hb2] at hM
              have HM := Lib.hid hM
              clear ha hb1 hb2 hM
              go_wp2_with fail
              go_ret
              exact ⟨by rw [← HM.out]; rfl, HBEL.out⟩
        · have a1 : (a.toList == [99, 102, 109, 116]) = false := by rw [toList_dl]; simpa [cfmt'] using ha
          rw [if_neg ha] at hM
          have HM := Lib.hid hM
          clear ha hM
          go_wp2_with fail
          go_ret
          exact ⟨by rw [← HM.out]; rfl, HBEL.out⟩
    · have hm : markW (F.map dl) = 0 := by
        match F, hl with
        | [], _ => rfl
        | [_], _ => rfl
        | [_, _], h => exact absurd rfl h
        | _ :: _ :: _ :: _, _ => rfl
      have hl' : ((F.length : Int) != 2) = true := by rw [bne_iff_ne]; omega
      rw [hm] at hM
      have HM := Lib.hid hM
      clear hm hl hown hM
      go_wp2_with fail
      go_ret
      exact ⟨by rw [← HM.out]; rfl, HBEL.out⟩
  · have h4' : 4 ≤ s.size := h4 hb
    have htx : (s.extract 2 s.size).extract 0 (s.size - 2 - 2) = t := by
      apply dl_inj
      rw [← ht, dl_str]
      have e : s.extract 2 s.size = str ((dl s).drop 2) := ext_to s 2
      rw [e, ext_str, dl_str]
      simp only [inside, hb, if_true, List.drop_zero, Nat.sub_zero]
      rw [← size_dl, show s.size - 2 - 2 = s.size - 4 by omega]
      simp [dl]
    rw [hb] at hbl
    have HBL := Lib.hid hbl
    have HF := Lib.hid hF
    have hs2 : (2 : Int) ≤ s.size := by omega
    clear hbl hF hb ht h4
    go_enter Tryz.func31, Tryz.ntmps31
    go_wp2_with fail
    refine (HBL.out w).mono ?_
    rintro e w2 ⟨rfl, rfl⟩
    go_wp2_with fail
    rw [htx]
    refine (HF.out _).mono ?_
    rintro e w3 ⟨A, rfl, hown, hbel⟩
    rw [HFF.out] at hown ⊢
    have HBEL := Lib.hid hbel
    clear hbel HF HFF
    by_cases hl : F.length = 2
    · match F, hl with
      | [a, b], _ =>
        have c0 : w3.cell? ⟨A, 0, none⟩ = some (.string a) := by have := hown.cellAt 0 (by simp); simpa using this
        have c1 : w3.cell? ⟨A, 1, none⟩ = some (.string b) := by have := hown.cellAt 1 (by simp); simpa using this
        clear hown
        simp only [List.map_cons, List.map_nil, markW] at hM
        by_cases ha : dl a = cfmt'
        · have a1 : (a.toList == [99, 102, 109, 116]) = true := by rw [toList_dl, ha]; rfl
          rw [if_pos ha] at hM
          by_cases hb1 : dl b = off'
          · have b1 : (b.toList == [111, 102, 102]) = true := by rw [toList_dl, hb1]; rfl
            rw [if_pos hb1] at hM
            have HM := Lib.hid hM
            clear ha hb1 hM
            go_wp2_with fail
            go_ret
            exact ⟨by rw [← HM.out]; rfl, HBEL.out⟩
          · have b1 : (b.toList == [111, 102, 102]) = false := by rw [toList_dl]; simpa [off'] using hb1
            rw [if_neg hb1] at hM
            by_cases hb2 : dl b = on'
            · have b2 : (b.toList == [111, 110]) = true := by rw [toList_dl, hb2]; rfl
              rw [if_pos hb2] at hM
              have HM := Lib.hid hM
              clear ha hb1 hb2 hM
              go_wp2_with fail
              go_ret
              exact ⟨by rw [← HM.out]; rfl, HBEL.out⟩
            · have b2 : (b.toList == [111, 110]) = false := by rw [toList_dl]; simpa [on'] using hb2
              rw [if_neg hb2] at hM
              have HM := Lib.hid hM
              clear ha hb1 hb2 hM
              go_wp2_with fail
              go_ret
              exact ⟨by rw [← HM.out]; rfl, HBEL.out⟩
        · have a1 : (a.toList == [99, 102, 109, 116]) = false := by rw [toList_dl]; simpa [cfmt'] using ha
          rw [if_neg ha] at hM
          have HM := Lib.hid hM
          clear ha hM
          go_wp2_with fail
          go_ret
          exact ⟨by rw [← HM.out]; rfl, HBEL.out⟩
    · have hm : markW (F.map dl) = 0 := by
        match F, hl with
        | [], _ => rfl
        | [_], _ => rfl
        | [_, _], h => exact absurd rfl h
        | _ :: _ :: _ :: _, _ => rfl
      have hl' : ((F.length : Int) != 2) = true := by rw [bne_iff_ne]; omega
      rw [hm] at hM
      have HM := Lib.hid hM
      clear hm hl hown hM
      go_wp2_with fail
      go_ret
      exact ⟨by rw [← HM.out]; rfl, HBEL.out⟩
end Go.Proofs.YtbnhefibpjldfaaGreatDoor

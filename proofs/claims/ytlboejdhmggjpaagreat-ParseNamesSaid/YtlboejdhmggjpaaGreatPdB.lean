/- ctok: the elements of a string of one letter; Str of it. -/
import Derived.Test.YtlboejdhmggjpaaGreatWxC
import Derived.Test.YtlboejdhmggjpaaGreatWkF
import Derived.Test.YtlboejdhmggjpaaGreatWwP
import Derived.Test.YtlboejdhmggjpaaGreatPkB
import Derived.Test.YtlboejdhmggjpaaGreatWnI
set_option linter.all false
namespace Go.Proofs.YtlboejdhmggjpaaGreat.Ww
open Go.Proofs.YtlboejdhmggjpaaGreat
open Go.RowKit Go.BigFrame Go.Shelf
set_option linter.unusedVariables false
attribute [local go_sem] Oper.semAt_some

set_option maxRecDepth 100000 in
theorem El.element (c : UInt8) (h : c.toNat ≠ 92) (w : World) : Calls Tryz.prog 178 #[.string ⟨#[c]⟩, .int .i64 255] w fun e w' => e = .returned (.tuple #[.int .i64 c.toNat, .int .i64 1]) ∧ w' = w := by
  have hne : ((((⟨#[c]⟩ : ByteArray)[0]'Nat.zero_lt_one).toNat : Int) != 92) = true := by
    show ((c.toNat : Int) != 92) = true
    rw [bne_iff_ne]; omega
  go_enter Tryz.func178, Tryz.ntmps178
  go_wp2_with fail
  refine bodyPost_ret (v := .tuple #[.int .i64 c.toNat, .int .i64 1]) (by
    simp [results, Tryz.results178, go_sem]
    show wrap64 ((c.toNat : Nat) : Int) = _
    have := c.toNat_lt
    first | (go_num) | (unfold wrap64; omega)) rfl ⟨rfl, rfl⟩
theorem El.limit (w : World) : Calls Tryz.prog 154 #[.string ⟨#[]⟩] w fun e w' => e = .returned (.int .i64 255) ∧ w' = w := by
  go_enter Tryz.func154, Tryz.ntmps154
  go_wp2_with fail
  go_ret
  exact ⟨rfl, rfl⟩
theorem El.elements (s : ByteArray) (w : World) : Calls Tryz.prog 153 #[.string s, .int .i64 255] w fun e w' => e = .returned (.func (.func 177) #[] #[.pointer (some ⟨w.heap.size, 0, none⟩), .pointer (some ⟨w.heap.size + 1, 0, none⟩)]) ∧ w' = (w.alloc (.cells #[.string s] 9)).alloc (.cells #[.int .i64 255] 2) := by
  go_enter Tryz.func153, Tryz.ntmps153
  go_wp2
  go_ret
  exact ⟨rfl, rfl⟩
def T92 (t : TypeId) : Bool := t == 9 || t == 2
set_option maxRecDepth 100000 in
set_option maxHeartbeats 4000000 in
theorem El.seq (n B : Nat) (c : UInt8) (w : World) (h1 : w.heap[B]? = some (.cells #[.string ⟨#[c]⟩] 9 (0, 0))) (h2 : w.heap[B + 1]? = some (.cells #[.int .i64 255] 2 (0, 0))) (hc : c.toNat ≠ 92) :
    SeqG Fence.wide n Tryz.prog 177 #[.pointer (some ⟨B, 0, none⟩), .pointer (some ⟨B + 1, 0, none⟩)] (fun d : Nat => #[.int .i64 d]) (KT T92) (fun pre x => pre = [] ∧ x = c.toNat) (fun k => k = B)
      (fun zs => zs = [c.toNat]) (fun zs => True) w := fun l J Jx W hW hJ hJx hY hj0 => by
  have g0 := heap_below hW h1 (Array.getElem?_eq_some_iff.1 h1).1
  have g1 := heap_below hW h2 (Array.getElem?_eq_some_iff.1 h2).1
  have HJ := Lib.hid hJ
  have HY := Lib.hid hY
  have HJ0 := Lib.hid hj0
  have G0 := Lib.hid g0
  have G1 := Lib.hid g1
  clear h1 h2 hJ hJx g0 g1 hY hj0
  refine callsIn_of_wp Tryz.func177 rfl trivial ?_ rfl
  simp only [Tryz.ntmps177, List.size_toArray, List.length_cons, List.length_nil, Nat.reduceAdd, Nat.reduceSub, Array.replicate_succ, Array.replicate_zero, List.push_toArray, List.append_toArray, List.nil_append, List.cons_append]
  gi_wp2_with (fail)
  gi_loopw [5] (fun s5 wr => ∃ (i : Nat), i ≤ 1 ∧ (i = 0 → s5 = undef) ∧ (i = 1 → s5 = .int .i64 1) ∧ wr.heap[B]? = some (.cells #[.string (if i = 0 then ⟨#[c]⟩ else ⟨#[]⟩)] 9 (0, 0)) ∧ wr.heap[B + 1]? = some (.cells #[.int .i64 255] 2 (0, 0)) ∧ J (if i = 0 then [] else [c.toNat]) wr) (fun s5 _ => 1 - (intOf s5).toNat)
  case atStart => exact ⟨0, Nat.zero_le _, (fun _ => rfl), (fun h => by cases h), G0.out, G1.out, HJ0.out⟩
  case round =>
    clear HJ0 G0 G1
    obtain ⟨i, hi, hi0, hi1, g0, g1, hjp⟩ := hrel
    have G1 := Lib.hid g1
    have HJP := Lib.hid hjp
    rcases Nat.eq_zero_or_pos i with rfl | hp
    · obtain rfl := hi0 rfl
      have c0 : wr.cell? ⟨B, 0, none⟩ = some (.string ⟨#[c]⟩) := by simp [World.cell?, g0]
      have c1 : wr.cell? ⟨B + 1, 0, none⟩ = some (.int .i64 255) := by simp [World.cell?, g1]
      have G0 := Lib.hid g0
      clear g0 g1 hjp hi0 hi1
      have HD := Lib.hid (El.element c hc wr)
      gi_wp2_with (fail)
      refine ⟨trivial, (fun hh => by cases hh), (callsIn_wide.2 HD.out).mono ?_⟩
      rintro e w2 ⟨rfl, rfl⟩
      obtain ⟨fn1, tm1, as1, bo1, hyy1, hR1⟩ := HY.out [] c.toNat w2 HJP.out ⟨rfl, rfl⟩
      gi_wp2_with (fail)
      refine ⟨(fun hh => by cases hh), hR1.mono ?_⟩
      rintro e W1 (⟨rfl, hJ1, hk1⟩ | ⟨rfl, hx1⟩)
      · have g0 := hk1.2 B _ 9 (0, 0) rfl G0.out
        have g1 := hk1.2 (B + 1) _ 2 (0, 0) rfl G1.out
        have c0 : W1.cell? ⟨B, 0, none⟩ = some (.string ⟨#[c]⟩) := by simp [World.cell?, g0]
        have z0 : W1.frozen? ⟨B, 0, none⟩ = false := Lib.frozen_of_heap g0 0
        have hcz : decide (((c.toNat : Nat) : Int) < 0) = false := decide_eq_false (by omega)
        have HJ1 := Lib.hid hJ1
        have GB := Lib.hid g0
        have GC := Lib.hid g1
        clear g0 g1 hk1 hJ1 hyy1 hR1
        gi_wp2_with (fail)
        go_roundw
        case rel =>
          have q := heap_setCell_same W1 B 0 _ _ (.string ByteArray.empty) GB.out
          exact ⟨1, Nat.le_refl _, (fun h => by cases h), (fun _ => rfl), q, (Below.heap_setCell _ _ _ _ (fun e => by simp at e)).trans GC.out, HJ.out _ _ _ HJ1.out ((Mod.refl _ W1).setCell ⟨B, 0, none⟩ (.inr (.inl rfl)) _)⟩
        case measure => simp [intOf, undef]
      · have HX1 := Lib.hid hx1
        clear hx1 hyy1 hR1
        gi_wp2_with (fail)
        refine bodyPost_ret (results_none rfl _ _ _) rfl ?_
        exact ⟨⟨_, rfl⟩, .inr ⟨_, trivial, HX1.out⟩⟩
    · obtain rfl : i = 1 := by omega
      obtain rfl := hi1 rfl
      have c0 : wr.cell? ⟨B, 0, none⟩ = some (.string ⟨#[]⟩) := by simp [World.cell?, g0]
      clear g0 g1 hjp hi0 hi1
      gi_wp2_with (fail)
      go_end0
      exact ⟨⟨_, rfl⟩, .inl ⟨_, rfl, HJP.out⟩⟩
/-- Amid Str: the result's boxes, the list's. -/
structure SrI (w : World) (p : Nat) (pre : List Nat) (W : World) : Prop where
  v : W.heap[w.heap.size]? = some (.cells #[.slice Option.none 0 0] 186 (0, 0))
  e : W.heap[w.heap.size + 1]? = some (.cells #[.int .i64 0] 25 (0, 0))
  l : ∃ a n k, W.heap[p]? = some (.cells #[.slice a n k] 186 (0, 0)) ∧ (pre = [] → a = Option.none ∧ n = 0 ∧ k = 0)
  h : Below w.heap.size w W
theorem SrI.keep {w : World} {p : Nat} {pre : List Nat} {A B : World} {S : Nat → Prop} (h : SrI w p pre A) (hm : Mod S A B) (hp : w.heap.size + 2 ≤ p) (hS : ∀ k, S k → p < k) : SrI w p pre B :=
  ⟨hm.keep h.v (fun hk => by have := hS _ hk; omega), hm.keep h.e (fun hk => by have := hS _ hk; omega), let ⟨y, n, k, a, b⟩ := h.l; ⟨y, n, k, hm.keep a (fun hk => by have := hS _ hk; omega), b⟩, h.h.trans (hm.below h.h.size (fun k hk => by have := hS _ hk; omega))⟩
theorem info2 : (Tryz.prog.info? 2).map (fun i => (i.zero, i.size, i.bytes)) = some (some (.int .i64 0), 1, 8) := by kernel_rfl
set_option maxRecDepth 100000 in
set_option maxHeartbeats 8000000 in
theorem El.str (c : UInt8) (hc : c.toNat ≠ 92) (w : World) (hm : Mx w) (hits : its [34, c, 34] 0 0 = [⟨4, 0, 3, 0⟩]) : Calls Tryz.prog 114 #[.string ⟨#[34, c, 34]⟩] w fun e w' => (∃ v, e = .returned (.tuple #[v, .int .i64 0])) ∧ Below w.heap.size w w' := by
  refine (callsIn_wide (n := 5)).1 ?_
  refine callsIn_of_wp_marks Tryz.func114 rfl trivial ?_ rfl
  simp only [Tryz.ntmps114, List.size_toArray, List.length_cons, List.length_nil, Nat.reduceAdd, Nat.reduceSub, Array.replicate_succ, Array.replicate_zero, List.push_toArray, List.append_toArray, List.nil_append, List.cons_append]
  gi_wp2_with (fail)
  refine ⟨trivial, (callsIn_wide.2 (Sc.one ⟨#[34, c, 34]⟩ _ (show 3 ≤ 1000000000 by decide) hits (hm.of ((below_alloc _ _).trans ((below_alloc _ _).mono (by simp))) hm.pos))).mono ?_⟩
  rintro e w2 ⟨rfl, hb2⟩
  gi_wp2_with (fail)
  refine ⟨trivial, (callsIn_wide.2 (Tryz.strings_IndexByte ⟨#[34, c, 34]⟩ 34 _)).mono ?_⟩
  rintro e w3 ⟨rfl, rfl⟩
  rw [show Lib.indexByte ([34, c, 34] : Bs) ((34 : Int).toNat.toUInt8) = 0 from rfl]
  have HB2 := Lib.hid hb2
  clear hb2
  gi_wp2_with (fail)
  obtain ⟨W3, hW3⟩ : ∃ W, W = w3.alloc (.cells #[.slice none 0 0] 186) := ⟨_, rfl⟩
  rw [← hW3]
  have LIM := Lib.hid El.limit
  refine wpIn_wide.2 (wp_region_tail (C := fun w' => ∃ u : Ext W3, w' = u.w) 11 (by kernel_rfl) (by kernel_rfl) (Ext.drew W3) ?_)
  simp only [List.take_succ_cons, List.take_zero, List.drop_succ_cons, List.drop_zero]
  repeat (go_big_quiet_step ((go_at_call 154; rename_i u; refine (LIM.out u.w).mono ?_; rintro e w2 ⟨rfl, rfl⟩; exact ⟨rfl, u, rfl⟩)))
  refine wpQuiet_nil ?_
  rintro w' ⟨u, rfl⟩
  obtain ⟨W4, hW4⟩ : ∃ w', w' = u.w := ⟨_, rfl⟩
  have hbe := u.below
  rw [← hW4] at hbe ⊢
  have HB4 := Lib.hid hbe
  have HW3 := Lib.hid hW3
  clear hW4 hbe hW3
  clear u
  rw [show (⟨#[34, c, 34]⟩ : ByteArray).extract 1 2 = ⟨#[c]⟩ from rfl]
  go_wp2_with (fail)
  refine (El.elements ⟨#[c]⟩ W4).mono ?_
  rintro e w5 ⟨rfl, rfl⟩
  go_wp2_with (fail)
  gi_wp2_with (fail)
  have hs2 : w.heap.size + 2 ≤ w3.heap.size := by have := HB2.out.size; simpa using this
  have hs3 : W3.heap.size = w3.heap.size + 1 := by rw [HW3.out]; simp
  have hs4 := HB4.out.size
  obtain ⟨W5, hW5⟩ : ∃ W, W = (W4.alloc (.cells #[.string ⟨#[c]⟩] 9)).alloc (.cells #[.int .i64 255] 2) := ⟨_, rfl⟩
  have hb5 : Below W4.heap.size W4 W5 := by rw [hW5]; exact ((Below.refl _ _).alloc (Nat.le_refl _) _).alloc (by simp) _
  have hsz5 : W5.heap.size = W4.heap.size + 2 := by rw [hW5]; simp
  have e1 : W5.heap[W4.heap.size]? = some (.cells #[.string ⟨#[c]⟩] 9 (0, 0)) := by rw [hW5]; exact heap_alloc_old' _ (heap_alloc_new _ _)
  have e2 : W5.heap[W4.heap.size + 1]? = some (.cells #[.int .i64 255] 2 (0, 0)) := by
    have := heap_alloc_new (W4.alloc (.cells #[.string ⟨#[c]⟩] 9)) (.cells #[.int .i64 255] 2)
    rw [hW5]; simpa using this
  have hI0 : SrI w w3.heap.size [] W5 := by
    have b35 := HB4.out.trans (hb5.mono hs4)
    have g : ∀ {k : Nat} {o : Obj}, w3.heap[k]? = some o → W5.heap[k]? = some o := fun {k o} h => heap_below b35 (by rw [HW3.out]; exact heap_alloc_old' _ h) (by have := (Array.getElem?_eq_some_iff.1 h).1; omega)
    have g2 : ∀ {k : Nat} {o : Obj}, k < w.heap.size + 2 → ((w.alloc (.cells #[.slice Option.none 0 0] 186)).alloc (.cells #[.int .i64 0] 25)).heap[k]? = some o → w3.heap[k]? = some o := fun {k o} hk h => heap_below HB2.out h (by simp; omega)
    refine ⟨g (g2 (by omega) (heap_alloc_old' _ (heap_alloc_new _ _))), g (g2 (by omega) ?_), ⟨_, _, _, heap_below b35 (by rw [HW3.out]; exact heap_alloc_new _ _) (by omega), fun _ => ⟨rfl, rfl, rfl⟩⟩, ?_⟩
    · have := heap_alloc_new (w.alloc (.cells #[.slice Option.none 0 0] 186)) (.cells #[.int .i64 0] 25)
      simpa using this
    · have hb3 : Below w3.heap.size w3 W3 := by rw [HW3.out]; exact below_alloc _ _
      exact ((((Below.refl _ _).alloc (Nat.le_refl _) _).alloc (by simp) _).trans (HB2.out.mono (by simp; omega))).trans ((hb3.trans (b35.mono (by omega))).mono (by omega))
  have hseq := El.seq 4 W4.heap.size c W5 e1 e2 hc
  rw [← hW5]
  have HSEQ := Lib.hid hseq
  have HI0 := Lib.hid hI0
  obtain ⟨i0, hi0, hz0, hz1, hz2⟩ := Pp.info_parts3 info2
  have HI := Lib.hid hi0
  have HZ0 := Lib.hid hz0
  have HZ1 := Lib.hid hz1
  have HZ2 := Lib.hid hz2
  clear hi0 hz0 hz1 hz2 hseq hI0 e1 e2 hb5 hW5 HW3
  refine wpIn_rangeFunc_gen rfl (by omega) (gf := 177) (lb := #[.pointer (some ⟨W4.heap.size, 0, none⟩), .pointer (some ⟨W4.heap.size + 1, 0, none⟩)]) rfl trivial (enters_of Tryz.func177 (by kernel_rfl) rfl)
    HSEQ.out (fun k hk => by have hk : k = W4.heap.size := hk; omega) (fun h k => h.trans k) (fun W l o o' hl hW ho _ => KT.putObj hW ho) (Below.refl _ _) (fun _ => rfl)
    (SrI w w3.heap.size) (fun _ _ _ => False)
    (fun t A B h hm => h.keep hm hs2 (fun k hk => hk.elim (fun h => by have h : k = W4.heap.size := h; omega) (fun h => by have := h.1; omega)))
    (fun c t A B h _ => h)
    HI0.out
    (fun d => { tmps := #[.string ⟨#[34, c, 34]⟩, undef, .pointer (some ⟨w.heap.size, 0, none⟩), .pointer (some ⟨w.heap.size + 1, 0, none⟩), .int .i64 4, .bool true, .int .i64 0, .pointer (some ⟨w3.heap.size, 0, none⟩), .int .i64 d, .tuple #[.int .i64 4, .bool true], .string ⟨#[34, c, 34]⟩, .tuple #[.int .i64 4, .bool true], .int .i64 4, .bool true, .int .i64 4, .bool false, .string ⟨#[34, c, 34]⟩, .int .i64 0, .string ⟨#[34, c, 34]⟩, .int .i64 0, .int .i64 1, .string ⟨#[34, c, 34]⟩, .int .i64 3, .int .i64 2, .string ⟨#[c]⟩, .string ⟨#[34, c, 34]⟩, .int .i64 0, .string ByteArray.empty, .int .i64 255, .func (.func 177) #[] #[.pointer (some ⟨W4.heap.size, 0, none⟩), .pointer (some ⟨W4.heap.size + 1, 0, none⟩)], .int .i64 d, undef, undef, undef, undef, undef, undef, undef], defers := [] })
    ?assign ?body ?done ?stop
  case assign =>
    intro l x W K hK
    gi_wp2
    exact hK
  case body =>
    rintro l pre x W h ⟨rfl, rfl⟩
    obtain ⟨d, hd⟩ : ∃ d, c.toNat = d := ⟨_, rfl⟩
    rw [hd]
    have hd0 : decide ((d : Int) < 0) = false := decide_eq_false (by omega)
    obtain ⟨y, ny, ky, hl, hy⟩ := h.l
    obtain ⟨rfl, rfl, rfl⟩ := hy rfl
    have c0 : W.cell? ⟨w3.heap.size, 0, none⟩ = some (.slice Option.none 0 0) := by simp [World.cell?, hl]
    have f0 : W.frozen? ⟨w3.heap.size, 0, none⟩ = false := Lib.frozen_of_heap hl 0
    have H := Lib.hid h
    have HL := Lib.hid hl
    clear h hl hy
    have one : ∀ (j : Nat) (u : Value), [Value.int .i64 d][j]? = some u → (W.alloc (.cells #[.int .i64 d] 2)).cell? ((⟨W.heap.size, 0, Option.none⟩ : Addr).add j) = some u := fun j u hj => by
      match j, hj with
      | 0, hj => simp at hj; subst hj; simp [Addr.add]
    gi_wp2_with (gi_at_builtin; refine wpListIn_append_own _ rfl _ _ 186 rfl W.heap.size 2 i0 (.int .i64 0) 1 8 Tryz.underlying186 HI.out HZ0.out HZ1.out HZ2.out rfl (by decide) _ 0 [] rfl (World.ownsRow_nil _ _ _ _) ⟨W.heap.size, 0, Option.none⟩ 1 1 [.int .i64 d] rfl rfl one (fun u hu => by simp at hu; subst hu; rfl) (by unfold maxLen; omega) (by omega) (by simp) ?_; intro v' W1 hown' hgrow _; have hp1 := lb_amid HL.out (by decide) (World.ownsRow_nil W W.heap.size 2 1) hgrow; have HPU := Lib.hid (lb_push HL.out (by decide) (World.ownsRow_nil W W.heap.size 2 1) hgrow hown'); obtain ⟨a', cap', hv'⟩ := row_shape hown'; subst hv'; have d1 : W1.cell? ⟨w3.heap.size, 0, Option.none⟩ = some (.slice Option.none 0 0) := (by simp [World.cell?, hp1]); have g1 : W1.frozen? ⟨w3.heap.size, 0, Option.none⟩ = false := Lib.frozen_of_heap hp1 0; clear hown' hgrow hp1)
    have hmod := HPU.out.mod.mono (T := fun k => k = w3.heap.size) (fun k _ hk => hk.elim id (fun h => by cases h))
    refine ⟨HPU.out.kf _, ⟨hmod.size, fun k cs t fz ht hk => hmod.keep hk (fun e => by
      have e : k = w3.heap.size := e
      rw [e, HL.out] at hk
      cases hk
      cases ht)⟩, hmod.keep H.out.v (fun e => by have e : _ = w3.heap.size := e; omega), hmod.keep H.out.e (fun e => by have e : _ = w3.heap.size := e; omega), ⟨_, _, _, HPU.out.box, fun h => by cases h⟩, H.out.h.trans (hmod.below H.out.h.size (fun k hk => by have hk : k = w3.heap.size := hk; omega))⟩
  case done =>
    rintro Dd zs W hD hzs h hK
    subst hzs
    obtain ⟨y, ny, ky, hl, -⟩ := h.l
    have c0 : W.cell? ⟨w3.heap.size, 0, Option.none⟩ = some (.slice y ny ky) := by simp [World.cell?, hl]
    have c1 : W.cell? ⟨w.heap.size, 0, Option.none⟩ = some (.slice Option.none 0 0) := by have := h.v; simp [World.cell?, this]
    have c2 : W.cell? ⟨w.heap.size + 1, 0, Option.none⟩ = some (.int .i64 0) := by have := h.e; simp [World.cell?, this]
    have f1 : W.frozen? ⟨w.heap.size, 0, Option.none⟩ = false := Lib.frozen_of_heap h.v 0
    have f2 : W.frozen? ⟨w.heap.size + 1, 0, Option.none⟩ = false := Lib.frozen_of_heap h.e 0
    have H := Lib.hid h
    have HK := Lib.hid hK
    have HL := Lib.hid hl
    clear h hK hl
    gi_wp2_with (fail)
    obtain ⟨W6, hW6⟩ : ∃ W6, W6 = (W.setCell ⟨w.heap.size, 0, Option.none⟩ (.slice y ny ky)).setCell ⟨w.heap.size + 1, 0, Option.none⟩ (.int .i64 0) := ⟨_, rfl⟩
    rw [← hW6]
    have hd6 : W6.heap[Dd]? = some (.deferred (some [])) := by
      rw [hW6, Below.heap_setCell _ _ _ _ (fun e => by simp at e <;> omega), Below.heap_setCell _ _ _ _ (fun e => by simp at e <;> omega)]; exact HK.out
    have hb6 : Below w.heap.size w W6 := by
      rw [hW6]
      exact (H.out.h.setCell (p := ⟨w.heap.size, 0, Option.none⟩) (by simp) _).setCell (p := ⟨w.heap.size + 1, 0, Option.none⟩) (by simp) _
    have q0 : W6.heap[w.heap.size]? = some (.cells #[.slice y ny ky] 186 (0, 0)) := by
      rw [hW6, Below.heap_setCell _ _ _ _ (fun e => by simp at e <;> omega)]
      simpa using heap_setCell_same _ w.heap.size 0 _ _ (.slice y ny ky) H.out.v
    have q1 : W6.heap[w.heap.size + 1]? = some (.cells #[.int .i64 0] 25 (0, 0)) := by
      rw [hW6]
      simpa using heap_setCell_same _ (w.heap.size + 1) 0 _ _ (.int .i64 0) ((Below.heap_setCell _ _ _ _ (by simp)).trans H.out.e)
    have HK6 := Lib.hid hd6
    have HB6 := Lib.hid hb6
    clear hW6 hd6 hb6
    refine ⟨by simp, .inl ⟨_, _, rfl, run_takeDeferred HK6.out, ?_⟩⟩
    have p0 : (W6.putObj Dd (.deferred Option.none)).cell? ⟨w.heap.size, 0, Option.none⟩ = some (.slice y ny ky) := by simp [World.cell?, World.putObj_heap_other (show w.heap.size ≠ Dd by omega), q0]
    have p1 : (W6.putObj Dd (.deferred Option.none)).cell? ⟨w.heap.size + 1, 0, Option.none⟩ = some (.int .i64 0) := by simp [World.cell?, World.putObj_heap_other (show w.heap.size + 1 ≠ Dd by omega), q1]
    clear q0 q1 c0 c1 c2
    exact ⟨.tuple #[.slice y ny ky, .int .i64 0], by simp [results, Tryz.results114, go_sem, p0, p1], ⟨_, rfl⟩, HB6.out.trans (below_put (by omega) HK6.out)⟩
  case stop =>
    rintro Dd c pre W hD _ h _
    exact h.elim
end Go.Proofs.YtlboejdhmggjpaaGreat.Ww

/- PdB -/
namespace Go.Proofs.YtlboejdhmggjpaaGreat.Pp

def Aok (L : List Nd) : Prop := ∀ i, i < L.length → ∃ lf, (L.getD i n0).sz = lf + 1 ∧ lf ≤ i ∧ KOk L lf lf (i - 1)
theorem kok_bt {a b : Nat} {K K' : List Nd} (h : Bt a b K K') : ∀ (A B W : List Nd) (n : Nat), W = A ++ (K ++ B) → K.length ≤ n → KOk W n K.length (A.length + K.length - 1) := by
 induction h with
 | nil h =>
  intro A B W n hW hn
  cases n with
  | zero => exact rfl
  | succ n => exact .inl rfl
 | @snoc a m lo hi b k F F' M M' h1 h2 h3 h4 h5 i1 i3 =>
  intro A B W n hW hn
  have hlen : (F ++ (M ++ [(⟨k, lo, hi, M.length + 1⟩ : Nd)])).length = F.length + M.length + 1 := by simp only [List.length_append, List.length_cons, List.length_nil]; omega
  rw [hlen] at hn ⊢
  obtain ⟨n', rfl⟩ : ∃ n', n = n' + 1 := ⟨n - 1, by omega⟩
  have hWl : W.length = A.length + F.length + M.length + 1 + B.length := by rw [hW]; simp only [List.length_append, List.length_cons, List.length_nil]; omega
  have hr : W.getD (A.length + (F.length + M.length + 1) - 1) n0 = ⟨k, lo, hi, M.length + 1⟩ := getD_mid (A := A ++ (F ++ M)) (B := B) W _ (by rw [hW]; simp [List.append_assoc]) (by simp only [List.length_append]; omega)
  have q := i1 A (M ++ [⟨k, lo, hi, M.length + 1⟩] ++ B) W n' (by rw [hW]; simp [List.append_assoc]) (by omega)
  refine .inr ⟨by omega, by omega, by rw [hr]; exact Nat.le_add_left 1 _, by rw [hr]; show M.length + 1 ≤ _; omega, ?_⟩
  rw [hr]
  show KOk W n' (F.length + M.length + 1 - (M.length + 1)) (A.length + (F.length + M.length + 1) - 1 - (M.length + 1))
  rw [show F.length + M.length + 1 - (M.length + 1) = F.length by omega, show A.length + (F.length + M.length + 1) - 1 - (M.length + 1) = A.length + F.length - 1 by omega]
  exact q
theorem aok_seg {a b : Nat} {L P : List Nd} (h : Bt a b L P) : ∀ (A B W : List Nd), W = A ++ (L ++ B) → ∀ i, A.length ≤ i → i < A.length + L.length → ∃ lf, (W.getD i n0).sz = lf + 1 ∧ lf ≤ i ∧ KOk W lf lf (i - 1) := by
 induction h with
 | nil h => intro A B W hW i h1 h2; simp at h2; omega
 | @snoc a m lo hi b k F F' M M' h1 h2 h3 h4 h5 i1 i3 =>
  intro A B W hW i hi1 hi2
  have hlen : (F ++ (M ++ [(⟨k, lo, hi, M.length + 1⟩ : Nd)])).length = F.length + M.length + 1 := by simp only [List.length_append, List.length_cons, List.length_nil]; omega
  rw [hlen] at hi2
  by_cases c1 : i < A.length + F.length
  ·exact i1 A (M ++ [⟨k, lo, hi, M.length + 1⟩] ++ B) W (by rw [hW]; simp [List.append_assoc]) i hi1 c1
  by_cases c2 : i < A.length + F.length + M.length
  ·exact i3 (A ++ F) ([⟨k, lo, hi, M.length + 1⟩] ++ B) W (by rw [hW]; simp [List.append_assoc]) i (by rw [List.length_append]; omega) (by rw [List.length_append]; omega)
  ·obtain rfl : i = A.length + F.length + M.length := by omega
   have hr : W.getD (A.length + F.length + M.length) n0 = ⟨k, lo, hi, M.length + 1⟩ := getD_mid (A := A ++ (F ++ M)) (B := B) W _ (by rw [hW]; simp [List.append_assoc]) (by simp only [List.length_append]; omega)
   have q := kok_bt h3 (A ++ F) ([⟨k, lo, hi, M.length + 1⟩] ++ B) W M.length (by rw [hW]; simp [List.append_assoc]) (Nat.le_refl _)
   rw [List.length_append] at q
   exact ⟨M.length, by rw [hr], by omega, q⟩
theorem aok_bt {a b : Nat} {L P : List Nd} (h : Bt a b L P) : Aok L := fun i hi => aok_seg h [] [] L (by simp) i (Nat.zero_le _) (by simpa using hi)

def s0 : Ps := ⟨0, [], ⟨[], []⟩⟩
theorem bind_ok {α β : Type} {x : Pm α} {k : α → Pm β} {s s' : Ps} {v : β} (h : (x >>= k) s = .ok v s') : ∃ a s1, x s = .ok a s1 ∧ k a s1 = .ok v s' := by
 change Pm.bind x k s = _ at h
 unfold Pm.bind at h
 cases hx : x s with
 | ok a s1 => rw [hx] at h; exact ⟨a, s1, rfl, h⟩
 | no => rw [hx] at h; cases h
 | out => rw [hx] at h; cases h
theorem node_un {l : List Ct} {k : Nat} {h : Nat × Nat} {s s' : Ps} {v : Va} (hr : (node l k h >>= fun _ => (pure Va.un : Pm Va)) s = .ok v s') : ∃ D, s'.done = D ++ [⟨k, h.1, s'.at', D.length - h.2 + 1⟩] ∧ s'.at' = s.at' := by
 obtain ⟨a, s1, h1, h2⟩ := bind_ok hr
 cases h2
 unfold node at h1
 split at h1
 ·cases h1
  exact ⟨s.done, rfl, rfl⟩
 ·cases h1
theorem unit_last (l : List Ct) (base : Bs → Bool) : ∀ n s v s', run l base n .unit s = .ok v s' → ∃ D, s'.done = D ++ [⟨1, 0, s'.at', D.length + 1⟩] ∧ l.length ≤ s'.at'
 | 0, s, v, s', h => by rw [run] at h; cases h
 | n + 1, s, v, s', h => by
  rw [run] at h
  obtain ⟨a, s1, h1, h2⟩ := bind_ok h
  cases h1
  by_cases c : s.at' < l.length
  ·rw [if_pos c] at h2
   obtain ⟨a, s1, h3, h4⟩ := bind_ok h2
   exact unit_last l base n s1 v s' h4
  ·rw [if_neg c] at h2
   obtain ⟨D, h3, h4⟩ := node_un h2
   exact ⟨D, h3, by rw [h4]; omega⟩
theorem external_last (l : List Ct) (base : Bs → Bool) (n : Nat) (s : Ps) (v : Va) (s' : Ps) (h : run l base n .external s = .ok v s') : ∃ k D, s'.done = D ++ [⟨k, s.at', s'.at', D.length - s.done.length + 1⟩] := by
  cases n with
  | zero => rw [run] at h; cases h
  | succ n =>
    rw [run] at h
    obtain ⟨b, s1, h1, h2⟩ := bind_ok h
    cases h1
    by_cases c : wordS l s [95, 83, 116, 97, 116, 105, 99, 95, 97, 115, 115, 101, 114, 116] = true
    · rw [if_pos c] at h2
      cases n with
      | zero => rw [run] at h2; cases h2
      | succ n =>
        rw [run] at h2
        obtain ⟨hh, s2, h3, h4⟩ := bind_ok h2
        cases h3
        obtain ⟨_, s3, _, h4⟩ := bind_ok h4
        obtain ⟨_, s3, _, h4⟩ := bind_ok h4
        obtain ⟨_, s3, _, h4⟩ := bind_ok h4
        obtain ⟨_, s3, _, h4⟩ := bind_ok h4
        obtain ⟨_, s3, _, h4⟩ := bind_ok h4
        obtain ⟨_, s3, _, h4⟩ := bind_ok h4
        obtain ⟨_, s3, _, h4⟩ := bind_ok h4
        obtain ⟨D, h5, -⟩ := node_un h4
        exact ⟨4, D, h5⟩
    · rw [if_neg c] at h2
      obtain ⟨hh, s2, h3, h4⟩ := bind_ok h2
      cases h3
      obtain ⟨td, s3, _, h4⟩ := bind_ok h4
      obtain ⟨b, s4, h5, h4⟩ := bind_ok h4
      cases h5
      by_cases c2 : signS l s3 0 [59] = true
      · rw [if_pos c2] at h4
        obtain ⟨_, s5, _, h4⟩ := bind_ok h4
        obtain ⟨D, h5, -⟩ := node_un h4
        exact ⟨3, D, h5⟩
      · rw [if_neg c2] at h4
        obtain ⟨_, s5, _, h4⟩ := bind_ok h4
        obtain ⟨f, s6, _, h4⟩ := bind_ok h4
        obtain ⟨_, s7, _, h4⟩ := bind_ok h4
        obtain ⟨b, s8, h5, h4⟩ := bind_ok h4
        by_cases c3 : (b && f.form.near == 3) = true
        · rw [if_pos c3] at h4
          obtain ⟨_, s9, _, h4⟩ := bind_ok h4
          obtain ⟨D, h5, -⟩ := node_un h4
          exact ⟨2, D, h5⟩
        · rw [if_neg c3] at h4
          obtain ⟨_, s9, _, h4⟩ := bind_ok h4
          obtain ⟨_, s9, _, h4⟩ := bind_ok h4
          obtain ⟨_, s9, _, h4⟩ := bind_ok h4
          obtain ⟨D, h5, -⟩ := node_un h4
          exact ⟨3, D, h5⟩
def fu (l : List Ct) : Nat := 16 * l.length + 100
structure Tree (l : List Ct) (s : Ps) : Prop where
 root : ∃ k K, s.done = K ++ [⟨k, 0, s.at', K.length + 1⟩]
 fo : Fo 0 s.at' s.done
 at' : s.at' ≤ l.length
 len : s.done.length ≤ 4 * l.length + 1
theorem unit_good (l : List Ct) (base : Bs → Bool) : run l base (fu l) .unit s0 ≠ .out ∧ ∀ v s', run l base (fu l) .unit s0 = .ok v s' → Tree l s' ∧ s'.at' = l.length ∧ ∃ K, s'.done = K ++ [⟨1, 0, l.length, K.length + 1⟩] := by
 have h := good l base (fu l) .unit s0 s0 (fun _ => rfl) (fun h e => by cases e; rfl) (Tr.refl _) (by
  refine ⟨Nat.zero_le _, Nat.le_refl _, Nat.zero_le _, Nat.zero_le _, by decide, Nat.zero_le _, ?_⟩
  show 16 * (l.length - 0) + 5 < 16 * l.length + 100
  omega)
 refine ⟨fun e => by rw [e] at h; exact h, fun v s' e => ?_⟩
 rw [e] at h
 obtain ⟨⟨h1, F, h2, h3⟩, -, ⟨h4, h5, h6, -⟩, -⟩ := h
 obtain ⟨D, d1, d2⟩ := unit_last l base _ _ _ _ e
 have hat : s'.at' = l.length := by omega
 have h2' : s'.done = F := h2
 rw [← h2'] at h3
 have h6' : s'.done.length + 0 + 0 * _ + 4 * 0 ≤ 0 + 4 * s'.at' + 1 := h6
 exact ⟨⟨⟨1, D, d1⟩, h3, h5, by omega⟩, hat, D, by rw [d1, hat]⟩
theorem external_good (l : List Ct) (base : Bs → Bool) : run l base (fu l) .external s0 ≠ .out ∧ ∀ v s', run l base (fu l) .external s0 = .ok v s' → Tree l s' ∧ 1 ≤ s'.at' ∧ s'.nm.bl = [] ∧ s'.nm.ch.length ≤ 2 * l.length := by
  have h := good l base (fu l) .external s0 s0 (fun _ => rfl) (fun h e => by cases e) (Tr.refl _) (by
    refine ⟨Nat.zero_le _, Nat.le_refl _, Nat.zero_le _, Nat.zero_le _, by decide, Nat.zero_le _, ?_⟩
    show 16 * (l.length - 0) + 4 < 16 * l.length + 100
    omega)
  refine ⟨fun e => by rw [e] at h; exact h, fun v s' e => ?_⟩
  rw [e] at h
  obtain ⟨⟨h1, F, h2, h3⟩, ⟨hb, -⟩, ⟨h4, h5, h6, h7, -⟩, -⟩ := h
  obtain ⟨k, D, d1⟩ := external_last l base _ _ _ _ e
  have h2' : s'.done = F := h2
  rw [← h2'] at h3
  have h6' : s'.done.length + 4 + 0 * _ + 4 * 0 ≤ 0 + 4 * s'.at' + 1 := h6
  have h4' : 0 + 1 ≤ s'.at' := h4
  have h7' : s'.nm.ch.length + v.size + 0 + 2 * 0 ≤ 0 + 0 + 2 * s'.at' := h7
  exact ⟨⟨⟨k, D, d1⟩, h3, h5, by omega⟩, by omega, hb, by omega⟩
theorem Tree.ahead {l : List Ct} {s : Ps} (h : Tree l s) : Aok s.done ∧ 0 < s.done.length ∧ Fp 0 s.at' (aheadP s.done) ∧ (aheadP s.done).length = s.done.length ∧ ∃ k K, s.done = K ++ [⟨k, 0, s.at', K.length + 1⟩] ∧ ∃ R, aheadP s.done = ⟨k, 0, s.at', K.length + 1⟩ :: R := by
 obtain ⟨k, K, hr⟩ := h.root
 obtain ⟨P, hP⟩ := h.fo.both
 have ha := aok_bt hP
 have hl := hP.len
 have hp := hP.pre
 have e : aheadP s.done = P := by
  rw [hr] at hP ⊢
  exact ahead_pre hP
 refine ⟨ha, by rw [hr]; simp, by rw [e]; exact hp, by rw [e, hl], k, K, hr, ?_⟩
 rw [e]
 rw [hr] at hP
 generalize hL : K ++ [(⟨k, 0, s.at', K.length + 1⟩ : Nd)] = L at hP
 cases hP with
 | nil => simp at hL
 | @snoc a m lo hi b k' F F' M M' h1 h2 h3 h4 h5 =>
  rw [← List.append_assoc] at hL
  obtain ⟨e1, e2⟩ := List.append_inj' hL rfl
  simp only [List.cons.injEq, and_true, Nd.mk.injEq] at e2
  obtain ⟨rfl, rfl, rfl, e3⟩ := e2
  have : F = [] := List.eq_nil_of_length_eq_zero (by have := congrArg List.length e1; rw [List.length_append] at this; omega)
  subst this
  have hF' : F' = [] := List.eq_nil_of_length_eq_zero (by have := h1.len; simpa using this)
  subst hF'
  rw [List.nil_append] at e1
  subst e1
  exact ⟨_, rfl⟩
end Go.Proofs.YtlboejdhmggjpaaGreat.Pp

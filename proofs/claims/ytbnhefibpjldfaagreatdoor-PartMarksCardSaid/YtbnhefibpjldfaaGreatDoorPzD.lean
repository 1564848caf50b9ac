/- part: protected, the walk. -/
import Derived.Test.YtbnhefibpjldfaaGreatDoorPzC
import Derived.Test.YtbnhefibpjldfaaGreatDoorMr1
namespace Go.Proofs.YtbnhefibpjldfaaGreatDoor
open Go.RowKit Go.BigFrame Go.Shelf
set_option linter.unusedVariables false
attribute [local go_sem] Oper.semAt_some

theorem LinPost.other {b7 b8 q m : Nat} {W W' : World} {e : Ending} (h : LinPost b7 b8 q m W e W') {k t : Nat} {cs c7 c8 : Array Value} (hk : W.heap[k]? = some (.cells cs t (0, 0))) (h7 : W.heap[b7]? = some (.cells c7 3 (0, 0))) (h8 : W.heap[b8]? = some (.cells c8 3 (0, 0))) (ht : t ≠ 3) : W'.heap[k]? = some (.cells cs t (0, 0)) :=
  h.2.2.2.keep hk (fun hh => by
    rcases hh with rfl | rfl
    · rw [hk] at h7; cases h7; exact ht rfl
    · rw [hk] at h8; cases h8; exact ht rfl)
theorem padd_call (lo hi b3 X : Nat) (hiI : Int) (S : List Nat) (v : Value) (w : World) (h3 : w.heap[b3]? = some (.cells #[v] 67 (0, 0))) (ho : w.ownsRow X 3 1 v S.length (S.flatMap intF)) (hX : X ≤ w.heap.size) (hS : S.length ≤ 1000000) (hlo : lo ≤ 1000000) (hhi : hi ≤ 1000000) (he : hiI = hi) :
    Calls Tryz.prog 28 #[.int .i64 lo, .int .i64 hiI, .pointer (some ⟨b3, 0, none⟩)] w (AddPost b3 X (S ++ upto' lo hi) w) := by
  subst he
  exact Pr.add lo hi b3 X S v w h3 ho hX hS hlo hhi
/-- The lines that are protected, or the error. -/
def protR (PR : Option (List Nat)) : Nat × List (Nat × Nat) := match PR with
  | none => (210, [])
  | some S => (0, rgs (fun i => S.contains i) none 0 65536)
set_option maxRecDepth 100000 in
set_option maxHeartbeats 8000000 in
theorem Pr.protects (s : ByteArray) (a : Option Addr) (c : Nat) (L : List Tk) (w : World) (hv : SlV 5 tkC w (.slice a L.length c) L) (hs : s.size ≤ 900) (hLl : L.length ≤ s.size) (hor : Ord s.size 0 L) (hcom : ∀ x ∈ L, x.kind = 8 → isCom x.text ∧ x.text.length ≤ s.size) :
    Calls Tryz.prog 10 #[.string s, .slice a L.length c] w (MksPost (protR (prot (dl s) L false 0 [])) w) := by
  obtain ⟨PR, hPR⟩ : ∃ PR, prot (dl s) L false 0 [] = PR := ⟨_, rfl⟩
  rw [hPR]
  obtain ⟨gb, go, hrow⟩ : ∃ gb go, L ≠ [] → a = some ⟨gb, go, none⟩ ∧ gb < w.heap.size ∧ ∀ i (h : i < L.length), CellsAt w gb (go + i * 5) (tkC L[i]) := by
    obtain ⟨a', c', he, _, _, hr⟩ := hv
    simp only [Value.slice.injEq] at he
    obtain ⟨rfl, _, rfl⟩ := he
    by_cases hne : L = []
    · exact ⟨0, 0, fun h => absurd hne h⟩
    · obtain ⟨gb, go, h1, h2, h3⟩ := hr.at hne
      exact ⟨gb, go, fun _ => ⟨h1, h2, h3⟩⟩
  obtain ⟨W0, hW0⟩ : ∃ W0, W0 = (((((((((((w.alloc (.cells #[.string s] 9)).alloc (.cells #[.slice none 0 0] 22)).alloc (.cells #[.int .i64 0] 23)).alloc (.cells #[.slice none 0 0] 67)).alloc (.cells #[.func (.func 28) #[] #[.pointer (some ⟨w.heap.size + 1 + 1 + 1, 0, none⟩)]] 68)).alloc (.cells #[.int .i64 0] 3)).alloc (.cells #[.int .i64 2] 3)).alloc (.cells #[.int .i64 0] 3)).alloc (.cells #[.int .i64 0] 3)).alloc (.cells #[.func (.func 29) #[] #[.pointer (some ⟨w.heap.size + 1 + 1 + 1 + 1 + 1 + 1 + 1, 0, none⟩), .pointer (some ⟨w.heap.size, 0, none⟩), .pointer (some ⟨w.heap.size + 1 + 1 + 1 + 1 + 1 + 1 + 1 + 1, 0, none⟩)]] 70)).alloc (.cells #[.slice a L.length c] 30)) := ⟨_, rfl⟩
  have e0 : W0.heap[w.heap.size]? = some (.cells #[.string s] 9 (0, 0)) := by
    have h := heap_alloc_new w (.cells #[.string s] 9)
    rw [hW0]; exact heap_alloc_old' _ (heap_alloc_old' _ (heap_alloc_old' _ (heap_alloc_old' _ (heap_alloc_old' _ (heap_alloc_old' _ (heap_alloc_old' _ (heap_alloc_old' _ (heap_alloc_old' _ (heap_alloc_old' _ ((by simpa using h)))))))))))
  have e1 : W0.heap[w.heap.size + 1]? = some (.cells #[.slice none 0 0] 22 (0, 0)) := by
    have h := heap_alloc_new (w.alloc (.cells #[.string s] 9)) (.cells #[.slice none 0 0] 22)
    rw [hW0]; exact heap_alloc_old' _ (heap_alloc_old' _ (heap_alloc_old' _ (heap_alloc_old' _ (heap_alloc_old' _ (heap_alloc_old' _ (heap_alloc_old' _ (heap_alloc_old' _ (heap_alloc_old' _ ((by simpa using h))))))))))
  have e2 : W0.heap[w.heap.size + 1 + 1]? = some (.cells #[.int .i64 0] 23 (0, 0)) := by
    have h := heap_alloc_new ((w.alloc (.cells #[.string s] 9)).alloc (.cells #[.slice none 0 0] 22)) (.cells #[.int .i64 0] 23)
    rw [hW0]; exact heap_alloc_old' _ (heap_alloc_old' _ (heap_alloc_old' _ (heap_alloc_old' _ (heap_alloc_old' _ (heap_alloc_old' _ (heap_alloc_old' _ (heap_alloc_old' _ ((by simpa using h)))))))))
  have e3 : W0.heap[w.heap.size + 1 + 1 + 1]? = some (.cells #[.slice none 0 0] 67 (0, 0)) := by
    have h := heap_alloc_new (((w.alloc (.cells #[.string s] 9)).alloc (.cells #[.slice none 0 0] 22)).alloc (.cells #[.int .i64 0] 23)) (.cells #[.slice none 0 0] 67)
    rw [hW0]; exact heap_alloc_old' _ (heap_alloc_old' _ (heap_alloc_old' _ (heap_alloc_old' _ (heap_alloc_old' _ (heap_alloc_old' _ (heap_alloc_old' _ ((by simpa using h))))))))
  have e4 : W0.heap[w.heap.size + 1 + 1 + 1 + 1]? = some (.cells #[.func (.func 28) #[] #[.pointer (some ⟨w.heap.size + 1 + 1 + 1, 0, none⟩)]] 68 (0, 0)) := by
    have h := heap_alloc_new ((((w.alloc (.cells #[.string s] 9)).alloc (.cells #[.slice none 0 0] 22)).alloc (.cells #[.int .i64 0] 23)).alloc (.cells #[.slice none 0 0] 67)) (.cells #[.func (.func 28) #[] #[.pointer (some ⟨w.heap.size + 1 + 1 + 1, 0, none⟩)]] 68)
    rw [hW0]; exact heap_alloc_old' _ (heap_alloc_old' _ (heap_alloc_old' _ (heap_alloc_old' _ (heap_alloc_old' _ (heap_alloc_old' _ ((by simpa using h)))))))
  have e5 : W0.heap[w.heap.size + 1 + 1 + 1 + 1 + 1]? = some (.cells #[.int .i64 0] 3 (0, 0)) := by
    have h := heap_alloc_new (((((w.alloc (.cells #[.string s] 9)).alloc (.cells #[.slice none 0 0] 22)).alloc (.cells #[.int .i64 0] 23)).alloc (.cells #[.slice none 0 0] 67)).alloc (.cells #[.func (.func 28) #[] #[.pointer (some ⟨w.heap.size + 1 + 1 + 1, 0, none⟩)]] 68)) (.cells #[.int .i64 0] 3)
    rw [hW0]; exact heap_alloc_old' _ (heap_alloc_old' _ (heap_alloc_old' _ (heap_alloc_old' _ (heap_alloc_old' _ ((by simpa using h))))))
  have e6 : W0.heap[w.heap.size + 1 + 1 + 1 + 1 + 1 + 1]? = some (.cells #[.int .i64 2] 3 (0, 0)) := by
    have h := heap_alloc_new ((((((w.alloc (.cells #[.string s] 9)).alloc (.cells #[.slice none 0 0] 22)).alloc (.cells #[.int .i64 0] 23)).alloc (.cells #[.slice none 0 0] 67)).alloc (.cells #[.func (.func 28) #[] #[.pointer (some ⟨w.heap.size + 1 + 1 + 1, 0, none⟩)]] 68)).alloc (.cells #[.int .i64 0] 3)) (.cells #[.int .i64 2] 3)
    rw [hW0]; exact heap_alloc_old' _ (heap_alloc_old' _ (heap_alloc_old' _ (heap_alloc_old' _ ((by simpa using h)))))
  have e7 : W0.heap[w.heap.size + 1 + 1 + 1 + 1 + 1 + 1 + 1]? = some (.cells #[.int .i64 0] 3 (0, 0)) := by
    have h := heap_alloc_new (((((((w.alloc (.cells #[.string s] 9)).alloc (.cells #[.slice none 0 0] 22)).alloc (.cells #[.int .i64 0] 23)).alloc (.cells #[.slice none 0 0] 67)).alloc (.cells #[.func (.func 28) #[] #[.pointer (some ⟨w.heap.size + 1 + 1 + 1, 0, none⟩)]] 68)).alloc (.cells #[.int .i64 0] 3)).alloc (.cells #[.int .i64 2] 3)) (.cells #[.int .i64 0] 3)
    rw [hW0]; exact heap_alloc_old' _ (heap_alloc_old' _ (heap_alloc_old' _ ((by simpa using h))))
  have e8 : W0.heap[w.heap.size + 1 + 1 + 1 + 1 + 1 + 1 + 1 + 1]? = some (.cells #[.int .i64 0] 3 (0, 0)) := by
    have h := heap_alloc_new ((((((((w.alloc (.cells #[.string s] 9)).alloc (.cells #[.slice none 0 0] 22)).alloc (.cells #[.int .i64 0] 23)).alloc (.cells #[.slice none 0 0] 67)).alloc (.cells #[.func (.func 28) #[] #[.pointer (some ⟨w.heap.size + 1 + 1 + 1, 0, none⟩)]] 68)).alloc (.cells #[.int .i64 0] 3)).alloc (.cells #[.int .i64 2] 3)).alloc (.cells #[.int .i64 0] 3)) (.cells #[.int .i64 0] 3)
    rw [hW0]; exact heap_alloc_old' _ (heap_alloc_old' _ ((by simpa using h)))
  have e9 : W0.heap[w.heap.size + 1 + 1 + 1 + 1 + 1 + 1 + 1 + 1 + 1]? = some (.cells #[.func (.func 29) #[] #[.pointer (some ⟨w.heap.size + 1 + 1 + 1 + 1 + 1 + 1 + 1, 0, none⟩), .pointer (some ⟨w.heap.size, 0, none⟩), .pointer (some ⟨w.heap.size + 1 + 1 + 1 + 1 + 1 + 1 + 1 + 1, 0, none⟩)]] 70 (0, 0)) := by
    have h := heap_alloc_new (((((((((w.alloc (.cells #[.string s] 9)).alloc (.cells #[.slice none 0 0] 22)).alloc (.cells #[.int .i64 0] 23)).alloc (.cells #[.slice none 0 0] 67)).alloc (.cells #[.func (.func 28) #[] #[.pointer (some ⟨w.heap.size + 1 + 1 + 1, 0, none⟩)]] 68)).alloc (.cells #[.int .i64 0] 3)).alloc (.cells #[.int .i64 2] 3)).alloc (.cells #[.int .i64 0] 3)).alloc (.cells #[.int .i64 0] 3)) (.cells #[.func (.func 29) #[] #[.pointer (some ⟨w.heap.size + 1 + 1 + 1 + 1 + 1 + 1 + 1, 0, none⟩), .pointer (some ⟨w.heap.size, 0, none⟩), .pointer (some ⟨w.heap.size + 1 + 1 + 1 + 1 + 1 + 1 + 1 + 1, 0, none⟩)]] 70)
    rw [hW0]; exact heap_alloc_old' _ ((by simpa using h))
  have e10 : W0.heap[w.heap.size + 1 + 1 + 1 + 1 + 1 + 1 + 1 + 1 + 1 + 1]? = some (.cells #[.slice a L.length c] 30 (0, 0)) := by
    have h := heap_alloc_new ((((((((((w.alloc (.cells #[.string s] 9)).alloc (.cells #[.slice none 0 0] 22)).alloc (.cells #[.int .i64 0] 23)).alloc (.cells #[.slice none 0 0] 67)).alloc (.cells #[.func (.func 28) #[] #[.pointer (some ⟨w.heap.size + 1 + 1 + 1, 0, none⟩)]] 68)).alloc (.cells #[.int .i64 0] 3)).alloc (.cells #[.int .i64 2] 3)).alloc (.cells #[.int .i64 0] 3)).alloc (.cells #[.int .i64 0] 3)).alloc (.cells #[.func (.func 29) #[] #[.pointer (some ⟨w.heap.size + 1 + 1 + 1 + 1 + 1 + 1 + 1, 0, none⟩), .pointer (some ⟨w.heap.size, 0, none⟩), .pointer (some ⟨w.heap.size + 1 + 1 + 1 + 1 + 1 + 1 + 1 + 1, 0, none⟩)]] 70)) (.cells #[.slice a L.length c] 30)
    rw [hW0]; exact (by simpa using h)
  have hs0 : W0.heap.size = w.heap.size + 11 := by rw [hW0]; simp
  have hb0 : Below w.heap.size w W0 := by
    rw [hW0]
    exact ((((((((((((Below.refl _ _).alloc (Nat.le_refl _) _)).alloc (by simp; try omega) _).alloc (by simp; try omega) _).alloc (by simp; try omega) _).alloc (by simp; try omega) _).alloc (by simp; try omega) _).alloc (by simp; try omega) _).alloc (by simp; try omega) _).alloc (by simp; try omega) _).alloc (by simp; try omega) _).alloc (by simp; try omega) _
  have hB0 : PrB w.heap.size s (.slice none 0 0) [] 0 2 0 0 w W0 := ⟨e0, e1, e2, e3, e4, e5, e6, e7, e8, e9, hb0, World.ownsRow_nil _ _ _ _, by omega⟩
  have hI0 : PrI s PR (cmsT L) w [] W0 := ⟨_, _, _, _, _, _, hB0, .inr rfl, by rw [List.length_nil, List.drop_zero, prot_cms]; exact hPR.symm, by rw [List.length_nil, List.drop_zero]; exact ord_cms _ _ hor, Nat.zero_le _, rfl, Nat.zero_le _, by simp, by simp⟩
  have hseq := Cm.seq 4 (w.heap.size + 1 + 1 + 1 + 1 + 1 + 1 + 1 + 1 + 1 + 1) w.heap.size gb go c L a W0 e10 (by omega) (by omega) (fun hne => by
    obtain ⟨q1, q2, q3⟩ := hrow hne
    exact ⟨q1, q2, fun i h => (q3 i h).below hb0 q2⟩)
  have hcc : ∀ x ∈ cmsT L, x.kind = 8 ∧ isCom x.text ∧ x.text.length ≤ s.size := fun x hx => by
    unfold cmsT at hx
    obtain ⟨h1, h2⟩ := List.mem_filter.1 hx
    have h3 : x.kind = 8 := by simpa using h2
    exact ⟨h3, hcom x h1 h3⟩
  have hCl : (cmsT L).length ≤ 900 := Nat.le_trans (List.length_filter_le _ _) (by omega)
  obtain ⟨C, hC⟩ : ∃ C, cmsT L = C := ⟨_, rfl⟩
  rw [hC] at hI0 hseq hcc hCl
  have HSEQ := Lib.hid hseq
  have HS0 := Lib.hid hs0
  have HI0 := Lib.hid hI0
  have HW0 := Lib.hid hW0
  have HCC := Lib.hid hcc
  have HCL := Lib.hid hCl
  clear e0 e1 e2 e3 e4 e5 e6 e7 e8 e9 e10 hs0 hb0 hB0 hI0 hseq hcc hCl hC hW0 hrow hPR hor hcom hv
  refine (callsIn_wide (n := 5)).1 ?_
  refine callsIn_of_wp_marks Tryz.func10 rfl trivial ?_ rfl
  simp only [Tryz.ntmps10, List.size_toArray, List.length_cons, List.length_nil, Nat.reduceAdd, Nat.reduceSub, Array.replicate_succ, Array.replicate_zero, List.push_toArray, List.append_toArray, List.nil_append, List.cons_append]
  gi_wp2_with (fail)
  refine ⟨trivial, ?_⟩
  refine (callsIn_wide.2 (Cm.comments _ _ _ _)).mono ?_
  rintro e w2 ⟨rfl, rfl⟩
  gi_wp2_with (fail)
  rw [← HW0.out]
  refine wpIn_rangeFunc_asg rfl (by omega) (gf := 43) (lb := #[.pointer (some ⟨w.heap.size + 1 + 1 + 1 + 1 + 1 + 1 + 1 + 1 + 1 + 1, 0, none⟩)]) rfl trivial (enters_of Tryz.func43 (by kernel_rfl) rfl)
    HSEQ.out (fun k hk => hk.elim) (fun h k => h.trans k) (fun W l o o' hl hW ho _ => KX.putObj (by have := HS0.out; omega) hW ho) (Below.refl _ _) (fun _ => rfl)
    (PrI s PR C w) (fun c _ W => PrX PR w c W)
    (fun t A B ⟨v, S, first, st, n, p, hB, hrest⟩ hm => by
      have hm' : Mod (fun k => nc A k ∧ w.heap.size + 11 ≤ k) A B := hm.mono (fun k _ hk => hk.elim (fun h => h.elim) (fun h => ⟨h.2, by have := h.1; have := HS0.out; omega⟩))
      exact ⟨v, S, first, st, n, p, hB.keep hm' (own_nc hB.own (hm'.mono (fun k _ hk => ⟨hk.2, hk.1⟩))), hrest⟩)
    (fun c t A B ⟨h1, h2, h3, h4, h5⟩ hm => by
      have hs0 := HS0.out
      have hm' : Mod (fun k => nc A k ∧ w.heap.size + 11 ≤ k) A B := hm.mono (fun k _ hk => hk.elim (fun h => h.elim) (fun h => ⟨h.2, by have := h.1; omega⟩))
      exact ⟨h1, h2, hm'.keep h3 (by omega), hm'.keep h4 (by omega), h5.trans (hm'.below h5.size (fun k hk => by omega))⟩)
    HI0.out
    (fun (x : Tk) a' W => ∃ bt, W.heap[bt]? = some (.cells #[.int .i64 x.kind, .string (str x.text), .int .i64 x.lo, .int .i64 x.hi, .bool x.space] 40 (0, 0)) ∧
      a' = { tmps := #[.string s, .slice a L.length c, .pointer (some ⟨w.heap.size, 0, none⟩), undef, .pointer (some ⟨w.heap.size + 1, 0, none⟩), .pointer (some ⟨w.heap.size + 1 + 1, 0, none⟩), .pointer (some ⟨w.heap.size + 1 + 1 + 1, 0, none⟩), .pointer (some ⟨w.heap.size + 1 + 1 + 1 + 1, 0, none⟩), .pointer (some ⟨w.heap.size + 1 + 1 + 1 + 1 + 1, 0, none⟩), .pointer (some ⟨w.heap.size + 1 + 1 + 1 + 1 + 1 + 1, 0, none⟩), .pointer (some ⟨w.heap.size + 1 + 1 + 1 + 1 + 1 + 1 + 1, 0, none⟩), .pointer (some ⟨w.heap.size + 1 + 1 + 1 + 1 + 1 + 1 + 1 + 1, 0, none⟩), .pointer (some ⟨w.heap.size + 1 + 1 + 1 + 1 + 1 + 1 + 1 + 1 + 1, 0, none⟩), .pointer (some ⟨bt, 0, none⟩), undef, undef, undef, .func (.func 28) #[] #[.pointer (some ⟨w.heap.size + 1 + 1 + 1, 0, none⟩)], .func (.func 29) #[] #[.pointer (some ⟨w.heap.size + 1 + 1 + 1 + 1 + 1 + 1 + 1, 0, none⟩), .pointer (some ⟨w.heap.size, 0, none⟩), .pointer (some ⟨w.heap.size + 1 + 1 + 1 + 1 + 1 + 1 + 1 + 1, 0, none⟩)], .slice a L.length c, .func (.func 43) #[] #[.pointer (some ⟨w.heap.size + 1 + 1 + 1 + 1 + 1 + 1 + 1 + 1 + 1 + 1, 0, none⟩)], tkV x, undef, undef, undef, undef, undef, undef, undef, undef, undef, undef, undef, undef, undef, undef, undef, undef, undef, undef, undef, undef, undef, undef, undef, undef, undef, undef, undef, undef, undef, undef, undef, undef, undef, undef, undef, undef, undef, undef, undef], defers := [] })
    (fun h => KX.of_below h)
    (fun p a' W l o o' hl ho ⟨b, hb, ha⟩ => ⟨b, by
      rw [World.putObj_heap_other (fun e => by
        subst e
        rw [hl] at hb
        cases hb
        cases ho)]
      exact hb, ha⟩)
    ?assign ?body ?done ?stop
  case assign =>
    intro l z W K hK
    simp only [tkV]
    gi_wp2
    exact hK _ _ (below_alloc W _) ⟨W.heap.size, heap_alloc_new _ _, rfl⟩
  case body =>
    rintro l' pre x a' W ⟨v, S, first, st, n, p, hB, hst, hpr, hor, hps, hn, hf, hSl, hSx⟩ ⟨r, hr⟩ ⟨bt, hbt, rfl⟩
    have hdr : C.drop pre.length = x :: r := by rw [hr]; simp
    have hdr2 : C.drop (pre ++ [x]).length = r := by rw [hr]; simp
    have hxm : x ∈ C := by rw [hr]; simp
    have hpl : pre.length < 900 := by have h1 := congrArg List.length hr; have h2 := HCL.out; simp at h1; omega
    have hpl2 : (pre ++ [x]).length = pre.length + 1 := by simp
    obtain ⟨hk8, hic, htl⟩ := HCC.out x hxm
    rw [hdr] at hpr hor
    obtain ⟨o1, o2, o3, o4⟩ := hor
    rw [prot_cons _ _ _ hk8] at hpr
    have HDR := Lib.hid hdr2
    have HPL := Lib.hid hpl2
    obtain ⟨kd, tx, lo, hi, sp⟩ := x
    simp only at hk8 hic htl o1 o2 o3 o4 hpr hbt
    subst hk8
    obtain ⟨m, hm⟩ : ∃ m, markP tx = m := ⟨_, rfl⟩
    have hm2 := mark_le tx
    rw [hm] at hpr hm2
    have MK := Lib.hid (fun W : World => pmark_call tx W m (by omega) hic hm)
    have u1 : W.cell? ⟨bt, 1, none⟩ = some (.string (str tx)) := by simp [World.cell?, hbt]
    have HBT := Lib.hid hbt
    have HB := Lib.hid hB
    have HPR := Lib.hid hpr
    have HSX := Lib.hid hSx
    have HO4 := Lib.hid o4
    have HN := Lib.hid hn
    have HST := Lib.hid hst
    clear hB hst hpr hn hSx hr hdr hdr2 hxm hbt o4 hm hic hpl2
    gi_wp2_with (fail)
    refine ⟨trivial, ?_⟩
    refine (CallsIn.inRound _ (callsIn_wide.2 (MK.out _))).mono ?_
    rintro e W1 ⟨rfl, b1⟩
    have hBW := HB.out.below b1
    have h1 := hBW.h1
    have h2 := hBW.h2
    have h6 := hBW.h6
    have h9 := hBW.h9
    have hbt1 := heap_below b1 HBT.out (Array.getElem?_eq_some_iff.1 HBT.out).1
    have c1 : W1.cell? ⟨w.heap.size + 1, 0, none⟩ = some (.slice none 0 0) := by simp [World.cell?, h1]
    have c2 : W1.cell? ⟨w.heap.size + 1 + 1, 0, none⟩ = some (.int .i64 0) := by simp [World.cell?, h2]
    have c6 : W1.cell? ⟨w.heap.size + 1 + 1 + 1 + 1 + 1 + 1, 0, none⟩ = some (.int .i64 st) := by simp [World.cell?, h6]
    have c9 : W1.cell? ⟨w.heap.size + 1 + 1 + 1 + 1 + 1 + 1 + 1 + 1 + 1, 0, none⟩ = some (.func (.func 29) #[] #[.pointer (some ⟨w.heap.size + 1 + 1 + 1 + 1 + 1 + 1 + 1, 0, none⟩), .pointer (some ⟨w.heap.size, 0, none⟩), .pointer (some ⟨w.heap.size + 1 + 1 + 1 + 1 + 1 + 1 + 1 + 1, 0, none⟩)]) := by simp [World.cell?, h9]
    have f1 : W1.frozen? ⟨w.heap.size + 1, 0, none⟩ = false := Lib.frozen_of_heap h1 0
    have f2 : W1.frozen? ⟨w.heap.size + 1 + 1, 0, none⟩ = false := Lib.frozen_of_heap h2 0
    have u2 : W1.cell? ⟨bt, 2, none⟩ = some (.int .i64 lo) := by simp [World.cell?, hbt1]
    have HBW := Lib.hid hBW
    have HBT1 := Lib.hid hbt1
    have ST1 := Lib.hid (StP.below (b := w.heap.size) b1)
    clear h1 h2 h6 h9 hbt1 hBW b1 u1
    by_cases hm0 : m = 0
    · have hm0' : ((m : Int) == 0) = true := by rw [beq_iff_eq]; omega
      have hpr := HPR.out
      rw [if_pos hm0] at hpr
      have HPR := Lib.hid hpr
      clear hpr hm0
      gi_wp2_with (fail)
      exact ⟨ST1.out.1 _, ST1.out.2, v, S, first, st, n, p, HBW.out, HST.out, by rw [HDR.out]; exact HPR.out, by rw [HDR.out]; exact ord_weak _ _ _ (by omega) HO4.out, hps, HN.out, hf, by rw [HPL.out]; omega, HSX.out⟩
    · have hm0' : ((m : Int) == 0) = false := by rw [beq_eq_false_iff_ne]; omega
      have hpr := HPR.out
      rw [if_neg hm0] at hpr
      by_cases hms : m = st
      · have hms' : ((m : Int) == st) = true := by rw [beq_iff_eq]; omega
        rw [if_pos (by rw [hms])] at hpr
        have HPR := Lib.hid hpr
        clear hpr hm0 hms
        gi_wp2_with (fail)
        obtain ⟨z0, z1, z2⟩ := res_heaps HBW.out.h1 HBW.out.h2 (.slice none 0 0) (.int .i64 210)
        exact ⟨(ST1.out.1 _).trans ((KeepsFrom.of_cells HBW.out.h1 _).trans (KeepsFrom.of_cells ((Below.heap_setCell _ _ _ _ (by simp)).trans HBW.out.h2) _)), rfl, HPR.out, z0, z1, HBW.out.bel.trans (z2.mono (by omega))⟩
      · have hms' : ((m : Int) == st) = false := by rw [beq_eq_false_iff_ne]; omega
        have hoff : decide (st = 1) ≠ decide (m = 1) := by
          rcases HST.out with h | h
          · rw [decide_eq_true h, decide_eq_false (by omega)]; simp
          · rw [decide_eq_false (show ¬ st = 1 by omega), decide_eq_true (show m = 1 by omega)]; simp
        rw [if_neg hoff] at hpr
        have HPR := Lib.hid hpr
        clear hpr hm0 hms hoff
        gi_wp2_with (fail)
        refine ⟨trivial, ?_⟩
        obtain ⟨q1, hq1⟩ : ∃ q1, nlc (dl s) lo = q1 := ⟨_, rfl⟩
        obtain ⟨q2, hq2⟩ : ∃ q2, nlc (dl s) (hi - 1) = q2 := ⟨_, rfl⟩
        have hq1l := nlc_le (dl s) lo
        have hq2l := nlc_le (dl s) (hi - 1)
        have hpr := HPR.out
        rw [hq1, hq2] at hpr
        rw [hq1] at hq1l
        rw [hq2] at hq2l
        have HPR := Lib.hid hpr
        have HQ2 := Lib.hid hq2
        refine (CallsIn.inRound _ (callsIn_wide.2 (Pr.line s (w.heap.size + 7) w.heap.size (w.heap.size + 8) p lo n q1 W1 HBW.out.h7 HBW.out.h0 HBW.out.h8 (by omega) o1 (by omega) (by omega) HN.out hq1 lo rfl))).mono ?_
        rintro e W2 hl
        obtain rfl := hl.1
        have hbt2 := hl.other HBT1.out HBW.out.h7 HBW.out.h8 (by decide)
        have hB2 := HBW.out.line hl
        have ST2 := Lib.hid (ST1.out.trans (StP.line HBW.out hl))
        have h9 := hB2.h9
        have d9 : W2.cell? ⟨w.heap.size + 1 + 1 + 1 + 1 + 1 + 1 + 1 + 1 + 1, 0, none⟩ = some (.func (.func 29) #[] #[.pointer (some ⟨w.heap.size + 1 + 1 + 1 + 1 + 1 + 1 + 1, 0, none⟩), .pointer (some ⟨w.heap.size, 0, none⟩), .pointer (some ⟨w.heap.size + 1 + 1 + 1 + 1 + 1 + 1 + 1 + 1, 0, none⟩)]) := by simp [World.cell?, h9]
        have u3 : W2.cell? ⟨bt, 3, none⟩ = some (.int .i64 hi) := by simp [World.cell?, hbt2]
        have HB2 := Lib.hid hB2
        clear hpr hq2 h9 hbt2 hB2 hl c1 c2 c6 c9 f1 f2 u2
        gi_wp2_with (fail)
        refine ⟨trivial, ?_⟩
        refine (CallsIn.inRound _ (callsIn_wide.2 (Pr.line s (w.heap.size + 7) w.heap.size (w.heap.size + 8) lo (hi - 1) q1 q2 W2 HB2.out.h7 HB2.out.h0 HB2.out.h8 (by omega) (by omega) (by omega) (by omega) hq1 HQ2.out ((hi : Int) - 1) (by omega)))).mono ?_
        rintro e W3 hl
        obtain rfl := hl.1
        have hB3 := HB2.out.line hl
        have ST3 := Lib.hid (ST2.out.trans (StP.line HB2.out hl))
        have h3 := hB3.h3
        have h4 := hB3.h4
        have h5 := hB3.h5
        have h6 := hB3.h6
        have c4 : W3.cell? ⟨w.heap.size + 1 + 1 + 1 + 1, 0, none⟩ = some (.func (.func 28) #[] #[.pointer (some ⟨w.heap.size + 1 + 1 + 1, 0, none⟩)]) := by simp [World.cell?, h4]
        have c5 : W3.cell? ⟨w.heap.size + 1 + 1 + 1 + 1 + 1, 0, none⟩ = some (.int .i64 first) := by simp [World.cell?, h5]
        have f5 : W3.frozen? ⟨w.heap.size + 1 + 1 + 1 + 1 + 1, 0, none⟩ = false := Lib.frozen_of_heap h5 0
        have HB3 := Lib.hid hB3
        clear h3 h4 h5 h6 hB3 hl d9 u3
        by_cases hm1 : m = 1
        · have hm1' : ((m : Int) == 1) = true := by rw [beq_iff_eq]; omega
          have hpr := HPR.out
          rw [if_pos hm1] at hpr
          have HPR := Lib.hid hpr
          have hB4 := HB3.out.first q1
          have h6 := hB4.h6
          have c6 : (W3.setCell ⟨w.heap.size + 1 + 1 + 1 + 1 + 1, 0, none⟩ (.int .i64 q1)).cell? ⟨w.heap.size + 1 + 1 + 1 + 1 + 1 + 1, 0, none⟩ = some (.int .i64 st) := by simp only [World.cell?]; rw [show (W3.setCell ⟨w.heap.size + 1 + 1 + 1 + 1 + 1, 0, none⟩ (.int .i64 q1)).heap[w.heap.size + 1 + 1 + 1 + 1 + 1 + 1]? = _ from h6]; simp
          have f6 : (W3.setCell ⟨w.heap.size + 1 + 1 + 1 + 1 + 1, 0, none⟩ (.int .i64 q1)).frozen? ⟨w.heap.size + 1 + 1 + 1 + 1 + 1 + 1, 0, none⟩ = false := Lib.frozen_of_heap (show (W3.setCell ⟨w.heap.size + 1 + 1 + 1 + 1 + 1, 0, none⟩ (.int .i64 q1)).heap[w.heap.size + 1 + 1 + 1 + 1 + 1 + 1]? = _ from h6) 0
          have HB4 := Lib.hid hB4
          have HM1 := Lib.hid hm1
          clear hpr hB4 h6 hm1
          gi_wp2_with (fail)
          have sp2 := (ST3.out.trans (StP.set HB3.out.h5 (by omega) 0 (.int .i64 q1))).trans (StP.set HB4.out.h6 (by omega) 0 (.int .i64 m))
          exact ⟨sp2.1 _, sp2.2, v, S, q1, m, q2, hi - 1, HB4.out.state m, .inl HM1.out, by rw [HDR.out, decide_eq_true HM1.out]; exact HPR.out, by rw [HDR.out]; exact ord_weak _ _ _ (by omega) HO4.out, by omega, HQ2.out, by omega, by rw [HPL.out]; omega, HSX.out⟩
        · have hm1' : ((m : Int) == 1) = false := by rw [beq_eq_false_iff_ne]; omega
          have hpr := HPR.out
          rw [if_neg hm1] at hpr
          have HPR := Lib.hid hpr
          have HM1 := Lib.hid hm1
          have hm2' : m = 2 := by
            rcases (show m = 0 ∨ m = 1 ∨ m = 2 by omega) with h | h | h
            · rw [h] at hm0'; cases hm0'
            · exact absurd h hm1
            · exact h
          have HM2 := Lib.hid hm2'
          clear hpr hm1 hm2'
          gi_wp2_with (fail)
          refine ⟨trivial, ?_⟩
          refine (CallsIn.inRound _ (callsIn_wide.2 (padd_call first (q2 + 1) (w.heap.size + 3) (w.heap.size + 11) ((q2 : Int) + 1) S v W3 HB3.out.h3 HB3.out.own HB3.out.siz (by omega) (by omega) (by omega) (by omega)))).mono ?_
          rintro e W4 hl
          obtain ⟨⟨r0, rfl⟩, hl2⟩ := id hl
          obtain ⟨v', hB4⟩ := HB3.out.add hl
          have ST4 := Lib.hid (ST3.out.trans (StP.add hl))
          have h6 := hB4.h6
          have c6 : W4.cell? ⟨w.heap.size + 1 + 1 + 1 + 1 + 1 + 1, 0, none⟩ = some (.int .i64 st) := by simp [World.cell?, h6]
          have f6 : W4.frozen? ⟨w.heap.size + 1 + 1 + 1 + 1 + 1 + 1, 0, none⟩ = false := Lib.frozen_of_heap h6 0
          have HB4 := Lib.hid hB4
          clear hl hl2 h6 hB4 c4 c5 f5
          gi_wp2_with (fail)
          have sp2 := ST4.out.trans (StP.set HB4.out.h6 (by omega) 0 (.int .i64 m))
          exact ⟨sp2.1 _, sp2.2, v', _, first, m, q2, hi - 1, HB4.out.state m, .inr HM2.out, by rw [HDR.out, decide_eq_false HM1.out]; exact HPR.out, by rw [HDR.out]; exact ord_weak _ _ _ (by omega) HO4.out, by omega, HQ2.out, hf, by rw [HPL.out, List.length_append, upto_len]; omega, upto_lt HSX.out (by omega)⟩
  case done =>
    rintro Dd zs W hD rfl ⟨v, S, first, st, n, p, hB, hst, hpr, hor, hps, hn, hf, hSl, hSx⟩ hK
    have hzl := HCL.out
    rw [List.drop_length] at hpr
    simp only [prot] at hpr
    have h6 := hB.h6
    have c6 : W.cell? ⟨w.heap.size + 1 + 1 + 1 + 1 + 1 + 1, 0, none⟩ = some (.int .i64 st) := by simp [World.cell?, h6]
    have HB := Lib.hid hB
    have HK := Lib.hid hK
    have HSL : Hid (S.length ≤ 1000000) := Lib.hid (by omega)
    have HSX := Lib.hid hSx
    have HN := Lib.hid hn
    by_cases hs1 : st = 1
    · have hs1' : ((st : Int) == 1) = true := by rw [beq_iff_eq]; omega
      obtain ⟨N, hN⟩ : ∃ N, nlc (dl s) s.size = N := ⟨_, rfl⟩
      have hNl := nlc_le (dl s) s.size
      rw [hN] at hNl
      rw [decide_eq_true hs1, if_pos rfl, ← size_dl, hN] at hpr
      have HPRQ := Lib.hid hpr
      have HNN := Lib.hid hN
      clear hpr hB hst hor hn hSx hK h6 hs1 hN
      gi_wp2_with (fail)
      refine wpIn_wide.2 ?_
      refine wp_region_rel_tail 6 (fun W' => ∃ n5 p5 : Nat, PrB w.heap.size s v S first st n5 p5 w W' ∧ p5 ≤ s.size ∧ nlc (dl s) p5 = n5 ∧ W'.heap[Dd]? = some (.deferred (some [])))
        (fun W1 W2 => (∃ n5 p5 : Nat, PrB w.heap.size s v S first st n5 p5 w W1 ∧ p5 ≤ s.size ∧ nlc (dl s) p5 = n5 ∧ W1.heap[Dd]? = some (.deferred (some []))) → ∃ n5 p5 : Nat, PrB w.heap.size s v S first st n5 p5 w W2 ∧ p5 ≤ s.size ∧ nlc (dl s) p5 = n5 ∧ W2.heap[Dd]? = some (.deferred (some [])))
        (fun i u _ => u = [(.func (.func 28) #[] #[.pointer (some ⟨w.heap.size + 1 + 1 + 1, 0, none⟩)]), .int .i64 first, (.func (.func 29) #[] #[.pointer (some ⟨w.heap.size + 1 + 1 + 1 + 1 + 1 + 1 + 1, 0, none⟩), .pointer (some ⟨w.heap.size, 0, none⟩), .pointer (some ⟨w.heap.size + 1 + 1 + 1 + 1 + 1 + 1 + 1 + 1, 0, none⟩)]), .string s, .int .i64 s.size, .int .i64 N].getD i undef) (by kernel_rfl) (by kernel_rfl) ?_ (fun _ _ h r => r h) (fun _ _ _ _ _ _ h => h) ?_ ?_
      · exact ⟨n, p, HB.out.below (Below.refl _ _).drew, hps, HN.out, HK.out⟩
      · intro i o ho v' w5 hI5 hd K hK1
        have hi : i < 6 := (List.getElem?_eq_some_iff.1 ho).1
        have HK1 := Lib.hid hK1
        have HI5 := Lib.hid hI5
        clear hK1 hI5
        have hi6 : i = 0 ∨ i = 1 ∨ i = 2 ∨ i = 3 ∨ i = 4 ∨ i = 5 := by omega
        rcases hi6 with rfl | rfl | rfl | rfl | rfl | rfl
        · -- op 0
          obtain ⟨n5, p5, hB5, hps5, hn5, hk5⟩ := HI5.out
          have h5 := hB5.h4
          have cf : w5.cell? ⟨w.heap.size + 1 + 1 + 1 + 1, 0, none⟩ = some (.func (.func 28) #[] #[.pointer (some ⟨w.heap.size + 1 + 1 + 1, 0, none⟩)]) := by simp [World.cell?, h5]
          clear h5
          clear hB5 hk5 hps5 hn5
          cases ho
          try clear hd
          simp only [List.take_succ_cons, List.take_zero, putAll, Act.put, List.setIfInBounds_toArray, List.set_cons_succ, List.set_cons_zero, Nat.reduceAdd, Nat.zero_add]
          go_wp2_with fail
          have q := HK1.out (.func (.func 28) #[] #[.pointer (some ⟨w.heap.size + 1 + 1 + 1, 0, none⟩)]) w5 rfl (fun h => h)
          simp only [List.take_succ_cons, List.take_zero, putAll, Act.put, List.setIfInBounds_toArray, List.set_cons_succ, List.set_cons_zero, Nat.reduceAdd, Nat.zero_add] at q
          exact q
        · -- op 1
          obtain ⟨n5, p5, hB5, hps5, hn5, hk5⟩ := HI5.out
          have h5 := hB5.h5
          have cf : w5.cell? ⟨w.heap.size + 1 + 1 + 1 + 1 + 1, 0, none⟩ = some (.int .i64 first) := by simp [World.cell?, h5]
          clear h5
          clear hB5 hk5 hps5 hn5
          cases ho
          try clear hd
          simp only [List.take_succ_cons, List.take_zero, putAll, Act.put, List.setIfInBounds_toArray, List.set_cons_succ, List.set_cons_zero, Nat.reduceAdd, Nat.zero_add]
          go_wp2_with fail
          have q := HK1.out (.int .i64 first) w5 rfl (fun h => h)
          simp only [List.take_succ_cons, List.take_zero, putAll, Act.put, List.setIfInBounds_toArray, List.set_cons_succ, List.set_cons_zero, Nat.reduceAdd, Nat.zero_add] at q
          exact q
        · -- op 2
          obtain ⟨n5, p5, hB5, hps5, hn5, hk5⟩ := HI5.out
          have h5 := hB5.h9
          have cf : w5.cell? ⟨w.heap.size + 1 + 1 + 1 + 1 + 1 + 1 + 1 + 1 + 1, 0, none⟩ = some (.func (.func 29) #[] #[.pointer (some ⟨w.heap.size + 1 + 1 + 1 + 1 + 1 + 1 + 1, 0, none⟩), .pointer (some ⟨w.heap.size, 0, none⟩), .pointer (some ⟨w.heap.size + 1 + 1 + 1 + 1 + 1 + 1 + 1 + 1, 0, none⟩)]) := by simp [World.cell?, h5]
          clear h5
          clear hB5 hk5 hps5 hn5
          cases ho
          try clear hd
          simp only [List.take_succ_cons, List.take_zero, putAll, Act.put, List.setIfInBounds_toArray, List.set_cons_succ, List.set_cons_zero, Nat.reduceAdd, Nat.zero_add]
          go_wp2_with fail
          have q := HK1.out (.func (.func 29) #[] #[.pointer (some ⟨w.heap.size + 1 + 1 + 1 + 1 + 1 + 1 + 1, 0, none⟩), .pointer (some ⟨w.heap.size, 0, none⟩), .pointer (some ⟨w.heap.size + 1 + 1 + 1 + 1 + 1 + 1 + 1 + 1, 0, none⟩)]) w5 rfl (fun h => h)
          simp only [List.take_succ_cons, List.take_zero, putAll, Act.put, List.setIfInBounds_toArray, List.set_cons_succ, List.set_cons_zero, Nat.reduceAdd, Nat.zero_add] at q
          exact q
        · -- op 3
          obtain ⟨n5, p5, hB5, hps5, hn5, hk5⟩ := HI5.out
          have h5 := hB5.h0
          have cf : w5.cell? ⟨w.heap.size, 0, none⟩ = some (.string s) := by simp [World.cell?, h5]
          clear h5
          clear hB5 hk5 hps5 hn5
          cases ho
          try clear hd
          simp only [List.take_succ_cons, List.take_zero, putAll, Act.put, List.setIfInBounds_toArray, List.set_cons_succ, List.set_cons_zero, Nat.reduceAdd, Nat.zero_add]
          go_wp2_with fail
          have q := HK1.out (.string s) w5 rfl (fun h => h)
          simp only [List.take_succ_cons, List.take_zero, putAll, Act.put, List.setIfInBounds_toArray, List.set_cons_succ, List.set_cons_zero, Nat.reduceAdd, Nat.zero_add] at q
          exact q
        · -- op 4
          have h3 : v' 3 = .string s := hd 3 (by kernel_rfl)
          obtain ⟨n5, p5, hB5, hps5, hn5, hk5⟩ := HI5.out
          clear hB5 hk5 hps5 hn5
          cases ho
          try clear hd
          simp only [List.take_succ_cons, List.take_zero, putAll, Act.put, List.setIfInBounds_toArray, List.set_cons_succ, List.set_cons_zero, Nat.reduceAdd, Nat.zero_add, h3]
          go_wp2_with fail
          have q := HK1.out (.int .i64 s.size) w5 rfl (fun h => h)
          simp only [List.take_succ_cons, List.take_zero, putAll, Act.put, List.setIfInBounds_toArray, List.set_cons_succ, List.set_cons_zero, Nat.reduceAdd, Nat.zero_add, h3] at q
          exact q
        · -- op 5
          have h2 : v' 2 = .func (.func 29) #[] #[.pointer (some ⟨w.heap.size + 1 + 1 + 1 + 1 + 1 + 1 + 1, 0, none⟩), .pointer (some ⟨w.heap.size, 0, none⟩), .pointer (some ⟨w.heap.size + 1 + 1 + 1 + 1 + 1 + 1 + 1 + 1, 0, none⟩)] := hd 2 (by kernel_rfl)
          have h4 : v' 4 = .int .i64 s.size := hd 4 (by kernel_rfl)
          cases ho
          try clear hd
          simp only [List.take_succ_cons, List.take_zero, putAll, Act.put, List.setIfInBounds_toArray, List.set_cons_succ, List.set_cons_zero, Nat.reduceAdd, Nat.zero_add, h2, h4]
          go_wp2_with fail
          obtain ⟨n5, p5, hB5, hps5, hn5, hk5⟩ := HI5.out
          refine (Pr.line s (w.heap.size + 7) w.heap.size (w.heap.size + 8) p5 s.size n5 N w5 hB5.h7 hB5.h0 hB5.h8 (by omega) hps5 (Nat.le_refl _) (by omega) hn5 HNN.out (s.size : Int) rfl).mono ?_
          rintro e w6 hl
          obtain rfl := hl.1
          have hk6 := (StP.line hB5 hl).1 0 |>.same Dd _ (Nat.zero_le _) hk5 rfl
          have hB6 := hB5.line hl
          go_wp2_with fail
          have q := HK1.out (.int .i64 N) w6 rfl (fun _ => ⟨N, s.size, hB6, Nat.le_refl _, HNN.out, hk6⟩)
          simp only [List.take_succ_cons, List.take_zero, putAll, Act.put, List.setIfInBounds_toArray, List.set_cons_succ, List.set_cons_zero, Nat.reduceAdd, Nat.zero_add, h2, h4] at q
          exact q
      · intro v' w5 hI5 hS5
        have g0 : v' 0 = .func (.func 28) #[] #[.pointer (some ⟨w.heap.size + 1 + 1 + 1, 0, none⟩)] := hS5 0 (by decide)
        have g1 : v' 1 = .int .i64 first := hS5 1 (by decide)
        have g2 : v' 2 = .func (.func 29) #[] #[.pointer (some ⟨w.heap.size + 1 + 1 + 1 + 1 + 1 + 1 + 1, 0, none⟩), .pointer (some ⟨w.heap.size, 0, none⟩), .pointer (some ⟨w.heap.size + 1 + 1 + 1 + 1 + 1 + 1 + 1 + 1, 0, none⟩)] := hS5 2 (by decide)
        have g3 : v' 3 = .string s := hS5 3 (by decide)
        have g4 : v' 4 = .int .i64 s.size := hS5 4 (by decide)
        have g5 : v' 5 = .int .i64 N := hS5 5 (by decide)
        clear hS5
        obtain ⟨n5, p5, hB5, hps5, hn5, hk5⟩ := hI5
        have HB5 := Lib.hid hB5
        have HK5 := Lib.hid hk5
        clear hB5 hk5 hps5 hn5
        simp only [List.take_succ_cons, List.take_zero, List.drop_succ_cons, List.drop_zero, putAll, Act.put, List.setIfInBounds_toArray, List.set_cons_succ, List.set_cons_zero, Nat.reduceAdd, Nat.zero_add, g0, g1, g2, g3, g4, g5]
        clear g0 g1 g2 g3 g4 g5
        go_wp2_with fail
        refine (padd_call first N (w.heap.size + 3) (w.heap.size + 11) (N : Int) S v w5 HB5.out.h3 HB5.out.own HB5.out.siz (by have := HSL.out; omega) (by omega) (by omega) rfl).mono ?_
        rintro e W4 hl
        have hk4 := (StP.add hl).1 0 |>.same Dd _ (Nat.zero_le _) HK5.out rfl
        obtain ⟨⟨r0, rfl⟩, _⟩ := id hl
        obtain ⟨v4, hB4⟩ := HB5.out.add hl
        have hlen : (S ++ upto' first N).length ≤ 1000000 := by rw [List.length_append, upto_len]; omega
        have hlt := upto_lt (f := first) (k := N) HSX.out (by omega)
        have hprr : protR PR = (0, rgs (fun i => (S ++ upto' first N).contains i) none 0 65536) := by rw [HPRQ.out]; rfl
        obtain ⟨S4, hS4⟩ : ∃ S4, S ++ upto' first N = S4 := ⟨_, rfl⟩
        rw [hS4] at hB4 hlen hlt hprr
        have HPRR := Lib.hid hprr
        have HB4 := Lib.hid hB4
        have HK := Lib.hid hk4
        have HSL := Lib.hid hlen
        have HSX := Lib.hid hlt
        clear hl hk4 hB4 hlen hlt hprr hS4 hps hf hSl
        go_wp2_with fail
        obtain ⟨va, vc, hve⟩ := row_shape HB4.out.own
        have hsp := Sp.of va vc S4 W4 (by have := HB4.out.own; rw [hve] at this; exact (rowAt_owns (f := intF) (fun g => rfl) this rfl).2) (by have := HSL.out; omega) HSX.out
        obtain ⟨R, hR⟩ : ∃ R, rgs (fun i => (S4).contains i) none 0 65536 = R := ⟨_, rfl⟩
        rw [hR] at hsp
        have HR := Lib.hid hR
        have HSP := Lib.hid hsp
        have h3 := HB4.out.h3
        rw [hve] at h3
        have c3 : (W4).cell? ⟨w.heap.size + 1 + 1 + 1, 0, none⟩ = some (.slice va (S4).length vc) := by simp [World.cell?, h3]
        clear hsp hR hve h3
        gi_wp2_with (fail)
        refine ⟨trivial, ?_⟩
        refine (callsIn_wide.2 HSP.out).mono ?_
        rintro e W5 ⟨v5, rfl, hown5, hb5⟩
        obtain ⟨oa, oc, rfl⟩ := row_shape hown5
        have hB5 := HB4.out.below hb5
        have h1 := hB5.h1
        have h2 := hB5.h2
        have c1 : W5.cell? ⟨w.heap.size + 1, 0, none⟩ = some (.slice none 0 0) := by simp [World.cell?, h1]
        have c2 : W5.cell? ⟨w.heap.size + 1 + 1, 0, none⟩ = some (.int .i64 0) := by simp [World.cell?, h2]
        have f1 : W5.frozen? ⟨w.heap.size + 1, 0, none⟩ = false := Lib.frozen_of_heap h1 0
        have f2 : W5.frozen? ⟨w.heap.size + 1 + 1, 0, none⟩ = false := Lib.frozen_of_heap h2 0
        have HB5 := Lib.hid hB5
        have HO5 := Lib.hid hown5
        have hk5 := heap_below hb5 HK.out (Array.getElem?_eq_some_iff.1 HK.out).1
        have HK := Lib.hid hk5
        have hsz := HB4.out.siz
        clear hb5 h1 h2 hB5 hown5 hk5 HSP c3
        gi_wp2_with (fail)
        have hs0 := HS0.out
        obtain ⟨z0, z1, z2⟩ := res_cells HB5.out.h1 HB5.out.h2 (.slice oa R.length oc) (.int .i64 0)
        have hk2 : ((W5.setCell ⟨w.heap.size + 1, 0, none⟩ (.slice oa R.length oc)).setCell ⟨w.heap.size + 1 + 1, 0, none⟩ (.int .i64 0)).heap[Dd]? = some (.deferred (some [])) :=
          (Below.heap_setCell _ _ _ _ (by simp; omega)).trans ((Below.heap_setCell _ _ _ _ (by simp; omega)).trans HK.out)
        refine ⟨by simp, .inl ⟨_, _, rfl, run_takeDeferred hk2, ?_⟩⟩
        have y0 := cell_put hk2 rfl (o' := .deferred none) z0
        have y1 := cell_put hk2 rfl (o' := .deferred none) z1
        refine ⟨.tuple #[.slice oa R.length oc, .int .i64 0], by simp [results, Tryz.results10, go_sem, y0, y1], ?_⟩
        rw [HPRR.out, HR.out]
        exact ⟨(HB5.out.bel.trans (z2.mono (by omega))).trans (below_put (by omega) hk2), _, SlV.of rgC_len (own_put (own_set (own_set (own_base HO5.out hsz) HB5.out.h1 (by decide) 0 _) ((Below.heap_setCell _ _ _ _ (by simp)).trans HB5.out.h2) (by decide) 0 _) hk2 rfl) rfl, rfl⟩
    · have hs1' : ((st : Int) == 1) = false := by rw [beq_eq_false_iff_ne]; omega
      rw [decide_eq_false hs1] at hpr
      have hprr : protR PR = (0, rgs (fun i => S.contains i) none 0 65536) := by rw [hpr]; rfl
      have HPRR := Lib.hid hprr
      clear hpr hprr hB hst hor hn hSx hK h6 hs1
      obtain ⟨va, vc, hve⟩ := row_shape HB.out.own
      have hsp := Sp.of va vc S W (by have := HB.out.own; rw [hve] at this; exact (rowAt_owns (f := intF) (fun g => rfl) this rfl).2) (by have := HSL.out; omega) HSX.out
      obtain ⟨R, hR⟩ : ∃ R, rgs (fun i => (S).contains i) none 0 65536 = R := ⟨_, rfl⟩
      rw [hR] at hsp
      have HR := Lib.hid hR
      have HSP := Lib.hid hsp
      have h3 := HB.out.h3
      rw [hve] at h3
      have c3 : (W).cell? ⟨w.heap.size + 1 + 1 + 1, 0, none⟩ = some (.slice va (S).length vc) := by simp [World.cell?, h3]
      clear hsp hR hve h3
      gi_wp2_with (fail)
      refine ⟨trivial, ?_⟩
      refine (callsIn_wide.2 HSP.out).mono ?_
      rintro e W5 ⟨v5, rfl, hown5, hb5⟩
      obtain ⟨oa, oc, rfl⟩ := row_shape hown5
      have hB5 := HB.out.below hb5
      have h1 := hB5.h1
      have h2 := hB5.h2
      have c1 : W5.cell? ⟨w.heap.size + 1, 0, none⟩ = some (.slice none 0 0) := by simp [World.cell?, h1]
      have c2 : W5.cell? ⟨w.heap.size + 1 + 1, 0, none⟩ = some (.int .i64 0) := by simp [World.cell?, h2]
      have f1 : W5.frozen? ⟨w.heap.size + 1, 0, none⟩ = false := Lib.frozen_of_heap h1 0
      have f2 : W5.frozen? ⟨w.heap.size + 1 + 1, 0, none⟩ = false := Lib.frozen_of_heap h2 0
      have HB5 := Lib.hid hB5
      have HO5 := Lib.hid hown5
      have hk5 := heap_below hb5 HK.out (Array.getElem?_eq_some_iff.1 HK.out).1
      have HK := Lib.hid hk5
      have hsz := HB.out.siz
      clear hb5 h1 h2 hB5 hown5 hk5 HSP c3
      gi_wp2_with (fail)
      have hs0 := HS0.out
      obtain ⟨z0, z1, z2⟩ := res_cells HB5.out.h1 HB5.out.h2 (.slice oa R.length oc) (.int .i64 0)
      have hk2 : ((W5.setCell ⟨w.heap.size + 1, 0, none⟩ (.slice oa R.length oc)).setCell ⟨w.heap.size + 1 + 1, 0, none⟩ (.int .i64 0)).heap[Dd]? = some (.deferred (some [])) :=
        (Below.heap_setCell _ _ _ _ (by simp; omega)).trans ((Below.heap_setCell _ _ _ _ (by simp; omega)).trans HK.out)
      refine ⟨by simp, .inl ⟨_, _, rfl, run_takeDeferred hk2, ?_⟩⟩
      have y0 := cell_put hk2 rfl (o' := .deferred none) z0
      have y1 := cell_put hk2 rfl (o' := .deferred none) z1
      refine ⟨.tuple #[.slice oa R.length oc, .int .i64 0], by simp [results, Tryz.results10, go_sem, y0, y1], ?_⟩
      rw [HPRR.out, HR.out]
      exact ⟨(HB5.out.bel.trans (z2.mono (by omega))).trans (below_put (by omega) hk2), _, SlV.of rgC_len (own_put (own_set (own_set (own_base HO5.out hsz) HB5.out.h1 (by decide) 0 _) ((Below.heap_setCell _ _ _ _ (by simp)).trans HB5.out.h2) (by decide) 0 _) hk2 rfl) rfl, rfl⟩
  case stop =>
    rintro Dd c pre W hD _ ⟨rfl, hPR, h3, h4, h5⟩ hK
    have HK := Lib.hid hK
    have H5 := Lib.hid h5
    subst hPR
    have z0 : W.cell? ⟨w.heap.size + 1, 0, none⟩ = some (.slice none 0 0) := by simp [World.cell?, h3]
    have z1 : W.cell? ⟨w.heap.size + 1 + 1, 0, none⟩ = some (.int .i64 210) := by simp [World.cell?, h4]
    clear hK h3 h4 h5
    gi_wp2_with (fail)
    have hs0 := HS0.out
    refine ⟨by simp, .inl ⟨_, _, rfl, run_takeDeferred HK.out, ?_⟩⟩
    have y0 := cell_put HK.out rfl (o' := .deferred none) z0
    have y1 := cell_put HK.out rfl (o' := .deferred none) z1
    exact ⟨.tuple #[.slice none 0 0, .int .i64 210], by simp [results, Tryz.results10, go_sem, y0, y1], H5.out.trans (below_put (by omega) HK.out), _, SlV.none _ _ _, rfl⟩
end Go.Proofs.YtbnhefibpjldfaaGreatDoor

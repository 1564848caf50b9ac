/- scope: slices.Clone of meanings, of names. -/
import Derived.Test.YtblooekephkojaaScG
import Derived.Test.YtblooekephkojaaMon
import Derived.Lib.SliceRun
namespace Go.Proofs.Ytblooekephkojaa
open Go.RowKit Go.BigFrame Go.ChangeMaps Go.WideMaps
set_option linter.unusedVariables false

def CloneOk (e sz n : Nat) (xs : List Value) (w : World) (en : Ending) (w' : World) : Prop := ∃ v', en = .returned v' ∧ w'.ownsRow w.heap.size e sz v' n xs ∧ Below w.heap.size w w'
theorem row_own {w : World} {b e sz n : Nat} {g cap : Nat} {xs : List Value} (h : w.ownsRow b e sz (.slice (some ⟨g, 0, none⟩) n cap) n xs) : ∀ j u, xs[j]? = some u → w.cell? ((⟨g, 0, none⟩ : Addr).add j) = some u :=
  h.cells rfl
set_option maxRecDepth 100000 in
set_option maxHeartbeats 1000000 in
theorem Sc.cloneM (v : Value) (n : Nat) (xs : List Value) (w : World) (h : w.ownsRow 0 90 2 v n xs) (hn : n ≤ 1000000) (h1 : ∀ u ∈ xs, u.oneCell' = true) : Calls Try.prog 51 #[v] w (CloneOk 90 2 n xs w) := by
  obtain ⟨i0, hi, hz0, hz1, hz2⟩ := info_parts infoMe
  rcases h.2 with ⟨rfl, rfl⟩ | ⟨g, cap, cur, rfl, _, hg, hnc, hm, _⟩
  · have hx : xs = [] := List.length_eq_zero_iff.1 (by simpa using h.1)
    subst hx
    have hq := Lib.run_eql_slice_nil w 88 _ none 0 0 0 0 Try.underlying88
    clear hi hz0 hz1 hz2 h
    go_enter Try.func51, Try.ntmps51
    go_wp2_with fail
    go_ret
    exact ⟨_, rfl, World.ownsRow_nil _ _ _ _, Below.refl _ _⟩
  · have hlt := (Array.getElem?_eq_some_iff.1 hg).1
    obtain ⟨W, hW⟩ : ∃ W, W = w.alloc (.cells #[] 90) := ⟨_, rfl⟩
    have hown : W.ownsRow w.heap.size 90 2 (.slice (some ⟨w.heap.size, 0, none⟩) 0 0) 0 [] := by rw [hW]; exact World.ownsRow_made w #[] 0 (Nat.le_refl _) (Nat.zero_le _) rfl
    have hsrc : W.ownsRow 0 90 2 (.slice (some ⟨g, 0, none⟩) n cap) n xs := by rw [hW]; exact h.alloc _
    have hWs : w.heap.size ≤ W.heap.size := by rw [hW]; simp
    have HH := Lib.hid h
    have HS := Lib.hid hsrc
    have HI := Lib.hid hi
    have H0 := Lib.hid hz0
    have H1 := Lib.hid hz1
    have H2 := Lib.hid hz2
    have HW := Lib.hid hW
    have HO := Lib.hid h1
    have hq := Lib.run_eql_slice_nil w 88 _ (some ⟨g, 0, none⟩) n cap 0 0 Try.underlying88
    clear h hg hi hz0 hz1 hz2 hW hsrc h1
    go_enter Try.func51, Try.ntmps51
    go_wp2_with (at_builtin; rw [← HW.out]; refine wpList_append_own _ rfl _ _ 88 rfl w.heap.size 90 i0 (.agg #[.int .i64 0, .bool false]) 2 16 Try.underlying88 HI.out H0.out H1.out H2.out rfl (by decide) _ 0 [] rfl hown ⟨g, 0, none⟩ n cap xs rfl ?c0 ?c1 ?c2 ?c3 ?c4 ?c5 ?_)
    case c0 => exact HS.out.1
    case c1 => exact row_own HS.out
    case c2 => exact HO.out
    case c3 => unfold maxLen; omega
    case c4 => omega
    case c5 => exact hWs
    intro v' w1 hown' hgrow _

    have hB : Below w.heap.size w w1 := (show Below w.heap.size w W by rw [HW.out]; exact below_alloc _ _).grown hgrow hWs (fun k hk => by simp [Value.ownBlock] at hk; omega)
    have hown2 : w1.ownsRow w.heap.size 90 2 v' n xs := by simpa using hown'
    obtain ⟨a', c', rfl⟩ := row_shape hown2
    have HO2 := Lib.hid hown2
    have HB := Lib.hid hB
    clear hown' hown2 hgrow hB hown
    go_wp2_with fail
    go_ret
    exact ⟨_, rfl, HO2.out, HB.out⟩

set_option maxRecDepth 100000 in
set_option maxHeartbeats 1000000 in
theorem Sc.cloneN (v : Value) (n : Nat) (xs : List Value) (w : World) (h : w.ownsRow 0 9 1 v n xs) (hn : n ≤ 1000000) (h1 : ∀ u ∈ xs, u.oneCell' = true) : Calls Try.prog 52 #[v] w (CloneOk 9 1 n xs w) := by
  obtain ⟨i0, hi, hz0, hz1, hz2⟩ := info_parts infoSt
  rcases h.2 with ⟨rfl, rfl⟩ | ⟨g, cap, cur, rfl, _, hg, hnc, hm, _⟩
  · have hx : xs = [] := List.length_eq_zero_iff.1 (by simpa using h.1)
    subst hx
    have hq := Lib.run_eql_slice_nil w 91 _ none 0 0 0 0 Try.underlying91
    clear hi hz0 hz1 hz2 h
    go_enter Try.func52, Try.ntmps52
    go_wp2_with fail
    go_ret
    exact ⟨_, rfl, World.ownsRow_nil _ _ _ _, Below.refl _ _⟩
  · have hlt := (Array.getElem?_eq_some_iff.1 hg).1
    obtain ⟨W, hW⟩ : ∃ W, W = w.alloc (.cells #[] 9) := ⟨_, rfl⟩
    have hown : W.ownsRow w.heap.size 9 1 (.slice (some ⟨w.heap.size, 0, none⟩) 0 0) 0 [] := by rw [hW]; exact World.ownsRow_made w #[] 0 (Nat.le_refl _) (Nat.zero_le _) rfl
    have hsrc : W.ownsRow 0 9 1 (.slice (some ⟨g, 0, none⟩) n cap) n xs := by rw [hW]; exact h.alloc _
    have hWs : w.heap.size ≤ W.heap.size := by rw [hW]; simp
    have HH := Lib.hid h
    have HS := Lib.hid hsrc
    have HI := Lib.hid hi
    have H0 := Lib.hid hz0
    have H1 := Lib.hid hz1
    have H2 := Lib.hid hz2
    have HW := Lib.hid hW
    have HO := Lib.hid h1
    have hq := Lib.run_eql_slice_nil w 91 _ (some ⟨g, 0, none⟩) n cap 0 0 Try.underlying91
    clear h hg hi hz0 hz1 hz2 hW hsrc h1
    go_enter Try.func52, Try.ntmps52
    go_wp2_with (at_builtin; rw [← HW.out]; refine wpList_append_own _ rfl _ _ 91 rfl w.heap.size 9 i0 (.string ⟨#[]⟩) 1 16 Try.underlying91 HI.out H0.out H1.out H2.out rfl (by decide) _ 0 [] rfl hown ⟨g, 0, none⟩ n cap xs rfl ?c0 ?c1 ?c2 ?c3 ?c4 ?c5 ?_)
    case c0 => exact HS.out.1
    case c1 => exact row_own HS.out
    case c2 => exact HO.out
    case c3 => unfold maxLen; omega
    case c4 => omega
    case c5 => exact hWs
    intro v' w1 hown' hgrow _

    have hB : Below w.heap.size w w1 := (show Below w.heap.size w W by rw [HW.out]; exact below_alloc _ _).grown hgrow hWs (fun k hk => by simp [Value.ownBlock] at hk; omega)
    have hown2 : w1.ownsRow w.heap.size 9 1 v' n xs := by simpa using hown'
    obtain ⟨a', c', rfl⟩ := row_shape hown2
    have HO2 := Lib.hid hown2
    have HB := Lib.hid hB
    clear hown' hown2 hgrow hB hown
    go_wp2_with fail
    go_ret
    exact ⟨_, rfl, HO2.out, HB.out⟩
end Go.Proofs.Ytblooekephkojaa

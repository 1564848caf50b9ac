/- Arguments opened: a slice of structs reads as a list. -/
import Derived.Test.YtodjhgalbaelkaaDoorBas
import Derived.ProofKit
import Derived.OpenShut
import Derived.Deep.Slices
import Derived.SizedLaws
namespace Go.Proofs.YtodjhgalbaelkaaDoor
open Go.RowKit Go.ChangeShapes Go.WideShapes Go.Deep
set_option linter.unusedVariables false

theorem exists_list {α : Type} {p : Nat → α → Prop} : ∀ n, (∀ i, i < n → ∃ g, p i g) → ∃ l : List α, l.length = n ∧ ∀ i (h : i < l.length), p i l[i]
  | 0, _ => ⟨[], rfl, fun i h => absurd h (Nat.not_lt_zero i)⟩
  | n + 1, h => by
    obtain ⟨l, hl, hp⟩ := exists_list n (fun i hi => h i (by omega))
    obtain ⟨g, hg⟩ := h n (by omega)
    refine ⟨l ++ [g], by simp [hl], fun i hi => ?_⟩
    by_cases hin : i < l.length
    · rw [List.getElem_append_left hin]; exact hp i hin
    · have : i = n := by simp at hi; omega
      subst this
      rw [List.getElem_append_right (by omega)]
      simpa using hg

theorem addr_add (b o j : Nat) : (⟨b, o, none⟩ : Addr).add j = ⟨b, o + j, none⟩ := by unfold Addr.add; split <;> simp_all

section
variable {H : Type} {enc : TypeId × Value → H} {P : Program} {w : World} {base : Nat} {spare : Nat → Bool} {held : Bool}

/-- All that is read there keeps within the form's reach. -/
def Fits (P : Program) (t : TypeId) (d : DataW H) : Prop := ∀ n ∈ d.weights P t, n ≤ reachBytes

theorem fits_all {e : TypeId} : ∀ {l : List (DataW H)} {d : DataW H}, (∀ n ∈ DataW.weightsAll P e l, n ≤ reachBytes) → d ∈ l → Fits P e d
  | [], d, _, hd => by cases hd
  | a :: l, d, h, hd => by
    simp only [DataW.weightsAll, List.mem_append] at h
    rcases List.mem_cons.1 hd with rfl | hd
    · exact fun n hn => h n (.inl hn)
    · exact fits_all (fun n hn => h n (.inr hn)) hd
theorem fits_each {ts : List TypeId} {ds : List (DataW H)} {j : Nat} {t : TypeId} {d : DataW H} (h : ∀ n ∈ DataW.weightsEach P ts ds, n ≤ reachBytes) (ht : ts[j]? = some t) (hd : ds[j]? = some d) : Fits P t d :=
  fun n hn => h n (DataW.weights_mem_each ht hd n hn)
theorem fits_arg {ts : List TypeId} {ds : List (DataW H)} {j : Nat} {t : TypeId} {d : DataW H} (h : (DataW.weightsEach P ts ds).all (· ≤ reachBytes) = true) (ht : ts[j]? = some t) (hd : ds[j]? = some d) : Fits P t d :=
  fits_each (fun n hn => by simpa using List.all_eq_true.1 h n hn) ht hd

theorem rd_fields {t : TypeId} {fs : Array Field} {fuel : Nat} {cs : List Value} {x : DataW H × List MemPlace} (ht : P.underlying t = some (.struct fs)) (h : DataW.trod enc P w base spare held fuel t cs = some x) (hw : Fits P t x.1) :
    cs.length = P.cellsOf t ∧ ∀ (i : Nat) (ty : TypeId) (off : Nat), (fs[i]?).map (fun f => (f.type, f.offset)) = some (ty, off) → ∃ n y, DataW.trod enc P w base spare held n ty ((cs.drop off).take (P.cellsOf ty)) = some y ∧ Fits P ty y.1 := by
  obtain ⟨xs, n, _, rfl, hl, hx, hf⟩ := DataW.trod_struct ht h
  refine ⟨hl, fun i ty off hi => ?_⟩
  obtain ⟨f, hfi, hfe⟩ := Option.map_eq_some_iff.1 hi
  simp only [Prod.mk.injEq] at hfe
  obtain ⟨rfl, rfl⟩ := hfe
  have hil : i < xs.length := by rw [hx]; exact (Array.getElem?_eq_some_iff.1 hfi).1
  refine ⟨n, xs[i], ?_, ?_⟩
  · rw [hf i f hfi]; exact List.getElem?_eq_getElem _
  · simp only [Fits, DataW.weights, ht] at hw
    refine fits_each (j := i) hw ?_ ?_
    · simp [hfi]
    · simp [hil]

theorem rd_slice {α : Type} {t e : TypeId} {fuel : Nat} {cs : List Value} {x : DataW H × List MemPlace} (n : Nat) (f : α → List Value) (G : α → Prop) (ht : P.underlying t = some (.slice e)) (hC : P.cellsOf e = n) (hn : 0 < n)
    (elem : ∀ fuel cs x, DataW.trod enc P w base spare held fuel e cs = some x → Fits P e x.1 → ∃ g, cs = f g ∧ G g) (h : DataW.trod enc P w base spare held fuel t cs = some x) (hw : Fits P t x.1) :
    ∃ a cap l, cs = [.slice a l.length cap] ∧ l.length ≤ cap ∧ cap ≤ maxLen ∧ l.length * P.bytesOf e ≤ reachBytes ∧ (a = none → l = [] ∧ cap = 0) ∧ RowAt n f w a l ∧ ∀ g ∈ l, G g := by
  rcases open_slice ht h with ⟨hcs, _⟩ | ⟨a, len, cap, m, k, D, Pl, hcs, _, hl, hm, hmm, hx, he⟩
  · exact ⟨none, 0, [], hcs, Nat.le_refl _, Nat.zero_le _, by simp, fun _ => ⟨rfl, rfl⟩, .inl rfl, fun g hg => by cases hg⟩
  · have hlm : len ≤ m := by rw [hmm]; split <;> omega
    have hw' := hw
    rw [hx] at hw'
    simp only [Fits, DataW.weights, ht] at hw'
    have hwh := hw' _ List.mem_cons_self
    obtain ⟨l, hll, hp⟩ := exists_list (p := fun i g => w.cells? base (a.add (i * n)) n = some (f g) ∧ G g) len (fun i hi => by
      obtain ⟨cs', hc, ht'⟩ := he i (by omega)
      obtain ⟨g, hg, hG⟩ := elem _ _ _ ht' (fits_all (l := (List.range len).map D) (fun n hn => hw' n (List.mem_cons_of_mem _ (List.mem_append_left _ hn))) (List.mem_map.2 ⟨i, List.mem_range.2 hi, rfl⟩))
      rw [hC] at hc
      exact ⟨g, by rw [hc, hg], hG⟩)
    subst hll
    refine ⟨some a, cap, l, hcs, hl, hm, ?_, (fun h => by cases h), ?_, fun g hg => ?_⟩
    · simp only [List.length_map, List.length_range] at hwh
      exact Nat.le_trans (Nat.mul_le_mul_right _ (Nat.le_add_right _ _)) hwh
    · by_cases h0 : l = []
      · exact .inl h0
      · right
        have hpos : 0 < l.length := List.length_pos_iff.2 h0
        obtain ⟨_, hlen0, hc0⟩ := World.cells?_some (hp 0 hpos).1
        have hc00 := hc0 0 hn
        obtain ⟨v, hv⟩ : ∃ v, (f l[0])[0]? = some v := ⟨(f l[0])[0]'(by omega), List.getElem?_eq_getElem _⟩
        rw [hv] at hc00
        have hsp := World.cell?_spot hc00
        have hbl := World.block_lt_of_cell? w _ hc00
        obtain ⟨b, off, spot⟩ := a
        have hspot : spot = none := by simpa [Addr.add] using hsp
        subst hspot
        refine ⟨b, off, rfl, by simpa [Addr.add] using hbl, fun i hi j u hu => ?_⟩
        obtain ⟨_, hlen, hcc⟩ := World.cells?_some (hp i hi).1
        have hj : j < n := by rw [← hlen]; exact (List.getElem?_eq_some_iff.1 hu).1
        have := hcc j hj
        rw [hu] at this
        rwa [addr_add, addr_add] at this
    · obtain ⟨i, hi, rfl⟩ := List.mem_iff_getElem.1 hg
      exact (hp i hi).2

theorem rd_string {t : TypeId} {fuel : Nat} {cs : List Value} {x : DataW H × List MemPlace} (ht : P.underlying t = some .string) (h : DataW.trod enc P w base spare held fuel t cs = some x) (hw : Fits P t x.1) : ∃ s : ByteArray, cs = [.string s] ∧ s.size ≤ reachBytes := by
  obtain ⟨s, hs, rfl, _⟩ := DataW.trod_string ht h
  exact ⟨s, hs, by have := hw s.data.toList.length (by simp [DataW.weights]); simpa using this⟩
end
end Go.Proofs.YtodjhgalbaelkaaDoor

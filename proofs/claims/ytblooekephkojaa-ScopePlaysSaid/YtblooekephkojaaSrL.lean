/- Search: plain Lean: what a way costs, and its bounds. -/
import Derived.Test.YtblooekephkojaaSrC
namespace Go.Proofs.Ytblooekephkojaa
set_option linter.unusedVariables false

/-- May a gap be so? -/
def fitB (p : Gap × Bool) : Bool := !(p.2 && !p.1.may || !p.2 && p.1.must)
/-- What has been paid, and how wide the row is, behind one gap more. -/
def cstep (s : Sty) (q : Int × Int) (p : Gap × Bool) : Int × Int :=
  if p.2 then (q.1 + (exc s q.2 + p.1.cost), p.1.ind + p.1.w) else (q.1, q.2 + (p.1.b + p.1.w))
def cwalk (s : Sty) (first : Int) (ps : List (Gap × Bool)) : Int × Int := ps.foldl (cstep s) (0, first)
/-- What a way costs. -/
def cost (s : Sty) (first : Int) (ps : List (Gap × Bool)) : Int := (cwalk s first ps).1 + exc s (cwalk s first ps).2

def StyOk (s : Sty) : Prop := 1 ≤ s.c ∧ s.c ≤ 4096 ∧ 0 ≤ s.e ∧ s.e ≤ 1000000

theorem cstep_bd (s : Sty) (hs : StyOk s) (q : Int × Int) (p : Gap × Bool) (hp : p.1.valid = true) (k : Nat)
    (h : 0 ≤ q.1 ∧ 0 ≤ q.2 ∧ q.1 + q.2 * 1000000 ≤ (65536 + (k : Int) * 132000) * 1000000) :
    0 ≤ (cstep s q p).1 ∧ 0 ≤ (cstep s q p).2 ∧ (cstep s q p).1 + (cstep s q p).2 * 1000000 ≤ (65536 + ((k + 1 : Nat) : Int) * 132000) * 1000000 := by
  have he := exc_le s q.2 hs.1 hs.2.2.1 hs.2.2.2 h.2.1
  simp only [Gap.valid, Bool.and_eq_true, decide_eq_true_eq] at hp
  unfold cstep
  split
  · simp only; omega
  · simp only; omega

theorem cwalk_bd (s : Sty) (hs : StyOk s) (first : Int) (h0 : 0 ≤ first) (h1 : first ≤ 65536) (ps : List (Gap × Bool)) (hp : ∀ p ∈ ps, p.1.valid = true) :
    0 ≤ (cwalk s first ps).1 ∧ 0 ≤ (cwalk s first ps).2 ∧ (cwalk s first ps).1 + (cwalk s first ps).2 * 1000000 ≤ (65536 + (ps.length : Int) * 132000) * 1000000 := by
  unfold cwalk
  suffices H : ∀ (ps : List (Gap × Bool)) (q : Int × Int) (k : Nat), (∀ p ∈ ps, p.1.valid = true) → (0 ≤ q.1 ∧ 0 ≤ q.2 ∧ q.1 + q.2 * 1000000 ≤ (65536 + (k : Int) * 132000) * 1000000) →
      0 ≤ (ps.foldl (cstep s) q).1 ∧ 0 ≤ (ps.foldl (cstep s) q).2 ∧ (ps.foldl (cstep s) q).1 + (ps.foldl (cstep s) q).2 * 1000000 ≤ (65536 + ((k + ps.length : Nat) : Int) * 132000) * 1000000 by
    have := H ps (0, first) 0 hp ⟨by simp, h0, by simp; omega⟩
    simpa using this
  intro ps
  induction ps with
  | nil => intro q k _ h; simpa using h
  | cons p ps ih =>
    intro q k hp h
    have := ih (cstep s q p) (k + 1) (fun x hx => hp x (List.mem_cons_of_mem _ hx)) (cstep_bd s hs q p (hp p List.mem_cons_self) k h)
    simp only [List.foldl_cons, List.length_cons]
    rw [show k + (ps.length + 1) = k + 1 + ps.length from by omega]
    exact this

theorem cwalk_snoc (s : Sty) (first : Int) (ps : List (Gap × Bool)) (p : Gap × Bool) : cwalk s first (ps ++ [p]) = cstep s (cwalk s first ps) p := by
  simp [cwalk]

/-- What Cost answers. -/
def costR (first : Int) (l : List Gap) (ws : List Bool) (s : Sty) : Int × Int :=
  if chk first l s ≠ 0 then (0, chk first l s) else if ws.length ≠ l.length then (0, 2) else if (l.zip ws).all fitB then (cost s first (l.zip ws), 0) else (0, 2)

theorem chk_ok {first : Int} {l : List Gap} {s : Sty} (h : chk first l s = 0) : StyOk s ∧ l.length ≤ 65536 ∧ 0 ≤ first ∧ first ≤ 65536 ∧ ∀ g ∈ l, g.valid = true := by
  unfold chk at h
  split at h
  · omega
  split at h
  · omega
  split at h
  · omega
  split at h
  · rename_i h1 h2 h3 h4
    refine ⟨⟨by omega, by omega, by omega, by omega⟩, by omega, by omega, by omega, fun g hg => List.all_eq_true.1 h4 g hg⟩
  · omega
theorem chk_ne {first : Int} {l : List Gap} {s : Sty} : chk first l s = 0 ∨ chk first l s = 2 ∨ chk first l s = 4 ∨ chk first l s = 90 := by
  unfold chk; split; · simp
  split; · simp
  split; · simp
  split <;> simp
end Go.Proofs.Ytblooekephkojaa

/- Plain: the parser ends (some of its functions). -/
import Derived.Test.YtlboejdhmggjpaaGreatPbA
import Derived.Attr
set_option linter.all false
namespace Go.Proofs.YtlboejdhmggjpaaGreat.Pp
set_option maxRecDepth 100000
set_option maxHeartbeats 16000000
attribute [local go_sem] Pre Num rank st sk sm cc cB wo lv some' Tg.sz size_un size_bo size_fo size_pa form_fo List.length_nil bool_un bool_bo cond ptr_size arr_size Nat.zero_mul Nat.add_zero if_true Bool.false_eq_true if_false and_true true_and
section
variable {l : List Ct} {base : Bs → Bool}
theorem good_typeName {n : Nat} (ih : Ih l base n) (sh s : Ps) (hf1 : frame (.typeName) = none → sh = s) (hf2 : ∀ h0, frame (.typeName) = some h0 → h0 = (sh.at', sh.done.length)) (hT : Tr sh s) (hp : Pre l (n + 1) (.typeName) s) : G (Post l (.typeName) sh s) (run l base (n + 1) (.typeName) s) := by
 obtain rfl := hf1 rfl
 clear hf1 hf2
 simp only [go_sem] at hp
 obtain ⟨_, _, _, _, _, _, _⟩ := hp
 rw [run]
 repeat' (first
  | refine g_here ?_
  | refine g_ift ?_
  | refine g_iff ?_
  | refine g_node (by repeat (first | exact Tr.refl _ | assumption | refine Tr.back (by assumption) ?_)) (by omega) (by omega) fun s2 ⟨_, _, _, _⟩ _ _ => ?_
  | refine g_sign (fun hg hl => ?_) (fun hg => ?_)
  | (refine g_run ih rfl (by simp only [go_sem]; omega) fun v s1 _ _ hnum _ _ hcd => ?_; simp only [go_sem] at hnum; obtain ⟨_, _, _, _, _⟩ := hnum)
  | (refine g_end ih rfl (by simp only [go_sem]; omega) fun v s1 _ _ hnum _ _ hcd => ?_; simp only [go_sem] at hnum; obtain ⟨_, _, _, _, _⟩ := hnum)
  | refine g_pure ?_
  | refine g_bind ?_
  | simp only [Bool.and_true, Bool.and_false, Bool.or_true, Bool.or_false, Bool.true_and, Bool.false_and, Bool.true_or, Bool.false_or, Bool.not_true, Bool.not_false, Bool.false_eq_true, if_false, if_true]
  | split
  | (exfalso; simp_all; done)
  )
 all_goals (first | (refine ⟨(by repeat (first | exact Tr.refl _ | assumption | refine Tr.back (by assumption) ?_)), (by repeat (first | exact Nr.refl _ | assumption | refine Nr.back (by assumption) ?_)), (by simp only [go_sem]; omega), fun hq hv => by first | (exact absurd hq Bool.false_ne_true) | (exact absurd hv Bool.false_ne_true) | omega | (have := hcd rfl hv; omega)⟩) | (exfalso; simp_all; done) | skip)
theorem good_unit {n : Nat} (ih : Ih l base n) (sh s : Ps) (hf1 : frame (.unit) = none → sh = s) (hf2 : ∀ h0, frame (.unit) = some h0 → h0 = (sh.at', sh.done.length)) (hT : Tr sh s) (hp : Pre l (n + 1) (.unit) s) : G (Post l (.unit) sh s) (run l base (n + 1) (.unit) s) := by
 have he := hf2 _ rfl
 clear hf1 hf2
 simp only [go_sem] at hp
 obtain ⟨_, _, _, _, _, _, _⟩ := hp
 rw [run, he]
 have hu : frame .unit = some (sh.at', sh.done.length) := by rw [← he]; rfl
 repeat' (first
  | refine g_get ?_
  | refine g_ift ?_
  | refine g_iff ?_
  | refine g_node (by repeat (first | exact Tr.refl _ | assumption | refine Tr.back (by assumption) ?_)) (by omega) (by omega) fun s2 ⟨_, _, _, _⟩ _ _ => ?_
  | (refine g_run ih rfl (by simp only [go_sem]; omega) fun v s1 _ _ hnum _ _ hcd => ?_; simp only [go_sem] at hnum; obtain ⟨_, _, _, _, _⟩ := hnum)
  | (refine g_runH ih rfl (by repeat (first | exact Tr.refl _ | assumption | refine Tr.back (by assumption) ?_)) (by simp only [go_sem]; omega) fun v s1 _ _ hnum _ _ hcd => ?_; simp only [go_sem] at hnum; obtain ⟨_, _, _, _, _⟩ := hnum)
  | (refine g_end ih rfl (by simp only [go_sem]; omega) fun v s1 _ _ hnum _ _ hcd => ?_; simp only [go_sem] at hnum; obtain ⟨_, _, _, _, _⟩ := hnum)
  | (refine g_endH ih hu (by repeat (first | exact Tr.refl _ | assumption | refine Tr.back (by assumption) ?_)) (by simp only [go_sem]; omega) fun v s1 _ _ hnum _ _ hcd => ?_; simp only [go_sem] at hnum; obtain ⟨_, _, _, _, _⟩ := hnum)
  | refine g_pure ?_
  | refine g_bind ?_
  | split
  | (exfalso; simp_all; done)
  )
 all_goals (first | (refine ⟨(by repeat (first | exact Tr.refl _ | assumption | refine Tr.back (by assumption) ?_)), (by repeat (first | exact Nr.refl _ | assumption | refine Nr.back (by assumption) ?_)), (by simp only [go_sem]; omega), fun hq hv => by first | (exact absurd hq Bool.false_ne_true) | (exact absurd hv Bool.false_ne_true) | omega | (have := hcd rfl hv; omega)⟩) | (exfalso; simp_all; done) | skip)
def gIH : Tg → Bool
 | .memberR => true
 | .field => true
 | .enum => true
 | .enumR => true
 | .enumerator => true
 | _ => false
theorem goodH {n : Nat} (ih : Ih l base n) (tg : Tg) (ht : gIH tg = true) (sh s : Ps) (hf1 : frame tg = none → sh = s) (hf2 : ∀ h0, frame tg = some h0 → h0 = (sh.at', sh.done.length)) (hT : Tr sh s) (hp : Pre l (n + 1) tg s) : G (Post l tg sh s) (run l base (n + 1) tg s) := by
 cases tg
 all_goals first
  | (cases ht; done)
  | skip
 all_goals
  clear ht
  first
   | obtain rfl := hf1 rfl
   | obtain rfl := hf2 _ rfl
  clear hf1 hf2
  simp only [go_sem] at hp
  obtain ⟨_, _, _, _, _, _, _⟩ := hp
  rw [run]
  repeat' (first
   | refine g_here ?_
   | refine g_peek fun t _ _ => ?_
   | refine g_ift ?_
   | refine g_iff ?_
   | refine g_step (by omega) fun s2 ⟨_, _, _, _, _⟩ _ _ => ?_
   | refine g_step' (by omega) fun s2 ⟨_, _, _, _, _⟩ _ _ => ?_
   | refine g_node (by repeat (first | exact Tr.refl _ | assumption | refine Tr.back (by assumption) ?_)) (by omega) (by omega) fun s2 ⟨_, _, _, _⟩ _ _ => ?_
   | refine g_sign (fun hg hl => ?_) (fun hg => ?_)
   | refine g_declare (by omega) fun s2 ⟨_, _, _, _⟩ _ _ => ?_
   | refine g_declare' (by omega) fun s2 ⟨_, _, _, _⟩ _ _ => ?_
   | refine g_took (fun s2 ⟨_, _, _, _, _⟩ _ _ => ?_) (fun hg => ?_)
   | refine g_need fun s2 ⟨_, _, _, _, _⟩ _ _ => ?_
   | refine g_name fun x s2 ⟨_, _, _, _, _⟩ _ _ => ?_
   | (refine g_run ih rfl (by simp only [go_sem]; omega) fun v s1 _ _ hnum _ _ hcd => ?_; simp only [go_sem] at hnum; obtain ⟨_, _, _, _, _⟩ := hnum)
   | (refine g_end ih rfl (by simp only [go_sem]; omega) fun v s1 _ _ hnum _ _ hcd => ?_; simp only [go_sem] at hnum; obtain ⟨_, _, _, _, _⟩ := hnum)
   | exact g_fail
   | refine g_pure ?_
   | refine g_bind ?_
   | split
   | (exfalso; simp_all; done)
   )
  all_goals (first | (refine ⟨(by repeat (first | exact Tr.refl _ | assumption | refine Tr.back (by assumption) ?_)), (by repeat (first | exact Nr.refl _ | assumption | refine Nr.back (by assumption) ?_)), (by simp only [go_sem]; omega), fun hq hv => by first | (exact absurd hq Bool.false_ne_true) | (exact absurd hv Bool.false_ne_true) | omega | (have := hcd rfl hv; omega)⟩) | (exfalso; simp_all; done) | skip)
end
end Go.Proofs.YtlboejdhmggjpaaGreat.Pp

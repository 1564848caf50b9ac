/- Plain: the parser ends (some of its functions). -/
import Derived.Test.YtlboejdhmggjpaaGreatPbA
import Derived.Attr
set_option linter.all false
namespace Go.Proofs.YtlboejdhmggjpaaGreat.Pp
set_option maxRecDepth 100000
set_option maxHeartbeats 16000000
attribute [local go_sem] Pre Num rank st sk sm cc cB wo lv some' Tg.sz size_un size_bo size_fo size_pa form_fo List.length_nil bool_un bool_bo cond ptr_size arr_size Nat.zero_mul Nat.add_zero if_true Bool.false_eq_true if_false and_true true_and
section
variable {l : List Ct} {base : Bs → Bool}
theorem good_item {n : Nat} (ih : Ih l base n) (sh s : Ps) (hf1 : frame (.item) = none → sh = s) (hf2 : ∀ h0, frame (.item) = some h0 → h0 = (sh.at', sh.done.length)) (hT : Tr sh s) (hp : Pre l (n + 1) (.item) s) : G (Post l (.item) sh s) (run l base (n + 1) (.item) s) := by
 obtain rfl := hf1 rfl
 clear hf1 hf2
 simp only [go_sem] at hp
 obtain ⟨_, _, _, _, _, _, _⟩ := hp
 rw [run]
 repeat' (first
  | refine g_here ?_
  | refine g_ift ?_
  | refine g_iff ?_
  | refine g_node (by repeat (first | exact Tr.refl _ | assumption | refine Tr.back (by assumption) ?_)) (by omega) (by omega) fun s2 ⟨_, _, _, _⟩ _ _ => ?_
  | refine g_need fun s2 ⟨_, _, _, _, _⟩ _ _ => ?_
  | ((refine g_runC ih rfl rfl (by simp only [go_sem]; omega) (fun v s1 hv _ _ hnum _ _ _ => ?_) (fun v s1 hv _ _ hnum _ _ => ?_)) <;> (simp only [Num, hv, rank, st, sk, sm, cc, cB, wo, lv, some', Tg.sz, size_un, size_bo, size_fo, size_pa, form_fo, List.length_nil, bool_un, bool_bo, cond, ptr_size, arr_size, Nat.zero_mul, Nat.add_zero, if_true, Bool.false_eq_true, if_false, and_true, true_and] at hnum; obtain ⟨_, _, _, _, _⟩ := hnum))
  | (refine g_run ih rfl (by simp only [go_sem]; omega) fun v s1 _ _ hnum _ _ hcd => ?_; simp only [go_sem] at hnum; obtain ⟨_, _, _, _, _⟩ := hnum)
  | ((refine g_endC ih rfl rfl (by simp only [go_sem]; omega) (fun v s1 hv _ _ hnum _ _ _ => ?_) (fun v s1 hv _ _ hnum _ _ => ?_)) <;> (simp only [Num, hv, rank, st, sk, sm, cc, cB, wo, lv, some', Tg.sz, size_un, size_bo, size_fo, size_pa, form_fo, List.length_nil, bool_un, bool_bo, cond, ptr_size, arr_size, Nat.zero_mul, Nat.add_zero, if_true, Bool.false_eq_true, if_false, and_true, true_and] at hnum; obtain ⟨_, _, _, _, _⟩ := hnum))
  | (refine g_end ih rfl (by simp only [go_sem]; omega) fun v s1 _ _ hnum _ _ hcd => ?_; simp only [go_sem] at hnum; obtain ⟨_, _, _, _, _⟩ := hnum)
  | refine g_pure ?_
  | refine g_bind ?_
  | split
  | (exfalso; simp_all; done)
  )
 all_goals (first | (refine ⟨(by repeat (first | exact Tr.refl _ | assumption | refine Tr.back (by assumption) ?_)), (by repeat (first | exact Nr.refl _ | assumption | refine Nr.back (by assumption) ?_)), (by simp only [go_sem]; omega), fun hq hv => by first | (exact absurd hq Bool.false_ne_true) | (exact absurd hv Bool.false_ne_true) | omega | (have := hcd rfl hv; omega)⟩) | (exfalso; simp_all; done) | skip)
theorem good_itemR {n : Nat} (ih : Ih l base n) (sh s : Ps) (hf1 : frame (.itemR) = none → sh = s) (hf2 : ∀ h0, frame (.itemR) = some h0 → h0 = (sh.at', sh.done.length)) (hT : Tr sh s) (hp : Pre l (n + 1) (.itemR) s) : G (Post l (.itemR) sh s) (run l base (n + 1) (.itemR) s) := by
 obtain rfl := hf1 rfl
 clear hf1 hf2
 simp only [go_sem] at hp
 obtain ⟨_, _, _, _, _, _, _⟩ := hp
 rw [run]
 repeat' (first
  | refine g_ift ?_
  | refine g_iff ?_
  | ((refine g_runC ih rfl rfl (by simp only [go_sem]; omega) (fun v s1 hv _ _ hnum _ _ _ => ?_) (fun v s1 hv _ _ hnum _ _ => ?_)) <;> (simp only [Num, hv, rank, st, sk, sm, cc, cB, wo, lv, some', Tg.sz, size_un, size_bo, size_fo, size_pa, form_fo, List.length_nil, bool_un, bool_bo, cond, ptr_size, arr_size, Nat.zero_mul, Nat.add_zero, if_true, Bool.false_eq_true, if_false, and_true, true_and] at hnum; obtain ⟨_, _, _, _, _⟩ := hnum))
  | (refine g_run ih rfl (by simp only [go_sem]; omega) fun v s1 _ _ hnum _ _ hcd => ?_; simp only [go_sem] at hnum; obtain ⟨_, _, _, _, _⟩ := hnum)
  | ((refine g_endC ih rfl rfl (by simp only [go_sem]; omega) (fun v s1 hv _ _ hnum _ _ _ => ?_) (fun v s1 hv _ _ hnum _ _ => ?_)) <;> (simp only [Num, hv, rank, st, sk, sm, cc, cB, wo, lv, some', Tg.sz, size_un, size_bo, size_fo, size_pa, form_fo, List.length_nil, bool_un, bool_bo, cond, ptr_size, arr_size, Nat.zero_mul, Nat.add_zero, if_true, Bool.false_eq_true, if_false, and_true, true_and] at hnum; obtain ⟨_, _, _, _, _⟩ := hnum))
  | (refine g_end ih rfl (by simp only [go_sem]; omega) fun v s1 _ _ hnum _ _ hcd => ?_; simp only [go_sem] at hnum; obtain ⟨_, _, _, _, _⟩ := hnum)
  | refine g_pure ?_
  | refine g_bind ?_
  | split
  | (exfalso; simp_all; done)
  )
 all_goals (first | (refine ⟨(by repeat (first | exact Tr.refl _ | assumption | refine Tr.back (by assumption) ?_)), (by repeat (first | exact Nr.refl _ | assumption | refine Nr.back (by assumption) ?_)), (by simp only [go_sem]; omega), fun hq hv => by first | (exact absurd hq Bool.false_ne_true) | (exact absurd hv Bool.false_ne_true) | omega | (have := hcd rfl hv; omega)⟩) | (exfalso; simp_all; done) | skip)
theorem good_declarator {n : Nat} (ih : Ih l base n) (k : Nat) (sh s : Ps) (hf1 : frame (.declarator k) = none → sh = s) (hf2 : ∀ h0, frame (.declarator k) = some h0 → h0 = (sh.at', sh.done.length)) (hT : Tr sh s) (hp : Pre l (n + 1) (.declarator k) s) : G (Post l (.declarator k) sh s) (run l base (n + 1) (.declarator k) s) := by
 obtain rfl := hf1 rfl
 clear hf1 hf2
 simp only [go_sem] at hp
 obtain ⟨_, _, _, _, _, _, _⟩ := hp
 rw [run]
 repeat' (first
  | refine g_here ?_
  | refine g_get ?_
  | refine g_peek fun t _ _ => ?_
  | refine g_ift ?_
  | refine g_iff ?_
  | refine g_step (by omega) fun s2 ⟨_, _, _, _, _⟩ _ _ => ?_
  | refine g_step' (by omega) fun s2 ⟨_, _, _, _, _⟩ _ _ => ?_
  | refine g_node (by repeat (first | exact Tr.refl _ | assumption | refine Tr.back (by assumption) ?_)) (by omega) (by omega) fun s2 ⟨_, _, _, _⟩ _ _ => ?_
  | refine g_sign (fun hg hl => ?_) (fun hg => ?_)
  | refine g_need fun s2 ⟨_, _, _, _, _⟩ _ _ => ?_
  | refine g_name fun x s2 ⟨_, _, _, _, _⟩ _ _ => ?_
  | ((refine g_runC ih rfl rfl (by simp only [go_sem]; omega) (fun v s1 hv _ _ hnum _ _ _ => ?_) (fun v s1 hv _ _ hnum _ _ => ?_)) <;> (simp only [Num, hv, rank, st, sk, sm, cc, cB, wo, lv, some', Tg.sz, size_un, size_bo, size_fo, size_pa, form_fo, List.length_nil, bool_un, bool_bo, cond, ptr_size, arr_size, Nat.zero_mul, Nat.add_zero, if_true, Bool.false_eq_true, if_false, and_true, true_and] at hnum; obtain ⟨_, _, _, _, _⟩ := hnum))
  | (refine g_run ih rfl (by simp only [go_sem]; omega) fun v s1 _ _ hnum _ _ hcd => ?_; simp only [go_sem] at hnum; obtain ⟨_, _, _, _, _⟩ := hnum)
  | ((refine g_endC ih rfl rfl (by simp only [go_sem]; omega) (fun v s1 hv _ _ hnum _ _ _ => ?_) (fun v s1 hv _ _ hnum _ _ => ?_)) <;> (simp only [Num, hv, rank, st, sk, sm, cc, cB, wo, lv, some', Tg.sz, size_un, size_bo, size_fo, size_pa, form_fo, List.length_nil, bool_un, bool_bo, cond, ptr_size, arr_size, Nat.zero_mul, Nat.add_zero, if_true, Bool.false_eq_true, if_false, and_true, true_and] at hnum; obtain ⟨_, _, _, _, _⟩ := hnum))
  | (refine g_end ih rfl (by simp only [go_sem]; omega) fun v s1 _ _ hnum _ _ hcd => ?_; simp only [go_sem] at hnum; obtain ⟨_, _, _, _, _⟩ := hnum)
  | exact g_fail
  | refine g_pure ?_
  | refine g_bind ?_
  | simp only [Bool.and_true, Bool.and_false, Bool.or_true, Bool.or_false, Bool.true_and, Bool.false_and, Bool.true_or, Bool.false_or, Bool.not_true, Bool.not_false, Bool.false_eq_true, if_false, if_true]
  | (have hsl := sign_lt (l := l) ((Bool.and_eq_true _ _).mp (by assumption)).1; refine g_step' (by omega) fun s2 ⟨_, _, _, _, _⟩ _ _ => ?_)
  | simp only [hv, reduceCtorEq, false_and, true_and, if_false, form_fo, Bool.true_eq_false, Bool.false_eq_true]
  | split
  | (exfalso; simp_all; done)
  )
 all_goals (first | (refine ⟨(by repeat (first | exact Tr.refl _ | assumption | refine Tr.back (by assumption) ?_)), (by repeat (first | exact Nr.refl _ | assumption | refine Nr.back (by assumption) ?_)), (by simp only [go_sem]; omega), fun hq hv => by first | (exact absurd hq Bool.false_ne_true) | (exact absurd hv Bool.false_ne_true) | omega | (have := hcd rfl hv; omega)⟩) | (exfalso; simp_all; done) | skip)
theorem good_starsR {n : Nat} (ih : Ih l base n) (b : Bool) (sh s : Ps) (hf1 : frame (.starsR b) = none → sh = s) (hf2 : ∀ h0, frame (.starsR b) = some h0 → h0 = (sh.at', sh.done.length)) (hT : Tr sh s) (hp : Pre l (n + 1) (.starsR b) s) : G (Post l (.starsR b) sh s) (run l base (n + 1) (.starsR b) s) := by
 obtain rfl := hf1 rfl
 clear hf1 hf2
 simp only [go_sem] at hp
 obtain ⟨_, _, _, _, _, _, _⟩ := hp
 rw [run]
 cases b
 repeat' (first
  | refine g_ift ?_
  | refine g_iff ?_
  | refine g_took (fun s2 ⟨_, _, _, _, _⟩ _ _ => ?_) (fun hg => ?_)
  | refine g_quals (by omega) fun qb qn s2 _ ⟨_, _, _, _, _⟩ _ _ => ?_
  | ((refine g_runC ih rfl rfl (by simp only [go_sem]; omega) (fun v s1 hv _ _ hnum _ _ _ => ?_) (fun v s1 hv _ _ hnum _ _ => ?_)) <;> (simp only [Num, hv, rank, st, sk, sm, cc, cB, wo, lv, some', Tg.sz, size_un, size_bo, size_fo, size_pa, form_fo, List.length_nil, bool_un, bool_bo, cond, ptr_size, arr_size, Nat.zero_mul, Nat.add_zero, if_true, Bool.false_eq_true, if_false, and_true, true_and] at hnum; obtain ⟨_, _, _, _, _⟩ := hnum))
  | (refine g_run ih rfl (by simp only [go_sem]; omega) fun v s1 _ _ hnum _ _ hcd => ?_; simp only [go_sem] at hnum; obtain ⟨_, _, _, _, _⟩ := hnum)
  | ((refine g_endC ih rfl rfl (by simp only [go_sem]; omega) (fun v s1 hv _ _ hnum _ _ _ => ?_) (fun v s1 hv _ _ hnum _ _ => ?_)) <;> (simp only [Num, hv, rank, st, sk, sm, cc, cB, wo, lv, some', Tg.sz, size_un, size_bo, size_fo, size_pa, form_fo, List.length_nil, bool_un, bool_bo, cond, ptr_size, arr_size, Nat.zero_mul, Nat.add_zero, if_true, Bool.false_eq_true, if_false, and_true, true_and] at hnum; obtain ⟨_, _, _, _, _⟩ := hnum))
  | (refine g_end ih rfl (by simp only [go_sem]; omega) fun v s1 _ _ hnum _ _ hcd => ?_; simp only [go_sem] at hnum; obtain ⟨_, _, _, _, _⟩ := hnum)
  | refine g_pure ?_
  | refine g_bind ?_
  | split
  | (exfalso; simp_all; done)
  )
 all_goals (first | (refine ⟨(by repeat (first | exact Tr.refl _ | assumption | refine Tr.back (by assumption) ?_)), (by repeat (first | exact Nr.refl _ | assumption | refine Nr.back (by assumption) ?_)), (by simp only [go_sem]; omega), fun hq hv => by first | (exact absurd hq Bool.false_ne_true) | (exact absurd hv Bool.false_ne_true) | omega | (have := hcd rfl hv; omega)⟩) | (exfalso; simp_all; done) | skip)
def gID : Tg → Bool
 | .assoc => true
 | .initializer => true
 | .braces => true
 | .bracesR => true
 | .desig => true
 | _ => false
theorem goodD {n : Nat} (ih : Ih l base n) (tg : Tg) (ht : gID tg = true) (sh s : Ps) (hf1 : frame tg = none → sh = s) (hf2 : ∀ h0, frame tg = some h0 → h0 = (sh.at', sh.done.length)) (hT : Tr sh s) (hp : Pre l (n + 1) tg s) : G (Post l tg sh s) (run l base (n + 1) tg s) := by
 cases tg
 all_goals first
  | (cases ht; done)
  | skip
 all_goals
  clear ht
  first
   | obtain rfl := hf1 rfl
   | obtain rfl := hf2 _ rfl
  clear hf1 hf2
  simp only [go_sem] at hp
  obtain ⟨_, _, _, _, _, _, _⟩ := hp
  rw [run]
  repeat' (first
   | refine g_here ?_
   | refine g_ift ?_
   | refine g_iff ?_
   | refine g_node (by repeat (first | exact Tr.refl _ | assumption | refine Tr.back (by assumption) ?_)) (by omega) (by omega) fun s2 ⟨_, _, _, _⟩ _ _ => ?_
   | refine g_sign (fun hg hl => ?_) (fun hg => ?_)
   | refine g_took (fun s2 ⟨_, _, _, _, _⟩ _ _ => ?_) (fun hg => ?_)
   | refine g_tookWord (fun s2 ⟨_, _, _, _, _⟩ _ _ => ?_) (fun hg => ?_)
   | refine g_tookWord' (fun s2 ⟨_, _, _, _, _⟩ _ _ => ?_) (fun hg => ?_)
   | refine g_need fun s2 ⟨_, _, _, _, _⟩ _ _ => ?_
   | refine g_name fun x s2 ⟨_, _, _, _, _⟩ _ _ => ?_
   | (refine g_run ih rfl (by simp only [go_sem]; omega) fun v s1 _ _ hnum _ _ hcd => ?_; simp only [go_sem] at hnum; obtain ⟨_, _, _, _, _⟩ := hnum)
   | (refine g_end ih rfl (by simp only [go_sem]; omega) fun v s1 _ _ hnum _ _ hcd => ?_; simp only [go_sem] at hnum; obtain ⟨_, _, _, _, _⟩ := hnum)
   | refine g_pure ?_
   | refine g_bind ?_
   | split
   | (exfalso; simp_all; done)
   )
  all_goals (first | (refine ⟨(by repeat (first | exact Tr.refl _ | assumption | refine Tr.back (by assumption) ?_)), (by repeat (first | exact Nr.refl _ | assumption | refine Nr.back (by assumption) ?_)), (by simp only [go_sem]; omega), fun hq hv => by first | (exact absurd hq Bool.false_ne_true) | (exact absurd hv Bool.false_ne_true) | omega | (have := hcd rfl hv; omega)⟩) | (exfalso; simp_all; done) | skip)
end
end Go.Proofs.YtlboejdhmggjpaaGreat.Pp

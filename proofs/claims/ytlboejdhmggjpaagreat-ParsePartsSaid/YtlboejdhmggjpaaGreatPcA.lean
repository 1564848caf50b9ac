/- Plain: the parser on two lists that are alike: the one moved by some places, its names changed. -/
import Derived.Test.YtlboejdhmggjpaaGreatPbA
set_option linter.all false
namespace Go.Proofs.YtlboejdhmggjpaaGreat.Pp
set_option linter.unusedVariables false
set_option linter.unusedSimpArgs false

/-- How the one list, and what is known ahead of it, stands to the other one. -/
structure Mv where
  d : Nat
  ρ : Bs → Bs
  D : List Nd
  C : List (Bs × Bool)
namespace Mv
variable (m : Mv)
def tok (t : Ct) : Ct := ⟨t.c, if t.c = 2 then m.ρ t.t else t.t⟩
def dec (p : Bs × Bool) : Bs × Bool := (m.ρ p.1, p.2)
def nd (n : Nd) : Nd := ⟨n.k, n.lo + m.d, n.hi + m.d, n.sz⟩
def hd (h : Nat × Nat) : Nat × Nat := (h.1 + m.d, h.2 + m.D.length)
def st (s : Ps) : Ps := ⟨s.at' + m.d, m.D ++ s.done.map m.nd, ⟨m.C ++ s.nm.ch.map m.dec, s.nm.bl.map (· + m.C.length)⟩⟩
def fm (f : Fm) : Fm := ⟨f.named, m.ρ f.name, f.near, f.params.map m.dec⟩
def va : Va → Va
  | .un => .un
  | .bo b => .bo b
  | .fo f => .fo (m.fm f)
  | .pa p => .pa (p.map m.dec)
def tg : Tg → Tg
  | .exprR h => .exprR (m.hd h)
  | .binaryR k h u => .binaryR k (m.hd h) u
  | .literal h => .literal (m.hd h)
  | .applied h => .applied (m.hd h)
  | .suffixes f a => .suffixes (m.fm f) a
  | .body p => .body (p.map m.dec)
  | .restOfInit h => .restOfInit (m.hd h)
  | .keyword t h => .keyword t (m.hd h)
  | .compound t h => .compound t (m.hd h)
  | t => t
end Mv
/-- What is asked of the two lists. -/
structure Mk (m : Mv) (l l' : List Ct) (base base' : Bs → Bool) : Prop where
  tok : ∀ i, l'.getD (i + m.d) ⟨0, []⟩ = m.tok (l.getD i ⟨0, []⟩)
  len : l'.length = l.length + m.d
  inj : ∀ x y, m.ρ x = m.ρ y → x = y
  emp : m.ρ [] = []
  bas : ∀ x, ((m.C.reverse.find? fun p => p.1 == m.ρ x).map (·.2)).getD (base' (m.ρ x)) = base x
/-- The same but for the move, or the fuel was out. -/
def Ev {α α' : Type} (m : Mv) (f : α → α') : Rs α → Rs α' → Prop
  | .out, _ => True
  | _, .out => True
  | .no, .no => True
  | .ok a s, .ok a' s' => a' = f a ∧ s' = m.st s
  | _, _ => False
def Cg {α α' : Type} (m : Mv) (f : α → α') (x : Pm α) (x' : Pm α') : Prop := ∀ s, Ev m f (x s) (x' (m.st s))
section
variable {m : Mv} {α α' β β' : Type} {f : α → α'} {g : β → β'}
theorem Ev.out_r {f : α → α'} (r : Rs α) : Ev m f r .out := by cases r <;> trivial
theorem cg_bind {x : Pm α} {x' : Pm α'} {k : α → Pm β} {k' : α' → Pm β'} (h : Cg m f x x') (h2 : ∀ a, Cg m g (k a) (k' (f a))) : Cg m g (x >>= k) (x' >>= k') := by
  intro s
  have h0 := h s
  show Ev m g (Pm.bind x k s) (Pm.bind x' k' (m.st s))
  unfold Pm.bind
  cases e : x s with
  | out => trivial
  | no =>
    rw [e] at h0
    cases e' : x' (m.st s) with
    | out => trivial
    | no => trivial
    | ok a' s' => rw [e'] at h0; exact h0.elim
  | ok a s1 =>
    rw [e] at h0
    cases e' : x' (m.st s) with
    | out => exact Ev.out_r _
    | no => rw [e'] at h0; exact h0.elim
    | ok a' s' =>
      rw [e'] at h0
      obtain ⟨rfl, rfl⟩ := h0
      exact h2 a s1
theorem cg_pure {a : α} {a' : α'} (h : a' = f a) : Cg m f (pure a) (pure a') := fun s => ⟨h, rfl⟩
theorem cg_fail : Cg m f fail' fail' := fun s => trivial
theorem cg_out {x : Pm α'} : Cg m f out' x := fun s => trivial
theorem cg_ite {c c' : Prop} {dc : Decidable c} {dc' : Decidable c'} {x y : Pm α} {x' y' : Pm α'} (hc : c' ↔ c) (h1 : c → Cg m f x x') (h2 : ¬ c → Cg m f y y') : Cg m f (if c then x else y) (if c' then x' else y') := by
  by_cases h : c
  · rw [if_pos h, if_pos (hc.mpr h)]; exact h1 h
  · rw [if_neg h, if_neg (fun e => h (hc.mp e))]; exact h2 h
theorem cg_iteT {c : Prop} {dc : Decidable c} {x y : Pm α} {x' : Pm α'} (hc : c) (h1 : Cg m f x x') : Cg m f (if c then x else y) x' := by rw [if_pos hc]; exact h1
theorem cg_pb {a : α} {a' : α'} {k : α → Pm β} {k' : α' → Pm β'} (h : Cg m g (k a) (k' a')) : Cg m g (pure a >>= k) (pure a' >>= k') := h
theorem bind_assoc' {γ : Type} (x : Pm α) (k : α → Pm β) (j : β → Pm γ) : (x >>= k) >>= j = x >>= fun a => k a >>= j := by
  funext s
  show Pm.bind (Pm.bind x k) j s = Pm.bind x (fun a => Pm.bind (k a) j) s
  unfold Pm.bind
  cases x s <;> rfl
theorem cg_assoc {γ γ' : Type} {e : γ → γ'} {x : Pm α} {k : α → Pm β} {j : β → Pm γ} {x' : Pm α'} {k' : α' → Pm β'} {j' : β' → Pm γ'} (h : Cg m e (x >>= fun a => k a >>= j) (x' >>= fun a => k' a >>= j')) : Cg m e ((x >>= k) >>= j) ((x' >>= k') >>= j') := by
  rw [bind_assoc', bind_assoc']; exact h
theorem cg_iteb {c c' : Prop} {dc : Decidable c} {dc' : Decidable c'} {x y : Pm α} {x' y' : Pm α'} {k : α → Pm β} {k' : α' → Pm β'} (hc : c' ↔ c) (h1 : c → Cg m g (x >>= k) (x' >>= k')) (h2 : ¬ c → Cg m g (y >>= k) (y' >>= k')) : Cg m g ((if c then x else y) >>= k) ((if c' then x' else y') >>= k') := by
  by_cases h : c
  · rw [if_pos h, if_pos (hc.mpr h)]; exact h1 h
  · rw [if_neg h, if_neg (fun e => h (hc.mp e))]; exact h2 h
theorem cg_failb {k : α → Pm β} {k' : α' → Pm β'} : Cg m g (fail' >>= k) (fail' >>= k') := fun s => trivial
theorem cg_outi {c c' : Prop} {dc : Decidable c} {dc' : Decidable c'} {x : Pm α} {x' : Pm α'} (hc : c' → c) (h2 : ¬ c → Cg m f x x') : Cg m f (if c then out' else x) (if c' then out' else x') := by
  by_cases h : c
  · rw [if_pos h]; exact cg_out
  · rw [if_neg h, if_neg (fun e => h (hc e))]; exact h2 h
theorem cg_get : Cg m m.st get' get' := fun s => ⟨rfl, rfl⟩
theorem cg_here : Cg m m.hd here here := fun s => ⟨by show _ = m.hd _; simp [Mv.st, Mv.hd, Nat.add_comm], rfl⟩
end
section
variable {m : Mv} {l l' : List Ct} {base base' : Bs → Bool} (K : Mk m l l' base base') {α α' : Type} {f : α → α'}
include K
theorem Mk.peek (s : Ps) (k : Nat) : peekS l' (m.st s) k = m.tok (peekS l s k) := by
  unfold peekS
  rw [show (m.st s).at' + k = (s.at' + k) + m.d by show s.at' + m.d + k = _; omega]
  exact K.tok _
theorem Mk.sign (s : Ps) (k : Nat) (t : Bs) : signS l' (m.st s) k t = signS l s k t := by
  unfold signS
  rw [K.peek]
  by_cases h : (peekS l s k).c = 2
  · simp [Mv.tok, h]
  · simp [Mv.tok, h]
theorem Mk.word (s : Ps) (t : Bs) : wordS l' (m.st s) t = wordS l s t := by
  unfold wordS
  rw [K.peek]
  by_cases h : (peekS l s 0).c = 2
  · simp [Mv.tok, h]
  · simp [Mv.tok, h]
theorem find_mv (ch : List (Bs × Bool)) (x : Bs) : (ch.map m.dec).find? (fun p => p.1 == m.ρ x) = (ch.find? fun p => p.1 == x).map m.dec := by
  rw [List.find?_map]
  congr 2
  funext p
  show (m.ρ p.1 == m.ρ x) = (p.1 == x)
  by_cases h : p.1 = x
  · subst h; simp
  · rw [beq_eq_false_iff_ne.mpr h, beq_eq_false_iff_ne.mpr fun e => h (K.inj _ _ e)]
theorem Mk.isType (s : Ps) (x : Bs) : (m.st s).nm.isType base' (m.ρ x) = s.nm.isType base x := by
  unfold Ns.isType Ns.now
  show ((List.find? _ (m.C ++ s.nm.ch.map m.dec).reverse).map _).getD _ = _
  rw [List.reverse_append, List.find?_append, ← List.map_reverse, find_mv K]
  cases s.nm.ch.reverse.find? (fun p => p.1 == x) with
  | some p => rfl
  | none => exact K.bas x
theorem Mk.bSpec (s : Ps) (k : Nat) : bSpecS l' base' (m.st s) k = bSpecS l base s k := by
  unfold bSpecS
  rw [K.peek]
  by_cases h1 : (peekS l s k).c = 1
  · simp [Mv.tok, h1]
  by_cases h2 : (peekS l s k).c = 2
  · simp [Mv.tok, h2, K.isType]
  · simp [Mv.tok, h1, h2]
theorem Mk.bLess (s : Ps) (k : Nat) : bLessS l' base' (m.st s) k = bLessS l base s k := by
  unfold bLessS
  rw [K.bSpec, K.peek]
  by_cases h1 : (peekS l s k).c = 1
  · simp [Mv.tok, h1]
  · simp [Mv.tok, h1]
theorem cg_peek (k : Nat) : Cg m m.tok (peek l k) (peek l' k) := fun s => ⟨K.peek s k, rfl⟩
theorem cg_sign (k : Nat) (t : Bs) : Cg m id (sign l k t) (sign l' k t) := fun s => ⟨K.sign s k t, rfl⟩
theorem cg_word (t : Bs) : Cg m id (word l t) (word l' t) := fun s => ⟨K.word s t, rfl⟩
theorem cg_typeAhead : Cg m id (typeAhead l base) (typeAhead l' base') := fun s => ⟨by show (_ && _) = (_ && _); rw [K.sign, K.bLess], rfl⟩
theorem cg_bLess (k : Nat) : Cg m id (bLess l base k) (bLess l' base' k) := fun s => ⟨K.bLess s k, rfl⟩
theorem cg_declares : Cg m id (declares l base) (declares l' base') := fun s => ⟨by show (_ || _) = (_ || _); rw [K.word, K.bSpec], rfl⟩
theorem cg_labelled : Cg m id (labelled l) (labelled l') := fun s => ⟨by show (_ && _) = (_ && _); rw [K.peek, K.sign]; rfl, rfl⟩
theorem cg_level : Cg m id (level l) (level l') := fun s => ⟨by
  show (if _ then _ else _) = (if _ then _ else _)
  rw [K.peek]
  by_cases h : (peekS l s 0).c = 2
  · simp [Mv.tok, h]
  · simp [Mv.tok, h], rfl⟩
theorem cg_assigns : Cg m id (assigns l) (assigns l') := fun s => ⟨by
  show (_ && _) = (_ && _)
  rw [K.peek]
  by_cases h : (peekS l s 0).c = 2
  · simp [Mv.tok, h]
  · simp [Mv.tok, h], rfl⟩
omit K in
theorem st_go (s : Ps) (k n : Nat) (h : n = k + m.d) : ({ m.st s with at' := n } : Ps) = m.st { s with at' := k } := by subst h; rfl
theorem cg_step (k : Nat) : Cg m id (step l k) (step l' k) := fun s => by
  unfold step
  have h : (m.st s).at' + k = s.at' + k + m.d := by show s.at' + m.d + k = _; omega
  rw [h, K.len]
  by_cases g : s.at' + k ≤ l.length
  · rw [if_pos g, if_pos (by omega)]
    exact ⟨rfl, rfl⟩
  · rw [if_neg g]; trivial
theorem cg_took (t : Bs) : Cg m id (took l t) (took l' t) := fun s => by
  unfold took
  rw [K.sign]
  cases signS l s 0 t with
  | true => exact ⟨rfl, st_go s _ _ (by show s.at' + m.d + 1 = _; omega)⟩
  | false => exact ⟨rfl, rfl⟩
theorem cg_tookWord (t : Bs) : Cg m id (tookWord l t) (tookWord l' t) := fun s => by
  unfold tookWord
  rw [K.word]
  cases wordS l s t with
  | true => exact ⟨rfl, st_go s _ _ (by show s.at' + m.d + 1 = _; omega)⟩
  | false => exact ⟨rfl, rfl⟩
theorem cg_need (t : Bs) : Cg m id (need l t) (need l' t) := fun s => by
  unfold need
  rw [K.sign]
  cases signS l s 0 t with
  | true => exact ⟨rfl, st_go s _ _ (by show s.at' + m.d + 1 = _; omega)⟩
  | false => trivial
theorem cg_name : Cg m m.ρ (name' l) (name' l') := fun s => by
  unfold name'
  rw [K.peek]
  by_cases h : (peekS l s 0).c = 2
  · rw [if_pos h, if_pos (show (m.tok _).c = 2 from h)]
    exact ⟨by simp [Mv.tok, h], st_go s _ _ (by show s.at' + m.d + 1 = _; omega)⟩
  · rw [if_neg h, if_neg (show ¬ (m.tok _).c = 2 from h)]; trivial
theorem quals_mv : ∀ (n : Nat) (s : Ps), qualsF l' n (m.st s) = qualsF l n s + m.d
  | 0, s => rfl
  | n + 1, s => by
    unfold qualsF
    rw [K.peek, K.sign]
    have e : ({ m.st s with at' := (m.st s).at' + 1 } : Ps) = m.st { s with at' := s.at' + 1 } := st_go s _ _ (by show s.at' + m.d + 1 = _; omega)
    have hc : ((m.tok (peekS l s 0)).c = 1 ∧ (spec (m.tok (peekS l s 0)).t = 3 ∨ spec (m.tok (peekS l s 0)).t = 4 ∧ signS l s 1 [40] = false)) ↔ ((peekS l s 0).c = 1 ∧ (spec (peekS l s 0).t = 3 ∨ spec (peekS l s 0).t = 4 ∧ signS l s 1 [40] = false)) := by
      by_cases h : (peekS l s 0).c = 1
      · simp [Mv.tok, h]
      · simp [Mv.tok, h]
    rw [e, quals_mv n]
    simp only [hc]
    split <;> rfl
theorem strs_mv : ∀ (n : Nat) (s : Ps), strsF l' n (m.st s) = strsF l n s + m.d
  | 0, s => rfl
  | n + 1, s => by
    unfold strsF
    rw [K.peek]
    have e : ({ m.st s with at' := (m.st s).at' + 1 } : Ps) = m.st { s with at' := s.at' + 1 } := st_go s _ _ (by show s.at' + m.d + 1 = _; omega)
    rw [e, strs_mv n]
    show (if (peekS l s 0).c = 6 then _ else _) = _
    split <;> rfl
theorem len_mv (s : Ps) : l'.length - (m.st s).at' = l.length - s.at' := by rw [K.len]; show l.length + m.d - (s.at' + m.d) = _; omega
theorem cg_quals : Cg m id (quals l) (quals l') := fun s => by
  unfold quals
  rw [len_mv K, quals_mv K]
  refine ⟨?_, rfl⟩
  show decide (s.at' + m.d < _ + m.d) = decide _
  simp
theorem cg_strings : Cg m id (strings l) (strings l') := fun s => by
  unfold strings
  rw [len_mv K, strs_mv K, K.peek]
  show Ev m id _ (if (peekS l s 0).c = 6 then _ else _)
  split
  · exact ⟨rfl, rfl⟩
  · trivial
omit K in
theorem cg_node (k : Nat) (h : Nat × Nat) : Cg m id (node l k h) (node l' k (m.hd h)) := fun s => by
  unfold node
  split
  · split
    · refine ⟨rfl, ?_⟩
      have e : (m.st s).done.length - (m.hd h).2 + 1 = s.done.length - h.2 + 1 := by
        show (m.D ++ s.done.map m.nd).length - (h.2 + m.D.length) + 1 = _
        rw [List.length_append, List.length_map]
        omega
      rw [e]
      show Ps.mk _ _ _ = Ps.mk _ _ _
      congr 1
      show m.D ++ s.done.map m.nd ++ _ = m.D ++ (s.done ++ _).map m.nd
      rw [List.map_append, List.append_assoc]
      rfl
    · exact Ev.out_r _
  · trivial
theorem declare_mv (s : Ps) (x : Bs) (b : Bool) : ({ m.st s with nm := (m.st s).nm.declare (m.ρ x) b } : Ps) = m.st { s with nm := s.nm.declare x b } := by
  unfold Ns.declare
  by_cases h : x = []
  · rw [if_pos h, if_pos (by rw [h]; exact K.emp)]
  · rw [if_neg h, if_neg (fun e => h (K.inj _ _ (e.trans K.emp.symm)))]
    show Ps.mk _ _ _ = Ps.mk _ _ _
    congr 1
    show Ns.mk _ _ = Ns.mk _ _
    congr 1
    show m.C ++ s.nm.ch.map m.dec ++ _ = m.C ++ (s.nm.ch ++ _).map m.dec
    rw [List.map_append, List.append_assoc]
    rfl
theorem cg_declare (x : Bs) (b : Bool) : Cg m id (declare l x b) (declare l' (m.ρ x) b) := fun s => by
  unfold declare
  split
  · split
    · exact ⟨rfl, declare_mv K s x b⟩
    · exact Ev.out_r _
  · trivial
theorem cg_declareAll : ∀ p : List (Bs × Bool), Cg m id (declareAll l p) (declareAll l' (p.map m.dec))
  | [] => cg_pure rfl
  | x :: p => cg_bind (cg_declare K x.1 x.2) fun _ => cg_declareAll p
omit K in
theorem cg_open : Cg m id (open' l) (open' l') := fun s => by
  unfold open'
  split
  · split
    · refine ⟨rfl, ?_⟩
      show Ps.mk _ _ _ = Ps.mk _ _ _
      congr 1
      show Ns.mk _ _ = Ns.mk _ _
      congr 1
      show s.nm.bl.map _ ++ _ = (s.nm.bl ++ _).map _
      rw [List.map_append]
      congr 1
      show [(m.C ++ s.nm.ch.map m.dec).length] = [s.nm.ch.length + m.C.length]
      rw [List.length_append, List.length_map, Nat.add_comm]
    · exact Ev.out_r _
  · trivial
omit K in
theorem last_mv (s : Ps) : (m.st s).nm.bl.getLast? = s.nm.bl.getLast?.map (· + m.C.length) := by
  show (s.nm.bl.map _).getLast? = _
  rw [List.getLast?_map]
omit K in
theorem declared_mv (s : Ps) : s.nm.bl ≠ [] → (m.st s).nm.declared = s.nm.declared.map m.dec := by
  intro hne
  unfold Ns.declared
  rw [last_mv]
  obtain ⟨k, hk⟩ : ∃ k, s.nm.bl.getLast? = some k := ⟨_, List.getLast?_eq_some_getLast hne⟩
  rw [hk]
  show (m.C ++ s.nm.ch.map m.dec).drop (k + m.C.length) = (s.nm.ch.drop k).map m.dec
  rw [List.drop_append, List.drop_eq_nil_of_le (by omega), List.nil_append, List.map_drop]
  congr 1
  omega
omit K in
theorem close_mv (s : Ps) (k : Nat) (hk : s.nm.bl.getLast? = some k) (hl : k ≤ s.nm.ch.length) : ({ m.st s with nm := (m.st s).nm.closed } : Ps) = m.st { s with nm := s.nm.closed } := by
  unfold Ns.closed
  rw [last_mv, hk]
  show Ps.mk _ _ _ = Ps.mk _ _ _
  congr 1
  show Ns.mk _ _ = Ns.mk _ _
  congr 1
  · show (m.C ++ s.nm.ch.map m.dec).take (k + m.C.length) = m.C ++ (s.nm.ch.take k).map m.dec
    rw [List.take_append, List.take_of_length_le (by omega), List.map_take]
    congr 2
    omega
  · show (s.nm.bl.map _).dropLast = s.nm.bl.dropLast.map _
    rw [List.map_dropLast]
omit K in
/-- What was declared in a block, and its end. -/
theorem cg_close2 {f : Ps → α → Pm α} {β' : Type} (k : List (Bs × Bool) → Pm α) (k' : List (Bs × Bool) → Pm α') (g : α → α') (h : ∀ p, Cg m g (k p) (k' (p.map m.dec))) :
    Cg m g (do let s ← get'; close'; k s.nm.declared) (do let s ← get'; close'; k' s.nm.declared) := fun s => by
  show Ev m g (Pm.bind close' (fun _ => k s.nm.declared) s) (Pm.bind close' (fun _ => k' (m.st s).nm.declared) (m.st s))
  unfold Pm.bind close'
  rw [last_mv]
  cases hk : s.nm.bl.getLast? with
  | none => trivial
  | some j =>
    have hne : s.nm.bl ≠ [] := by rintro e; rw [e] at hk; cases hk
    simp only [Option.map_some]
    have hlen : (m.st s).nm.ch.length = s.nm.ch.length + m.C.length := by show (m.C ++ s.nm.ch.map m.dec).length = _; rw [List.length_append, List.length_map, Nat.add_comm]
    by_cases hl : j ≤ s.nm.ch.length
    · rw [if_pos hl, if_pos (by omega), declared_mv s hne]
      simp only
      rw [close_mv s j hk hl]
      exact h _ _
    · rw [if_neg hl]; trivial
omit K in
theorem cg_close : Cg m id close' close' := fun s => by
  unfold close'
  rw [last_mv]
  cases hk : s.nm.bl.getLast? with
  | none => trivial
  | some j =>
    simp only [Option.map_some]
    have hlen : (m.st s).nm.ch.length = s.nm.ch.length + m.C.length := by show (m.C ++ s.nm.ch.map m.dec).length = _; rw [List.length_append, List.length_map, Nat.add_comm]
    by_cases hl : j ≤ s.nm.ch.length
    · rw [if_pos hl, if_pos (by omega)]
      exact ⟨rfl, close_mv s j hk hl⟩
    · rw [if_neg hl]; trivial
omit K in
theorem va_bool (v : Va) : (m.va v).bool = v.bool := by cases v <;> rfl
theorem va_form (v : Va) : (m.va v).form = m.fm v.form := by
  cases v with
  | fo f => rfl
  | un => show Fm.mk _ _ _ _ = Fm.mk _ (m.ρ []) _ _; rw [K.emp]; rfl
  | bo b => show Fm.mk _ _ _ _ = Fm.mk _ (m.ρ []) _ _; rw [K.emp]; rfl
  | pa p => show Fm.mk _ _ _ _ = Fm.mk _ (m.ρ []) _ _; rw [K.emp]; rfl
omit K in
theorem va_list (v : Va) : (m.va v).list = v.list.map m.dec := by cases v <;> rfl
omit K in
theorem fm_arr (f : Fm) : (m.fm f).arr = m.fm f.arr := by unfold Fm.arr; show (if f.near = 0 then _ else _) = _; split <;> rfl
omit K in
theorem fm_fun (f : Fm) (p : List (Bs × Bool)) : (m.fm f).fun' (p.map m.dec) = m.fm (f.fun' p) := by unfold Fm.fun'; show (if f.near = 0 then _ else _) = _; split <;> rfl
omit K in
theorem fm_ptr (b : Bool) (f : Fm) : (m.fm f).ptr b = m.fm (f.ptr b) := by unfold Fm.ptr; show (if (b && f.near == 0) = true then _ else _) = _; split <;> rfl
end
section
variable {m : Mv} {l l' : List Ct} {base base' : Bs → Bool} (K : Mk m l l' base base')
theorem cg_params (h : Nat × Nat) : Cg m m.va (do let s ← get'; close'; node l 16 h; pure (Va.pa s.nm.declared)) (do let s ← get'; close'; node l' 16 (m.hd h); pure (Va.pa s.nm.declared)) :=
  cg_close2 (f := fun _ _ => fail') (β' := Unit) (fun p => do node l 16 h; pure (Va.pa p)) (fun p => do node l' 16 (m.hd h); pure (Va.pa p)) m.va fun p => cg_bind (cg_node _ _) fun _ => cg_pure rfl
theorem cg_node0 (k : Nat) (h : m.d = 0 ∧ m.D = []) : Cg m id (node l k (0, 0)) (node l' k (0, 0)) := by
  have e : m.hd (0, 0) = (0, 0) := by unfold Mv.hd; rw [h.1, h.2]; rfl
  have := cg_node (m := m) (l := l) (l' := l') k (0, 0)
  rw [e] at this
  exact this
include K
theorem cg_sa (b : Bool) : Cg m id (fun s => .ok (signS l s 0 [40] && (b || !(signS l s 1 [41] || bSpecS l base s 1))) s : Pm Bool) (fun s => .ok (signS l' s 0 [40] && (b || !(signS l' s 1 [41] || bSpecS l' base' s 1))) s : Pm Bool) := fun s => ⟨by show (_ && (_ || !(_ || _))) = (_ && (_ || !(_ || _))); rw [K.sign, K.sign, K.bSpec], rfl⟩
end
def Ic (m : Mv) (l l' : List Ct) (base base' : Bs → Bool) (n : Nat) : Prop := ∀ tg, (tg = .unit → m.d = 0 ∧ m.D = []) → Cg m m.va (run l base n tg) (run l' base' n (m.tg tg))
section
variable {m : Mv} {R R' : Tg → Pm Va}
theorem cg_ih (ih : ∀ tg, (tg = .unit → m.d = 0 ∧ m.D = []) → Cg m m.va (R tg) (R' (m.tg tg))) {tg tg' : Tg} (e : m.tg tg = tg') (h : tg = .unit → m.d = 0 ∧ m.D = []) : Cg m m.va (R tg) (R' tg') := e ▸ ih tg h
end
set_option linter.unusedVariables false
set_option linter.unusedSimpArgs false
set_option linter.unusedSectionVars false
section
variable {m : Mv} {l l' : List Ct} {base base' : Bs → Bool} (K : Mk m l l' base base')
include K
set_option maxHeartbeats 16000000 in
theorem sim : ∀ n, Ic m l l' base base' n
  | 0 => fun tg hu s => trivial
  | n + 1 => fun tg hu => by
    have ih := sim n
    unfold Ic at ih
    cases tg
    all_goals
      simp only [Mv.tg]
      rw [run, run]
      generalize run l base n = R at ih ⊢
      generalize run l' base' n = R' at ih ⊢
      repeat' (first
        | with_reducible exact cg_params _
        | simp only [va_bool, va_list, fm_arr, fm_fun, fm_ptr, va_form K, id_eq]
        | with_reducible refine cg_bind cg_here fun h => ?_
        | with_reducible refine cg_pb ?_
        | with_reducible refine cg_assoc ?_
        | with_reducible refine cg_bind (cg_sign K _ _) fun b => ?_
        | with_reducible refine cg_bind (cg_took K _) fun b => ?_
        | with_reducible refine cg_bind (cg_declare K _ _) fun _ => ?_
        | with_reducible exact cg_declare K _ _
        | with_reducible refine cg_bind (cg_node _ _) fun _ => ?_
        | with_reducible refine cg_bind (cg_assigns K) fun b => ?_
        | with_reducible refine cg_bind (cg_step K _) fun _ => ?_
        | with_reducible exact cg_step K _
        | with_reducible refine cg_bind (cg_need K _) fun _ => ?_
        | with_reducible refine cg_bind (cg_level K) fun j => ?_
        | with_reducible refine cg_bind (cg_typeAhead K) fun b => ?_
        | with_reducible refine cg_bind (cg_peek K _) fun t => ?_
        | with_reducible exact cg_failb
        | with_reducible exact cg_fail
        | with_reducible refine cg_bind (cg_name K) fun x => ?_
        | with_reducible refine cg_bind cg_get fun s => ?_
        | with_reducible refine cg_bind (cg_tookWord K _) fun b => ?_
        | with_reducible exact cg_tookWord K _
        | with_reducible refine cg_bind (cg_strings K) fun _ => ?_
        | with_reducible refine cg_bind (cg_sa K _) fun b => ?_
        | with_reducible refine cg_bind (cg_quals K) fun b => ?_
        | with_reducible refine cg_bind cg_open fun _ => ?_
        | with_reducible refine cg_bind cg_close fun _ => ?_
        | with_reducible refine cg_bind (cg_word K _) fun b => ?_
        | with_reducible refine cg_bind (cg_declareAll K _) fun _ => ?_
        | with_reducible refine cg_bind (cg_declares K) fun b => ?_
        | with_reducible refine cg_bind (cg_labelled K) fun b => ?_
        | with_reducible refine cg_outi (by have := K.len; omega) (fun hc => ?_)
        | with_reducible refine cg_bind (cg_bLess K _) fun b => ?_
        | with_reducible refine cg_bind (cg_node0 _ (hu rfl)) fun _ => ?_
        | with_reducible refine cg_bind (cg_ih ih ?_ ?_) fun v => ?_
        | with_reducible refine cg_ih ih ?_ ?_
        | with_reducible refine cg_pure rfl
        | with_reducible refine cg_iteb (by first | exact Iff.rfl | (simp [Mv.tok, Mv.fm, Mv.st, va_bool, va_form K, K.len, K.isType]; done) | (by_cases h2 : t.c = 2 <;> simp_all [Mv.tok, K.isType, K.sign] <;> done) | skip) (fun hc => ?_) (fun hc => ?_)
        | with_reducible refine cg_ite (by first | exact Iff.rfl | (simp [Mv.tok, Mv.fm, Mv.st, va_bool, va_form K, K.len, K.isType]; done) | (by_cases h2 : t.c = 2 <;> simp_all [Mv.tok, K.isType, K.sign] <;> done) | skip) (fun hc => ?_) (fun hc => ?_)
        | (intro hu; cases hu; done)
        | rfl
        | exact fun _ => hu rfl
        | (simp [Mv.tg, Mv.fm, Va.form, K.emp]; done)
        | (simp_all [Mv.tg, Mv.tok]; done)
        )
end
end Go.Proofs.YtlboejdhmggjpaaGreat.Pp

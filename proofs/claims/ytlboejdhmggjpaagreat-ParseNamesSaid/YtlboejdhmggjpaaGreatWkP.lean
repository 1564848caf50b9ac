/- parse: what the parser's functions are to do; one step of theirs. -/
import Derived.Test.YtlboejdhmggjpaaGreatWkK
set_option linter.all false
namespace Go.Proofs.YtlboejdhmggjpaaGreat.Pp
open Go.RowKit Go.BigFrame Go.Proofs.YtlboejdhmggjpaaGreat

def dcC (p : Bs × Bool) : List Value := [.string (str p.1), .bool p.2]
def DcV (w : World) (y : Value) (p : List (Bs × Bool)) : Prop := ∃ a c, y = .slice a p.length c ∧ (p.length ≤ 1000000 ∧ ∀ q ∈ p, q.1.length ≤ maxLen) ∧ (p = [] ∨ ∃ b cur, a = some ⟨b, 0, none⟩ ∧ w.heap[b]? = some (.cells cur 95 (0, 0)) ∧ cur.toList.take (p.length * 2) = p.flatMap dcC)
theorem DcV.kp {w w' : World} {y : Value} {p : List (Bs × Bool)} (h : DcV w y p) (hk : KP w w') : DcV w' y p := by
 obtain ⟨a, c, h1, h0, h2⟩ := h
 refine ⟨a, c, h1, h0, ?_⟩
 rcases h2 with h2 | ⟨b, cur, h3, h4, h5⟩
 ·exact .inl h2
 ·exact .inr ⟨b, cur, h3, hk.2 _ _ _ _ rfl h4, h5⟩
def vaU (_ : World) (_ : Va) (x : Value) : Prop := x = .tuple #[]
def vaB (_ : World) (v : Va) (x : Value) : Prop := x = .bool v.bool
def vaF (w : World) (v : Va) (x : Value) : Prop := ∃ y, x = .agg #[.bool v.form.named, .string (str v.form.name), .int .i64 v.form.near, y] ∧ DcV w y v.form.params ∧ v.form.name.length ≤ maxLen
def vaP (w : World) (v : Va) (x : Value) : Prop := DcV w x v.list
def EndQ (E : En) {α : Type} (R : World → α → Value → Prop) (w : World) (r : Rs α) (e : Ending) (w' : World) : Prop :=
 match r with
 | .ok v s' => ∃ y, e = .returned y ∧ R w' v y ∧ PW E w' s' ∧ KP w w'
 | .no => (∃ n : Int, e = .panicked (failV n)) ∧ Below E.X E.w0 w' ∧ KP w w'
 | .out => True
theorem EndR.q {E : En} {α : Type} {val : α → Value} {w w' : World} {r : Rs α} {e : Ending} (h : EndR E val w r e w') : EndQ E (fun _ v y => y = val v) w r e w' := by
 cases r with
 | ok v s => exact ⟨_, h.1, rfl, h.2⟩
 | no => exact h
 | out => trivial
theorem qstep {E : En} {α β : Type} {x : Pm α} {k : α → Pm β} {s : Ps} {r : Rs β} {R : World → α → Value → Prop} {w w1 w2 : World} {e : Ending} (hr : (x >>= k) s = r) (hn : r ≠ .out) (hk : KP w w1) (he : EndQ E R w1 (x s) e w2) :
  (∃ v s2 y, k v s2 = r ∧ x s = .ok v s2 ∧ e = .returned y ∧ R w2 v y ∧ PW E w2 s2 ∧ KP w1 w2 ∧ KP w w2) ∨ (r = .no ∧ (∃ n, e = .panicked (failV n)) ∧ Below E.X E.w0 w2 ∧ KP w w2) := by
 change Pm.bind x k s = r at hr
 unfold Pm.bind at hr
 cases hx : x s with
 | out => rw [hx] at hr; exact absurd hr.symm hn
 | no => rw [hx] at hr he; exact .inr ⟨hr.symm, he.1, he.2.1, hk.trans he.2.2⟩
 | ok v s2 =>
  rw [hx] at hr he
  obtain ⟨y, h1, h2, h3, h4⟩ := he
  exact .inl ⟨v, s2, y, hr, rfl, h1, h2, h3, h4, hk.trans h4⟩
theorem qstepR {E : En} {α β : Type} {x : Pm α} {k : α → Pm β} {s : Ps} {r : Rs β} {val : α → Value} {w w1 w2 : World} {e : Ending} (hr : (x >>= k) s = r) (hn : r ≠ .out) (hk : KP w w1) (he : EndR E val w1 (x s) e w2) :
  (∃ v s2, k v s2 = r ∧ x s = .ok v s2 ∧ e = .returned (val v) ∧ PW E w2 s2 ∧ KP w1 w2 ∧ KP w w2) ∨ (r = .no ∧ (∃ n, e = .panicked (failV n)) ∧ Below E.X E.w0 w2 ∧ KP w w2) := by
 rcases qstep hr hn hk he.q with ⟨v, s2, y, h1, h2, h3, rfl, h5⟩ | h
 ·exact .inl ⟨v, s2, h1, h2, h3, h5⟩
 ·exact .inr h
theorem qne {α β : Type} {x : Pm α} {k : α → Pm β} {s : Ps} {r : Rs β} (hr : (x >>= k) s = r) (hn : r ≠ .out) : x s ≠ .out := fun h => by
 change Pm.bind x k s = r at hr
 unfold Pm.bind at hr
 rw [h] at hr
 exact hn hr.symm
theorem qsR {E : En} {α β : Type} {x : Pm α} {k : α → Pm β} {s : Ps} {r : Rs β} {val : α → Value} {w w1 w2 : World} {e : Ending} (hr : Hid ((x >>= k) s = r)) (hn : Hid (r ≠ .out)) (hk : Hid (KP w w1)) (he : EndR E val w1 (x s) e w2) :
  (∃ v s2, Hid (k v s2 = r) ∧ e = .returned (val v) ∧ Hid (PW E w2 s2) ∧ KP w1 w2 ∧ Hid (KP w w2)) ∨ ∃ n, e = .panicked (failV n) ∧ ∀ {R : World → β → Value → Prop}, EndQ E R w r (.panicked (failV n)) w2 := by
 rcases qstepR hr hn hk he with ⟨v, s2, h1, -, h3, h4, h5, h6⟩ | ⟨h1, ⟨n, h2⟩, h3, h4⟩
 ·exact .inl ⟨v, s2, h1, h3, h4, h5, h6⟩
 ·exact .inr ⟨n, h2, fun {R} => by rw [h1]; exact ⟨⟨n, rfl⟩, h3, h4⟩⟩
theorem qsQ {E : En} {α β : Type} {x : Pm α} {k : α → Pm β} {s : Ps} {r : Rs β} {R : World → α → Value → Prop} {w w1 w2 : World} {e : Ending} (hr : Hid ((x >>= k) s = r)) (hn : Hid (r ≠ .out)) (hk : Hid (KP w w1)) (he : EndQ E R w1 (x s) e w2) :
  (∃ v s2 y, Hid (k v s2 = r) ∧ e = .returned y ∧ R w2 v y ∧ Hid (PW E w2 s2) ∧ KP w1 w2 ∧ Hid (KP w w2)) ∨ ∃ n, e = .panicked (failV n) ∧ ∀ {R : World → β → Value → Prop}, EndQ E R w r (.panicked (failV n)) w2 := by
 rcases qstep hr hn hk he with ⟨v, s2, y, h1, -, h3, h4, h5, h6, h7⟩ | ⟨h1, ⟨n, h2⟩, h3, h4⟩
 ·exact .inl ⟨v, s2, y, h1, h3, h4, h5, h6, h7⟩
 ·exact .inr ⟨n, h2, fun {R} => by rw [h1]; exact ⟨⟨n, rfl⟩, h3, h4⟩⟩
theorem mR {E : En} {α β : Type} {k : α → Pm β} {s : Ps} {r : Rs β} {val : α → Value} {w w1 : World} {f : FuncId} {args : Array Value} {Q : Ending → World → Prop} {x : Pm α} (h : Calls Tryz.prog f args w1 (EndR E val w1 (x s))) (hr : Hid ((x >>= k) s = r)) (hn : Hid (r ≠ .out)) (hk : Hid (KP w w1))
  (hno : ∀ n w2, (∀ {R : World → β → Value → Prop}, EndQ E R w r (.panicked (failV n)) w2) → Q (.panicked (failV n)) w2) (hok : ∀ v s2 w2, Hid (k v s2 = r) → Hid (PW E w2 s2) → KP w1 w2 → Hid (KP w w2) → Q (.returned (val v)) w2) : Calls Tryz.prog f args w1 Q := by
 refine h.mono fun e w2 he => ?_
 rcases qsR hr hn hk he with ⟨v, s2, h1, rfl, h3, h4, h5⟩ | ⟨z, rfl, h1⟩
 ·exact hok v s2 w2 h1 h3 h4 h5
 ·exact hno z w2 h1
theorem mQ {E : En} {α β : Type} {k : α → Pm β} {s : Ps} {r : Rs β} {R : World → α → Value → Prop} {w w1 : World} {f : FuncId} {args : Array Value} {Q : Ending → World → Prop} {x : Pm α} (h : Calls Tryz.prog f args w1 (EndQ E R w1 (x s))) (hr : Hid ((x >>= k) s = r)) (hn : Hid (r ≠ .out)) (hk : Hid (KP w w1))
  (hno : ∀ n w2, (∀ {R : World → β → Value → Prop}, EndQ E R w r (.panicked (failV n)) w2) → Q (.panicked (failV n)) w2) (hok : ∀ v s2 y w2, Hid (k v s2 = r) → R w2 v y → Hid (PW E w2 s2) → KP w1 w2 → Hid (KP w w2) → Q (.returned y) w2) : Calls Tryz.prog f args w1 Q := by
 refine h.mono fun e w2 he => ?_
 rcases qsQ hr hn hk he with ⟨v, s2, y, h1, rfl, h2, h3, h4, h5⟩ | ⟨z, rfl, h1⟩
 ·exact hok v s2 y w2 h1 h2 h3 h4 h5
 ·exact hno z w2 h1
theorem qone {α β : Type} {x : Pm α} {k : α → Pm β} {s s2 : Ps} {v : α} {r : Rs β} (hr : (x >>= k) s = r) (hx : x s = .ok v s2) : k v s2 = r := by
 change Pm.bind x k s = r at hr
 unfold Pm.bind at hr
 rw [hx] at hr
 exact hr
theorem q_ift {β : Type} {A B : Pm β} {s : Ps} {r : Rs β} (h : (if true = true then A else B) s = r) : A s = r := h
theorem q_iff {β : Type} {A B : Pm β} {s : Ps} {r : Rs β} (h : (if false = true then A else B) s = r) : B s = r := h
theorem q_pos {β : Type} {c : Prop} {dc : Decidable c} {A B : Pm β} {s : Ps} {r : Rs β} (h : (if c then A else B) s = r) (hc : c) : A s = r := by rwa [if_pos hc] at h
theorem q_neg {β : Type} {c : Prop} {dc : Decidable c} {A B : Pm β} {s : Ps} {r : Rs β} (h : (if c then A else B) s = r) (hc : ¬ c) : B s = r := by rwa [if_neg hc] at h
theorem q_pure {β : Type} {v : β} {s : Ps} {r : Rs β} (h : (pure v : Pm β) s = r) : r = .ok v s := h.symm
theorem q_fail {β : Type} {s : Ps} {r : Rs β} (h : (fail' : Pm β) s = r) : r = .no := h.symm
theorem q_no {E : En} {R : World → Va → Value → Prop} {w w2 : World} {r : Rs Va} {n : Int} (hr : r = .no) (hb : Below E.X E.w0 w2) (hk : KP w w2) : EndQ E R w r (.panicked (failV n)) w2 := by rw [hr]; exact ⟨⟨n, rfl⟩, hb, hk⟩
theorem q_ok {E : En} {R : World → Va → Value → Prop} {w w2 : World} {r : Rs Va} {v : Va} {s : Ps} {y : Value} (hr : r = .ok v s) (hR : R w2 v y) (hp : PW E w2 s) (hk : KP w w2) : EndQ E R w r (.returned y) w2 := by rw [hr]; exact ⟨y, rfl, hR, hp, hk⟩
def HdB (w : World) (b : Nat) (h : Nat × Nat) : Prop := w.heap[b]? = some (.cells #[.int .i64 h.1, .int .i64 h.2] 77 (0, 0))
theorem HdB.kp {w w' : World} {b : Nat} {h : Nat × Nat} (hb : HdB w b h) (hk : KP w w') : HdB w' b h := hk.2 _ _ _ _ rfl hb
theorem HdB.new (w : World) (h : Nat × Nat) : HdB (w.alloc (.cells #[.int .i64 h.1, .int .i64 h.2] 77)) w.heap.size h := new_cells _ _ _
theorem HdB.cells {w : World} {b : Nat} {h : Nat × Nat} (hb : HdB w b h) : w.cell? ⟨b, 0, none⟩ = some (.int .i64 h.1) ∧ w.cell? ⟨b, 1, none⟩ = some (.int .i64 h.2) := by unfold HdB at hb; simp [World.cell?, hb]
structure Wk (E : En) (n : Nat) : Prop where
 f_expr : ∀  (s : Ps) (w : World), PW E w s → run E.L E.base n (.expr) s ≠ .out → Calls Tryz.prog 117 #[.pointer (some ⟨E.pb, 0, none⟩)] w (EndQ E vaU w (run E.L E.base n (.expr) s))
 f_assign : ∀  (s : Ps) (w : World), PW E w s → run E.L E.base n (.assign) s ≠ .out → Calls Tryz.prog 131 #[.pointer (some ⟨E.pb, 0, none⟩)] w (EndQ E vaU w (run E.L E.base n (.assign) s))
 f_choice : ∀  (s : Ps) (w : World), PW E w s → run E.L E.base n (.choice) s ≠ .out → Calls Tryz.prog 72 #[.pointer (some ⟨E.pb, 0, none⟩)] w (EndQ E vaB w (run E.L E.base n (.choice) s))
 f_binary : ∀ (k : Nat) (s : Ps) (w : World), PW E w s → run E.L E.base n (.binary k) s ≠ .out → Calls Tryz.prog 116 #[.pointer (some ⟨E.pb, 0, none⟩), .int .i64 k] w (EndQ E vaB w (run E.L E.base n (.binary k) s))
 f_cast : ∀  (s : Ps) (w : World), PW E w s → run E.L E.base n (.cast) s ≠ .out → Calls Tryz.prog 155 #[.pointer (some ⟨E.pb, 0, none⟩)] w (EndQ E vaB w (run E.L E.base n (.cast) s))
 f_typeIn : ∀  (s : Ps) (w : World), PW E w s → run E.L E.base n (.typeIn) s ≠ .out → Calls Tryz.prog 120 #[.pointer (some ⟨E.pb, 0, none⟩)] w (EndQ E vaU w (run E.L E.base n (.typeIn) s))
 f_literal : ∀ (h : Nat × Nat) (s : Ps) (w : World), PW E w s → run E.L E.base n (.literal h) s ≠ .out → Calls Tryz.prog 181 #[.pointer (some ⟨E.pb, 0, none⟩), hdV h] w (EndQ E vaU w (run E.L E.base n (.literal h) s))
 f_unary : ∀  (s : Ps) (w : World), PW E w s → run E.L E.base n (.unary) s ≠ .out → Calls Tryz.prog 180 #[.pointer (some ⟨E.pb, 0, none⟩)] w (EndQ E vaU w (run E.L E.base n (.unary) s))
 f_size : ∀ (v : Bool) (s : Ps) (w : World), PW E w s → run E.L E.base n (.size v) s ≠ .out → Calls Tryz.prog 193 #[.pointer (some ⟨E.pb, 0, none⟩), .bool v] w (EndQ E vaU w (run E.L E.base n (.size v) s))
 f_pfix : ∀  (s : Ps) (w : World), PW E w s → run E.L E.base n (.pfix) s ≠ .out → Calls Tryz.prog 194 #[.pointer (some ⟨E.pb, 0, none⟩)] w (EndQ E vaU w (run E.L E.base n (.pfix) s))
 f_applied : ∀ (h : Nat × Nat) (s : Ps) (w : World), PW E w s → run E.L E.base n (.applied h) s ≠ .out → Calls Tryz.prog 195 #[.pointer (some ⟨E.pb, 0, none⟩), hdV h] w (EndQ E vaU w (run E.L E.base n (.applied h) s))
 f_call : ∀  (s : Ps) (w : World), PW E w s → run E.L E.base n (.call) s ≠ .out → Calls Tryz.prog 200 #[.pointer (some ⟨E.pb, 0, none⟩)] w (EndQ E vaU w (run E.L E.base n (.call) s))
 f_primary : ∀  (s : Ps) (w : World), PW E w s → run E.L E.base n (.primary) s ≠ .out → Calls Tryz.prog 199 #[.pointer (some ⟨E.pb, 0, none⟩)] w (EndQ E vaU w (run E.L E.base n (.primary) s))
 f_generic : ∀  (s : Ps) (w : World), PW E w s → run E.L E.base n (.generic) s ≠ .out → Calls Tryz.prog 201 #[.pointer (some ⟨E.pb, 0, none⟩)] w (EndQ E vaU w (run E.L E.base n (.generic) s))
 f_assoc : ∀  (s : Ps) (w : World), PW E w s → run E.L E.base n (.assoc) s ≠ .out → Calls Tryz.prog 202 #[.pointer (some ⟨E.pb, 0, none⟩)] w (EndQ E vaU w (run E.L E.base n (.assoc) s))
 f_initializer : ∀  (s : Ps) (w : World), PW E w s → run E.L E.base n (.initializer) s ≠ .out → Calls Tryz.prog 89 #[.pointer (some ⟨E.pb, 0, none⟩)] w (EndQ E vaU w (run E.L E.base n (.initializer) s))
 f_braces : ∀  (s : Ps) (w : World), PW E w s → run E.L E.base n (.braces) s ≠ .out → Calls Tryz.prog 130 #[.pointer (some ⟨E.pb, 0, none⟩)] w (EndQ E vaU w (run E.L E.base n (.braces) s))
 f_item : ∀  (s : Ps) (w : World), PW E w s → run E.L E.base n (.item) s ≠ .out → Calls Tryz.prog 162 #[.pointer (some ⟨E.pb, 0, none⟩)] w (EndQ E vaU w (run E.L E.base n (.item) s))
 f_desig : ∀  (s : Ps) (w : World), PW E w s → run E.L E.base n (.desig) s ≠ .out → Calls Tryz.prog 183 #[.pointer (some ⟨E.pb, 0, none⟩)] w (EndQ E vaB w (run E.L E.base n (.desig) s))
 f_declarator : ∀ (k : Nat) (s : Ps) (w : World), PW E w s → run E.L E.base n (.declarator k) s ≠ .out → Calls Tryz.prog 48 #[.pointer (some ⟨E.pb, 0, none⟩), .int .i64 k] w (EndQ E vaF w (run E.L E.base n (.declarator k) s))
 f_array : ∀  (s : Ps) (w : World), PW E w s → run E.L E.base n (.array) s ≠ .out → Calls Tryz.prog 124 #[.pointer (some ⟨E.pb, 0, none⟩)] w (EndQ E vaU w (run E.L E.base n (.array) s))
 f_params : ∀  (s : Ps) (w : World), PW E w s → run E.L E.base n (.params) s ≠ .out → Calls Tryz.prog 125 #[.pointer (some ⟨E.pb, 0, none⟩)] w (EndQ E vaP w (run E.L E.base n (.params) s))
 f_param : ∀  (s : Ps) (w : World), PW E w s → run E.L E.base n (.param) s ≠ .out → Calls Tryz.prog 159 #[.pointer (some ⟨E.pb, 0, none⟩)] w (EndQ E vaU w (run E.L E.base n (.param) s))
 f_external : ∀  (s : Ps) (w : World), PW E w s → run E.L E.base n (.external) s ≠ .out → Calls Tryz.prog 33 #[.pointer (some ⟨E.pb, 0, none⟩)] w (EndQ E vaU w (run E.L E.base n (.external) s))
 f_body : ∀ (p : List (Bs × Bool)) (y : Value) (s : Ps) (w : World), DcV w y p → PW E w s → run E.L E.base n (.body p) s ≠ .out → Calls Tryz.prog 50 #[.pointer (some ⟨E.pb, 0, none⟩), y] w (EndQ E vaU w (run E.L E.base n (.body p) s))
 f_declaration : ∀  (s : Ps) (w : World), PW E w s → run E.L E.base n (.declaration) s ≠ .out → Calls Tryz.prog 128 #[.pointer (some ⟨E.pb, 0, none⟩)] w (EndQ E vaU w (run E.L E.base n (.declaration) s))
 f_moreInits : ∀ (t : Bool) (s : Ps) (w : World), PW E w s → run E.L E.base n (.moreInits t) s ≠ .out → Calls Tryz.prog 52 #[.pointer (some ⟨E.pb, 0, none⟩), .bool t] w (EndQ E vaU w (run E.L E.base n (.moreInits t) s))
 f_init : ∀ (t : Bool) (s : Ps) (w : World), PW E w s → run E.L E.base n (.init t) s ≠ .out → Calls Tryz.prog 90 #[.pointer (some ⟨E.pb, 0, none⟩), .bool t] w (EndQ E vaU w (run E.L E.base n (.init t) s))
 f_restOfInit : ∀ (h : Nat × Nat) (s : Ps) (w : World), PW E w s → run E.L E.base n (.restOfInit h) s ≠ .out → Calls Tryz.prog 51 #[.pointer (some ⟨E.pb, 0, none⟩), hdV h] w (EndQ E vaU w (run E.L E.base n (.restOfInit h) s))
 f_assert : ∀  (s : Ps) (w : World), PW E w s → run E.L E.base n (.assert) s ≠ .out → Calls Tryz.prog 45 #[.pointer (some ⟨E.pb, 0, none⟩)] w (EndQ E vaU w (run E.L E.base n (.assert) s))
 f_items : ∀  (s : Ps) (w : World), PW E w s → run E.L E.base n (.items) s ≠ .out → Calls Tryz.prog 87 #[.pointer (some ⟨E.pb, 0, none⟩)] w (EndQ E vaU w (run E.L E.base n (.items) s))
 f_part : ∀  (s : Ps) (w : World), PW E w s → run E.L E.base n (.part) s ≠ .out → Calls Tryz.prog 197 #[.pointer (some ⟨E.pb, 0, none⟩)] w (EndQ E vaU w (run E.L E.base n (.part) s))
 f_condition : ∀  (s : Ps) (w : World), PW E w s → run E.L E.base n (.condition) s ≠ .out → Calls Tryz.prog 196 #[.pointer (some ⟨E.pb, 0, none⟩)] w (EndQ E vaU w (run E.L E.base n (.condition) s))
 f_until : ∀ (x : Bs) (s : Ps) (w : World), PW E w s → run E.L E.base n (.until' x) s ≠ .out → Calls Tryz.prog 161 #[.pointer (some ⟨E.pb, 0, none⟩), .string (str x)] w (EndQ E vaU w (run E.L E.base n (.until' x) s))
 f_statement : ∀  (s : Ps) (w : World), PW E w s → run E.L E.base n (.statement) s ≠ .out → Calls Tryz.prog 129 #[.pointer (some ⟨E.pb, 0, none⟩)] w (EndQ E vaU w (run E.L E.base n (.statement) s))
 f_keyword : ∀ (x : Bs) (h : Nat × Nat) (s : Ps) (w : World), PW E w s → run E.L E.base n (.keyword x h) s ≠ .out → Calls Tryz.prog 160 #[.pointer (some ⟨E.pb, 0, none⟩), .string (str x), hdV h] w (EndQ E vaB w (run E.L E.base n (.keyword x h) s))
 f_compound : ∀ (x : Bs) (h : Nat × Nat) (s : Ps) (w : World), PW E w s → run E.L E.base n (.compound x h) s ≠ .out → Calls Tryz.prog 182 #[.pointer (some ⟨E.pb, 0, none⟩), .string (str x), hdV h] w (EndQ E vaU w (run E.L E.base n (.compound x h) s))
 f_specs : ∀ (a : Bool) (s : Ps) (w : World), PW E w s → run E.L E.base n (.specs a) s ≠ .out → Calls Tryz.prog 46 #[.pointer (some ⟨E.pb, 0, none⟩), .bool a] w (EndQ E vaB w (run E.L E.base n (.specs a) s))
 f_align : ∀  (s : Ps) (w : World), PW E w s → run E.L E.base n (.align) s ≠ .out → Calls Tryz.prog 76 #[.pointer (some ⟨E.pb, 0, none⟩)] w (EndQ E vaU w (run E.L E.base n (.align) s))
 f_atomic : ∀  (s : Ps) (w : World), PW E w s → run E.L E.base n (.atomic) s ≠ .out → Calls Tryz.prog 77 #[.pointer (some ⟨E.pb, 0, none⟩)] w (EndQ E vaU w (run E.L E.base n (.atomic) s))
 f_record : ∀  (s : Ps) (w : World), PW E w s → run E.L E.base n (.record) s ≠ .out → Calls Tryz.prog 78 #[.pointer (some ⟨E.pb, 0, none⟩)] w (EndQ E vaU w (run E.L E.base n (.record) s))
 f_member : ∀  (s : Ps) (w : World), PW E w s → run E.L E.base n (.member) s ≠ .out → Calls Tryz.prog 121 #[.pointer (some ⟨E.pb, 0, none⟩)] w (EndQ E vaU w (run E.L E.base n (.member) s))
 f_field : ∀  (s : Ps) (w : World), PW E w s → run E.L E.base n (.field) s ≠ .out → Calls Tryz.prog 157 #[.pointer (some ⟨E.pb, 0, none⟩)] w (EndQ E vaU w (run E.L E.base n (.field) s))
 f_enum : ∀  (s : Ps) (w : World), PW E w s → run E.L E.base n (.enum) s ≠ .out → Calls Tryz.prog 79 #[.pointer (some ⟨E.pb, 0, none⟩)] w (EndQ E vaU w (run E.L E.base n (.enum) s))
 f_enumerator : ∀  (s : Ps) (w : World), PW E w s → run E.L E.base n (.enumerator) s ≠ .out → Calls Tryz.prog 122 #[.pointer (some ⟨E.pb, 0, none⟩)] w (EndQ E vaU w (run E.L E.base n (.enumerator) s))
 f_typeName : ∀  (s : Ps) (w : World), PW E w s → run E.L E.base n (.typeName) s ≠ .out → Calls Tryz.prog 119 #[.pointer (some ⟨E.pb, 0, none⟩)] w (EndQ E vaU w (run E.L E.base n (.typeName) s))
end Go.Proofs.YtlboejdhmggjpaaGreat.Pp

/- WkN -/
namespace Go.Proofs.YtlboejdhmggjpaaGreat.Pp
set_option maxRecDepth 100000
set_option maxHeartbeats 16000000
open Go.RowKit Go.BigFrame Go.Proofs.YtlboejdhmggjpaaGreat

theorem run0 {l : List Ct} {base : Bs → Bool} {tg : Tg} {s : Ps} : run l base 0 tg s = .out := by rw [run]
theorem w_expr {E : En} (hE : E.ok) {n : Nat} (ih : ∀ m, m ≤ n → Wk E m) (s : Ps) (w : World) (hp : PW E w s) (hne : run E.L E.base (n + 1) .expr s ≠ .out) : Calls Tryz.prog 117 #[.pointer (some ⟨E.pb, 0, none⟩)] w (EndQ E vaU w (run E.L E.base (n + 1) .expr s)) := by
 obtain ⟨r, hr⟩ : ∃ r, run E.L E.base (n + 1) .expr s = r := ⟨_, rfl⟩
 rw [hr] at hne ⊢
 rw [run] at hr
 have HN := Hh hne
 have HR := Hh hr
 have HP := Hh hp
 have IH := Hh ih
 clear hne hr hp ih
 go_enter Tryz.func117, Tryz.ntmps117
 go_wp2_with fail
 refine (wk_here hE _ _ HP.out).mono ?_
 intro e w1 he
 rcases qstepR (x := here) HR.out HN.out (KP.refl w) he with ⟨h, s1, hr1, -, rfl, hp1, -, hk1⟩ | ⟨hr1, ⟨z, rfl⟩, hb1, hk1⟩
 case' inr => exact ⟨rfl, q_no hr1 hb1 hk1⟩
 have HR1 := Hh hr1
 have HP1 := Hh (hp1.ext hE (below_alloc w1 (.cells #[.int .i64 h.1, .int .i64 h.2] 77)))
 have HK1 := Hh (hk1.trans (KP.of_below (below_alloc w1 (.cells #[.int .i64 h.1, .int .i64 h.2] 77))))
 have HH1 := Hh (HdB.new w1 h)
 clear he hr1 hp1 hk1
 simp only [hdV]
 go_wp2_with fail
 refine ((IH.out n (Nat.le_refl _)).f_assign _ _ HP1.out (qne HR1.out HN.out)).mono ?_
 intro e w2 he
 rcases qstep (x := run E.L E.base n .assign) HR1.out HN.out HK1.out he with ⟨v2, s2, y2, hr2, -, rfl, rfl, hp2, hkk, hk2⟩ | ⟨hr2, ⟨z, rfl⟩, hb2, hk2⟩
 case' inr => exact ⟨rfl, q_no hr2 hb2 hk2⟩
 obtain ⟨bs, hbs⟩ : ∃ bs, w1.heap.size = bs := ⟨_, rfl⟩
 have HR2 := Hh hr2
 have HP2 := Hh hp2
 have HK2 := Hh hk2
 have HH2 := Hh (hbs ▸ HH1.out.kp hkk)
 clear hr2 hp2 hk2
 rw [hbs]
 go_wp2_with fail
 go_loopg [] n (fun k wr => ∃ s', k ≤ n ∧ run E.L E.base k (.exprR h) s' = r ∧ PW E wr s' ∧ KP w wr ∧ HdB wr bs h)
 case atStart => exact ⟨s2, Nat.le_refl _, HR2.out, HP2.out, HK2.out, HH2.out⟩
 case round =>
  obtain ⟨s', hgn, hr3, hp3, hk3, hh3⟩ := hrel
  cases gk with
  | zero => rw [run0] at hr3; exact absurd hr3.symm HN.out
  | succ g =>
   rw [run] at hr3
   have HR3 := Hh hr3
   have HP3 := Hh hp3
   have HK3 := Hh hk3
   have HH3 := Hh hh3
   clear hr3 hp3 hk3 hh3
   go_wp2_with fail
   refine (wk_took hE [44] _ _ HP3.out).mono ?_
   intro e w4 he
   rcases qstepR (x := took E.L [44]) HR3.out HN.out HK3.out he with ⟨b, s4, hr4, -, rfl, hp4, hkk, hk4⟩ | ⟨hr4, ⟨z, rfl⟩, hb4, hk4⟩
   case' inr => exact ⟨rfl, q_no hr4 hb4 hk4⟩
   have HP4 := Hh hp4
   have HK4 := Hh hk4
   have HH4 := Hh (HH3.out.kp hkk)
   clear he hp4 hkk hk4
   cases b
   ·have HR4 := Hh (q_pure (q_iff hr4))
    clear hr4
    go_wp2_with fail
    exact ⟨rfl, .tuple #[], by simp [results, Tryz.results117, go_sem], q_ok HR4.out rfl HP4.out HK4.out⟩
   ·have HR4 := Hh (q_ift hr4)
    clear hr4
    go_wp2_with fail
    refine mQ ((IH.out g (by omega)).f_assign _ _ HP4.out (qne HR4.out HN.out)) HR4 HN HK4 (fun _ _ h => ⟨rfl, h⟩) ?_
    rintro v5 s5 y5 w5 HR5 rfl HP5 hkk HK5
    have HH5 := Hh (HH4.out.kp hkk)
    clear hkk
    obtain ⟨d0, d1⟩ := HH5.out.cells
    go_wp2_with fail
    refine mR (wk_node hE 33 h _ _ HP5.out (qne HR5.out HN.out)) HR5 HN HK5 (fun _ _ h => ⟨rfl, h⟩) ?_
    rintro v6 s6 w6 HR6 HP6 hkk HK6
    have HH6 := Hh (HH5.out.kp hkk)
    clear hkk d0 d1
    go_wp2_with fail
    go_roundg g
    case measure => omega
    case rel => exact ⟨s6, by omega, HR6.out, HP6.out, HK6.out, HH6.out⟩
end Go.Proofs.YtlboejdhmggjpaaGreat.Pp

/- WkO -/
namespace Go.Proofs.YtlboejdhmggjpaaGreat.Pp
set_option maxRecDepth 100000
set_option maxHeartbeats 16000000
open Go.RowKit Go.BigFrame Go.Proofs.YtlboejdhmggjpaaGreat

theorem q_posK {α β : Type} {c : Prop} {dc : Decidable c} {A B : Pm α} {k : α → Pm β} {s : Ps} {r : Rs β} (h : ((if c then A else B) >>= k) s = r) (hc : c) : (A >>= k) s = r := by rwa [if_pos hc] at h
theorem q_negK {α β : Type} {c : Prop} {dc : Decidable c} {A B : Pm α} {k : α → Pm β} {s : Ps} {r : Rs β} (h : ((if c then A else B) >>= k) s = r) (hc : ¬ c) : (B >>= k) s = r := by rwa [if_neg hc] at h
theorem name_len {E : En} (hE : E.ok) {s s2 : Ps} {x : Bs} (h : name' E.L s = .ok x s2) : x.length ≤ maxLen := by
 unfold name' at h
 split at h
 ·cases h; exact peek_txt hE s 0
 ·cases h
theorem q_step {β : Type} {l : List Ct} {n : Nat} {k : Unit → Pm β} {s : Ps} {r : Rs β} (h : (step l n >>= k) s = r) (hn : r ≠ .out) : s.at' + n ≤ l.length ∧ k () { s with at' := s.at' + n } = r := by
 change Pm.bind (step l n) k s = r at h
 unfold Pm.bind step at h
 by_cases hc : s.at' + n ≤ l.length
 ·rw [if_pos hc] at h
  exact ⟨hc, h⟩
 ·rw [if_neg hc] at h
  exact absurd h.symm hn
theorem HdB.new' (w : World) (p : Addr) (v : Value) (h : Nat × Nat) : HdB ((w.setCell p v).alloc (.cells #[.int .i64 h.1, .int .i64 h.2] 77)) w.heap.size h := by
 have := HdB.new (w.setCell p v) h
 rwa [show (w.setCell p v).heap.size = w.heap.size by simp] at this
theorem q_pb {α β : Type} {v : α} {k : α → Pm β} {s : Ps} {r : Rs β} (h : ((pure v : Pm α) >>= k) s = r) : k v s = r := h
theorem q_assoc {α β γ : Type} {x : Pm α} {f : α → Pm β} {k : β → Pm γ} {s : Ps} {r : Rs γ} (h : ((x >>= f) >>= k) s = r) : (x >>= fun a => f a >>= k) s = r := by
 rw [← h]
 show Pm.bind x (fun a => Pm.bind (f a) k) s = Pm.bind (Pm.bind x f) k s
 unfold Pm.bind
 cases x s <;> rfl
theorem q_iftK {α β : Type} {A B : Pm α} {k : α → Pm β} {s : Ps} {r : Rs β} (h : ((if true = true then A else B) >>= k) s = r) : (A >>= k) s = r := h
theorem q_iffK {α β : Type} {A B : Pm α} {k : α → Pm β} {s : Ps} {r : Rs β} (h : ((if false = true then A else B) >>= k) s = r) : (B >>= k) s = r := h
theorem q_0 {β : Type} {l : List Ct} {base : Bs → Bool} {tg : Tg} {k : Va → Pm β} {s : Ps} {r : Rs β} (h : (run l base 0 tg >>= k) s = r) : r = .out := by
 rw [← h, run]
 rfl
theorem qtail {E : En} {r : Rs Va} {R : World → Va → Value → Prop} {w w1 w2 : World} {e : Ending} (hn : r ≠ .out) (hk : KP w w1) (he : EndQ E R w1 r e w2) :
  (∃ v s2 y, r = .ok v s2 ∧ e = .returned y ∧ R w2 v y ∧ PW E w2 s2 ∧ KP w w2) ∨ (r = .no ∧ (∃ n, e = .panicked (failV n)) ∧ Below E.X E.w0 w2 ∧ KP w w2) := by
 cases r with
 | out => exact absurd rfl hn
 | no => exact .inr ⟨rfl, he.1, he.2.1, hk.trans he.2.2⟩
 | ok v s => obtain ⟨y, h1, h2, h3, h4⟩ := he; exact .inl ⟨v, s, y, rfl, h1, h2, h3, hk.trans h4⟩
theorem w_typeIn {E : En} (hE : E.ok) {n : Nat} (ih : ∀ m, m ≤ n → Wk E m)  (s : Ps) (w : World) (hp : PW E w s) (hne : run E.L E.base (n + 1) (.typeIn) s ≠ .out) : Calls Tryz.prog 120 #[.pointer (some ⟨E.pb, 0, none⟩)] w (EndQ E vaU w (run E.L E.base (n + 1) (.typeIn) s)) := by
 obtain ⟨r, hr⟩ : ∃ r, run E.L E.base (n + 1) (.typeIn) s = r := ⟨_, rfl⟩
 rw [hr] at hne ⊢
 rw [run] at hr
 have HN := Hh hne
 have HR0 := Hh hr
 have HP0 := Hh hp
 have HK0 := Hh (KP.refl w)
 have IH := Hh ih
 clear hne hr hp ih
 go_enter Tryz.func120, Tryz.ntmps120
 go_wp2_with fail
 refine mR (wk_need hE [40] _ _ HP0.out) HR0 HN HK0 (fun _ _ h => ⟨rfl, h⟩) ?_
 rintro v1 s1 w1 HR1 HP1 - HK1
 go_wp2_with fail
 refine mQ ((IH.out n (Nat.le_refl _)).f_typeName  _ _ HP1.out (qne HR1.out HN.out)) HR1 HN HK1 (fun _ _ h => ⟨rfl, h⟩) ?_
 rintro v2 s2 y2 w2 HR2 rfl HP2 - HK2
 go_wp2_with fail
 refine mR (wk_need hE [41] _ _ HP2.out) HR2 HN HK2 (fun _ _ h => ⟨rfl, h⟩) ?_
 rintro v3 s3 w3 HR3 HP3 - HK3
 go_wp2_with fail
 exact ⟨rfl, .tuple #[], by simp [results, Tryz.results120, go_sem], q_ok (q_pure HR3.out) rfl HP3.out HK3.out⟩
theorem w_condition {E : En} (hE : E.ok) {n : Nat} (ih : ∀ m, m ≤ n → Wk E m)  (s : Ps) (w : World) (hp : PW E w s) (hne : run E.L E.base (n + 1) (.condition) s ≠ .out) : Calls Tryz.prog 196 #[.pointer (some ⟨E.pb, 0, none⟩)] w (EndQ E vaU w (run E.L E.base (n + 1) (.condition) s)) := by
 obtain ⟨r, hr⟩ : ∃ r, run E.L E.base (n + 1) (.condition) s = r := ⟨_, rfl⟩
 rw [hr] at hne ⊢
 rw [run] at hr
 have HN := Hh hne
 have HR0 := Hh hr
 have HP0 := Hh hp
 have HK0 := Hh (KP.refl w)
 have IH := Hh ih
 clear hne hr hp ih
 go_enter Tryz.func196, Tryz.ntmps196
 go_wp2_with fail
 refine mR (wk_need hE [40] _ _ HP0.out) HR0 HN HK0 (fun _ _ h => ⟨rfl, h⟩) ?_
 rintro v1 s1 w1 HR1 HP1 - HK1
 go_wp2_with fail
 refine mQ ((IH.out n (Nat.le_refl _)).f_expr  _ _ HP1.out (qne HR1.out HN.out)) HR1 HN HK1 (fun _ _ h => ⟨rfl, h⟩) ?_
 rintro v2 s2 y2 w2 HR2 rfl HP2 - HK2
 go_wp2_with fail
 refine mR (wk_need hE [41] _ _ HP2.out) HR2 HN HK2 (fun _ _ h => ⟨rfl, h⟩) ?_
 rintro v3 s3 w3 HR3 HP3 - HK3
 go_wp2_with fail
 exact ⟨rfl, .tuple #[], by simp [results, Tryz.results196, go_sem], q_ok (q_pure HR3.out) rfl HP3.out HK3.out⟩
theorem w_initializer {E : En} (hE : E.ok) {n : Nat} (ih : ∀ m, m ≤ n → Wk E m)  (s : Ps) (w : World) (hp : PW E w s) (hne : run E.L E.base (n + 1) (.initializer) s ≠ .out) : Calls Tryz.prog 89 #[.pointer (some ⟨E.pb, 0, none⟩)] w (EndQ E vaU w (run E.L E.base (n + 1) (.initializer) s)) := by
 obtain ⟨r, hr⟩ : ∃ r, run E.L E.base (n + 1) (.initializer) s = r := ⟨_, rfl⟩
 rw [hr] at hne ⊢
 rw [run] at hr
 have HN := Hh hne
 have HR0 := Hh hr
 have HP0 := Hh hp
 have HK0 := Hh (KP.refl w)
 have IH := Hh ih
 clear hne hr hp ih
 go_enter Tryz.func89, Tryz.ntmps89
 go_wp2_with fail
 refine mR (wk_sign hE 0 [123] _ _ (by omega) HP0.out) HR0 HN HK0 (fun _ _ h => ⟨rfl, h⟩) ?_
 rintro v1 s1 w1 HR1 HP1 - HK1
 obtain ⟨bb1, hbb1⟩ : ∃ bb, v1 = bb := ⟨_, rfl⟩
 rw [hbb1] at HR1 ⊢
 clear hbb1
 cases bb1
 ·have HQ := Hh (q_iff HR1.out)
  clear HR1
  have HR1 := Hh HQ.out
  clear HQ
  go_wp2_with fail
  have HT := Hh (show run E.L E.base n (.assign) _ = r from HR1.out)
  refine ((IH.out n (Nat.le_refl _)).f_assign  _ _ HP1.out (by rw [HT.out]; exact HN.out)).mono ?_
  intro e w2 he
  rw [HT.out] at he
  rcases qtail HN.out HK1.out he with ⟨v2, s2, y2, hr2, rfl, hy2, hp2, hk2⟩ | ⟨hr2, ⟨z, rfl⟩, hb2, hk2⟩
  case' inr => exact ⟨rfl, q_no hr2 hb2 hk2⟩
  obtain rfl := hy2
  have HT2 := Hh hr2
  have HP2 := Hh hp2
  have HK2 := Hh hk2
  clear he hr2 hp2 hk2 HT
  go_wp2_with fail
  exact ⟨rfl, .tuple #[], by simp [results, Tryz.results89, go_sem], q_ok HT2.out rfl HP2.out HK2.out⟩
 ·have HQ := Hh (q_ift HR1.out)
  clear HR1
  have HR1 := Hh HQ.out
  clear HQ
  go_wp2_with fail
  have HT := Hh (show run E.L E.base n (.braces) _ = r from HR1.out)
  refine ((IH.out n (Nat.le_refl _)).f_braces  _ _ HP1.out (by rw [HT.out]; exact HN.out)).mono ?_
  intro e w3 he
  rw [HT.out] at he
  rcases qtail HN.out HK1.out he with ⟨v3, s3, y3, hr3, rfl, hy3, hp3, hk3⟩ | ⟨hr3, ⟨z, rfl⟩, hb3, hk3⟩
  case' inr => exact ⟨rfl, q_no hr3 hb3 hk3⟩
  obtain rfl := hy3
  have HT3 := Hh hr3
  have HP3 := Hh hp3
  have HK3 := Hh hk3
  clear he hr3 hp3 hk3 HT
  go_wp2_with fail
  exact ⟨rfl, .tuple #[], by simp [results, Tryz.results89, go_sem], q_ok HT3.out rfl HP3.out HK3.out⟩
theorem w_cast {E : En} (hE : E.ok) {n : Nat} (ih : ∀ m, m ≤ n → Wk E m)  (s : Ps) (w : World) (hp : PW E w s) (hne : run E.L E.base (n + 1) (.cast) s ≠ .out) : Calls Tryz.prog 155 #[.pointer (some ⟨E.pb, 0, none⟩)] w (EndQ E vaB w (run E.L E.base (n + 1) (.cast) s)) := by
 obtain ⟨r, hr⟩ : ∃ r, run E.L E.base (n + 1) (.cast) s = r := ⟨_, rfl⟩
 rw [hr] at hne ⊢
 rw [run] at hr
 have HN := Hh hne
 have HR0 := Hh hr
 have HP0 := Hh hp
 have HK0 := Hh (KP.refl w)
 have IH := Hh ih
 clear hne hr hp ih
 go_enter Tryz.func155, Tryz.ntmps155
 go_wp2_with fail
 refine mR (wk_typeAhead hE _ _ HP0.out) HR0 HN HK0 (fun _ _ h => ⟨rfl, h⟩) ?_
 rintro v1 s1 w1 HR1 HP1 - HK1
 obtain ⟨bb1, hbb1⟩ : ∃ bb, v1 = bb := ⟨_, rfl⟩
 rw [hbb1] at HR1 ⊢
 clear hbb1
 cases bb1
 ·have HQ := Hh (q_iff HR1.out)
  clear HR1
  have HR1 := Hh HQ.out
  clear HQ
  go_wp2_with fail
  refine mQ ((IH.out n (Nat.le_refl _)).f_unary  _ _ HP1.out (qne HR1.out HN.out)) HR1 HN HK1 (fun _ _ h => ⟨rfl, h⟩) ?_
  rintro v2 s2 y2 w2 HR2 rfl HP2 - HK2
  go_wp2_with fail
  exact ⟨rfl, .bool true, by simp [results, Tryz.results155, go_sem], q_ok (q_pure HR2.out) rfl HP2.out HK2.out⟩
 ·have HQ := Hh (q_ift HR1.out)
  clear HR1
  have HR1 := Hh HQ.out
  clear HQ
  go_wp2_with fail
  refine mR (wk_here hE _ _ HP1.out) HR1 HN HK1 (fun _ _ h => ⟨rfl, h⟩) ?_
  rintro v3 s3 w3 HR3 HP3 - HK3
  have HBn := Hh (HdB.new w3 v3)
  have HPn := Hh (HP3.out.ext hE (below_alloc w3 (.cells #[.int .i64 v3.1, .int .i64 v3.2] 77)))
  have HKn := Hh (HK3.out.trans (KP.of_below (below_alloc w3 (.cells #[.int .i64 v3.1, .int .i64 v3.2] 77))))
  have HPo3 := Hh HP3.out
  have HKo3 := Hh HK3.out
  clear HP3 HK3
  have HP3 := Hh HPn.out
  have HK3 := Hh HKn.out
  clear HPn HKn
  simp only [hdV]
  obtain ⟨bh, hbh⟩ : ∃ b, w3.heap.size = b := ⟨_, rfl⟩
  have HBh3 := Hh (hbh ▸ HBn.out)
  clear HBn
  go_wp2_with fail
  try rw [hbh]
  refine mQ ((IH.out n (Nat.le_refl _)).f_typeIn  _ _ HP3.out (qne HR3.out HN.out)) HR3 HN HK3 (fun _ _ h => ⟨rfl, h⟩) ?_
  rintro v4 s4 y4 w4 HR4 rfl HP4 hkk HK4
  have HBh4 := Hh (HBh3.out.kp hkk)
  clear hkk
  go_wp2_with fail
  refine mR (wk_sign hE 0 [123] _ _ (by omega) HP4.out) HR4 HN HK4 (fun _ _ h => ⟨rfl, h⟩) ?_
  rintro v5 s5 w5 HR5 HP5 hkk HK5
  have HBh5 := Hh (HBh4.out.kp hkk)
  clear hkk
  obtain ⟨bb5, hbb5⟩ : ∃ bb, v5 = bb := ⟨_, rfl⟩
  rw [hbb5] at HR5 ⊢
  clear hbb5
  cases bb5
  ·have HQ := Hh (q_iff HR5.out)
   clear HR5
   have HR5 := Hh HQ.out
   clear HQ
   go_wp2_with fail
   refine mQ ((IH.out n (Nat.le_refl _)).f_cast  _ _ HP5.out (qne HR5.out HN.out)) HR5 HN HK5 (fun _ _ h => ⟨rfl, h⟩) ?_
   rintro v6 s6 y6 w6 HR6 rfl HP6 hkk HK6
   have HBh6 := Hh (HBh5.out.kp hkk)
   clear hkk
   obtain ⟨d0, d1⟩ := HBh6.out.cells
   go_wp2_with fail
   refine mR (wk_node hE 46 v3 _ _ HP6.out (qne HR6.out HN.out)) HR6 HN HK6 (fun _ _ h => ⟨rfl, h⟩) ?_
   rintro v7 s7 w7 HR7 HP7 hkk HK7
   have HBh7 := Hh (HBh6.out.kp hkk)
   clear hkk
   try clear d0 d1
   skip
   go_wp2_with fail
   exact ⟨rfl, .bool false, by simp [results, Tryz.results155, go_sem], q_ok (q_pure HR7.out) rfl HP7.out HK7.out⟩
  ·have HQ := Hh (q_ift HR5.out)
   clear HR5
   have HR5 := Hh HQ.out
   clear HQ
   obtain ⟨d0, d1⟩ := HBh5.out.cells
   go_wp2_with fail
   refine mQ ((IH.out n (Nat.le_refl _)).f_literal v3 _ _ HP5.out (qne HR5.out HN.out)) HR5 HN HK5 (fun _ _ h => ⟨rfl, h⟩) ?_
   rintro v8 s8 y8 w8 HR8 rfl HP8 hkk HK8
   have HBh8 := Hh (HBh5.out.kp hkk)
   clear hkk
   go_wp2_with fail
   exact ⟨rfl, .bool true, by simp [results, Tryz.results155, go_sem], q_ok (q_pure HR8.out) rfl HP8.out HK8.out⟩
theorem w_pfix {E : En} (hE : E.ok) {n : Nat} (ih : ∀ m, m ≤ n → Wk E m)  (s : Ps) (w : World) (hp : PW E w s) (hne : run E.L E.base (n + 1) (.pfix) s ≠ .out) : Calls Tryz.prog 194 #[.pointer (some ⟨E.pb, 0, none⟩)] w (EndQ E vaU w (run E.L E.base (n + 1) (.pfix) s)) := by
 obtain ⟨r, hr⟩ : ∃ r, run E.L E.base (n + 1) (.pfix) s = r := ⟨_, rfl⟩
 rw [hr] at hne ⊢
 rw [run] at hr
 have HN := Hh hne
 have HR0 := Hh hr
 have HP0 := Hh hp
 have HK0 := Hh (KP.refl w)
 have IH := Hh ih
 clear hne hr hp ih
 go_enter Tryz.func194, Tryz.ntmps194
 go_wp2_with fail
 refine mR (wk_here hE _ _ HP0.out) HR0 HN HK0 (fun _ _ h => ⟨rfl, h⟩) ?_
 rintro v1 s1 w1 HR1 HP1 - HK1
 have HBn := Hh (HdB.new w1 v1)
 have HPn := Hh (HP1.out.ext hE (below_alloc w1 (.cells #[.int .i64 v1.1, .int .i64 v1.2] 77)))
 have HKn := Hh (HK1.out.trans (KP.of_below (below_alloc w1 (.cells #[.int .i64 v1.1, .int .i64 v1.2] 77))))
 have HPo1 := Hh HP1.out
 have HKo1 := Hh HK1.out
 clear HP1 HK1
 have HP1 := Hh HPn.out
 have HK1 := Hh HKn.out
 clear HPn HKn
 simp only [hdV]
 obtain ⟨bh, hbh⟩ : ∃ b, w1.heap.size = b := ⟨_, rfl⟩
 have HBh1 := Hh (hbh ▸ HBn.out)
 clear HBn
 go_wp2_with fail
 try rw [hbh]
 refine mR (wk_typeAhead hE _ _ HP1.out) HR1 HN HK1 (fun _ _ h => ⟨rfl, h⟩) ?_
 rintro v2 s2 w2 HR2 HP2 hkk HK2
 have HBh2 := Hh (HBh1.out.kp hkk)
 clear hkk
 obtain ⟨bb2, hbb2⟩ : ∃ bb, v2 = bb := ⟨_, rfl⟩
 rw [hbb2] at HR2 ⊢
 clear hbb2
 cases bb2
 ·have HQ := Hh (q_iff HR2.out)
  clear HR2
  have HR2 := Hh HQ.out
  clear HQ
  go_wp2_with fail
  refine mQ ((IH.out n (Nat.le_refl _)).f_primary  _ _ HP2.out (qne HR2.out HN.out)) HR2 HN HK2 (fun _ _ h => ⟨rfl, h⟩) ?_
  rintro v3 s3 y3 w3 HR3 rfl HP3 hkk HK3
  have HBh3 := Hh (HBh2.out.kp hkk)
  clear hkk
  obtain ⟨d0, d1⟩ := HBh3.out.cells
  go_wp2_with fail
  have HT := Hh (show run E.L E.base n (.applied v1) _ = r from HR3.out)
  refine ((IH.out n (Nat.le_refl _)).f_applied v1 _ _ HP3.out (by rw [HT.out]; exact HN.out)).mono ?_
  intro e w4 he
  rw [HT.out] at he
  rcases qtail HN.out HK3.out he with ⟨v4, s4, y4, hr4, rfl, hy4, hp4, hk4⟩ | ⟨hr4, ⟨z, rfl⟩, hb4, hk4⟩
  case' inr => exact ⟨rfl, q_no hr4 hb4 hk4⟩
  obtain rfl := hy4
  have HT4 := Hh hr4
  have HP4 := Hh hp4
  have HK4 := Hh hk4
  clear he hr4 hp4 hk4 HT
  go_wp2_with fail
  exact ⟨rfl, .tuple #[], by simp [results, Tryz.results194, go_sem], q_ok HT4.out rfl HP4.out HK4.out⟩
 ·have HQ := Hh (q_ift HR2.out)
  clear HR2
  have HR2 := Hh HQ.out
  clear HQ
  go_wp2_with fail
  refine mQ ((IH.out n (Nat.le_refl _)).f_typeIn  _ _ HP2.out (qne HR2.out HN.out)) HR2 HN HK2 (fun _ _ h => ⟨rfl, h⟩) ?_
  rintro v5 s5 y5 w5 HR5 rfl HP5 hkk HK5
  have HBh5 := Hh (HBh2.out.kp hkk)
  clear hkk
  obtain ⟨d0, d1⟩ := HBh5.out.cells
  go_wp2_with fail
  have HT := Hh (show run E.L E.base n (.literal v1) _ = r from HR5.out)
  refine ((IH.out n (Nat.le_refl _)).f_literal v1 _ _ HP5.out (by rw [HT.out]; exact HN.out)).mono ?_
  intro e w6 he
  rw [HT.out] at he
  rcases qtail HN.out HK5.out he with ⟨v6, s6, y6, hr6, rfl, hy6, hp6, hk6⟩ | ⟨hr6, ⟨z, rfl⟩, hb6, hk6⟩
  case' inr => exact ⟨rfl, q_no hr6 hb6 hk6⟩
  obtain rfl := hy6
  have HT6 := Hh hr6
  have HP6 := Hh hp6
  have HK6 := Hh hk6
  clear he hr6 hp6 hk6 HT
  go_wp2_with fail
  exact ⟨rfl, .tuple #[], by simp [results, Tryz.results194, go_sem], q_ok HT6.out rfl HP6.out HK6.out⟩
theorem w_literal {E : En} (hE : E.ok) {n : Nat} (ih : ∀ m, m ≤ n → Wk E m) (h : Nat × Nat) (s : Ps) (w : World) (hp : PW E w s) (hne : run E.L E.base (n + 1) (.literal h) s ≠ .out) : Calls Tryz.prog 181 #[.pointer (some ⟨E.pb, 0, none⟩), hdV h] w (EndQ E vaU w (run E.L E.base (n + 1) (.literal h) s)) := by
 obtain ⟨r, hr⟩ : ∃ r, run E.L E.base (n + 1) (.literal h) s = r := ⟨_, rfl⟩
 rw [hr] at hne ⊢
 rw [run] at hr
 have HN := Hh hne
 have HR0 := Hh hr
 have HP0 := Hh hp
 have HK0 := Hh (KP.refl w)
 have IH := Hh ih
 clear hne hr hp ih
 simp only [hdV]
 go_enter Tryz.func181, Tryz.ntmps181
 have HBarg0 := Hh (HdB.new w h)
 have HPn := Hh (HP0.out.ext hE (below_alloc w (.cells #[.int .i64 h.1, .int .i64 h.2] 77)))
 have HKn := Hh (KP.of_below (below_alloc w (.cells #[.int .i64 h.1, .int .i64 h.2] 77)))
 clear HP0 HK0
 have HP0 := Hh HPn.out
 have HK0 := Hh HKn.out
 clear HPn HKn
 go_wp2_with fail
 refine mQ ((IH.out n (Nat.le_refl _)).f_braces  _ _ HP0.out (qne HR0.out HN.out)) HR0 HN HK0 (fun _ _ h => ⟨rfl, h⟩) ?_
 rintro v1 s1 y1 w1 HR1 rfl HP1 hkk HK1
 have HBarg1 := Hh (HBarg0.out.kp hkk)
 clear hkk
 obtain ⟨d0, d1⟩ := HBarg1.out.cells
 go_wp2_with fail
 refine mR (wk_node hE 53 h _ _ HP1.out (qne HR1.out HN.out)) HR1 HN HK1 (fun _ _ h => ⟨rfl, h⟩) ?_
 rintro v2 s2 w2 HR2 HP2 hkk HK2
 have HBarg2 := Hh (HBarg1.out.kp hkk)
 clear hkk
 try clear d0 d1
 skip
 obtain ⟨d0, d1⟩ := HBarg2.out.cells
 go_wp2_with fail
 have HT := Hh (show run E.L E.base n (.applied h) _ = r from HR2.out)
 refine ((IH.out n (Nat.le_refl _)).f_applied h _ _ HP2.out (by rw [HT.out]; exact HN.out)).mono ?_
 intro e w3 he
 rw [HT.out] at he
 rcases qtail HN.out HK2.out he with ⟨v3, s3, y3, hr3, rfl, hy3, hp3, hk3⟩ | ⟨hr3, ⟨z, rfl⟩, hb3, hk3⟩
 case' inr => exact ⟨rfl, q_no hr3 hb3 hk3⟩
 obtain rfl := hy3
 have HT3 := Hh hr3
 have HP3 := Hh hp3
 have HK3 := Hh hk3
 clear he hr3 hp3 hk3 HT
 go_wp2_with fail
 exact ⟨rfl, .tuple #[], by simp [results, Tryz.results181, go_sem], q_ok HT3.out rfl HP3.out HK3.out⟩
theorem w_choice {E : En} (hE : E.ok) {n : Nat} (ih : ∀ m, m ≤ n → Wk E m)  (s : Ps) (w : World) (hp : PW E w s) (hne : run E.L E.base (n + 1) (.choice) s ≠ .out) : Calls Tryz.prog 72 #[.pointer (some ⟨E.pb, 0, none⟩)] w (EndQ E vaB w (run E.L E.base (n + 1) (.choice) s)) := by
 obtain ⟨r, hr⟩ : ∃ r, run E.L E.base (n + 1) (.choice) s = r := ⟨_, rfl⟩
 rw [hr] at hne ⊢
 rw [run] at hr
 have HN := Hh hne
 have HR0 := Hh hr
 have HP0 := Hh hp
 have HK0 := Hh (KP.refl w)
 have IH := Hh ih
 clear hne hr hp ih
 go_enter Tryz.func72, Tryz.ntmps72
 go_wp2_with fail
 refine mR (wk_here hE _ _ HP0.out) HR0 HN HK0 (fun _ _ h => ⟨rfl, h⟩) ?_
 rintro v1 s1 w1 HR1 HP1 - HK1
 have HBn := Hh (HdB.new w1 v1)
 have HPn := Hh (HP1.out.ext hE (below_alloc w1 (.cells #[.int .i64 v1.1, .int .i64 v1.2] 77)))
 have HKn := Hh (HK1.out.trans (KP.of_below (below_alloc w1 (.cells #[.int .i64 v1.1, .int .i64 v1.2] 77))))
 have HPo1 := Hh HP1.out
 have HKo1 := Hh HK1.out
 clear HP1 HK1
 have HP1 := Hh HPn.out
 have HK1 := Hh HKn.out
 clear HPn HKn
 simp only [hdV]
 obtain ⟨bh, hbh⟩ : ∃ b, w1.heap.size = b := ⟨_, rfl⟩
 have HBh1 := Hh (hbh ▸ HBn.out)
 clear HBn
 go_wp2_with fail
 try rw [hbh]
 refine mQ ((IH.out n (Nat.le_refl _)).f_binary 36 _ _ HP1.out (qne HR1.out HN.out)) HR1 HN HK1 (fun _ _ h => ⟨rfl, h⟩) ?_
 rintro v2 s2 y2 w2 HR2 rfl HP2 hkk HK2
 have HBh2 := Hh (HBh1.out.kp hkk)
 clear hkk
 go_wp2_with fail
 refine mR (wk_took hE [63] _ _ HP2.out) HR2 HN HK2 (fun _ _ h => ⟨rfl, h⟩) ?_
 rintro v3 s3 w3 HR3 HP3 hkk HK3
 have HBh3 := Hh (HBh2.out.kp hkk)
 clear hkk
 obtain ⟨bb3, hbb3⟩ : ∃ bb, v3 = bb := ⟨_, rfl⟩
 rw [hbb3] at HR3 ⊢
 clear hbb3
 cases bb3
 ·have HQ := Hh (q_iff HR3.out)
  clear HR3
  have HR3 := Hh HQ.out
  clear HQ
  go_wp2_with fail
  exact ⟨rfl, .bool v2.bool, by simp [results, Tryz.results72, go_sem], q_ok (q_pure HR3.out) rfl HP3.out HK3.out⟩
 ·have HQ := Hh (q_ift HR3.out)
  clear HR3
  have HR3 := Hh HQ.out
  clear HQ
  go_wp2_with fail
  refine mQ ((IH.out n (Nat.le_refl _)).f_expr  _ _ HP3.out (qne HR3.out HN.out)) HR3 HN HK3 (fun _ _ h => ⟨rfl, h⟩) ?_
  rintro v4 s4 y4 w4 HR4 rfl HP4 hkk HK4
  have HBh4 := Hh (HBh3.out.kp hkk)
  clear hkk
  go_wp2_with fail
  refine mR (wk_need hE [58] _ _ HP4.out) HR4 HN HK4 (fun _ _ h => ⟨rfl, h⟩) ?_
  rintro v5 s5 w5 HR5 HP5 hkk HK5
  have HBh5 := Hh (HBh4.out.kp hkk)
  clear hkk
  go_wp2_with fail
  refine mQ ((IH.out n (Nat.le_refl _)).f_choice  _ _ HP5.out (qne HR5.out HN.out)) HR5 HN HK5 (fun _ _ h => ⟨rfl, h⟩) ?_
  rintro v6 s6 y6 w6 HR6 rfl HP6 hkk HK6
  have HBh6 := Hh (HBh5.out.kp hkk)
  clear hkk
  obtain ⟨d0, d1⟩ := HBh6.out.cells
  go_wp2_with fail
  refine mR (wk_node hE 35 v1 _ _ HP6.out (qne HR6.out HN.out)) HR6 HN HK6 (fun _ _ h => ⟨rfl, h⟩) ?_
  rintro v7 s7 w7 HR7 HP7 hkk HK7
  have HBh7 := Hh (HBh6.out.kp hkk)
  clear hkk
  try clear d0 d1
  skip
  go_wp2_with fail
  exact ⟨rfl, .bool false, by simp [results, Tryz.results72, go_sem], q_ok (q_pure HR7.out) rfl HP7.out HK7.out⟩
end Go.Proofs.YtlboejdhmggjpaaGreat.Pp

/- WkP -/
namespace Go.Proofs.YtlboejdhmggjpaaGreat.Pp
set_option maxRecDepth 100000
set_option maxHeartbeats 16000000
open Go.RowKit Go.BigFrame Go.Proofs.YtlboejdhmggjpaaGreat

theorem w_assign {E : En} (hE : E.ok) {n : Nat} (ih : ∀ m, m ≤ n → Wk E m)  (s : Ps) (w : World) (hp : PW E w s) (hne : run E.L E.base (n + 1) (.assign) s ≠ .out) : Calls Tryz.prog 131 #[.pointer (some ⟨E.pb, 0, none⟩)] w (EndQ E vaU w (run E.L E.base (n + 1) (.assign) s)) := by
 obtain ⟨r, hr⟩ : ∃ r, run E.L E.base (n + 1) (.assign) s = r := ⟨_, rfl⟩
 rw [hr] at hne ⊢
 rw [run] at hr
 have HN := Hh hne
 have HR0 := Hh hr
 have HP0 := Hh hp
 have HK0 := Hh (KP.refl w)
 have IH := Hh ih
 clear hne hr hp ih
 go_enter Tryz.func131, Tryz.ntmps131
 go_wp2_with fail
 refine mR (wk_here hE _ _ HP0.out) HR0 HN HK0 (fun _ _ h => ⟨rfl, h⟩) ?_
 rintro v1 s1 w1 HR1 HP1 - HK1
 have HBn := Hh (HdB.new w1 v1)
 have HPn := Hh (HP1.out.ext hE (below_alloc w1 (.cells #[.int .i64 v1.1, .int .i64 v1.2] 77)))
 have HKn := Hh (HK1.out.trans (KP.of_below (below_alloc w1 (.cells #[.int .i64 v1.1, .int .i64 v1.2] 77))))
 have HPo1 := Hh HP1.out
 have HKo1 := Hh HK1.out
 clear HP1 HK1
 have HP1 := Hh HPn.out
 have HK1 := Hh HKn.out
 clear HPn HKn
 simp only [hdV]
 obtain ⟨bh, hbh⟩ : ∃ b, w1.heap.size = b := ⟨_, rfl⟩
 have HBh1 := Hh (hbh ▸ HBn.out)
 clear HBn
 go_wp2_with fail
 try rw [hbh]
 refine mQ ((IH.out n (Nat.le_refl _)).f_choice  _ _ HP1.out (qne HR1.out HN.out)) HR1 HN HK1 (fun _ _ h => ⟨rfl, h⟩) ?_
 rintro v2 s2 y2 w2 HR2 rfl HP2 hkk HK2
 have HBh2 := Hh (HBh1.out.kp hkk)
 clear hkk
 obtain ⟨ab2, hab2⟩ : ∃ bb, v2.bool = bb := ⟨_, rfl⟩
 rw [hab2] at HR2 ⊢
 clear hab2
 cases ab2
 ·have HQ := Hh (qone HR2.out rfl)
  have hq := HQ.out
  simp only [Bool.false_and] at hq
  clear HR2 HQ
  have HR2 := Hh (q_iff hq)
  clear hq
  go_wp2_with fail
  exact ⟨rfl, .tuple #[], by simp [results, Tryz.results131, go_sem], q_ok (q_pure HR2.out) rfl HP2.out HK2.out⟩
 ·go_wp2_with fail
  have hq := HR2.out
  simp only [Bool.true_and] at hq
  clear HR2
  have HR2 := Hh hq
  clear hq
  refine mR (wk_assigns hE _ _ HP2.out) HR2 HN HK2 (fun _ _ h => ⟨rfl, h⟩) ?_
  rintro v3 s3 w3 HR3 HP3 hkk HK3
  have HBh3 := Hh (HBh2.out.kp hkk)
  clear hkk
  obtain ⟨bb3, hbb3⟩ : ∃ bb, v3 = bb := ⟨_, rfl⟩
  rw [hbb3] at HR3 ⊢
  clear hbb3
  cases bb3
  ·have HQ := Hh (q_iff HR3.out)
   clear HR3
   have HR3 := Hh HQ.out
   clear HQ
   go_wp2_with fail
   exact ⟨rfl, .tuple #[], by simp [results, Tryz.results131, go_sem], q_ok (q_pure HR3.out) rfl HP3.out HK3.out⟩
  ·have HQ := Hh (q_ift HR3.out)
   clear HR3
   have HR3 := Hh HQ.out
   clear HQ
   obtain ⟨hle4, hr4⟩ := q_step HR3.out HN.out
   obtain ⟨c1, f1, -⟩ := HP3.out.at
   have hpb := HP3.out.lt
   obtain ⟨q41, q42⟩ := HP3.out.on hE hle4
   have hLn := hE.len
   obtain ⟨a4, hat4⟩ : ∃ a, Ps.at' s3 = a := ⟨_, rfl⟩
   rw [hat4] at c1 hle4 hr4 q41 q42
   have hi : a4 < 100000 := by omega
   obtain ⟨s4, hs4⟩ : ∃ t : Ps, (⟨a4 + 1, s3.done, s3.nm⟩ : Ps) = t := ⟨_, rfl⟩
   rw [hs4] at hr4 q41
   clear hs4
   have HR4 := Hh hr4
   have HP4 := Hh q41
   have HK4 := Hh (HK3.out.trans q42)
   have HBh4 := Hh (HBh3.out.kp q42)
   have HAT4 := Hh hat4
   clear q41 q42 hr4 hle4 hLn hat4
   go_wp2_with fail
   try clear c1 f1 hpb hi
   refine mQ ((IH.out n (Nat.le_refl _)).f_assign  _ _ HP4.out (qne HR4.out HN.out)) HR4 HN HK4 (fun _ _ h => ⟨rfl, h⟩) ?_
   rintro v5 s5 y5 w5 HR5 rfl HP5 hkk HK5
   have HBh5 := Hh (HBh4.out.kp hkk)
   clear hkk
   obtain ⟨d0, d1⟩ := HBh5.out.cells
   go_wp2_with fail
   refine mR (wk_node hE 34 v1 _ _ HP5.out (qne HR5.out HN.out)) HR5 HN HK5 (fun _ _ h => ⟨rfl, h⟩) ?_
   rintro v6 s6 w6 HR6 HP6 hkk HK6
   have HBh6 := Hh (HBh5.out.kp hkk)
   clear hkk
   try clear d0 d1
   skip
   go_wp2_with fail
   exact ⟨rfl, .tuple #[], by simp [results, Tryz.results131, go_sem], q_ok (q_pure HR6.out) rfl HP6.out HK6.out⟩
theorem w_call {E : En} (hE : E.ok) {n : Nat} (ih : ∀ m, m ≤ n → Wk E m)  (s : Ps) (w : World) (hp : PW E w s) (hne : run E.L E.base (n + 1) (.call) s ≠ .out) : Calls Tryz.prog 200 #[.pointer (some ⟨E.pb, 0, none⟩)] w (EndQ E vaU w (run E.L E.base (n + 1) (.call) s)) := by
 obtain ⟨r, hr⟩ : ∃ r, run E.L E.base (n + 1) (.call) s = r := ⟨_, rfl⟩
 rw [hr] at hne ⊢
 rw [run] at hr
 have HN := Hh hne
 have HR0 := Hh hr
 have HP0 := Hh hp
 have HK0 := Hh (KP.refl w)
 have IH := Hh ih
 clear hne hr hp ih
 go_enter Tryz.func200, Tryz.ntmps200
 go_wp2_with fail
 refine mR (wk_need hE [40] _ _ HP0.out) HR0 HN HK0 (fun _ _ h => ⟨rfl, h⟩) ?_
 rintro v1 s1 w1 HR1 HP1 - HK1
 go_wp2_with fail
 refine mR (wk_took hE [41] _ _ HP1.out) HR1 HN HK1 (fun _ _ h => ⟨rfl, h⟩) ?_
 rintro v2 s2 w2 HR2 HP2 - HK2
 obtain ⟨bb2, hbb2⟩ : ∃ bb, v2 = bb := ⟨_, rfl⟩
 rw [hbb2] at HR2 ⊢
 clear hbb2
 cases bb2
 ·have HQ := Hh (q_iff HR2.out)
  clear HR2
  have HR2 := Hh HQ.out
  clear HQ
  go_wp2_with fail
  refine mQ ((IH.out n (Nat.le_refl _)).f_assign  _ _ HP2.out (qne HR2.out HN.out)) HR2 HN HK2 (fun _ _ h => ⟨rfl, h⟩) ?_
  rintro v3 s3 y3 w3 HR3 rfl HP3 - HK3
  go_wp2_with fail
  go_loopg [] n (fun k wr => ∃ s', k ≤ n ∧ (run E.L E.base k (.callR) >>= fun _ => (do need E.L [41]; pure Va.un)) s' = r ∧ PW E wr s' ∧ KP w wr)
  case atStart => exact ⟨_, Nat.le_refl _, HR3.out, HP3.out, HK3.out⟩
  case round =>
   obtain ⟨s4, hgn4, hr4, hp4, hk4⟩ := hrel
   cases gk with
   | zero => exact absurd (q_0 hr4) HN.out
   | succ g4 =>
    rw [run] at hr4
    have HR4 := Hh hr4
    have HP4 := Hh hp4
    have HK4 := Hh hk4
    clear hr4 hp4 hk4
    with_reducible replace HR4 := Hh (q_assoc HR4.out)
    go_wp2_with fail
    refine mR (wk_took hE [44] _ _ HP4.out) HR4 HN HK4 (fun _ _ h => ⟨rfl, h⟩) ?_
    rintro v5 s5 w5 HR5 HP5 - HK5
    obtain ⟨bb5, hbb5⟩ : ∃ bb, v5 = bb := ⟨_, rfl⟩
    rw [hbb5] at HR5 ⊢
    clear hbb5
    cases bb5
    ·have HQ := Hh (q_iffK HR5.out)
     clear HR5
     have HR5 := Hh HQ.out
     clear HQ
     go_wp2_with fail
     with_reducible replace HR5 := Hh (q_pb HR5.out)
     refine mR (wk_need hE [41] _ _ HP5.out) HR5 HN HK5 (fun _ _ h => ⟨rfl, h⟩) ?_
     rintro v6 s6 w6 HR6 HP6 - HK6
     go_wp2_with fail
     exact ⟨rfl, .tuple #[], by simp [results, Tryz.results200, go_sem], q_ok (q_pure HR6.out) rfl HP6.out HK6.out⟩
    ·have HQ := Hh (q_iftK HR5.out)
     clear HR5
     have HR5 := Hh HQ.out
     clear HQ
     with_reducible replace HR5 := Hh (q_assoc HR5.out)
     go_wp2_with fail
     refine mQ ((IH.out g4 (by omega)).f_assign  _ _ HP5.out (qne HR5.out HN.out)) HR5 HN HK5 (fun _ _ h => ⟨rfl, h⟩) ?_
     rintro v7 s7 y7 w7 HR7 rfl HP7 - HK7
     go_wp2_with fail
     go_roundg g4
     case measure => omega
     case rel => exact ⟨_, by omega, HR7.out, HP7.out, HK7.out⟩
 ·have HQ := Hh (q_ift HR2.out)
  clear HR2
  have HR2 := Hh HQ.out
  clear HQ
  go_wp2_with fail
  exact ⟨rfl, .tuple #[], by simp [results, Tryz.results200, go_sem], q_ok (q_pure HR2.out) rfl HP2.out HK2.out⟩
theorem w_generic {E : En} (hE : E.ok) {n : Nat} (ih : ∀ m, m ≤ n → Wk E m)  (s : Ps) (w : World) (hp : PW E w s) (hne : run E.L E.base (n + 1) (.generic) s ≠ .out) : Calls Tryz.prog 201 #[.pointer (some ⟨E.pb, 0, none⟩)] w (EndQ E vaU w (run E.L E.base (n + 1) (.generic) s)) := by
 obtain ⟨r, hr⟩ : ∃ r, run E.L E.base (n + 1) (.generic) s = r := ⟨_, rfl⟩
 rw [hr] at hne ⊢
 rw [run] at hr
 have HN := Hh hne
 have HR0 := Hh hr
 have HP0 := Hh hp
 have HK0 := Hh (KP.refl w)
 have IH := Hh ih
 clear hne hr hp ih
 go_enter Tryz.func201, Tryz.ntmps201
 go_wp2_with fail
 refine mR (wk_need hE [40] _ _ HP0.out) HR0 HN HK0 (fun _ _ h => ⟨rfl, h⟩) ?_
 rintro v1 s1 w1 HR1 HP1 - HK1
 go_wp2_with fail
 refine mQ ((IH.out n (Nat.le_refl _)).f_assign  _ _ HP1.out (qne HR1.out HN.out)) HR1 HN HK1 (fun _ _ h => ⟨rfl, h⟩) ?_
 rintro v2 s2 y2 w2 HR2 rfl HP2 - HK2
 go_wp2_with fail
 refine mR (wk_need hE [44] _ _ HP2.out) HR2 HN HK2 (fun _ _ h => ⟨rfl, h⟩) ?_
 rintro v3 s3 w3 HR3 HP3 - HK3
 go_wp2_with fail
 refine mQ ((IH.out n (Nat.le_refl _)).f_assoc  _ _ HP3.out (qne HR3.out HN.out)) HR3 HN HK3 (fun _ _ h => ⟨rfl, h⟩) ?_
 rintro v4 s4 y4 w4 HR4 rfl HP4 - HK4
 go_wp2_with fail
 go_loopg [] n (fun k wr => ∃ s', k ≤ n ∧ (run E.L E.base k (.genericR) >>= fun _ => (do need E.L [41]; pure Va.un)) s' = r ∧ PW E wr s' ∧ KP w wr)
 case atStart => exact ⟨_, Nat.le_refl _, HR4.out, HP4.out, HK4.out⟩
 case round =>
  obtain ⟨s5, hgn5, hr5, hp5, hk5⟩ := hrel
  cases gk with
  | zero => exact absurd (q_0 hr5) HN.out
  | succ g5 =>
   rw [run] at hr5
   have HR5 := Hh hr5
   have HP5 := Hh hp5
   have HK5 := Hh hk5
   clear hr5 hp5 hk5
   with_reducible replace HR5 := Hh (q_assoc HR5.out)
   go_wp2_with fail
   refine mR (wk_took hE [44] _ _ HP5.out) HR5 HN HK5 (fun _ _ h => ⟨rfl, h⟩) ?_
   rintro v6 s6 w6 HR6 HP6 - HK6
   obtain ⟨bb6, hbb6⟩ : ∃ bb, v6 = bb := ⟨_, rfl⟩
   rw [hbb6] at HR6 ⊢
   clear hbb6
   cases bb6
   ·have HQ := Hh (q_iffK HR6.out)
    clear HR6
    have HR6 := Hh HQ.out
    clear HQ
    go_wp2_with fail
    with_reducible replace HR6 := Hh (q_pb HR6.out)
    refine mR (wk_need hE [41] _ _ HP6.out) HR6 HN HK6 (fun _ _ h => ⟨rfl, h⟩) ?_
    rintro v7 s7 w7 HR7 HP7 - HK7
    go_wp2_with fail
    exact ⟨rfl, .tuple #[], by simp [results, Tryz.results201, go_sem], q_ok (q_pure HR7.out) rfl HP7.out HK7.out⟩
   ·have HQ := Hh (q_iftK HR6.out)
    clear HR6
    have HR6 := Hh HQ.out
    clear HQ
    with_reducible replace HR6 := Hh (q_assoc HR6.out)
    go_wp2_with fail
    refine mQ ((IH.out g5 (by omega)).f_assoc  _ _ HP6.out (qne HR6.out HN.out)) HR6 HN HK6 (fun _ _ h => ⟨rfl, h⟩) ?_
    rintro v8 s8 y8 w8 HR8 rfl HP8 - HK8
    go_wp2_with fail
    go_roundg g5
    case measure => omega
    case rel => exact ⟨_, by omega, HR8.out, HP8.out, HK8.out⟩
theorem w_assoc {E : En} (hE : E.ok) {n : Nat} (ih : ∀ m, m ≤ n → Wk E m)  (s : Ps) (w : World) (hp : PW E w s) (hne : run E.L E.base (n + 1) (.assoc) s ≠ .out) : Calls Tryz.prog 202 #[.pointer (some ⟨E.pb, 0, none⟩)] w (EndQ E vaU w (run E.L E.base (n + 1) (.assoc) s)) := by
 obtain ⟨r, hr⟩ : ∃ r, run E.L E.base (n + 1) (.assoc) s = r := ⟨_, rfl⟩
 rw [hr] at hne ⊢
 rw [run] at hr
 have HN := Hh hne
 have HR0 := Hh hr
 have HP0 := Hh hp
 have HK0 := Hh (KP.refl w)
 have IH := Hh ih
 clear hne hr hp ih
 go_enter Tryz.func202, Tryz.ntmps202
 go_wp2_with fail
 refine mR (wk_here hE _ _ HP0.out) HR0 HN HK0 (fun _ _ h => ⟨rfl, h⟩) ?_
 rintro v1 s1 w1 HR1 HP1 - HK1
 have HBn := Hh (HdB.new w1 v1)
 have HPn := Hh (HP1.out.ext hE (below_alloc w1 (.cells #[.int .i64 v1.1, .int .i64 v1.2] 77)))
 have HKn := Hh (HK1.out.trans (KP.of_below (below_alloc w1 (.cells #[.int .i64 v1.1, .int .i64 v1.2] 77))))
 have HPo1 := Hh HP1.out
 have HKo1 := Hh HK1.out
 clear HP1 HK1
 have HP1 := Hh HPn.out
 have HK1 := Hh HKn.out
 clear HPn HKn
 simp only [hdV]
 obtain ⟨bh, hbh⟩ : ∃ b, w1.heap.size = b := ⟨_, rfl⟩
 have HBh1 := Hh (hbh ▸ HBn.out)
 clear HBn
 go_wp2_with fail
 try rw [hbh]
 refine mR (wk_tookWord hE [100, 101, 102, 97, 117, 108, 116] _ _ HP1.out) HR1 HN HK1 (fun _ _ h => ⟨rfl, h⟩) ?_
 rintro v2 s2 w2 HR2 HP2 hkk HK2
 have HBh2 := Hh (HBh1.out.kp hkk)
 clear hkk
 obtain ⟨bb2, hbb2⟩ : ∃ bb, v2 = bb := ⟨_, rfl⟩
 rw [hbb2] at HR2 ⊢
 clear hbb2
 cases bb2
 focus
  have HQ := Hh (q_iff HR2.out)
  clear HR2
  have HR2 := Hh HQ.out
  clear HQ
  go_wp2_with fail
  refine mQ ((IH.out n (Nat.le_refl _)).f_typeName  _ _ HP2.out (qne HR2.out HN.out)) HR2 HN HK2 (fun _ _ h => ⟨rfl, h⟩) ?_
  rintro v3 s3 y3 w3 HR3 rfl HP3 hkk HK3
  have HBh3 := Hh (HBh2.out.kp hkk)
  clear hkk
  go_wp2_with fail
  refine ?S1a
 rotate_left 1
 focus
  have HQ := Hh (q_ift HR2.out)
  clear HR2
  have HR2 := Hh HQ.out
  clear HQ
  go_wp2_with fail
  with_reducible replace HR2 := Hh (q_pb HR2.out)
  have HP3 := HP2
  have HR3 := HR2
  have HK3 := HK2
  have HBh3 := HBh2
  refine ?S1b
 case S1a | S1b =>
  refine mR (wk_need hE [58] _ _ HP3.out) HR3 HN HK3 (fun _ _ h => ⟨rfl, h⟩) ?_
  rintro v4 s4 w4 HR4 HP4 hkk HK4
  have HBh4 := Hh (HBh3.out.kp hkk)
  clear hkk
  go_wp2_with fail
  refine mQ ((IH.out n (Nat.le_refl _)).f_assign  _ _ HP4.out (qne HR4.out HN.out)) HR4 HN HK4 (fun _ _ h => ⟨rfl, h⟩) ?_
  rintro v5 s5 y5 w5 HR5 rfl HP5 hkk HK5
  have HBh5 := Hh (HBh4.out.kp hkk)
  clear hkk
  obtain ⟨d0, d1⟩ := HBh5.out.cells
  go_wp2_with fail
  refine mR (wk_node hE 55 v1 _ _ HP5.out (qne HR5.out HN.out)) HR5 HN HK5 (fun _ _ h => ⟨rfl, h⟩) ?_
  rintro v6 s6 w6 HR6 HP6 hkk HK6
  have HBh6 := Hh (HBh5.out.kp hkk)
  clear hkk
  try clear d0 d1
  skip
  go_wp2_with fail
  exact ⟨rfl, .tuple #[], by simp [results, Tryz.results202, go_sem], q_ok (q_pure HR6.out) rfl HP6.out HK6.out⟩
theorem w_braces {E : En} (hE : E.ok) {n : Nat} (ih : ∀ m, m ≤ n → Wk E m)  (s : Ps) (w : World) (hp : PW E w s) (hne : run E.L E.base (n + 1) (.braces) s ≠ .out) : Calls Tryz.prog 130 #[.pointer (some ⟨E.pb, 0, none⟩)] w (EndQ E vaU w (run E.L E.base (n + 1) (.braces) s)) := by
 obtain ⟨r, hr⟩ : ∃ r, run E.L E.base (n + 1) (.braces) s = r := ⟨_, rfl⟩
 rw [hr] at hne ⊢
 rw [run] at hr
 have HN := Hh hne
 have HR0 := Hh hr
 have HP0 := Hh hp
 have HK0 := Hh (KP.refl w)
 have IH := Hh ih
 clear hne hr hp ih
 go_enter Tryz.func130, Tryz.ntmps130
 go_wp2_with fail
 refine mR (wk_here hE _ _ HP0.out) HR0 HN HK0 (fun _ _ h => ⟨rfl, h⟩) ?_
 rintro v1 s1 w1 HR1 HP1 - HK1
 have HBn := Hh (HdB.new w1 v1)
 have HPn := Hh (HP1.out.ext hE (below_alloc w1 (.cells #[.int .i64 v1.1, .int .i64 v1.2] 77)))
 have HKn := Hh (HK1.out.trans (KP.of_below (below_alloc w1 (.cells #[.int .i64 v1.1, .int .i64 v1.2] 77))))
 have HPo1 := Hh HP1.out
 have HKo1 := Hh HK1.out
 clear HP1 HK1
 have HP1 := Hh HPn.out
 have HK1 := Hh HKn.out
 clear HPn HKn
 simp only [hdV]
 obtain ⟨bh, hbh⟩ : ∃ b, w1.heap.size = b := ⟨_, rfl⟩
 have HBh1 := Hh (hbh ▸ HBn.out)
 clear HBn
 go_wp2_with fail
 try rw [hbh]
 refine mR (wk_need hE [123] _ _ HP1.out) HR1 HN HK1 (fun _ _ h => ⟨rfl, h⟩) ?_
 rintro v2 s2 w2 HR2 HP2 hkk HK2
 have HBh2 := Hh (HBh1.out.kp hkk)
 clear hkk
 go_wp2_with fail
 refine mQ ((IH.out n (Nat.le_refl _)).f_item  _ _ HP2.out (qne HR2.out HN.out)) HR2 HN HK2 (fun _ _ h => ⟨rfl, h⟩) ?_
 rintro v3 s3 y3 w3 HR3 rfl HP3 hkk HK3
 have HBh3 := Hh (HBh2.out.kp hkk)
 clear hkk
 go_wp2_with fail
 go_loopg [] n (fun k wr => ∃ s', k ≤ n ∧ (run E.L E.base k (.bracesR) >>= fun _ => (do need E.L [125]; node E.L 19 v1; pure Va.un)) s' = r ∧ PW E wr s' ∧ KP w wr ∧ HdB wr bh v1)
 case atStart => exact ⟨_, Nat.le_refl _, HR3.out, HP3.out, HK3.out, HBh3.out⟩
 case round =>
  obtain ⟨s4, hgn4, hr4, hp4, hk4, hhh4⟩ := hrel
  cases gk with
  | zero => exact absurd (q_0 hr4) HN.out
  | succ g4 =>
   rw [run] at hr4
   have HR4 := Hh hr4
   have HP4 := Hh hp4
   have HK4 := Hh hk4
   have HBh4 := Hh hhh4
   clear hr4 hp4 hk4 hhh4
   with_reducible replace HR4 := Hh (q_assoc HR4.out)
   go_wp2_with fail
   refine mR (wk_took hE [44] _ _ HP4.out) HR4 HN HK4 (fun _ _ h => ⟨rfl, h⟩) ?_
   rintro v5 s5 w5 HR5 HP5 hkk HK5
   have HBh5 := Hh (HBh4.out.kp hkk)
   clear hkk
   obtain ⟨bb5, hbb5⟩ : ∃ bb, v5 = bb := ⟨_, rfl⟩
   rw [hbb5] at HR5 ⊢
   clear hbb5
   cases bb5
   focus
    have HQ := Hh (q_iffK HR5.out)
    clear HR5
    refine ?S2a
   rotate_left 1
   focus
    have HQ := Hh (q_iftK HR5.out)
    clear HR5
    have HR5 := Hh HQ.out
    clear HQ
    with_reducible replace HR5 := Hh (q_assoc HR5.out)
    go_wp2_with fail
    refine mR (wk_sign hE 0 [125] _ _ (by omega) HP5.out) HR5 HN HK5 (fun _ _ h => ⟨rfl, h⟩) ?_
    rintro v8 s8 w8 HR8 HP8 hkk HK8
    have HBh8 := Hh (HBh5.out.kp hkk)
    clear hkk
    obtain ⟨bb8, hbb8⟩ : ∃ bb, v8 = bb := ⟨_, rfl⟩
    rw [hbb8] at HR8 ⊢
    clear hbb8
    cases bb8
    ·have HQ := Hh (q_iffK HR8.out)
     clear HR8
     have HR8 := Hh HQ.out
     clear HQ
     with_reducible replace HR8 := Hh (q_assoc HR8.out)
     go_wp2_with fail
     refine mQ ((IH.out g4 (by omega)).f_item  _ _ HP8.out (qne HR8.out HN.out)) HR8 HN HK8 (fun _ _ h => ⟨rfl, h⟩) ?_
     rintro v9 s9 y9 w9 HR9 rfl HP9 hkk HK9
     have HBh9 := Hh (HBh8.out.kp hkk)
     clear hkk
     go_wp2_with fail
     go_roundg g4
     case measure => omega
     case rel => exact ⟨_, by omega, HR9.out, HP9.out, HK9.out, HBh9.out⟩
    focus
     have HQ := Hh (q_iftK HR8.out)
     clear HR8
     have HP5 := HP8
     have HK5 := HK8
     have HBh5 := HBh8
     refine ?S2b
   case S2a | S2b =>
    have HR5 := Hh HQ.out
    clear HQ
    go_wp2_with fail
    with_reducible replace HR5 := Hh (q_pb HR5.out)
    refine mR (wk_need hE [125] _ _ HP5.out) HR5 HN HK5 (fun _ _ h => ⟨rfl, h⟩) ?_
    rintro v6 s6 w6 HR6 HP6 hkk HK6
    have HBh6 := Hh (HBh5.out.kp hkk)
    clear hkk
    obtain ⟨d0, d1⟩ := HBh6.out.cells
    go_wp2_with fail
    refine mR (wk_node hE 19 v1 _ _ HP6.out (qne HR6.out HN.out)) HR6 HN HK6 (fun _ _ h => ⟨rfl, h⟩) ?_
    rintro v7 s7 w7 HR7 HP7 hkk HK7
    have HBh7 := Hh (HBh6.out.kp hkk)
    clear hkk
    try clear d0 d1
    skip
    go_wp2_with fail
    exact ⟨rfl, .tuple #[], by simp [results, Tryz.results130, go_sem], q_ok (q_pure HR7.out) rfl HP7.out HK7.out⟩
theorem w_desig {E : En} (hE : E.ok) {n : Nat} (ih : ∀ m, m ≤ n → Wk E m)  (s : Ps) (w : World) (hp : PW E w s) (hne : run E.L E.base (n + 1) (.desig) s ≠ .out) : Calls Tryz.prog 183 #[.pointer (some ⟨E.pb, 0, none⟩)] w (EndQ E vaB w (run E.L E.base (n + 1) (.desig) s)) := by
 obtain ⟨r, hr⟩ : ∃ r, run E.L E.base (n + 1) (.desig) s = r := ⟨_, rfl⟩
 rw [hr] at hne ⊢
 rw [run] at hr
 have HN := Hh hne
 have HR0 := Hh hr
 have HP0 := Hh hp
 have HK0 := Hh (KP.refl w)
 have IH := Hh ih
 clear hne hr hp ih
 go_enter Tryz.func183, Tryz.ntmps183
 go_wp2_with fail
 refine mR (wk_here hE _ _ HP0.out) HR0 HN HK0 (fun _ _ h => ⟨rfl, h⟩) ?_
 rintro v1 s1 w1 HR1 HP1 - HK1
 have HBn := Hh (HdB.new w1 v1)
 have HPn := Hh (HP1.out.ext hE (below_alloc w1 (.cells #[.int .i64 v1.1, .int .i64 v1.2] 77)))
 have HKn := Hh (HK1.out.trans (KP.of_below (below_alloc w1 (.cells #[.int .i64 v1.1, .int .i64 v1.2] 77))))
 have HPo1 := Hh HP1.out
 have HKo1 := Hh HK1.out
 clear HP1 HK1
 have HP1 := Hh HPn.out
 have HK1 := Hh HKn.out
 clear HPn HKn
 simp only [hdV]
 obtain ⟨bh, hbh⟩ : ∃ b, w1.heap.size = b := ⟨_, rfl⟩
 have HBh1 := Hh (hbh ▸ HBn.out)
 clear HBn
 go_wp2_with fail
 try rw [hbh]
 refine mR (wk_took hE [91] _ _ HP1.out) HR1 HN HK1 (fun _ _ h => ⟨rfl, h⟩) ?_
 rintro v2 s2 w2 HR2 HP2 hkk HK2
 have HBh2 := Hh (HBh1.out.kp hkk)
 clear hkk
 obtain ⟨bb2, hbb2⟩ : ∃ bb, v2 = bb := ⟨_, rfl⟩
 rw [hbb2] at HR2 ⊢
 clear hbb2
 cases bb2
 ·have HQ := Hh (q_iff HR2.out)
  clear HR2
  have HR2 := Hh HQ.out
  clear HQ
  go_wp2_with fail
  refine mR (wk_took hE [46] _ _ HP2.out) HR2 HN HK2 (fun _ _ h => ⟨rfl, h⟩) ?_
  rintro v3 s3 w3 HR3 HP3 hkk HK3
  have HBh3 := Hh (HBh2.out.kp hkk)
  clear hkk
  obtain ⟨bb3, hbb3⟩ : ∃ bb, v3 = bb := ⟨_, rfl⟩
  rw [hbb3] at HR3 ⊢
  clear hbb3
  cases bb3
  ·have HQ := Hh (q_iff HR3.out)
   clear HR3
   have HR3 := Hh HQ.out
   clear HQ
   go_wp2_with fail
   exact ⟨rfl, .bool false, by simp [results, Tryz.results183, go_sem], q_ok (q_pure HR3.out) rfl HP3.out HK3.out⟩
  ·have HQ := Hh (q_ift HR3.out)
   clear HR3
   have HR3 := Hh HQ.out
   clear HQ
   go_wp2_with fail
   refine (wk_name hE _ _ HP3.out).mono ?_
   intro e w4 he
   rcases qstepR (x := name' E.L) HR3.out HN.out HK3.out he with ⟨v4, s4, hr4, hxe4, rfl, hp4, hkk, hk4⟩ | ⟨hr4, ⟨z, rfl⟩, hb4, hk4⟩
   case' inr => exact ⟨rfl, q_no hr4 hb4 hk4⟩
   have HR4 := Hh hr4
   have HP4 := Hh hp4
   have HK4 := Hh hk4
   have HBh4 := Hh (HBh3.out.kp hkk)
   clear he hr4 hp4 hkk hk4
   have HLn4 := Hh (name_len hE hxe4)
   clear hxe4
   simp only [stV]
   obtain ⟨d0, d1⟩ := HBh4.out.cells
   go_wp2_with fail
   refine mR (wk_node hE 21 v1 _ _ HP4.out (qne HR4.out HN.out)) HR4 HN HK4 (fun _ _ h => ⟨rfl, h⟩) ?_
   rintro v5 s5 w5 HR5 HP5 hkk HK5
   have HBh5 := Hh (HBh4.out.kp hkk)
   clear hkk
   try clear d0 d1
   skip
   go_wp2_with fail
   exact ⟨rfl, .bool true, by simp [results, Tryz.results183, go_sem], q_ok (q_pure HR5.out) rfl HP5.out HK5.out⟩
 ·have HQ := Hh (q_ift HR2.out)
  clear HR2
  have HR2 := Hh HQ.out
  clear HQ
  go_wp2_with fail
  refine mQ ((IH.out n (Nat.le_refl _)).f_choice  _ _ HP2.out (qne HR2.out HN.out)) HR2 HN HK2 (fun _ _ h => ⟨rfl, h⟩) ?_
  rintro v6 s6 y6 w6 HR6 rfl HP6 hkk HK6
  have HBh6 := Hh (HBh2.out.kp hkk)
  clear hkk
  go_wp2_with fail
  refine mR (wk_need hE [93] _ _ HP6.out) HR6 HN HK6 (fun _ _ h => ⟨rfl, h⟩) ?_
  rintro v7 s7 w7 HR7 HP7 hkk HK7
  have HBh7 := Hh (HBh6.out.kp hkk)
  clear hkk
  obtain ⟨d0, d1⟩ := HBh7.out.cells
  go_wp2_with fail
  refine mR (wk_node hE 21 v1 _ _ HP7.out (qne HR7.out HN.out)) HR7 HN HK7 (fun _ _ h => ⟨rfl, h⟩) ?_
  rintro v8 s8 w8 HR8 HP8 hkk HK8
  have HBh8 := Hh (HBh7.out.kp hkk)
  clear hkk
  try clear d0 d1
  skip
  go_wp2_with fail
  exact ⟨rfl, .bool true, by simp [results, Tryz.results183, go_sem], q_ok (q_pure HR8.out) rfl HP8.out HK8.out⟩
end Go.Proofs.YtlboejdhmggjpaaGreat.Pp

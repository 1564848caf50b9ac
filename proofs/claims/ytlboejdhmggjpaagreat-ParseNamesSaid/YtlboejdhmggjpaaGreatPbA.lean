/- scope: Declare, whole. -/
import Derived.Test.YtlboejdhmggjpaaGreatWsF
import Derived.Test.YtlboejdhmggjpaaGreatWsE
set_option linter.all false
namespace Go.Proofs.YtlboejdhmggjpaaGreat.Sp
open Go.RowKit Go.BigFrame Go.ChangeMaps Go.WideMaps Go.Proofs.YtlboejdhmggjpaaGreat
set_option linter.unusedVariables false

theorem Sco.mono {w : World} {A n m : Nat} {S : Nat → Prop} {F : List Frm} (h : Sco w A n S F) (hn : n ≤ m) : Sco w A m S F := by
  obtain ⟨M, vB, vs, mv, D, h, h2, h3⟩ := h
  exact ⟨M, vB, vs, mv, D, ⟨h.hd, h.mp.mono hn, h.key, h.mrow, h.brow, h.vrow, h.dm, h.dv, h.pos⟩, h2, h3⟩
theorem Leaves.mono {A n m : Nat} {S : Nat → Prop} {F : List Frm} {w w' : World} (h : Leaves A n S F w w') (hn : n ≤ m) : Leaves A m S F w w' := by
  obtain ⟨S', h1, h2⟩ := h
  exact ⟨S', h1.mono hn, h2⟩

theorem Sc.declare (A n : Nat) (S : Nat → Prop) (F : List Frm) (x : ByteArray) (t : Bool) (w : World) (h : Sco w A n S F) (hx : x.size ≤ maxLen) (hF : F.length ≤ 65536) (hf : ∀ f ∈ F, f.length ≤ 1000000) (hn : n ≤ 1000000) :
    Calls Tryz.prog 17 #[.pointer (some ⟨A, 0, none⟩), .string x, .bool t] w fun e w' => e = .returned (.int .i64 (if x.size = 0 then 100 else 0)) ∧ Leaves A (n + 1) S (if x.size = 0 then F else YtlboejdhmggjpaaGreat.Sp.declare F x t) w w' := by
  by_cases hx0 : x.size = 0
  · rw [if_pos hx0, if_pos hx0]
    obtain rfl := str_empty hx0
    refine (Sc.declare_empty A n S F t w h).mono ?_
    rintro e w' ⟨rfl, rfl⟩
    exact ⟨rfl, (Leaves.refl h).mono (by omega)⟩
  · rw [if_neg hx0, if_neg hx0]
    obtain ⟨G, f, rfl⟩ := snoc_of_pos F h.pos
    rw [declare_snoc]
    cases hl : look f x with
    | some t0 => exact Sc.declare_old A n S G f x t t0 w h hx0 hx hF hl
    | none => exact Sc.declare_new A n S G f x t w h hx0 hx hF (hf f (by simp)) hn hl
end Go.Proofs.YtlboejdhmggjpaaGreat.Sp

/- WsL -/
namespace Go.Proofs.YtlboejdhmggjpaaGreat.Sp
open Go.RowKit Go.BigFrame Go.ChangeMaps Go.WideMaps Go.Proofs.YtlboejdhmggjpaaGreat

def Own (W : World) (A n : Nat) (F : List Frm) (w : World) : Prop := ∃ S, Sco w A n S F ∧ (∀ k, S k → W.heap.size ≤ k) ∧ Below W.heap.size W w
theorem Own.below {W w : World} {A n : Nat} {F : List Frm} (h : Own W A n F w) : Below W.heap.size W w := let ⟨_, _, _, h⟩ := h; h
theorem Own.leaves {W w w' : World} {A m : Nat} {S : Nat → Prop} {F : List Frm} (hl : Leaves A m S F w w') (hS : ∀ k, S k → W.heap.size ≤ k) (hb : Below W.heap.size W w) : Own W A m F w' := by
 obtain ⟨S', h1, h2, h3⟩ := hl
 refine ⟨S', h1, fun k hk => ?_, hb.trans (h3.below hb.size hS)⟩
 rcases h2 k hk with h | h
 ·exact hS k h
 ·exact Nat.le_trans hb.size h
theorem Ow.new (W w : World) (hb : Below W.heap.size W w) : Calls Tryz.prog 16 #[] w fun e w' => ∃ A, e = .returned (.pointer (some ⟨A, 0, none⟩)) ∧ Own W A 0 [[]] w' := by
 refine (Sc.new w).mono ?_
 rintro e w1 ⟨A, rfl, h1, h2⟩
 exact ⟨A, rfl, _, h1, fun k hk => Nat.le_trans hb.size hk.1, hb.trans (h2.mono hb.size)⟩
theorem Ow.isType (W : World) (A n : Nat) (F : List Frm) (x : ByteArray) (w : World) (h : Own W A n F w) (hx : x.size ≤ maxLen) (hF : F.length ≤ 9223372036854775807) :
  Calls Tryz.prog 21 #[.pointer (some ⟨A, 0, none⟩), .string x] w fun e w' => e = .returned (.bool (isTy F x)) ∧ w' = w := by
 obtain ⟨S, h1, h2, h3⟩ := h
 exact Sc.isType A n S F x w h1 hx hF
end Go.Proofs.YtlboejdhmggjpaaGreat.Sp

/- PaA -/
namespace Go.Proofs.YtlboejdhmggjpaaGreat.Pp

abbrev Bs := List UInt8
structure Ct where
 c : Int
 t : Bs
deriving DecidableEq
structure Nd where
 k : Nat
 lo : Nat
 hi : Nat
 sz : Nat
deriving DecidableEq
structure Ns where
 ch : List (Bs × Bool)
 bl : List Nat
structure Ps where
 at' : Nat
 done : List Nd
 nm : Ns
structure Fm where
 named : Bool
 name : Bs
 near : Nat
 params : List (Bs × Bool)
def Fm.ptr (b : Bool) (f : Fm) : Fm := if b && f.near == 0 then { f with near := 1 } else f
def Fm.arr (f : Fm) : Fm := if f.near = 0 then { f with near := 2 } else f
def Fm.fun' (f : Fm) (p : List (Bs × Bool)) : Fm := if f.near = 0 then { f with near := 3, params := p } else f
inductive Va
 | un
 | bo (x : Bool)
 | fo (x : Fm)
 | pa (x : List (Bs × Bool))
inductive Rs (α : Type)
 | ok (a : α) (s : Ps)
 | no
 | out
def Pm (α : Type) := Ps → Rs α
def Pm.bind {α β : Type} (x : Pm α) (f : α → Pm β) : Pm β := fun s => match x s with
 | .ok a s1 => f a s1
 | .no => .no
 | .out => .out
instance : Monad Pm where
 pure := fun a s => .ok a s
 bind := Pm.bind
def fail' {α : Type} : Pm α := fun _ => .no
def out' {α : Type} : Pm α := fun _ => .out
def get' : Pm Ps := fun s => .ok s s
def here : Pm (Nat × Nat) := fun s => .ok (s.at', s.done.length) s
def step (l : List Ct) (k : Nat) : Pm Unit := fun s => if s.at' + k ≤ l.length then .ok () { s with at' := s.at' + k } else .out
def node (l : List Ct) (k : Nat) (h : Nat × Nat) : Pm Unit := fun s => if s.done.length ≤ 4 * l.length ∧ h.2 ≤ s.done.length then .ok () { s with done := s.done ++ [⟨k, h.1, s.at', s.done.length - h.2 + 1⟩] } else .out
def Ns.declare (n : Ns) (x : Bs) (b : Bool) : Ns := if x = [] then n else { n with ch := n.ch ++ [(x, b)] }
def Ns.opened (n : Ns) : Ns := { n with bl := n.bl ++ [n.ch.length] }
def Ns.closed (n : Ns) : Ns := { ch := n.ch.take (n.bl.getLast?.getD 0), bl := n.bl.dropLast }
def Ns.declared (n : Ns) : List (Bs × Bool) := n.ch.drop (n.bl.getLast?.getD 0)
def Ns.now (n : Ns) (x : Bs) : Option Bool := (n.ch.reverse.find? fun p => p.1 == x).map (·.2)
def Ns.isType (base : Bs → Bool) (n : Ns) (x : Bs) : Bool := (n.now x).getD (base x)
def declare (l : List Ct) (x : Bs) (b : Bool) : Pm Unit := fun s => if s.nm.ch.length ≤ 2 * l.length then .ok () { s with nm := s.nm.declare x b } else .out
def declareAll (l : List Ct) : List (Bs × Bool) → Pm Unit
 | [] => pure ()
 | p :: r => do declare l p.1 p.2; declareAll l r
def open' (l : List Ct) : Pm Unit := fun s => if s.nm.bl.length ≤ 2 * l.length + 1 then .ok () { s with nm := s.nm.opened } else .out
def close' : Pm Unit := fun s => match s.nm.bl.getLast? with
 | some k => if k ≤ s.nm.ch.length then .ok () { s with nm := s.nm.closed } else .out
 | none => .out
def spec (t : Bs) : Nat :=
 if t ∈ [[116, 121, 112, 101, 100, 101, 102], [101, 120, 116, 101, 114, 110], [115, 116, 97, 116, 105, 99], [95, 84, 104, 114, 101, 97, 100, 95, 108, 111, 99, 97, 108], [97, 117, 116, 111], [114, 101, 103, 105, 115, 116, 101, 114], [105, 110, 108, 105, 110, 101], [95, 78, 111, 114, 101, 116, 117, 114, 110]] then 1
 else if t = [95, 65, 108, 105, 103, 110, 97, 115] then 2
 else if t ∈ [[99, 111, 110, 115, 116], [114, 101, 115, 116, 114, 105, 99, 116], [118, 111, 108, 97, 116, 105, 108, 101]] then 3
 else if t = [95, 65, 116, 111, 109, 105, 99] then 4
 else if t ∈ [[118, 111, 105, 100], [99, 104, 97, 114], [115, 104, 111, 114, 116], [105, 110, 116], [108, 111, 110, 103], [102, 108, 111, 97, 116], [100, 111, 117, 98, 108, 101], [115, 105, 103, 110, 101, 100], [117, 110, 115, 105, 103, 110, 101, 100], [95, 66, 111, 111, 108], [95, 67, 111, 109, 112, 108, 101, 120]] then 5
 else if t ∈ [[115, 116, 114, 117, 99, 116], [117, 110, 105, 111, 110]] then 6
 else if t = [101, 110, 117, 109] then 7
 else 0
def lvl (t : Bs) : Nat :=
 if t = [124, 124] then 36 else if t = [38, 38] then 37 else if t = [124] then 38 else if t = [94] then 39 else if t = [38] then 40
 else if t ∈ [[61, 61], [33, 61]] then 41 else if t ∈ [[60], [62], [60, 61], [62, 61]] then 42 else if t ∈ [[60, 60], [62, 62]] then 43 else if t ∈ [[43], [45]] then 44 else if t ∈ [[42], [47], [37]] then 45 else 0
def asg (t : Bs) : Bool := t ∈ [[61], [42, 61], [47, 61], [37, 61], [43, 61], [45, 61], [60, 60, 61], [62, 62, 61], [38, 61], [94, 61], [124, 61]]
section
variable (l : List Ct) (base : Bs → Bool)
def peekS (s : Ps) (k : Nat) : Ct := l.getD (s.at' + k) ⟨0, []⟩
def signS (s : Ps) (k : Nat) (t : Bs) : Bool := (peekS l s k).c == 7 && (peekS l s k).t == t
def wordS (s : Ps) (t : Bs) : Bool := (peekS l s 0).c == 1 && (peekS l s 0).t == t
def peek (k : Nat) : Pm Ct := fun s => .ok (peekS l s k) s
def sign (k : Nat) (t : Bs) : Pm Bool := fun s => .ok (signS l s k t) s
def word (t : Bs) : Pm Bool := fun s => .ok (wordS l s t) s
def took (t : Bs) : Pm Bool := fun s => if signS l s 0 t then .ok true { s with at' := s.at' + 1 } else .ok false s
def tookWord (t : Bs) : Pm Bool := fun s => if wordS l s t then .ok true { s with at' := s.at' + 1 } else .ok false s
def need (t : Bs) : Pm Unit := fun s => if signS l s 0 t then .ok () { s with at' := s.at' + 1 } else .no
def name' : Pm Bs := fun s => if (peekS l s 0).c = 2 then .ok (peekS l s 0).t { s with at' := s.at' + 1 } else .no
def bSpecS (s : Ps) (k : Nat) : Bool := if (peekS l s k).c = 1 then decide (spec (peekS l s k).t ≠ 0) else if (peekS l s k).c = 2 then s.nm.isType base (peekS l s k).t else false
def bLessS (s : Ps) (k : Nat) : Bool := if (peekS l s k).c = 1 ∧ (spec (peekS l s k).t = 1 ∨ spec (peekS l s k).t = 2) then false else bSpecS l base s k
def bSpec (k : Nat) : Pm Bool := fun s => .ok (bSpecS l base s k) s
def bLess (k : Nat) : Pm Bool := fun s => .ok (bLessS l base s k) s
def typeAhead : Pm Bool := fun s => .ok (signS l s 0 [40] && bLessS l base s 1) s
def declares : Pm Bool := fun s => .ok (wordS l s [95, 83, 116, 97, 116, 105, 99, 95, 97, 115, 115, 101, 114, 116] || bSpecS l base s 0) s
def labelled : Pm Bool := fun s => .ok ((peekS l s 0).c == 2 && signS l s 1 [58]) s
def level : Pm Nat := fun s => .ok (if (peekS l s 0).c = 7 then lvl (peekS l s 0).t else 0) s
def assigns : Pm Bool := fun s => .ok ((peekS l s 0).c == 7 && asg (peekS l s 0).t) s
def qualsF : Nat → Ps → Nat
 | 0, s => s.at'
 | n + 1, s => if (peekS l s 0).c = 1 ∧ (spec (peekS l s 0).t = 3 ∨ spec (peekS l s 0).t = 4 ∧ signS l s 1 [40] = false) then qualsF n { s with at' := s.at' + 1 } else s.at'
def quals : Pm Bool := fun s => .ok (decide (s.at' < qualsF l (l.length - s.at' + 1) s)) { s with at' := qualsF l (l.length - s.at' + 1) s }
def strsF : Nat → Ps → Nat
 | 0, s => s.at'
 | n + 1, s => if (peekS l s 0).c = 6 then strsF n { s with at' := s.at' + 1 } else s.at'
def strings : Pm Unit := fun s => if (peekS l s 0).c = 6 then .ok () { s with at' := strsF l (l.length - s.at' + 1) s } else .no
end
inductive Tg
 | expr | exprR (h : Nat × Nat) | assign | choice | binary (k : Nat) | binaryR (k : Nat) (h : Nat × Nat) (ub : Bool) | cast | typeIn | literal (h : Nat × Nat) | unary | size (v : Bool) | pfix | applied (h : Nat × Nat)
 | call | callR | primary | generic | genericR | assoc | initializer | braces | bracesR | item | itemR | desig
 | declarator (k : Nat) | starsR (b : Bool) | suffixes (f : Fm) (a : Bool) | array | params | paramsR | param
 | external | body (p : List (Bs × Bool)) | declaration | moreInits (t : Bool) | init (t : Bool) | restOfInit (h : Nat × Nat) | assert | items | itemsR | part | condition | until' (t : Bs) | statement | keyword (t : Bs) (h : Nat × Nat) | compound (t : Bs) (h : Nat × Nat)
 | specs (a : Bool) | specsR (a : Bool) (w o : Nat) (t : Bool) | align | atomic | record | recordR | member | memberR | field | enum | enumR | enumerator | typeName | unit
def Va.bool : Va → Bool
 | .bo x => x
 | _ => false
def Va.form : Va → Fm
 | .fo x => x
 | _ => ⟨false, [], 0, []⟩
def Va.list : Va → List (Bs × Bool)
 | .pa x => x
 | _ => []
section
variable (l : List Ct) (base : Bs → Bool)
def run : Nat → Tg → Pm Va
 | 0, _ => fun _ => .out
 | n + 1, .expr => do let h ← here; let _ ← run n .assign; run n (.exprR h)
 | n + 1, .exprR h => do
  if ← took l [44] then let _ ← run n .assign; node l 33 h; run n (.exprR h)
  else pure Va.un
 | n + 1, .assign => do
  let h ← here
  let uv ← run n .choice
  if uv.bool && (← assigns l) then step l 1; let _ ← run n .assign; node l 34 h; pure Va.un
  else pure Va.un
 | n + 1, .choice => do
  let h ← here
  let uv ← run n (.binary 36)
  if ← took l [63] then let _ ← run n .expr; need l [58]; let _ ← run n .choice; node l 35 h; pure (Va.bo false)
  else pure uv
 | n + 1, .binary k => do let h ← here; let uv ← run n .cast; run n (.binaryR k h uv.bool)
 | n + 1, .binaryR k h ub => do
  let j ← level l
  if j < k then pure (Va.bo ub)
  else step l 1; let _ ← run n (.binary (j + 1)); node l j h; run n (.binaryR k h false)
 | n + 1, .cast => do
  if ← typeAhead l base then
   let h ← here
   let _ ← run n .typeIn
   if ← sign l 0 [123] then let _ ← run n (.literal h); pure (Va.bo true)
   else let _ ← run n .cast; node l 46 h; pure (Va.bo false)
  else let _ ← run n .unary; pure (Va.bo true)
 | n + 1, .typeIn => do need l [40]; let _ ← run n .typeName; need l [41]; pure Va.un
 | n + 1, .literal h => do let _ ← run n .braces; node l 53 h; run n (.applied h)
 | n + 1, .unary => do
  let h ← here
  let t ← peek l 0
  if t.c = 7 ∧ (t.t = [43, 43] ∨ t.t = [45, 45]) then step l 1; let _ ← run n .unary; node l 47 h; pure Va.un
  else if t.c = 7 ∧ t.t ∈ [[38], [42], [43], [45], [126], [33]] then step l 1; let _ ← run n .cast; node l 47 h; pure Va.un
  else if t.c = 1 ∧ (t.t = [115, 105, 122, 101, 111, 102] ∨ t.t = [95, 65, 108, 105, 103, 110, 111, 102]) then step l 1; let _ ← run n (.size (t.t == [115, 105, 122, 101, 111, 102])); node l 48 h; pure Va.un
  else run n .pfix
 | n + 1, .size v => do
  if ← typeAhead l base then
   let h ← here
   let _ ← run n .typeIn
   if v && (← sign l 0 [123]) then run n (.literal h) else pure Va.un
  else if v then run n .unary else fail'
 | n + 1, .pfix => do
  let h ← here
  if ← typeAhead l base then let _ ← run n .typeIn; run n (.literal h)
  else let _ ← run n .primary; run n (.applied h)
 | n + 1, .applied h => do
  let t ← peek l 0
  if t.c ≠ 7 then pure Va.un
  else if t.t = [91] then step l 1; let _ ← run n .expr; need l [93]; node l 49 h; run n (.applied h)
  else if t.t = [40] then let _ ← run n .call; node l 50 h; run n (.applied h)
  else if t.t = [46] ∨ t.t = [45, 62] then step l 1; let _ ← name' l; node l 51 h; run n (.applied h)
  else if t.t = [43, 43] ∨ t.t = [45, 45] then step l 1; node l 52 h; run n (.applied h)
  else pure Va.un
 | n + 1, .call => do
  need l [40]
  if ← took l [41] then pure Va.un
  else let _ ← run n .assign; let _ ← run n .callR; need l [41]; pure Va.un
 | n + 1, .callR => do
  if ← took l [44] then let _ ← run n .assign; run n .callR
  else pure Va.un
 | n + 1, .primary => do
  let h ← here
  let t ← peek l 0
  let s ← get'
  if t.c = 2 ∧ s.nm.isType base t.t = false then step l 1; node l 57 h; pure Va.un
  else if t.c = 3 ∨ t.c = 4 ∨ t.c = 5 then step l 1; node l 58 h; pure Va.un
  else if t.c = 6 then strings l; node l 58 h; pure Va.un
  else if ← took l [40] then let _ ← run n .expr; need l [41]; node l 56 h; pure Va.un
  else if ← tookWord l [95, 71, 101, 110, 101, 114, 105, 99] then let _ ← run n .generic; node l 54 h; pure Va.un
  else fail'
 | n + 1, .generic => do need l [40]; let _ ← run n .assign; need l [44]; let _ ← run n .assoc; let _ ← run n .genericR; need l [41]; pure Va.un
 | n + 1, .genericR => do
  if ← took l [44] then let _ ← run n .assoc; run n .genericR
  else pure Va.un
 | n + 1, .assoc => do
  let h ← here
  let d ← tookWord l [100, 101, 102, 97, 117, 108, 116]
  let _ ← if d then pure Va.un else run n .typeName
  need l [58]
  let _ ← run n .assign
  node l 55 h
  pure Va.un
 | n + 1, .initializer => do if ← sign l 0 [123] then run n .braces else run n .assign
 | n + 1, .braces => do let h ← here; need l [123]; let _ ← run n .item; let _ ← run n .bracesR; need l [125]; node l 19 h; pure Va.un
 | n + 1, .bracesR => do
  if ← took l [44] then
   if ← sign l 0 [125] then pure Va.un else let _ ← run n .item; run n .bracesR
  else pure Va.un
 | n + 1, .item => do
  let h ← here
  let d ← run n .desig
  let _ ← if d.bool then (do let _ ← run n .itemR; need l [61]; pure Va.un) else pure Va.un
  let _ ← run n .initializer
  node l 20 h
  pure Va.un
 | n + 1, .itemR => do
  let d ← run n .desig
  if d.bool then run n .itemR else pure Va.un
 | n + 1, .desig => do
  let h ← here
  if ← took l [91] then let _ ← run n .choice; need l [93]; node l 21 h; pure (Va.bo true)
  else if ← took l [46] then let _ ← name' l; node l 21 h; pure (Va.bo true)
  else pure (Va.bo false)
 | n + 1, .declarator k => do
  let h ← here
  let st ← run n (.starsR false)
  let t ← peek l 0
  let sa ← (fun s => .ok (signS l s 0 [40] && (k == 0 || !(signS l s 1 [41] || bSpecS l base s 1))) s : Pm Bool)
  let c : Bool × Va ← if k ≠ 2 ∧ t.c = 2 then (do let x ← name' l; pure (true, Va.fo ⟨true, x, 0, []⟩))
   else if sa then (do step l 1; let f ← run n (.declarator k); need l [41]; pure (true, f))
   else if k = 0 then fail'
   else pure (false, Va.fo ⟨false, [], 0, []⟩)
  let d ← get'
  let f ← run n (.suffixes c.2.form false)
  let e ← get'
  if c.1 = false ∧ st.bool = false ∧ d.at' = e.at' then fail'
  else node l 14 h; pure (Va.fo (f.form.ptr st.bool))
 | n + 1, .starsR b => do
  if ← took l [42] then let _ ← quals l; run n (.starsR true)
  else pure (Va.bo b)
 | n + 1, .suffixes f a => do
  if ← sign l 0 [91] then let _ ← run n .array; run n (.suffixes f.arr true)
  else if ← sign l 0 [40] then let p ← run n .params; run n (.suffixes (f.fun' p.list) true)
  else pure (Va.fo f)
 | n + 1, .array => do
  let h ← here
  need l [91]
  let _ ← if ← tookWord l [115, 116, 97, 116, 105, 99] then (do let _ ← quals l; run n .assign)
   else (do
    let q ← quals l
    let st ← if q then tookWord l [115, 116, 97, 116, 105, 99] else pure false
    if st then run n .assign
    else if ← sign l 0 [93] then pure Va.un
    else if (← sign l 0 [42]) && (← sign l 1 [93]) then (do step l 1; pure Va.un)
    else run n .assign)
  need l [93]
  node l 15 h
  pure Va.un
 | n + 1, .params => do
  let h ← here
  need l [40]
  open' l
  let _ ← if ← took l [41] then pure Va.un else (do let _ ← run n .param; let _ ← run n .paramsR; need l [41]; pure Va.un)
  let s ← get'
  close'
  node l 16 h
  pure (Va.pa s.nm.declared)
 | n + 1, .paramsR => do
  if ← took l [44] then
   if ← took l [46, 46, 46] then pure Va.un else let _ ← run n .param; run n .paramsR
  else pure Va.un
 | n + 1, .param => do
  let h ← here
  let td ← run n (.specs true)
  let _ ← if (← sign l 0 [44]) || (← sign l 0 [41]) then pure Va.un
   else (do
    let f ← run n (.declarator 1)
    let _ ← (if f.form.named = true then declare l f.form.name td.bool else pure ())
    pure Va.un)
  node l 17 h
  pure Va.un
 | n + 1, .external => do
  if ← word l [95, 83, 116, 97, 116, 105, 99, 95, 97, 115, 115, 101, 114, 116] then run n .assert
  else
   let h ← here
   let td ← run n (.specs true)
   if ← sign l 0 [59] then need l [59]; node l 3 h; pure Va.un
   else
    let h1 ← here
    let f ← run n (.declarator 0)
    declare l f.form.name td.bool
    if (← sign l 0 [123]) && f.form.near == 3 then let _ ← run n (.body f.form.params); node l 2 h; pure Va.un
    else let _ ← run n (.restOfInit h1); let _ ← run n (.moreInits td.bool); need l [59]; node l 3 h; pure Va.un
 | n + 1, .body p => do open' l; declareAll l p; let _ ← run n .items; close'; pure Va.un
 | n + 1, .declaration => do
  if ← word l [95, 83, 116, 97, 116, 105, 99, 95, 97, 115, 115, 101, 114, 116] then run n .assert
  else
   let h ← here
   let td ← run n (.specs true)
   let _ ← if ← sign l 0 [59] then pure Va.un else (do let _ ← run n (.init td.bool); run n (.moreInits td.bool))
   need l [59]
   node l 3 h
   pure Va.un
 | n + 1, .moreInits td => do
  if ← took l [44] then let _ ← run n (.init td); run n (.moreInits td)
  else pure Va.un
 | n + 1, .init td => do let h ← here; let f ← run n (.declarator 0); declare l f.form.name td; run n (.restOfInit h)
 | n + 1, .restOfInit h => do
  let _ ← if ← took l [61] then run n .initializer else pure Va.un
  node l 13 h
  pure Va.un
 | n + 1, .assert => do let h ← here; step l 1; need l [40]; let _ ← run n .choice; need l [44]; strings l; need l [41]; need l [59]; node l 4 h; pure Va.un
 | n + 1, .items => do let h ← here; need l [123]; let _ ← run n .itemsR; node l 22 h; pure Va.un
 | n + 1, .itemsR => do
  if ← took l [125] then pure Va.un
  else
   let _ ← if !(← labelled l) && (← declares l base) then run n .declaration else run n .statement
   run n .itemsR
 | n + 1, .part => do open' l; let _ ← run n .statement; close'; pure Va.un
 | n + 1, .condition => do need l [40]; let _ ← run n .expr; need l [41]; pure Va.un
 | n + 1, .until' t => do
  let _ ← if ← sign l 0 t then pure Va.un else run n .expr
  need l t
  pure Va.un
 | n + 1, .statement => do
  let h ← here
  let t ← peek l 0
  if ← labelled l then step l 2; let _ ← run n .statement; node l 23 h; pure Va.un
  else if ← sign l 0 [123] then open' l; let _ ← run n .items; close'; pure Va.un
  else
   let k ← if t.c = 1 then run n (.keyword t.t h) else pure (Va.bo false)
   if k.bool then pure Va.un
   else let _ ← run n (.until' [59]); node l 26 h; pure Va.un
 | n + 1, .keyword t h => do
  if t = [99, 97, 115, 101] then step l 1; let _ ← run n .choice; need l [58]; let _ ← run n .statement; node l 24 h; pure (Va.bo true)
  else if t = [100, 101, 102, 97, 117, 108, 116] then step l 1; need l [58]; let _ ← run n .statement; node l 25 h; pure (Va.bo true)
  else if t = [103, 111, 116, 111] then step l 1; let _ ← name' l; need l [59]; node l 32 h; pure (Va.bo true)
  else if t = [99, 111, 110, 116, 105, 110, 117, 101] ∨ t = [98, 114, 101, 97, 107] then step l 1; need l [59]; node l 32 h; pure (Va.bo true)
  else if t = [114, 101, 116, 117, 114, 110] then step l 1; let _ ← run n (.until' [59]); node l 32 h; pure (Va.bo true)
  else if t ∈ [[105, 102], [115, 119, 105, 116, 99, 104], [119, 104, 105, 108, 101], [100, 111], [102, 111, 114]] then step l 1; open' l; let _ ← run n (.compound t h); close'; pure (Va.bo true)
  else pure (Va.bo false)
 | n + 1, .compound t h => do
  if t = [105, 102] then
   let _ ← run n .condition
   let _ ← run n .part
   let _ ← if ← tookWord l [101, 108, 115, 101] then run n .part else pure Va.un
   node l 27 h
   pure Va.un
  else if t = [115, 119, 105, 116, 99, 104] then let _ ← run n .condition; let _ ← run n .part; node l 28 h; pure Va.un
  else if t = [119, 104, 105, 108, 101] then let _ ← run n .condition; let _ ← run n .part; node l 29 h; pure Va.un
  else if t = [100, 111] then
   let _ ← run n .part
   if ← tookWord l [119, 104, 105, 108, 101] then let _ ← run n .condition; need l [59]; node l 30 h; pure Va.un
   else fail'
  else if t = [102, 111, 114] then
   need l [40]
   let _ ← if ← declares l base then run n .declaration else run n (.until' [59])
   let _ ← run n (.until' [59])
   let _ ← run n (.until' [41])
   let _ ← run n .part
   node l 31 h
   pure Va.un
  else pure Va.un
 | n + 1, .specs a => do
  let h ← here
  let r ← run n (.specsR a 0 0 false)
  node l 5 h
  pure r
 | n + 1, .specsR a w o td => if l.length < w + o then out' else do
  let t ← peek l 0
  let s ← get'
  let en : Pm Va := if w + o = 0 ∨ 1 < o ∨ 0 < w ∧ 0 < o then fail' else pure (Va.bo td)
  if t.c = 2 then
   if 0 < w + o ∨ s.nm.isType base t.t = false then en
   else step l 1; run n (.specsR a w (o + 1) td)
  else if t.c ≠ 1 then en
  else if spec t.t = 1 ∧ a = true then step l 1; run n (.specsR a w o (td || t.t == [116, 121, 112, 101, 100, 101, 102]))
  else if spec t.t = 2 ∧ a = true then let _ ← run n .align; run n (.specsR a w o td)
  else if spec t.t = 3 ∨ spec t.t = 4 ∧ signS l s 1 [40] = false then step l 1; run n (.specsR a w o td)
  else if spec t.t = 5 then step l 1; run n (.specsR a (w + 1) o td)
  else if spec t.t = 4 then let _ ← run n .atomic; run n (.specsR a w (o + 1) td)
  else if spec t.t = 6 then let _ ← run n .record; run n (.specsR a w (o + 1) td)
  else if spec t.t = 7 then let _ ← run n .enum; run n (.specsR a w (o + 1) td)
  else en
 | n + 1, .align => do
  let h ← here
  step l 1
  need l [40]
  let _ ← if ← bLess l base 0 then run n .typeName else run n .choice
  need l [41]
  node l 11 h
  pure Va.un
 | n + 1, .atomic => do let h ← here; step l 1; let _ ← run n .typeIn; node l 12 h; pure Va.un
 | n + 1, .record => do
  let h ← here
  step l 1
  let t ← peek l 0
  let _ ← (if t.c = 2 then step l 1 else pure ())
  if ← took l [123] then let _ ← run n .member; let _ ← run n .recordR; node l 6 h; pure Va.un
  else if t.c = 2 then node l 6 h; pure Va.un
  else fail'
 | n + 1, .recordR => do
  if ← took l [125] then pure Va.un
  else let _ ← run n .member; run n .recordR
 | n + 1, .member => do
  if ← word l [95, 83, 116, 97, 116, 105, 99, 95, 97, 115, 115, 101, 114, 116] then run n .assert
  else
   let h ← here
   let _ ← run n (.specs false)
   let _ ← if ← sign l 0 [59] then pure Va.un else (do let _ ← run n .field; run n .memberR)
   need l [59]
   node l 7 h
   pure Va.un
 | n + 1, .memberR => do
  if ← took l [44] then let _ ← run n .field; run n .memberR
  else pure Va.un
 | n + 1, .field => do
  let h ← here
  let _ ← if ← sign l 0 [58] then pure Va.un else run n (.declarator 0)
  let _ ← if ← took l [58] then run n .choice else pure Va.un
  node l 8 h
  pure Va.un
 | n + 1, .enum => do
  let h ← here
  step l 1
  let t ← peek l 0
  let _ ← (if t.c = 2 then step l 1 else pure ())
  if ← took l [123] then let _ ← run n .enumerator; let _ ← run n .enumR; need l [125]; node l 9 h; pure Va.un
  else if t.c = 2 then node l 9 h; pure Va.un
  else fail'
 | n + 1, .enumR => do
  if ← took l [44] then
   if ← sign l 0 [125] then pure Va.un else let _ ← run n .enumerator; run n .enumR
  else pure Va.un
 | n + 1, .enumerator => do
  let h ← here
  let x ← name' l
  let _ ← if ← took l [61] then run n .choice else pure Va.un
  node l 10 h
  declare l x false
  pure Va.un
 | n + 1, .typeName => do
  let h ← here
  let _ ← run n (.specs false)
  let _ ← if (← sign l 0 [42]) || (← sign l 0 [40]) || (← sign l 0 [91]) then run n (.declarator 2) else pure Va.un
  node l 18 h
  pure Va.un
 | n + 1, .unit => do
  let s ← get'
  if s.at' < l.length then let _ ← run n .external; run n .unit
  else node l 1 (0, 0); pure Va.un
end
end Go.Proofs.YtlboejdhmggjpaaGreat.Pp

/- PbA -/
namespace Go.Proofs.YtlboejdhmggjpaaGreat.Pp

inductive Fo : Nat → Nat → List Nd → Prop
 | nil {a b : Nat} (h : a ≤ b) : Fo a b []
 | snoc {a m lo hi b k : Nat} {F K : List Nd} (h1 : Fo a m F) (h2 : m ≤ lo) (h3 : Fo lo hi K) (h4 : hi ≤ b) (h5 : 1 ≤ k ∧ k ≤ 58) : Fo a b (F ++ (K ++ [⟨k, lo, hi, K.length + 1⟩]))
theorem Fo.le {a b : Nat} {L : List Nd} (h : Fo a b L) : a ≤ b := by
 induction h with
 | nil h => exact h
 | snoc h1 h2 h3 h4 h5 i1 i3 => omega
theorem Fo.mono {a b b' : Nat} {L : List Nd} (h : Fo a b L) (hb : b ≤ b') : Fo a b' L := by
 cases h with
 | nil h => exact .nil (Nat.le_trans h hb)
 | snoc h1 h2 h3 h4 h5 => exact .snoc h1 h2 h3 (Nat.le_trans h4 hb) h5
theorem Fo.append {a m b : Nat} {F L : List Nd} (h : Fo a m F) (k : Fo m b L) : Fo a b (F ++ L) := by
 induction k with
 | nil hb => rw [List.append_nil]; exact h.mono hb
 | snoc h1 h2 h3 h4 h5 i1 i3 =>
  rw [← List.append_assoc]
  exact .snoc (i1 h) h2 h3 h4 h5
theorem Fo.wrap {a b k : Nat} {K : List Nd} (h : Fo a b K) (hk : 1 ≤ k ∧ k ≤ 58) : Fo a b (K ++ [⟨k, a, b, K.length + 1⟩]) := by
 have := Fo.snoc (.nil (Nat.le_refl a)) (Nat.le_refl a) h (Nat.le_refl b) hk
 simpa using this
def Tr (s s' : Ps) : Prop := s.at' ≤ s'.at' ∧ ∃ F, s'.done = s.done ++ F ∧ Fo s.at' s'.at' F
theorem Tr.refl (s : Ps) : Tr s s := ⟨Nat.le_refl _, [], by simp, .nil (Nat.le_refl _)⟩
theorem Tr.trans {a b c : Ps} (h : Tr a b) (k : Tr b c) : Tr a c := by
 obtain ⟨h1, F, h2, h3⟩ := h
 obtain ⟨k1, L, k2, k3⟩ := k
 exact ⟨Nat.le_trans h1 k1, F ++ L, by rw [k2, h2, List.append_assoc], h3.append k3⟩
theorem Tr.back {a b c : Ps} (k : Tr b c) (h : Tr a b) : Tr a c := h.trans k
theorem Tr.go {a b : Ps} (h : a.at' ≤ b.at') (hd : b.done = a.done) : Tr a b := ⟨h, [], by rw [hd, List.append_nil], .nil h⟩
theorem Tr.node {a b : Ps} (h : Tr a b) {k : Nat} (hk : 1 ≤ k ∧ k ≤ 58) : Tr a { b with done := b.done ++ [⟨k, a.at', b.at', b.done.length - a.done.length + 1⟩] } := by
 obtain ⟨h1, F, h2, h3⟩ := h
 refine ⟨h1, F ++ [⟨k, a.at', b.at', F.length + 1⟩], ?_, h3.wrap hk⟩
 simp only [h2, List.length_append, Nat.add_sub_cancel_left, List.append_assoc]
def Nr (s s' : Ps) : Prop := s'.nm.bl = s.nm.bl ∧ ∃ m, s'.nm.ch = s.nm.ch ++ m
theorem Nr.refl (s : Ps) : Nr s s := ⟨rfl, [], by simp⟩
theorem Nr.of {a b : Ps} (h : b.nm = a.nm) : Nr a b := ⟨by rw [h], [], by rw [h, List.append_nil]⟩
theorem Nr.trans {a b c : Ps} (h : Nr a b) (k : Nr b c) : Nr a c := by
 obtain ⟨h1, m, h2⟩ := h
 obtain ⟨k1, m', k2⟩ := k
 exact ⟨by rw [k1, h1], m ++ m', by rw [k2, h2, List.append_assoc]⟩
theorem Nr.back {a b c : Ps} (k : Nr b c) (h : Nr a b) : Nr a c := h.trans k
def Va.size : Va → Nat
 | .fo f => f.params.length
 | .pa x => x.length
 | _ => 0
theorem size_un : Va.un.size = 0 := rfl
theorem size_bo (b : Bool) : (Va.bo b).size = 0 := rfl
theorem size_fo (f : Fm) : (Va.fo f).size = f.params.length := rfl
theorem size_pa (p : List (Bs × Bool)) : (Va.pa p).size = p.length := rfl
theorem form_fo (f : Fm) : (Va.fo f).form = f := rfl
theorem bool_un : Va.un.bool = false := rfl
theorem bool_bo (b : Bool) : (Va.bo b).bool = b := rfl
theorem form_size (v : Va) : v.form.params.length ≤ v.size := by cases v <;> simp [Va.form, Va.size]
theorem list_size (v : Va) : v.list.length ≤ v.size := by cases v <;> simp [Va.list, Va.size]
theorem ptr_size (b : Bool) (f : Fm) : (f.ptr b).params.length = f.params.length := by unfold Fm.ptr; split <;> rfl
theorem arr_size (f : Fm) : f.arr.params.length = f.params.length := by unfold Fm.arr; split <;> rfl
theorem fun_size (f : Fm) (p : List (Bs × Bool)) : (f.fun' p).params.length ≤ f.params.length + p.length := by unfold Fm.fun'; split <;> simp
def G {α : Type} (Q : α → Ps → Prop) : Rs α → Prop
 | .ok a s => Q a s
 | .no => True
 | .out => False
section
variable {l : List Ct} {base : Bs → Bool} {α β : Type} {Q : β → Ps → Prop} {s sh : Ps}
theorem g_bind {x : Pm α} {f : α → Pm β} (h : G (fun a s1 => G Q (f a s1)) (x s)) : G Q ((x >>= f) s) := by
 show G Q (Pm.bind x f s)
 unfold Pm.bind
 cases hx : x s with
 | ok a s1 => rw [hx] at h; exact h
 | no => trivial
 | out => rw [hx] at h; exact h
theorem G.mono {Q' : β → Ps → Prop} {r : Rs β} (h : G Q r) (k : ∀ a s, Q a s → Q' a s) : G Q' r := by
 cases r with
 | ok a s => exact k a s h
 | no => trivial
 | out => exact h
theorem g_pure {a : β} (h : Q a s) : G Q ((pure a : Pm β) s) := h
theorem g_fail : G Q ((fail' : Pm β) s) := trivial
theorem g_ift {A B : Pm β} (h : G Q (A s)) : G Q ((if true = true then A else B) s) := h
theorem g_iff {A B : Pm β} (h : G Q (B s)) : G Q ((if false = true then A else B) s) := h
theorem peek_lt {k : Nat} (h : (peekS l s k).c ≠ 0) : s.at' + k < l.length := by
 refine Nat.lt_of_not_le fun hle => h ?_
 unfold peekS
 rw [List.getD_eq_getElem?_getD, List.getElem?_eq_none hle]
 rfl
theorem sign_lt {k : Nat} {t : Bs} (h : signS l s k t = true) : s.at' + k < l.length := by
 refine peek_lt (l := l) fun e => ?_
 unfold signS at h
 rw [e] at h
 cases h
theorem word_lt {t : Bs} (h : wordS l s t = true) : s.at' < l.length := by
 refine peek_lt (l := l) (k := 0) fun e => ?_
 unfold wordS at h
 rw [e] at h
 cases h
variable {k : α → Pm β}
theorem g_here {k : Nat × Nat → Pm β} (h : G Q (k (s.at', s.done.length) s)) : G Q ((here >>= k) s) := h
theorem g_get {k : Ps → Pm β} (h : G Q (k s s)) : G Q ((get' >>= k) s) := h
def Onto (l : List Ct) (s : Ps) (n : Nat) (s2 : Ps) : Prop := s2.at' = n ∧ n ≤ l.length ∧ s2.done.length = s.done.length ∧ s2.nm.ch.length = s.nm.ch.length ∧ s2.nm.bl.length = s.nm.bl.length
theorem onto {n : Nat} (h : s.at' ≤ n) (hn : n ≤ l.length) (P : Ps → Prop) (hP : ∀ s2, Onto l s n s2 → Tr s s2 → Nr s s2 → P s2) : P { s with at' := n } :=
 hP _ ⟨rfl, hn, rfl, rfl, rfl⟩ (Tr.go h rfl) (Nr.of rfl)
theorem g_step {k : Unit → Pm β} {n : Nat} (hn : s.at' + n ≤ l.length) (h : ∀ s2, Onto l s (s.at' + n) s2 → Tr s s2 → Nr s s2 → G Q (k () s2)) : G Q ((step l n >>= k) s) := by
 refine g_bind ?_
 unfold step
 rw [if_pos hn]
 exact onto (Nat.le_add_right _ _) hn (fun s2 => G Q (k () s2)) h
theorem g_step' {Q : Unit → Ps → Prop} {n : Nat} (hn : s.at' + n ≤ l.length) (h : ∀ s2, Onto l s (s.at' + n) s2 → Tr s s2 → Nr s s2 → Q () s2) : G Q (step l n s) := by
 unfold step
 rw [if_pos hn]
 exact onto (Nat.le_add_right _ _) hn (fun s2 => Q () s2) h
theorem g_node {k : Unit → Pm β} {n : Nat} (hT : Tr sh s) (hn : 1 ≤ n ∧ n ≤ 58) (hd : s.done.length ≤ 4 * l.length) (h : ∀ s2, (s2.at' = s.at' ∧ s2.done.length = s.done.length + 1 ∧ s2.nm.ch.length = s.nm.ch.length ∧ s2.nm.bl.length = s.nm.bl.length) → Tr sh s2 → Nr s s2 → G Q (k () s2)) : G Q ((node l n (sh.at', sh.done.length) >>= k) s) := by
 refine g_bind ?_
 unfold node
 rw [if_pos ⟨hd, by obtain ⟨_, F, hF, _⟩ := hT; show sh.done.length ≤ _; rw [hF, List.length_append]; omega⟩]
 exact h { s with done := s.done ++ [⟨n, sh.at', s.at', s.done.length - sh.done.length + 1⟩] } ⟨rfl, by simp, rfl, rfl⟩ (hT.node hn) (Nr.of rfl)
theorem g_declare' {Q : Unit → Ps → Prop} {x : Bs} {b : Bool} (hd : s.nm.ch.length ≤ 2 * l.length) (h : ∀ s2, (s2.at' = s.at' ∧ s2.done.length = s.done.length ∧ s2.nm.ch.length ≤ s.nm.ch.length + 1 ∧ s2.nm.bl.length = s.nm.bl.length) → Tr s s2 → Nr s s2 → Q () s2) : G Q (declare l x b s) := by
 unfold declare
 rw [if_pos hd]
 refine h { s with nm := s.nm.declare x b } ⟨rfl, rfl, ?_, ?_⟩ (Tr.go (Nat.le_refl _) rfl) ?_
 ·unfold Ns.declare; split <;> simp
 ·unfold Ns.declare; split <;> rfl
 ·unfold Ns.declare; split
  ·exact Nr.of rfl
  ·exact ⟨rfl, _, rfl⟩
theorem g_declare {k : Unit → Pm β} {x : Bs} {b : Bool} (hd : s.nm.ch.length ≤ 2 * l.length) (h : ∀ s2, (s2.at' = s.at' ∧ s2.done.length = s.done.length ∧ s2.nm.ch.length ≤ s.nm.ch.length + 1 ∧ s2.nm.bl.length = s.nm.bl.length) → Tr s s2 → Nr s s2 → G Q (k () s2)) : G Q ((declare l x b >>= k) s) :=
 g_bind (g_declare' hd h)
theorem g_declareAll' : ∀ (p : List (Bs × Bool)) {s : Ps} {Q : Unit → Ps → Prop}, s.nm.ch.length + p.length ≤ 2 * l.length → (∀ s2, (s2.at' = s.at' ∧ s2.done.length = s.done.length ∧ s2.nm.ch.length ≤ s.nm.ch.length + p.length ∧ s2.nm.bl.length = s.nm.bl.length) → Tr s s2 → Nr s s2 → Q () s2) → G Q (declareAll l p s)
 | [], s, Q, _, h => h s ⟨rfl, rfl, Nat.le_refl _, rfl⟩ (Tr.refl s) (Nr.refl s)
 | x :: p, s, Q, hd, h => by
  unfold declareAll
  refine g_declare (by omega) fun s2 ⟨a1, a2, a3, a4⟩ t1 n1 => ?_
  rw [List.length_cons] at hd
  refine g_declareAll' p (by omega) fun s3 ⟨b1, b2, b3, b4⟩ t2 n2 => ?_
  exact h s3 ⟨by omega, by omega, by rw [List.length_cons]; omega, by omega⟩ (t1.trans t2) (n1.trans n2)
theorem g_declareAll {k : Unit → Pm β} {p : List (Bs × Bool)} (hd : s.nm.ch.length + p.length ≤ 2 * l.length) (h : ∀ s2, (s2.at' = s.at' ∧ s2.done.length = s.done.length ∧ s2.nm.ch.length ≤ s.nm.ch.length + p.length ∧ s2.nm.bl.length = s.nm.bl.length) → Tr s s2 → Nr s s2 → G Q (k () s2)) : G Q ((declareAll l p >>= k) s) :=
 g_bind (g_declareAll' p hd h)
theorem g_open {k : Unit → Pm β} (hd : s.nm.bl.length ≤ 2 * l.length + 1) (h : ∀ s2, s2.nm = s.nm.opened → (s2.at' = s.at' ∧ s2.done.length = s.done.length ∧ s2.nm.ch.length = s.nm.ch.length ∧ s2.nm.bl.length = s.nm.bl.length + 1) → Tr s s2 → G Q (k () s2)) : G Q ((open' l >>= k) s) := by
 refine g_bind ?_
 unfold open'
 rw [if_pos hd]
 exact h { s with nm := s.nm.opened } rfl ⟨rfl, rfl, rfl, by simp [Ns.opened]⟩ (Tr.go (Nat.le_refl _) rfl)
theorem g_close {k : Unit → Pm β} {a b : Ps} (hb : b.nm = a.nm.opened) (hr : Nr b s) (h : ∀ s2, (s2.at' = s.at' ∧ s2.done.length = s.done.length ∧ s2.nm.ch.length = a.nm.ch.length ∧ s2.nm.bl.length = a.nm.bl.length ∧ s.nm.declared.length + a.nm.ch.length = s.nm.ch.length) → Tr s s2 → Nr a s2 → G Q (k () s2)) : G Q ((close' >>= k) s) := by
 refine g_bind ?_
 obtain ⟨h1, m, h2⟩ := hr
 rw [hb] at h1 h2
 simp only [Ns.opened] at h1 h2
 have hl : s.nm.bl.getLast? = some a.nm.ch.length := by rw [h1]; simp
 have hc : a.nm.ch.length ≤ s.nm.ch.length := by rw [h2]; simp
 have hn : s.nm.closed = a.nm := by
  unfold Ns.closed
  rw [hl, h1, h2]
  simp
 unfold close'
 rw [hl]
 simp only [hc, if_true]
 refine h { s with nm := s.nm.closed } ⟨rfl, rfl, by rw [hn], by rw [hn], ?_⟩ (Tr.go (Nat.le_refl _) rfl) (Nr.of hn)
 unfold Ns.declared
 rw [hl]
 simp only [Option.getD_some, List.length_drop]
 omega
theorem g_peek {k : Ct → Pm β} {n : Nat} (h : ∀ t : Ct, (t.c = 0 ∨ s.at' + n < l.length) → peekS l s n = t → G Q (k t s)) : G Q ((peek l n >>= k) s) := by
 refine h (peekS l s n) ?_ rfl
 by_cases e : (peekS l s n).c = 0
 ·exact .inl e
 ·exact .inr (peek_lt e)
theorem g_sign {k : Bool → Pm β} {n : Nat} {t : Bs} (h1 : signS l s n t = true → s.at' + n < l.length → G Q (k true s)) (h2 : signS l s n t = false → G Q (k false s)) : G Q ((sign l n t >>= k) s) := by
 show G Q (k (signS l s n t) s)
 cases e : signS l s n t with
 | true => exact h1 e (sign_lt e)
 | false => exact h2 e
theorem g_word {k : Bool → Pm β} {t : Bs} (h1 : wordS l s t = true → s.at' < l.length → G Q (k true s)) (h2 : wordS l s t = false → G Q (k false s)) : G Q ((word l t >>= k) s) := by
 show G Q (k (wordS l s t) s)
 cases e : wordS l s t with
 | true => exact h1 e (word_lt e)
 | false => exact h2 e
theorem g_typeAhead {k : Bool → Pm β} (h1 : s.at' < l.length → G Q (k true s)) (h2 : G Q (k false s)) : G Q ((typeAhead l base >>= k) s) := by
 show G Q (k (signS l s 0 [40] && bLessS l base s 1) s)
 cases e : (signS l s 0 [40] && bLessS l base s 1) with
 | true => rw [Bool.and_eq_true] at e; exact h1 (sign_lt e.1)
 | false => exact h2
theorem g_bLess {k : Bool → Pm β} {n : Nat} (h1 : G Q (k true s)) (h2 : G Q (k false s)) : G Q ((bLess l base n >>= k) s) := by
 show G Q (k (bLessS l base s n) s)
 cases bLessS l base s n <;> assumption
theorem g_declares {k : Bool → Pm β} (h1 : G Q (k true s)) (h2 : G Q (k false s)) : G Q ((declares l base >>= k) s) := by
 show G Q (k (wordS l s _ || bSpecS l base s 0) s)
 cases (wordS l s _ || bSpecS l base s 0) <;> assumption
theorem g_labelled {k : Bool → Pm β} (h1 : s.at' + 1 < l.length → G Q (k true s)) (h2 : G Q (k false s)) : G Q ((labelled l >>= k) s) := by
 show G Q (k ((peekS l s 0).c == 2 && signS l s 1 [58]) s)
 cases e : ((peekS l s 0).c == 2 && signS l s 1 [58]) with
 | true => rw [Bool.and_eq_true] at e; exact h1 (sign_lt e.2)
 | false => exact h2
theorem g_level {k : Nat → Pm β} (h1 : ∀ n, n ≤ 45 → (n = 0 ∨ s.at' < l.length) → G Q (k n s)) : G Q ((level l >>= k) s) := by
 show G Q (k (if (peekS l s 0).c = 7 then lvl (peekS l s 0).t else 0) s)
 split
 ·rename_i e
  refine h1 _ ?_ (.inr (peek_lt (l := l) (k := 0) (by rw [e]; decide)))
  unfold lvl
  repeat' split
  all_goals omega
 ·exact h1 0 (by omega) (.inl rfl)
theorem g_assigns {k : Bool → Pm β} (h1 : s.at' < l.length → G Q (k true s)) (h2 : G Q (k false s)) : G Q ((assigns l >>= k) s) := by
 show G Q (k ((peekS l s 0).c == 7 && asg (peekS l s 0).t) s)
 cases e : ((peekS l s 0).c == 7 && asg (peekS l s 0).t) with
 | true =>
  rw [Bool.and_eq_true, beq_iff_eq] at e
  exact h1 (peek_lt (l := l) (k := 0) (by rw [e.1]; decide))
 | false => exact h2
theorem g_took {k : Bool → Pm β} {t : Bs} (h1 : ∀ s2, Onto l s (s.at' + 1) s2 → Tr s s2 → Nr s s2 → G Q (k true s2)) (h2 : signS l s 0 t = false → G Q (k false s)) : G Q ((took l t >>= k) s) := by
 refine g_bind ?_
 unfold took
 cases e : signS l s 0 t with
 | true => exact onto (Nat.le_succ _) (sign_lt e) (fun s2 => G Q (k true s2)) h1
 | false => exact h2 e
theorem g_tookWord {k : Bool → Pm β} {t : Bs} (h1 : ∀ s2, Onto l s (s.at' + 1) s2 → Tr s s2 → Nr s s2 → G Q (k true s2)) (h2 : wordS l s t = false → G Q (k false s)) : G Q ((tookWord l t >>= k) s) := by
 refine g_bind ?_
 unfold tookWord
 cases e : wordS l s t with
 | true => exact onto (Nat.le_succ _) (word_lt e) (fun s2 => G Q (k true s2)) h1
 | false => exact h2 e
theorem g_tookWord' {Q : Bool → Ps → Prop} {t : Bs} (h1 : ∀ s2, Onto l s (s.at' + 1) s2 → Tr s s2 → Nr s s2 → Q true s2) (h2 : wordS l s t = false → Q false s) : G Q (tookWord l t s) := by
 unfold tookWord
 cases e : wordS l s t with
 | true => exact onto (Nat.le_succ _) (word_lt e) (fun s2 => Q true s2) h1
 | false => exact h2 e
theorem g_need {k : Unit → Pm β} {t : Bs} (h1 : ∀ s2, Onto l s (s.at' + 1) s2 → Tr s s2 → Nr s s2 → G Q (k () s2)) : G Q ((need l t >>= k) s) := by
 refine g_bind ?_
 unfold need
 cases e : signS l s 0 t with
 | true => exact onto (Nat.le_succ _) (sign_lt e) (fun s2 => G Q (k () s2)) h1
 | false => trivial
theorem g_name {k : Bs → Pm β} (h1 : ∀ x s2, Onto l s (s.at' + 1) s2 → Tr s s2 → Nr s s2 → G Q (k x s2)) : G Q ((name' l >>= k) s) := by
 refine g_bind ?_
 unfold name'
 split
 ·rename_i e
  exact onto (Nat.le_succ _) (peek_lt (l := l) (k := 0) (by rw [e]; decide)) (fun s2 => G Q (k _ s2)) (h1 _)
 ·trivial
theorem quals_le (l : List Ct) : ∀ (n : Nat) (s : Ps), s.at' ≤ l.length → s.at' ≤ qualsF l n s ∧ qualsF l n s ≤ l.length
 | 0, s, h => ⟨Nat.le_refl _, h⟩
 | n + 1, s, h => by
  unfold qualsF
  split
  ·rename_i e
   have hl := peek_lt (l := l) (s := s) (k := 0) (by rw [e.1]; decide)
   have := quals_le l n { s with at' := s.at' + 1 } hl
   exact ⟨Nat.le_trans (Nat.le_succ _) this.1, this.2⟩
  ·exact ⟨Nat.le_refl _, h⟩
theorem strs_le (l : List Ct) : ∀ (n : Nat) (s : Ps), s.at' ≤ l.length → s.at' ≤ strsF l n s ∧ strsF l n s ≤ l.length
 | 0, s, h => ⟨Nat.le_refl _, h⟩
 | n + 1, s, h => by
  unfold strsF
  split
  ·rename_i e
   have hl := peek_lt (l := l) (s := s) (k := 0) (by rw [e]; decide)
   have := strs_le l n { s with at' := s.at' + 1 } hl
   exact ⟨Nat.le_trans (Nat.le_succ _) this.1, this.2⟩
  ·exact ⟨Nat.le_refl _, h⟩
theorem g_quals {k : Bool → Pm β} (hl : s.at' ≤ l.length) (h1 : ∀ b n s2, s.at' ≤ n → Onto l s n s2 → Tr s s2 → Nr s s2 → G Q (k b s2)) : G Q ((quals l >>= k) s) := by
 have hq := quals_le l (l.length - s.at' + 1) s hl
 exact onto hq.1 hq.2 (fun s2 => G Q (k _ s2)) (fun s2 => h1 _ _ s2 hq.1)
theorem g_strings {k : Unit → Pm β} (h1 : ∀ n s2, s.at' + 1 ≤ n → Onto l s n s2 → Tr s s2 → Nr s s2 → G Q (k () s2)) : G Q ((strings l >>= k) s) := by
 refine g_bind ?_
 unfold strings
 split
 ·rename_i e
  have hl := peek_lt (l := l) (s := s) (k := 0) (by rw [e]; decide)
  have hq := strs_le l (l.length - s.at') { s with at' := s.at' + 1 } hl
  have he : strsF l (l.length - s.at' + 1) s = strsF l (l.length - s.at') { s with at' := s.at' + 1 } := by
   conv => lhs; unfold strsF
   rw [if_pos e]
  rw [he]
  exact onto (Nat.le_trans (Nat.le_succ _) hq.1) hq.2 (fun s2 => G Q (k () s2)) (fun s2 => h1 _ s2 hq.1)
 ·trivial
end
def rank : Tg → Nat
 | .applied _ => 1 | .assoc => 4 | .literal _ => 2 | .pfix => 3 | .unary => 4 | .size _ => 5 | .cast => 5 | .binary _ => 6 | .choice => 7 | .assign => 8 | .expr => 9 | .initializer => 9 | .itemR => 1 | .item => 10 | .until' _ => 10
 | .suffixes _ _ => 1 | .declarator _ => 2 | .specsR _ _ _ _ => 1 | .specs _ => 2 | .typeName => 3 | .param => 3 | .field => 3 | .member => 4 | .recordR => 5 | .init _ => 3 | .declaration => 4 | .body _ => 1 | .external => 4
 | .statement => 11 | .part => 12 | .itemsR => 12 | .compound _ _ => 13 | .unit => 5
 | _ => 0
def frame : Tg → Option (Nat × Nat)
 | .exprR h => some h | .binaryR _ h _ => some h | .literal h => some h | .applied h => some h | .restOfInit h => some h | .keyword _ h => some h | .compound _ h => some h
 | .unit => some (0, 0)
 | _ => none
def st : Tg → Nat
 | .exprR _ | .binaryR _ _ _ | .applied _ | .literal _ | .callR | .genericR | .bracesR | .itemR | .desig | .starsR _ | .suffixes _ _ | .paramsR | .moreInits _ | .restOfInit _ | .keyword _ _ | .compound _ _ | .memberR | .recordR | .enumR | .unit | .field => 0
 | .specsR _ w o _ => 1 - (w + o)
 | _ => 1
def sk (b : Bool) : Tg → Nat
 | .exprR _ | .binaryR _ _ _ | .applied _ | .callR | .genericR | .bracesR | .itemR | .desig | .paramsR | .moreInits _ | .memberR | .recordR | .enumR | .itemsR | .compound _ _ => 1
 | .starsR _ | .suffixes _ _ => 1
 | .keyword _ _ => if b then 4 else 1
 | .literal _ | .item | .declarator _ | .typeName | .param | .assoc => 3
 | .init _ => 2
 | .restOfInit _ | .unit | .field => 0
 | .specsR _ w o _ => 1 + 4 * (1 - (w + o))
 | .align | .atomic | .record | .enum | .until' _ => 5
 | _ => 4
def sm : Tg → Nat
 | .starsR _ | .suffixes _ _ => 3
 | _ => 0
def cc : Tg → Nat
 | .specs _ | .record | .enum | .atomic => 1
 | .specsR _ w o _ => 1 - (w + o)
 | .declarator k => 1 - k
 | _ => 0
def cB : Tg → Nat
 | .items => 0
 | .part | .compound _ _ | .body _ => 2
 | _ => 1
def wo : Tg → Nat
 | .specsR _ w o _ => w + o
 | _ => 0
def lv : Tg → Nat
 | .binary k => k
 | .binaryR k _ _ => k
 | _ => 36
def some' : Tg → Nat
 | .keyword _ _ | .assert | .align | .atomic | .record | .enum => 1
 | _ => 0
def Tg.sz : Tg → Nat
 | .suffixes f _ => f.params.length
 | .body p => p.length
 | _ => 0
def cond : Tg → Bool
 | .desig => true
 | .keyword _ _ => true
 | .starsR b => !b
 | _ => false
def Pre (l : List Ct) (n : Nat) (tg : Tg) (s : Ps) : Prop := s.at' + some' tg ≤ l.length ∧ 36 ≤ lv tg ∧ s.done.length ≤ 4 * s.at' ∧ s.nm.ch.length + tg.sz ≤ 2 * s.at' ∧ s.nm.bl.length + cB tg ≤ 2 * s.at' + 1 ∧ wo tg ≤ s.at' ∧ 16 * (l.length - s.at') + rank tg < n
def Num (l : List Ct) (tg : Tg) (s : Ps) (v : Va) (s1 : Ps) : Prop := s.at' + st tg ≤ s1.at' ∧ s1.at' ≤ l.length ∧ s1.done.length + sk v.bool tg + sm tg * min 1 (s1.at' - s.at') + 4 * s.at' ≤ s.done.length + 4 * s1.at' + 1 ∧ s1.nm.ch.length + v.size + cc tg + 2 * s.at' ≤ s.nm.ch.length + tg.sz + 2 * s1.at' ∧ s1.nm.bl.length = s.nm.bl.length
def Post (l : List Ct) (tg : Tg) (sh s : Ps) (v : Va) (s1 : Ps) : Prop := Tr sh s1 ∧ Nr s s1 ∧ Num l tg s v s1 ∧ (cond tg = true → v.bool = true → s.at' < s1.at')
def Ih (l : List Ct) (base : Bs → Bool) (n : Nat) : Prop := ∀ (tg : Tg) (sh s : Ps), (frame tg = none → sh = s) → (∀ h, frame tg = some h → h = (sh.at', sh.done.length)) → Tr sh s → Pre l n tg s → G (Post l tg sh s) (run l base n tg s)
section
variable {l : List Ct} {base : Bs → Bool} {n : Nat} {β : Type} {Q : β → Ps → Prop} {s sh : Ps} {k : Va → Pm β}
theorem g_end {tg : Tg} {Q : Va → Ps → Prop} (ih : Ih l base n) (hf : frame tg = none) (hp : Pre l n tg s)
  (h : ∀ v s1, Tr s s1 → Nr s s1 → Num l tg s v s1 → v.form.params.length ≤ v.size → v.list.length ≤ v.size → (cond tg = true → v.bool = true → s.at' < s1.at') → Q v s1) : G Q (run l base n tg s) :=
 (ih tg s s (fun _ => rfl) (fun h e => by rw [hf] at e; cases e) (Tr.refl s) hp).mono fun v s1 ⟨h1, h2, h3, h4⟩ => h v s1 h1 h2 h3 (form_size v) (list_size v) h4
theorem g_endC {tg : Tg} {Q : Va → Ps → Prop} (ih : Ih l base n) (hf : frame tg = none) (hc : cond tg = true) (hp : Pre l n tg s)
  (h1 : ∀ v s1, v.bool = true → Tr s s1 → Nr s s1 → Num l tg s v s1 → v.form.params.length ≤ v.size → v.list.length ≤ v.size → s.at' < s1.at' → Q v s1)
  (h2 : ∀ v s1, v.bool = false → Tr s s1 → Nr s s1 → Num l tg s v s1 → v.form.params.length ≤ v.size → v.list.length ≤ v.size → Q v s1) : G Q (run l base n tg s) :=
 g_end ih hf hp fun v s1 a1 a2 a3 a4 a5 a6 => by
  cases hv : v.bool with
  | true => exact h1 v s1 hv a1 a2 a3 a4 a5 (a6 hc hv)
  | false => exact h2 v s1 hv a1 a2 a3 a4 a5
theorem g_runC {tg : Tg} (ih : Ih l base n) (hf : frame tg = none) (hc : cond tg = true) (hp : Pre l n tg s)
  (h1 : ∀ v s1, v.bool = true → Tr s s1 → Nr s s1 → Num l tg s v s1 → v.form.params.length ≤ v.size → v.list.length ≤ v.size → s.at' < s1.at' → G Q (k v s1))
  (h2 : ∀ v s1, v.bool = false → Tr s s1 → Nr s s1 → Num l tg s v s1 → v.form.params.length ≤ v.size → v.list.length ≤ v.size → G Q (k v s1)) : G Q ((run l base n tg >>= k) s) :=
 g_bind (g_endC ih hf hc hp h1 h2)
theorem g_run {tg : Tg} (ih : Ih l base n) (hf : frame tg = none) (hp : Pre l n tg s)
  (h : ∀ v s1, Tr s s1 → Nr s s1 → Num l tg s v s1 → v.form.params.length ≤ v.size → v.list.length ≤ v.size → (cond tg = true → v.bool = true → s.at' < s1.at') → G Q (k v s1)) : G Q ((run l base n tg >>= k) s) :=
 g_bind (g_end ih hf hp h)
theorem g_endH {tg : Tg} {Q : Va → Ps → Prop} (ih : Ih l base n) (hf : frame tg = some (sh.at', sh.done.length)) (hT : Tr sh s) (hp : Pre l n tg s)
  (h : ∀ v s1, Tr sh s1 → Nr s s1 → Num l tg s v s1 → v.form.params.length ≤ v.size → v.list.length ≤ v.size → (cond tg = true → v.bool = true → s.at' < s1.at') → Q v s1) : G Q (run l base n tg s) :=
 (ih tg sh s (fun e => by rw [hf] at e; cases e) (fun h e => by rw [hf] at e; cases e; rfl) hT hp).mono fun v s1 ⟨h1, h2, h3, h4⟩ => h v s1 h1 h2 h3 (form_size v) (list_size v) h4
theorem g_endHC {tg : Tg} {Q : Va → Ps → Prop} (ih : Ih l base n) (hf : frame tg = some (sh.at', sh.done.length)) (hc : cond tg = true) (hT : Tr sh s) (hp : Pre l n tg s)
  (h1 : ∀ v s1, v.bool = true → Tr sh s1 → Nr s s1 → Num l tg s v s1 → v.form.params.length ≤ v.size → v.list.length ≤ v.size → s.at' < s1.at' → Q v s1)
  (h2 : ∀ v s1, v.bool = false → Tr sh s1 → Nr s s1 → Num l tg s v s1 → v.form.params.length ≤ v.size → v.list.length ≤ v.size → Q v s1) : G Q (run l base n tg s) :=
 g_endH ih hf hT hp fun v s1 a1 a2 a3 a4 a5 a6 => by
  cases hv : v.bool with
  | true => exact h1 v s1 hv a1 a2 a3 a4 a5 (a6 hc hv)
  | false => exact h2 v s1 hv a1 a2 a3 a4 a5
theorem g_runH {tg : Tg} (ih : Ih l base n) (hf : frame tg = some (sh.at', sh.done.length)) (hT : Tr sh s) (hp : Pre l n tg s)
  (h : ∀ v s1, Tr sh s1 → Nr s s1 → Num l tg s v s1 → v.form.params.length ≤ v.size → v.list.length ≤ v.size → (cond tg = true → v.bool = true → s.at' < s1.at') → G Q (k v s1)) : G Q ((run l base n tg >>= k) s) :=
 g_bind (g_endH ih hf hT hp h)
theorem g_runHC {tg : Tg} (ih : Ih l base n) (hf : frame tg = some (sh.at', sh.done.length)) (hc : cond tg = true) (hT : Tr sh s) (hp : Pre l n tg s)
  (h1 : ∀ v s1, v.bool = true → Tr sh s1 → Nr s s1 → Num l tg s v s1 → v.form.params.length ≤ v.size → v.list.length ≤ v.size → s.at' < s1.at' → G Q (k v s1))
  (h2 : ∀ v s1, v.bool = false → Tr sh s1 → Nr s s1 → Num l tg s v s1 → v.form.params.length ≤ v.size → v.list.length ≤ v.size → G Q (k v s1)) : G Q ((run l base n tg >>= k) s) :=
 g_bind (g_endHC ih hf hc hT hp h1 h2)
end
end Go.Proofs.YtlboejdhmggjpaaGreat.Pp

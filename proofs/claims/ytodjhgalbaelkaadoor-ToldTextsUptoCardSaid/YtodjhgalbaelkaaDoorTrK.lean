/- The document's answer for told: Parse, its memory. -/
import Derived.Test.YtodjhgalbaelkaaDoorTrG
namespace Go.Proofs.YtodjhgalbaelkaaDoor
open Go.RowKit Go.BigFrame Go.Shelf
set_option linter.unusedVariables false

/-- The changes so far: the list's row and the last one's edits are the call's own, and may be written. -/
structure RfC (B K : Nat) (lv : Value) (l : List Chg) (w : World) : Prop where
  row : w.ownsRow B 69 2 lv l.length (l.flatMap Chg.f)
  old : ∀ c ∈ l.dropLast, w.ownsRow B 50 3 c.ev c.es.length (c.es.flatMap Edi.f) ∧ ∀ k, c.ev.ownBlock = some k → k < K
  new : ∀ c, l.getLast? = some c → w.ownsRow K 50 3 c.ev c.es.length (c.es.flatMap Edi.f)
  leB : B ≤ K
  leK : K ≤ w.heap.size
section
variable {B K : Nat} {lv : Value} {l : List Chg} {w w' : World}
theorem RfC.on (h : RfC B K lv l w) (hb : Below w.heap.size w w') : RfC B K lv l w' :=
  ⟨own_on h.row hb, fun c hc => ⟨own_on (h.old c hc).1 hb, (h.old c hc).2⟩, fun c hc => own_on (h.new c hc) hb, h.leB, Nat.le_trans h.leK hb.size⟩
theorem RfC.start (B : Nat) (w : World) (h : B ≤ w.heap.size) : RfC B B (.slice none 0 0) [] w :=
  ⟨World.ownsRow_nil _ _ _ _, (fun c hc => by cases hc), (fun c hc => by cases hc), Nat.le_refl _, h⟩
/-- A change is pushed. -/
theorem RfC.push {w2 : World} {v' : Value} {name : ByteArray} (h : RfC B K lv l w) (hg : w.grownBy w2 lv.ownBlock)
    (hown : w2.ownsRow B 69 2 v' (l.length + 1) (l.flatMap Chg.f ++ [.string name, .slice none 0 0])) : RfC B w2.heap.size v' (l ++ [⟨name, none, 0, []⟩]) w2 := by
  have hw := hg.size
  refine ⟨by simpa [Chg.f] using hown, fun c hc => ?_, fun c hc => ?_, Nat.le_trans h.leB (Nat.le_trans h.leK hw), Nat.le_refl _⟩
  · rw [List.dropLast_concat] at hc
    rcases last_cases l with rfl | ⟨d, x, rfl⟩
    · cases hc
    · rcases List.mem_append.1 hc with hc | hc
      · obtain ⟨h1, h2⟩ := h.old c (by rw [List.dropLast_concat]; exact hc)
        exact ⟨other_row h1 h.row (by decide) hg, fun k hk => by have := h2 k hk; have := h.leK; omega⟩
      · rw [List.mem_singleton] at hc
        subst hc
        have h1 := h.new c (by simp)
        refine ⟨other_row (ownsRow_base h1 h.leB) h.row (by decide) hg, fun k hk => ?_⟩
        obtain ⟨_, cur, hc⟩ := row_cells h1 hk
        have := (Array.getElem?_eq_some_iff.1 hc).1
        omega
  · have : c = ⟨name, none, 0, []⟩ := by simpa using hc.symm
    subst this
    exact World.ownsRow_nil _ _ _ _
/-- An edit is pushed. -/
theorem RfC.grow {G cap : Nat} {ea : Option Addr} {ec : Nat} {d : List Chg} {c : Chg} {x : Edi} {w2 : World}
    (h : RfC B K (.slice (some ⟨G, 0, none⟩) (d.length + 1) cap) (d ++ [c]) w) (hg : w.grownBy w2 c.ev.ownBlock)
    (hown : w2.ownsRow K 50 3 (.slice ea (c.es.length + 1) ec) (c.es.length + 1) (c.es.flatMap Edi.f ++ Edi.f x)) :
    RfC B K (.slice (some ⟨G, 0, none⟩) (d.length + 1) cap) (d ++ [⟨c.n, ea, ec, c.es ++ [x]⟩]) (w2.setCell ⟨G, d.length * 2 + 1, none⟩ (.slice ea (c.es.length + 1) ec)) := by
  have hc := h.new c (by simp)
  have hl : (d ++ [c]).length = d.length + 1 := by simp
  have hrow := other_row h.row hc (by decide) hg
  rw [hl] at hrow
  obtain ⟨_, cur, hG⟩ := row_cells hrow rfl
  have hm : Mod (fun k => k = G) w2 (w2.setCell ⟨G, d.length * 2 + 1, none⟩ (.slice ea (c.es.length + 1) ec)) := Mod.setCell (S := fun k => k = G) (Mod.refl _ w2) ⟨G, d.length * 2 + 1, none⟩ (.inr rfl) _
  have key : ∀ {X e size n : Nat} {v : Value} {xs : List Value}, e ≠ 69 → w2.ownsRow X e size v n xs → (w2.setCell ⟨G, d.length * 2 + 1, none⟩ (.slice ea (c.es.length + 1) ec)).ownsRow X e size v n xs := fun he hx =>
    ownsRow_mod hx hm (fun k hk hkr => by
      subst hkr
      obtain ⟨_, cur', hc'⟩ := row_cells hx hk
      rw [hG] at hc'
      simp only [Option.some.injEq, Obj.cells.injEq] at hc'
      exact he hc'.2.1.symm)
  have hst := (hrow.stored (d.length * 2 + 1) (.slice ea (c.es.length + 1) ec)).1
  have hset := chg_set d c ea ec (c.es ++ [x])
  rw [List.length_append, List.length_singleton] at hset
  rw [hset] at hst
  refine ⟨by simpa using hst, fun c' hc' => ?_, fun c' hc' => ?_, h.leB, by have := hg.size; have := h.leK; simp; omega⟩
  · rw [List.dropLast_concat] at hc'
    obtain ⟨h1, h2⟩ := h.old c' (by rw [List.dropLast_concat]; exact hc')
    refine ⟨key (by decide) (ownsRow_mod (S := fun k => c.ev.ownBlock = some k) h1 ⟨hg.os, hg.tape, hg.output, hg.size, fun k hk hn => hg.block k hk (fun e => hn e.symm)⟩ (fun k hk hs => ?_)), h2⟩
    have := h2 k hk
    have := (row_cells hc hs).1
    omega
  · have : c' = ⟨c.n, ea, ec, c.es ++ [x]⟩ := by simpa using hc'.symm
    subst this
    have := key (by decide) hown
    simpa [Chg.ev] using this
/-- The last edit's text. -/
theorem RfC.patch {g ec : Nat} {d : List Chg} {n : ByteArray} {es0 : List Edi} {x : Edi}
    (h : RfC B K lv (d ++ [⟨n, some ⟨g, 0, none⟩, ec, es0 ++ [x]⟩]) w) (t : ByteArray) :
    RfC B K lv (d ++ [⟨n, some ⟨g, 0, none⟩, ec, es0 ++ [⟨x.a, x.b, t⟩]⟩]) (w.setCell ⟨g, es0.length * 3 + 2, none⟩ (.string t)) := by
  have hc := h.new ⟨n, some ⟨g, 0, none⟩, ec, es0 ++ [x]⟩ (by simp)
  have hlen : (es0 ++ [x]).length = es0.length + 1 := by simp
  unfold Chg.ev at hc
  simp only [hlen] at hc
  obtain ⟨hKg, cur, hg⟩ := row_cells hc rfl
  have hm : Mod (fun k => k = g) w (w.setCell ⟨g, es0.length * 3 + 2, none⟩ (.string t)) := Mod.setCell (S := fun k => k = g) (Mod.refl _ w) ⟨g, es0.length * 3 + 2, none⟩ (.inr rfl) _
  have key : ∀ {X e size n : Nat} {v : Value} {xs : List Value}, e ≠ 50 → w.ownsRow X e size v n xs → (w.setCell ⟨g, es0.length * 3 + 2, none⟩ (.string t)).ownsRow X e size v n xs := fun he hx =>
    ownsRow_mod hx hm (fun k hk hkr => by
      subst hkr
      obtain ⟨_, cur', hc'⟩ := row_cells hx hk
      rw [hg] at hc'
      simp only [Option.some.injEq, Obj.cells.injEq] at hc'
      exact he hc'.2.1.symm)
  have hst := (hc.stored (es0.length * 3 + 2) (.string t)).1
  rw [edi_set] at hst
  have hrow := key (by decide) h.row
  refine ⟨?_, fun c' hc' => ?_, fun c' hc' => ?_, h.leB, by simpa using h.leK⟩
  · simpa [Chg.f] using hrow
  · rw [List.dropLast_concat] at hc'
    obtain ⟨h1, h2⟩ := h.old c' (by rw [List.dropLast_concat]; exact hc')
    refine ⟨ownsRow_mod h1 hm (fun k hk hs => ?_), h2⟩
    have h3 := h2 k hk
    have hK2 : K ≤ g := hKg
    subst hs
    omega
  · have : c' = ⟨n, some ⟨g, 0, none⟩, ec, es0 ++ [⟨x.a, x.b, t⟩]⟩ := by simpa using hc'.symm
    subst this
    simpa [Chg.ev] using hst
/-- Rows of strings stay where cells of the types 69 and 50 are written. -/
theorem str_set {X sz n b t i : Nat} {v u : Value} {xs cs : List Value} {ar : Array Value} {fz : Nat × Nat} (h : w.ownsRow X 9 sz v n xs) (hb : w.heap[b]? = some (.cells ar t fz)) (ht : t ≠ 9) : (w.setCell ⟨b, i, none⟩ u).ownsRow X 9 sz v n xs :=
  ownsRow_mod h (Mod.setCell (S := fun k => k = b) (Mod.refl _ w) ⟨b, i, none⟩ (.inr rfl) u) (fun k hk hkr => by
    subst hkr
    obtain ⟨_, cur', hc'⟩ := row_cells h hk
    rw [hb] at hc'
    simp only [Option.some.injEq, Obj.cells.injEq] at hc'
    exact ht hc'.2.1)
/-- The last change's cells. -/
theorem RfC.last {d : List Chg} {c : Chg} (h : RfC B K lv (d ++ [c]) w) :
    ∃ G cap cur, lv = .slice (some ⟨G, 0, none⟩) (d.length + 1) cap ∧ B ≤ G ∧ w.heap[G]? = some (.cells cur 69 (0, 0)) ∧ w.cell? ⟨G, d.length * 2, none⟩ = some (.string c.n) ∧ w.cell? ⟨G, d.length * 2 + 1, none⟩ = some c.ev := by
  have hl : (d ++ [c]).length = d.length + 1 := by simp
  have hrow := h.row
  rw [hl] at hrow
  rcases hrow.2 with ⟨_, h2⟩ | ⟨G, cap, cur, rfl, hb, hG, _⟩
  · omega
  · obtain ⟨e0, e1⟩ := chg_flat d c
    refine ⟨G, cap, cur, rfl, hb, hG, ?_, ?_⟩
    · rw [hrow.cellAt _ (by omega), e0]
    · rw [hrow.cellAt _ (by omega), e1]
/-- The last edit's cells. -/
theorem RfC.lastE {d : List Chg} {n : ByteArray} {ea : Option Addr} {ec : Nat} {es0 : List Edi} {x : Edi} (h : RfC B K lv (d ++ [⟨n, ea, ec, es0 ++ [x]⟩]) w) :
    ∃ g cur, ea = some ⟨g, 0, none⟩ ∧ K ≤ g ∧ w.heap[g]? = some (.cells cur 50 (0, 0)) ∧ w.cell? ⟨g, es0.length * 3 + 1, none⟩ = some (.int .i64 x.b) ∧ w.cell? ⟨g, es0.length * 3 + 2, none⟩ = some (.string x.t) := by
  have hc := h.new ⟨n, ea, ec, es0 ++ [x]⟩ (by simp)
  have hlen : (es0 ++ [x]).length = es0.length + 1 := by simp
  unfold Chg.ev at hc
  simp only [hlen] at hc
  rcases hc.2 with ⟨_, h2⟩ | ⟨g, cap, cur, hv, hb, hG, _⟩
  · omega
  · simp only [Value.slice.injEq] at hv
    obtain ⟨rfl, -, rfl⟩ := hv
    have h1 := flat_get 3 Edi.f (fun g => rfl) (es0 ++ [x]) es0.length 1 (by simp) (by omega)
    have h2 := flat_get 3 Edi.f (fun g => rfl) (es0 ++ [x]) es0.length 2 (by simp) (by omega)
    rw [show (es0 ++ [x])[es0.length]'(by simp) = x from by simp] at h1 h2
    refine ⟨g, cur, rfl, hb, hG, ?_, ?_⟩
    · rw [hc.cellAt _ (by omega), h1]; rfl
    · rw [hc.cellAt _ (by omega), h2]; rfl
end
end Go.Proofs.YtodjhgalbaelkaaDoor

/- TrI -/
namespace Go.Proofs.YtodjhgalbaelkaaDoor
open Go.RowKit Go.Shelf
set_option linter.unusedVariables false

/-- What is appended to the last edit's text. -/
def addT (l : List Pc) (r : Bs) : List Pc :=
  match l.getLast? with
  | none => l
  | some c => l.dropLast ++ [(c.1, match c.2.getLast? with | none => c.2 | some x => c.2.dropLast ++ [⟨x.a, x.b, str (dl x.t ++ r)⟩])]
def cutT (l : List Pc) : List Pc :=
  match l.getLast? with
  | none => l
  | some c => l.dropLast ++ [(c.1, match c.2.getLast? with | none => c.2 | some x => c.2.dropLast ++ [⟨x.a, x.b, str (tlB (dl x.t))⟩])]
theorem addT_at (d : List Pc) (n : ByteArray) (es : List Edi) (x : Edi) (r : Bs) : addT (d ++ [(n, es ++ [x])]) r = d ++ [(n, es ++ [⟨x.a, x.b, str (dl x.t ++ r)⟩])] := by simp [addT]
theorem cutT_at (d : List Pc) (n : ByteArray) (es : List Edi) (x : Edi) : cutT (d ++ [(n, es ++ [x])]) = d ++ [(n, es ++ [⟨x.a, x.b, str (tlB (dl x.t))⟩])] := by simp [cutT]
def hasE (l : List Pc) : Bool := match l.getLast? with | none => false | some c => !(c.2.length == 0)
/-- The edit that three numbers say. -/
def ediR (l : List Pc) (v : Option (List Int)) : Option (List Pc × Nat) :=
  match l.getLast?, v with
  | some c, some [a, b, n] => if 1 ≤ a ∧ a - 1 + b ≤ 65536 ∧ n ≤ 65536 ∧ b + n ≠ 0 ∧ (∀ x, c.2.getLast? = some x → x.b < a - 1) then some (l.dropLast ++ [(c.1, c.2 ++ [⟨a - 1, a - 1 + b, ⟨#[]⟩⟩])], n.toNat) else none
  | _, _ => none
def rWant (l : List Pc) (left : Nat) : Bs → Option (List Pc × Nat)
  | 43 :: r => some (addT l (r ++ [10]), left - 1)
  | _ => none
def rZero (l : List Pc) (prev : Bs) : Bs → Option (List Pc × Nat)
  | 61 :: 32 :: r => if headOkP l r = true then some (l ++ [(str r, [])], 0) else none
  | 64 :: 32 :: r => ediR l (thrE 3 [] r)
  | u => if u = [45] ∧ hasE l = true ∧ prev.head? = some 43 ∧ prev ≠ [43, 10] then some (cutT l, 0) else none
theorem rWant_else {l : List Pc} {left : Nat} {u : Bs} (h : ¬ ∃ r, u = [43] ++ r) : rWant l left u = none := by
  unfold rWant
  split
  · exact absurd ⟨_, rfl⟩ h
  · rfl
theorem rZero_else {l : List Pc} {prev u : Bs} (h1 : ¬ ∃ r, u = [61, 32] ++ r) (h2 : ¬ ∃ r, u = [64, 32] ++ r) : rZero l prev u = if u = [45] ∧ hasE l = true ∧ prev.head? = some 43 ∧ prev ≠ [43, 10] then some (cutT l, 0) else none := by
  unfold rZero
  split
  · exact absurd ⟨_, rfl⟩ h1
  · exact absurd ⟨_, rfl⟩ h2
  · rfl
/-- A line, by the document. -/
def rStep (l : List Pc) (left : Nat) (prev t : Bs) : Option (List Pc × Nat) :=
  if ends t = false then none
  else if 0 < left then rWant l left (tlB t)
  else rZero l prev (tlB t)
structure RelR (P : St) (l : List Pc) (left : Nat) (prev : Bs) : Prop where
  left : left = P.want
  l : l = if 0 < P.want then setTxt P.l P.text else P.l
  opn : P.want = 0 → P.opn = (prev.head? == some 43 && !(prev == [43, 10]))
theorem path_nil : isPath [] = false := by decide
theorem numO_of {o : Option Nat} {n : Nat} (h : o = some n) : numO o = if 65537 < n then -1 else (n : Int) := by rw [h]; rfl
theorem thrE3 (t : Bs) : thrE 3 [] t = (match numB (cutB t).1, numB (cutB ((cutB t).2.getD [])).1, numB ((cutB ((cutB t).2.getD [])).2.getD []) with
    | some f, some o, some n => if f ≤ 65537 ∧ o ≤ 65537 ∧ n ≤ 65537 then some [(f : Int), (o : Int), (n : Int)] else none
    | _, _, _ => none) := by
  have hnil : numB [] = none := by unfold numB; simp
  have hneg : ∀ o : Option Nat, numO o < 0 ↔ (∀ n, o = some n → 65537 < n) := fun o => by
    cases o with
    | none => simp [numO]
    | some n => unfold numO; simp only; constructor
                · intro h m hm; cases hm; split at h <;> omega
                · intro h; rw [if_pos (h n rfl)]; omega
  have hval : ∀ (o : Option Nat) (n : Nat), o = some n → n ≤ 65537 → numO o = (n : Int) := fun o n h hn => by rw [h]; unfold numO; simp only; rw [if_neg (by omega)]
  rw [thrE_succ]
  unfold numR
  cases h1 : numB (cutB t).1 with
  | none => rw [if_pos (by simp [numO])]
  | some f =>
    by_cases hf : 65537 < f
    · rw [if_pos ((hneg _).2 (fun n hn => by cases hn; exact hf))]
      cases numB (cutB ((cutB t).2.getD [])).1 with
      | none => rfl
      | some o =>
        cases numB ((cutB ((cutB t).2.getD [])).2.getD []) with
        | none => rfl
        | some n => simp only; rw [if_neg (by omega)]
    · have hf' : numO (some f) = (f : Int) := hval _ f rfl (by omega)
      rw [hf', if_neg (by omega)]
      cases hc1 : (cutB t).2 with
      | none =>
        simp only [Option.getD_none]
        rw [show numB (cutB []).1 = none from hnil]
        rfl
      | some r1 =>
        simp only [Option.getD_some]
        rw [thrE_succ]
        unfold numR
        cases h2 : numB (cutB r1).1 with
        | none => rw [if_pos (by simp [numO])]
        | some o =>
          by_cases ho : 65537 < o
          · rw [if_pos ((hneg _).2 (fun n hn => by cases hn; exact ho))]
            cases numB ((cutB r1).2.getD []) with
            | none => rfl
            | some n => simp only; rw [if_neg (by omega)]
          · have ho' : numO (some o) = (o : Int) := hval _ o rfl (by omega)
            rw [ho', if_neg (by omega)]
            cases hc2 : (cutB r1).2 with
            | none =>
              simp only [Option.getD_none]
              rw [hnil]
              rfl
            | some r2 =>
              simp only [Option.getD_some]
              rw [thrE_succ]
              unfold numR
              have hcb := cutB_back r2
              cases hc3 : (cutB r2).2 with
              | none =>
                rw [hc3, List.append_nil] at hcb
                rw [← hcb]
                cases h3 : numB r2 with
                | none => rw [if_pos (by simp [numO])]
                | some n =>
                  by_cases hn : 65537 < n
                  · rw [if_pos ((hneg _).2 (fun m hm => by cases hm; exact hn))]
                    simp only; rw [if_neg (by omega)]
                  · have hn' : numO (some n) = (n : Int) := hval _ n rfl (by omega)
                    rw [hn', if_neg (by omega)]
                    simp only [if_true]
                    rw [if_pos (by omega)]
                    rfl
              | some r3 =>
                rw [hc3] at hcb
                have hbad : numB r2 = none := by
                  cases h3 : numB r2 with
                  | none => rfl
                  | some n =>
                    exfalso
                    have := dec_of_num h3
                    have hm : (32 : UInt8) ∈ r2 := by rw [hcb]; simp
                    rw [this] at hm
                    exact dec_not n 32 (by decide) hm
                rw [hbad]
                simp only [thrE]
                split <;> rfl
end Go.Proofs.YtodjhgalbaelkaaDoor

/- TrJ -/
namespace Go.Proofs.YtodjhgalbaelkaaDoor
open Go.RowKit Go.Shelf
set_option linter.unusedVariables false

theorem ediR_eq {d : List Pc} {c : Pc} {last : Int} {t : Bs} (hlast : last = (match c.2.getLast? with | none => -1 | some x => x.b)) :
    ediR (d ++ [c]) (thrE 3 [] t) = (editR last t).map (fun p => (d ++ [(c.1, c.2 ++ [p.1])], p.2)) := by
  rw [thrE3]
  unfold editR ediR
  simp only [List.getLast?_append, List.getLast?_singleton, Option.some_or, List.dropLast_concat]
  cases h1 : numB (cutB t).1 with
  | none => rfl
  | some f =>
    cases h2 : numB (cutB ((cutB t).2.getD [])).1 with
    | none => rfl
    | some o =>
      cases h3 : numB ((cutB ((cutB t).2.getD [])).2.getD []) with
      | none => rfl
      | some n =>
        simp only
        by_cases hn : nextB last ((f : Int) - 1) ((f : Int) - 1 + o) n = true
        · have hin := nextB_in hn
          rw [if_pos hn, if_pos (by omega)]
          simp only
          rw [if_pos]
          · simp
          · refine ⟨by omega, by omega, by omega, by omega, fun x hx => ?_⟩
            rw [hx] at hlast
            simp only at hlast
            omega
        · rw [if_neg hn]
          by_cases hb : f ≤ 65537 ∧ o ≤ 65537 ∧ n ≤ 65537
          · rw [if_pos hb]
            simp only
            rw [if_neg]
            · rfl
            · rintro ⟨g1, g2, g3, g4, g5⟩
              apply hn
              unfold nextB
              simp only [Bool.and_eq_true, Bool.or_eq_true, decide_eq_true_eq]
              have hl : last < (f : Int) - 1 := by
                rw [hlast]
                cases hg : c.2.getLast? with
                | none => simp only; omega
                | some x => simp only; exact g5 x hg
              refine ⟨⟨⟨⟨⟨hl, by omega⟩, by omega⟩, by omega⟩, by omega⟩, by omega⟩
          · rw [if_neg hb]
            rfl
theorem setTxt_nil (d : List Pc) (n : ByteArray) (es : List Edi) (a b : Int) : setTxt (d ++ [(n, es ++ [⟨a, b, ⟨#[]⟩⟩])]) [] = d ++ [(n, es ++ [⟨a, b, ⟨#[]⟩⟩])] := by rw [setTxt_at]; rfl
theorem addT_setTxt {l d : List Pc} {n : ByteArray} {es : List Edi} {x : Edi} (h : l = d ++ [(n, es ++ [x])]) (a r : Bs) : addT (setTxt l a) r = setTxt l (a ++ r) := by
  rw [h, setTxt_at, setTxt_at, addT_at]
  simp only [dl_str]
theorem not_hp {u p : Bs} (h : ¬ ∃ r, u = p ++ r) : Lib.hasPrefix u p = false := by
  cases hh : Lib.hasPrefix u p
  · rfl
  · exact absurd (hasP hh) h
theorem rStep_want {l : List Pc} {left : Nat} {prev u : Bs} (h : 0 < left) : rStep l left prev (u ++ [10]) = rWant l left u := by
  unfold rStep
  rw [ends_snoc, tlB_snoc, if_neg (by decide), if_pos h]
theorem rStep_zero {l : List Pc} {left : Nat} {prev u : Bs} (h : left = 0) : rStep l left prev (u ++ [10]) = rZero l prev u := by
  subst h
  unfold rStep
  rw [ends_snoc, tlB_snoc, if_neg (by decide), if_neg (by decide)]
theorem stepL_want {P : St} {u : Bs} (h : 0 < P.want) : stepL P (u ++ [10]) = if Lib.hasPrefix u [43] = true then some (wantP P (u.drop 1)) else none := by
  unfold stepL
  rw [ends_snoc, tlB_snoc, if_neg (by decide), if_pos h]
theorem stepL_zero {P : St} {u : Bs} (h : ¬ 0 < P.want) : stepL P (u ++ [10]) = if u = [45] ∧ P.opn = true then some { P with l := setTxt P.l (P.text.take (P.text.length - 1)), opn := false }
    else if Lib.hasPrefix u [61, 32] = true then headP { P with opn := false } (u.drop 2)
    else if Lib.hasPrefix u [64, 32] = true then editP { P with opn := false } (u.drop 2) else none := by
  unfold stepL
  rw [ends_snoc, tlB_snoc, if_neg (by decide), if_neg h]
theorem step_open {P : St} {t : Bs} (h : ends t = false) : stepL P t = none := by unfold stepL; rw [if_pos h]
theorem rStep_open {l : List Pc} {left : Nat} {prev t : Bs} (h : ends t = false) : rStep l left prev t = none := by unfold rStep; rw [if_pos h]
theorem rZero_61 (l : List Pc) (prev r : Bs) : rZero l prev (61 :: 32 :: r) = if headOkP l r = true then some (l ++ [(str r, [])], 0) else none := rfl
theorem rZero_64 (l : List Pc) (prev r : Bs) : rZero l prev (64 :: 32 :: r) = ediR l (thrE 3 [] r) := rfl
def Same2 (t : Bs) : Option St → Option (List Pc × Nat) → Prop
  | none, none => True
  | some P', some p => RelR P' p.1 p.2 t
  | _, _ => False
/-- One line. -/
theorem line_eqR {P : St} {m prev t : Bs} {l : List Pc} {left : Nat} (hI : Inv P m) (hR : RelR P l left prev) : Same2 t (stepL P t) (rStep l left prev t) := by
  obtain ⟨hleft, hl, hopn⟩ := hR
  subst hleft
  by_cases he : ends t = false
  · rw [step_open he, rStep_open he]; trivial
  have he' : ends t = true := by simpa using he
  obtain ⟨u, rfl⟩ := ends_back he'
  by_cases hw : 0 < P.want
  · rw [stepL_want hw, rStep_want hw]
    rw [if_pos hw] at hl
    by_cases hu : ∃ r, u = [43] ++ r
    · obtain ⟨r, rfl⟩ := hu
      rw [if_pos (hp_cons [43] r)]
      simp only [List.cons_append, List.nil_append, List.drop_succ_cons, List.drop_zero]
      rcases hI with ⟨h0, _⟩ | ⟨_, d, n, es, a, b, k, hpl, hrest⟩
      · omega
      unfold wantP
      by_cases h1 : P.want = 1
      · rw [if_pos h1]
        refine ⟨by show P.want - 1 = 0; omega, ?_, fun _ => ?_⟩
        · show addT l (r ++ [10]) = _
          rw [hl, addT_setTxt hpl, List.append_assoc]
          rfl
        · show (!(r == [])) = _
          rw [Bool.eq_iff_iff]
          simp
      · rw [if_neg h1]
        refine ⟨rfl, ?_, fun h => ?_⟩
        · show addT l (r ++ [10]) = if 0 < P.want - 1 then _ else _
          rw [if_pos (by omega), hl, addT_setTxt hpl, List.append_assoc]
        · have h : P.want - 1 = 0 := h
          omega
    · rw [if_neg (by rw [not_hp hu]; decide), rWant_else hu]
      trivial
  · have hw0 : P.want = 0 := by omega
    rw [if_neg hw] at hl
    have ho := hopn hw0
    subst hl
    rw [stepL_zero hw, rStep_zero hw0]
    by_cases h61 : ∃ r, u = [61, 32] ++ r
    · obtain ⟨r, rfl⟩ := h61
      rw [if_neg (by rintro ⟨h, _⟩; simp at h), if_pos (hp_cons [61, 32] r)]
      simp only [List.cons_append, List.nil_append, List.drop_succ_cons, List.drop_zero]
      rw [rZero_61]
      unfold headP
      by_cases hk : headOkP P.l r = true
      · rw [if_pos hk, if_pos hk]
        exact ⟨hw0.symm, by show _ = if 0 < P.want then _ else _; rw [if_neg hw], fun _ => rfl⟩
      · rw [if_neg hk, if_neg hk]; trivial
    · by_cases h64 : ∃ r, u = [64, 32] ++ r
      · obtain ⟨r, rfl⟩ := h64
        rw [if_neg (by rintro ⟨h, _⟩; simp at h), if_neg (by rw [not_hp h61]; decide), if_pos (hp_cons [64, 32] r)]
        simp only [List.cons_append, List.nil_append, List.drop_succ_cons, List.drop_zero]
        rw [rZero_64]
        unfold editP
        rcases List.eq_nil_or_concat P.l with hnil | ⟨d, c, hc⟩
        · simp only [hnil, List.getLast?_nil, ediR]
          trivial
        · rw [List.concat_eq_append] at hc
          have hlast : P.last = (match c.2.getLast? with | none => -1 | some x => x.b) := by
            rcases hI with ⟨_, hok, _⟩ | ⟨h0, _⟩
            · rcases hok with hok | ⟨d', n', es', he2, h1, h2, h3, h4, h5⟩
              · rw [hc] at hok; simp at hok
              · rw [hc] at he2
                obtain ⟨_, he3⟩ := List.append_inj' he2 rfl
                have : c = (n', es') := by simpa using he3
                rw [h5, this]
                rfl
            · omega
          rw [hc, ediR_eq hlast]
          simp only [List.getLast?_append, List.getLast?_singleton, Option.some_or, List.dropLast_concat]
          cases hed : editR P.last r with
          | none => trivial
          | some p =>
            obtain ⟨x, n⟩ := p
            simp only [Option.map_some]
            refine ⟨rfl, ?_, fun _ => rfl⟩
            show _ = if 0 < n then setTxt _ [] else _
            have hx : x = ⟨x.a, x.b, ⟨#[]⟩⟩ := by
              unfold editR at hed
              split at hed
              · cases hed
              · split at hed
                · cases hed
                · split at hed
                  · cases hed
                  · split at hed
                    · cases hed; rfl
                    · cases hed
            split
            · rw [hx, setTxt_nil]
            · rfl
      · rw [if_neg (show ¬ Lib.hasPrefix u [61, 32] = true by rw [not_hp h61]; decide), if_neg (show ¬ Lib.hasPrefix u [64, 32] = true by rw [not_hp h64]; decide)]
        rw [rZero_else h61 h64]
        by_cases hu : u = [45]
        · by_cases hop : P.opn = true
          · rw [if_pos ⟨hu, hop⟩]
            rcases hI with ⟨_, _, _, hI4⟩ | ⟨h0, _⟩
            · obtain ⟨d, n, es, x, v, hpl, hx, _⟩ := hI4 hop
              have hpr : prev.head? = some 43 ∧ prev ≠ [43, 10] := by
                rw [hop] at ho
                simpa using ho.symm
              rw [if_pos ⟨hu, by rw [hpl]; simp [hasE], hpr.1, hpr.2⟩]
              refine ⟨hw0.symm, ?_, fun _ => by rw [hu]; rfl⟩
              show cutT P.l = if 0 < P.want then _ else setTxt P.l _
              rw [if_neg hw, hpl, cutT_at, setTxt_at, hx]
              rfl
            · omega
          · rw [if_neg (by rintro ⟨_, h⟩; exact hop h), if_neg]
            · trivial
            · rintro ⟨_, _, h1, h2⟩
              apply hop
              rw [ho, h1]
              simp [h2]
        · rw [if_neg (by rintro ⟨h, _⟩; exact hu h), if_neg (by rintro ⟨h, _⟩; exact hu h)]
          trivial
/-- The document stands where the program stands, behind so many lines. -/
structure Sim (s : ByteArray) (at' : Nat) (l : List Pc) (left : Nat) (prev : Bs) : Prop where
  le : at' ≤ (lines (dl s)).length
  ex : ∃ P, runL st0 ((lines (dl s)).take at') = some P ∧ Inv P ((lines (dl s)).take at').flatten ∧ RelR P l left prev ∧ Sz P ((lines (dl s)).take at').flatten.length ∧ left ≤ 65536
theorem Sim.start (s : ByteArray) : Sim s 0 [] 0 [] :=
  ⟨Nat.zero_le _, st0, rfl, .inl ⟨rfl, .inl rfl, rfl, fun e => by cases e⟩, ⟨rfl, rfl, fun _ => rfl⟩, ⟨by simp [st0], by simp [st0], by simp [st0], by simp [st0]⟩, by omega⟩
theorem inv_want_le {P : St} {m : Bs} (h : Inv P m) : P.want ≤ 65536 := by
  rcases h with ⟨h0, _⟩ | ⟨_, d, n, es, a, b, k, _, _, hn, _, _, hk, _⟩
  · omega
  · have := nextB_in hn; omega
theorem line_or {s : ByteArray} {x : Bs} (h : x ∈ lines (dl s)) : isLine x ∨ (10 : UInt8) ∉ x := by
  rcases lines_form (dl s) with ⟨h1, _⟩ | ⟨i, z, h1, h2, _, h4, _, _⟩
  · exact .inl (h1 x h)
  · rw [h1] at h
    rcases List.mem_append.1 h with h | h
    · exact .inl (h2 x h)
    · rw [List.mem_singleton] at h; subst h; exact .inr h4
theorem Sim.step {s : ByteArray} {i : Nat} {l : List Pc} {left : Nat} {prev t : Bs} (h : Sim s i l left prev) (hi : i < (lines (dl s)).length) (ht : (lines (dl s))[i] = t) :
    (rStep l left prev t = none → parseB (dl s) = .inl (i + 1)) ∧ ∀ p, rStep l left prev t = some p → Sim s (i + 1) p.1 p.2 t := by
  obtain ⟨_, P, h1, h2, h3, h4, _⟩ := h
  have hst := line_eqR (t := t) h2 h3
  constructor
  · intro hn
    rw [hn] at hst
    cases hs : stepL P t with
    | some P' => rw [hs] at hst; exact hst.elim
    | none =>
      have hsp : lines (dl s) = (lines (dl s)).take i ++ t :: (lines (dl s)).drop (i + 1) := by
        rw [← ht, List.getElem_cons_drop hi, List.take_append_drop]
      obtain ⟨w1, w2⟩ := wrong_at ((lines (dl s)).take i) t ((lines (dl s)).drop (i + 1)) st0 P 0 h1 hs
      rw [← hsp] at w1 w2
      unfold parseB
      rw [w1]
      simp only
      rw [w2, List.length_take]
      congr 1; omega
  · intro p hp
    rw [hp] at hst
    cases hs : stepL P t with
    | none => rw [hs] at hst; exact hst.elim
    | some P' =>
      rw [hs] at hst
      have hst : RelR P' p.1 p.2 t := hst
      have htk : (lines (dl s)).take (i + 1) = (lines (dl s)).take i ++ [t] := by rw [List.take_succ_eq_append_getElem hi, ht]
      have hinv := inv_step h2 (line_or (s := s) (by rw [← ht]; exact List.getElem_mem hi)) hs
      refine ⟨by omega, P', ?_, ?_, hst, ?_, ?_⟩
      · rw [htk, runL_snoc, h1]; exact hs
      · rw [htk, List.flatten_append]; simpa using hinv
      · rw [htk, List.flatten_append, List.length_append]
        have := sz_step h4 hs
        simpa using this
      · rw [hst.left]; exact inv_want_le hinv
theorem Sim.fin {s : ByteArray} {l : List Pc} {left : Nat} {prev : Bs} (h : Sim s (lines (dl s)).length l left prev) :
    (left = 0 → (∀ c, l.getLast? = some c → c.2.length ≠ 0) → ∃ P, parseB (dl s) = .inr P ∧ P.l = l) ∧ ((0 < left ∨ ∃ c, l.getLast? = some c ∧ c.2.length = 0) → parseB (dl s) = .inl ((lines (dl s)).length + 1)) := by
  obtain ⟨_, P, h1, h2, ⟨g1, g2, g3⟩, h4, _⟩ := h
  rw [List.take_length] at h1
  constructor
  · intro h0 hne
    have hw : P.want = 0 := by omega
    rw [if_neg (by omega)] at g2
    refine ⟨P, ?_, g2.symm⟩
    unfold parseB
    rw [h1]
    simp only
    rw [if_pos]
    unfold doneP
    rw [hw, ← g2]
    cases hg : l.getLast? with
    | none => rfl
    | some c => simpa using hne c hg
  · intro hbad
    unfold parseB
    rw [h1]
    simp only
    rw [if_neg]
    unfold doneP
    rw [Bool.and_eq_true]
    rintro ⟨k1, k2⟩
    have hw : P.want = 0 := by simpa using k1
    rw [if_neg (by omega)] at g2
    rcases hbad with hb | ⟨c, hc, hcl⟩
    · omega
    · rw [← g2, hc] at k2
      simp [hcl] at k2
end Go.Proofs.YtodjhgalbaelkaaDoor

/- TrK -/
namespace Go.Proofs.YtodjhgalbaelkaaDoor
open Go.RowKit Go.BigFrame Go.Shelf
set_option linter.unusedVariables false

theorem two_of {u : Bs} {a b : UInt8} (h0 : u[0]? = some a) (h1 : u[1]? = some b) : u = a :: b :: u.drop 2 := by
  match u, h0, h1 with
  | x :: y :: r, h0, h1 =>
    simp only [List.getElem?_cons_zero, Option.some.injEq] at h0
    simp only [List.getElem?_cons_succ, List.getElem?_cons_zero, Option.some.injEq] at h1
    subst h0; subst h1; rfl
theorem rz_short {l : List Pc} {prev u : Bs} (h0 : u[0]? = some 61) (hn : u.length < 3) : rZero l prev u = none := by
  by_cases h1 : u[1]? = some 32
  · have h := two_of h0 h1
    have hd : u.drop 2 = [] := List.drop_eq_nil_iff.2 (by omega)
    rw [hd] at h
    rw [h, rZero_61]
    have : headOkP l [] = false := by unfold headOkP; rw [path_nil]; simp
    rw [this]; rfl
  · rw [rZero_else (by rintro ⟨r, rfl⟩; simp at h1) (by rintro ⟨r, rfl⟩; simp at h0), if_neg]
    rintro ⟨rfl, _⟩; simp at h0
theorem rz_noblank {l : List Pc} {prev u : Bs} (h0 : u[0]? = some 61 ∨ u[0]? = some 64) (h1 : u[1]? ≠ some 32) : rZero l prev u = none := by
  rw [rZero_else (by rintro ⟨r, rfl⟩; simp at h1) (by rintro ⟨r, rfl⟩; simp at h1), if_neg]
  rintro ⟨rfl, _⟩; simp at h0
theorem rz_head {l : List Pc} {prev u : Bs} (h0 : u[0]? = some 61) (h1 : u[1]? = some 32) (hk : headOkP l (u.drop 2) = false) : rZero l prev u = none := by
  conv => lhs; rw [two_of h0 h1]
  rw [rZero_61, hk]; rfl
theorem rz_push {l : List Pc} {prev u : Bs} (h0 : u[0]? = some 61) (h1 : u[1]? = some 32) (hk : headOkP l (u.drop 2) = true) : rZero l prev u = some (l ++ [(str (u.drop 2), [])], 0) := by
  conv => lhs; rw [two_of h0 h1]
  rw [rZero_61, hk]; rfl
theorem rz_noedits {d : List Pc} {n : ByteArray} {prev u : Bs} (h0 : u[0]? = some 61) : rZero (d ++ [(n, [])]) prev u = none := by
  by_cases h1 : u[1]? = some 32
  · refine rz_head h0 h1 ?_
    unfold headOkP
    simp
  · exact rz_noblank (.inl h0) h1
theorem ediR_nil (v : Option (List Int)) : ediR [] v = none := by unfold ediR; simp
theorem rz_at_none {prev u : Bs} (h0 : u[0]? = some 64) : rZero [] prev u = none := by
  by_cases h1 : u[1]? = some 32
  · rw [two_of h0 h1, rZero_64, ediR_nil]
  · exact rz_noblank (.inr h0) h1
theorem thr_nil : thrE 3 [] [] = none := by
  have : numB [] = none := by unfold numB; simp
  rw [thrE3]
  simp [cutB, this]
theorem rz_at_short {l : List Pc} {prev u : Bs} (h0 : u[0]? = some 64) (hn : u.length ≤ 2) : rZero l prev u = none := by
  by_cases h1 : u[1]? = some 32
  · have h := two_of h0 h1
    have hd : u.drop 2 = [] := List.drop_eq_nil_iff.2 hn
    rw [hd] at h
    rw [h, rZero_64, thr_nil]
    unfold ediR; split
    · rename_i h2; cases h2
    · rfl
  · exact rz_noblank (.inr h0) h1
theorem rz_at {l : List Pc} {prev u : Bs} (h0 : u[0]? = some 64) (h1 : u[1]? = some 32) : rZero l prev u = ediR l (thrE 3 [] (u.drop 2)) := by
  conv => lhs; rw [two_of h0 h1]
  rw [rZero_64]
theorem rz_other {l : List Pc} {prev u : Bs} (h0 : u[0]? ≠ some 61) (h1 : u[0]? ≠ some 64) : rZero l prev u = if u = [45] ∧ hasE l = true ∧ prev.head? = some 43 ∧ prev ≠ [43, 10] then some (cutT l, 0) else none :=
  rZero_else (by rintro ⟨r, rfl⟩; simp at h0) (by rintro ⟨r, rfl⟩; simp at h1)
theorem rw_plus {l : List Pc} {left : Nat} {u : Bs} (h0 : u[0]? = some 43) : rWant l left u = some (addT l (u.drop 1 ++ [10]), left - 1) := by
  match u, h0 with
  | x :: r, h0 =>
    simp only [List.getElem?_cons_zero, Option.some.injEq] at h0
    subst h0; rfl
theorem rw_none {l : List Pc} {left : Nat} {u : Bs} (h0 : u[0]? ≠ some 43) : rWant l left u = none :=
  rWant_else (by rintro ⟨r, rfl⟩; simp at h0)
theorem ediR_no {d : List Pc} {c : Pc} {a b n : Int} (h : a < 1 ∨ 65536 < a - 1 + b ∨ 65536 < n ∨ b + n = 0 ∨ ∃ x, c.2.getLast? = some x ∧ a - 1 ≤ x.b) : ediR (d ++ [c]) (some [a, b, n]) = none := by
  unfold ediR
  simp only [List.getLast?_append, List.getLast?_singleton, Option.some_or]
  rw [if_neg]
  rintro ⟨g1, g2, g3, g4, g5⟩
  rcases h with h | h | h | h | ⟨x, hx, h⟩
  · omega
  · omega
  · omega
  · omega
  · have := g5 x hx; omega
theorem ediR_yes {d : List Pc} {c : Pc} {a b n : Int} (h1 : 1 ≤ a) (h2 : a - 1 + b ≤ 65536) (h3 : n ≤ 65536) (h4 : b + n ≠ 0) (h5 : ∀ x, c.2.getLast? = some x → x.b < a - 1) : ediR (d ++ [c]) (some [a, b, n]) = some (d ++ [(c.1, c.2 ++ [⟨a - 1, a - 1 + b, ⟨#[]⟩⟩])], n.toNat) := by
  unfold ediR
  simp only [List.getLast?_append, List.getLast?_singleton, Option.some_or, List.dropLast_concat]
  rw [if_pos ⟨h1, h2, h3, h4, h5⟩]
theorem ediR_none {l : List Pc} : ediR l none = none := by
  unfold ediR
  split
  · rename_i h; cases h
  · rfl
/-- A number of a text is none or not negative. -/
theorem thr_pos {t : Bs} {a b n : Int} (h : thrE 3 [] t = some [a, b, n]) : 0 ≤ a ∧ 0 ≤ b ∧ 0 ≤ n := by
  rw [thrE3] at h
  split at h
  · split at h
    · simp only [Option.some.injEq, List.cons.injEq, and_true] at h
      obtain ⟨rfl, rfl, rfl⟩ := h
      omega
    · cases h
  · cases h
def prevL (s : ByteArray) (i : Nat) : Bs := match i with | 0 => [] | k + 1 => (lines (dl s)).getD k []
def RefPost (s : ByteArray) (w : World) (e : Ending) (w' : World) : Prop :=
  Below w.heap.size w w' ∧ (match parseB (dl s) with
    | .inl n => e = .returned (.tuple #[.slice none 0 0, .int .i64 n, .int .i64 240])
    | .inr P => ∃ K lv l, pcs l = P.l ∧ e = .returned (.tuple #[lv, .int .i64 0, .int .i64 0]) ∧ RfC w.heap.size K lv l w')
theorem dl_zero {s : ByteArray} (h : 0 < s.size) : (dl s)[0]? = some s[0] := by
  rw [List.getElem?_eq_getElem (by rw [← size_dl]; exact h)]; rfl
theorem dl_one {s : ByteArray} (h : 1 < s.size) : (dl s)[1]? = some s[1] := by
  rw [List.getElem?_eq_getElem (by rw [← size_dl]; exact h)]; rfl
end Go.Proofs.YtodjhgalbaelkaaDoor

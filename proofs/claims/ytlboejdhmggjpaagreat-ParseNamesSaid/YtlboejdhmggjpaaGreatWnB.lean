/- parse: all functions of the parser, by their fuel. -/
import Derived.Test.YtlboejdhmggjpaaGreatWkP
import Derived.Test.YtlboejdhmggjpaaGreatWkR
import Derived.Test.YtlboejdhmggjpaaGreatWkW
import Derived.Test.YtlboejdhmggjpaaGreatWkY
import Derived.Test.YtlboejdhmggjpaaGreatWkZ
import Derived.Test.YtlboejdhmggjpaaGreatWlA
import Derived.Test.YtlboejdhmggjpaaGreatWlC
import Derived.Test.YtlboejdhmggjpaaGreatWlD
import Derived.Test.YtlboejdhmggjpaaGreatWlF
import Derived.Test.YtlboejdhmggjpaaGreatWlG
import Derived.Test.YtlboejdhmggjpaaGreatWlH
import Derived.Test.YtlboejdhmggjpaaGreatWlI
import Derived.Test.YtlboejdhmggjpaaGreatWmC
import Derived.Test.YtlboejdhmggjpaaGreatWmD
import Derived.Test.YtlboejdhmggjpaaGreatWmH
import Derived.Test.YtlboejdhmggjpaaGreatWmG
import Derived.Test.YtlboejdhmggjpaaGreatWkF
import Derived.Defers
import Derived.Recover
set_option linter.all false
namespace Go.Proofs.YtlboejdhmggjpaaGreat.Pp
open Go.RowKit Go.BigFrame Go.Proofs.YtlboejdhmggjpaaGreat

theorem walk {E : En} (hE : E.ok) (n : Nat) : Wk E n := by
 induction n using Nat.strongRecOn with
 | _ n IH =>
  cases n with
  | zero => exact {
    f_expr := fun  s w hp hne => absurd run0 hne
    f_assign := fun  s w hp hne => absurd run0 hne
    f_choice := fun  s w hp hne => absurd run0 hne
    f_binary := fun k s w hp hne => absurd run0 hne
    f_cast := fun  s w hp hne => absurd run0 hne
    f_typeIn := fun  s w hp hne => absurd run0 hne
    f_literal := fun h s w hp hne => absurd run0 hne
    f_unary := fun  s w hp hne => absurd run0 hne
    f_size := fun v s w hp hne => absurd run0 hne
    f_pfix := fun  s w hp hne => absurd run0 hne
    f_applied := fun h s w hp hne => absurd run0 hne
    f_call := fun  s w hp hne => absurd run0 hne
    f_primary := fun  s w hp hne => absurd run0 hne
    f_generic := fun  s w hp hne => absurd run0 hne
    f_assoc := fun  s w hp hne => absurd run0 hne
    f_initializer := fun  s w hp hne => absurd run0 hne
    f_braces := fun  s w hp hne => absurd run0 hne
    f_item := fun  s w hp hne => absurd run0 hne
    f_desig := fun  s w hp hne => absurd run0 hne
    f_declarator := fun k s w hp hne => absurd run0 hne
    f_array := fun  s w hp hne => absurd run0 hne
    f_params := fun  s w hp hne => absurd run0 hne
    f_param := fun  s w hp hne => absurd run0 hne
    f_external := fun  s w hp hne => absurd run0 hne
    f_body := fun p y s w hd hp hne => absurd run0 hne
    f_declaration := fun  s w hp hne => absurd run0 hne
    f_moreInits := fun t s w hp hne => absurd run0 hne
    f_init := fun t s w hp hne => absurd run0 hne
    f_restOfInit := fun h s w hp hne => absurd run0 hne
    f_assert := fun  s w hp hne => absurd run0 hne
    f_items := fun  s w hp hne => absurd run0 hne
    f_part := fun  s w hp hne => absurd run0 hne
    f_condition := fun  s w hp hne => absurd run0 hne
    f_until := fun x s w hp hne => absurd run0 hne
    f_statement := fun  s w hp hne => absurd run0 hne
    f_keyword := fun x h s w hp hne => absurd run0 hne
    f_compound := fun x h s w hp hne => absurd run0 hne
    f_specs := fun a s w hp hne => absurd run0 hne
    f_align := fun  s w hp hne => absurd run0 hne
    f_atomic := fun  s w hp hne => absurd run0 hne
    f_record := fun  s w hp hne => absurd run0 hne
    f_member := fun  s w hp hne => absurd run0 hne
    f_field := fun  s w hp hne => absurd run0 hne
    f_enum := fun  s w hp hne => absurd run0 hne
    f_enumerator := fun  s w hp hne => absurd run0 hne
    f_typeName := fun  s w hp hne => absurd run0 hne
   }
  | succ n =>
   have ih : ∀ m, m ≤ n → Wk E m := fun m hm => IH m (by omega)
   exact {
    f_expr := fun  s w hp hne => w_expr hE ih  s w hp hne
    f_assign := fun  s w hp hne => w_assign hE ih  s w hp hne
    f_choice := fun  s w hp hne => w_choice hE ih  s w hp hne
    f_binary := fun k s w hp hne => w_binary hE ih k s w hp hne
    f_cast := fun  s w hp hne => w_cast hE ih  s w hp hne
    f_typeIn := fun  s w hp hne => w_typeIn hE ih  s w hp hne
    f_literal := fun h s w hp hne => w_literal hE ih h s w hp hne
    f_unary := fun  s w hp hne => w_unary hE ih  s w hp hne
    f_size := fun v s w hp hne => w_size hE ih v s w hp hne
    f_pfix := fun  s w hp hne => w_pfix hE ih  s w hp hne
    f_applied := fun h s w hp hne => w_applied hE ih h s w hp hne
    f_call := fun  s w hp hne => w_call hE ih  s w hp hne
    f_primary := fun  s w hp hne => w_primary hE ih  s w hp hne
    f_generic := fun  s w hp hne => w_generic hE ih  s w hp hne
    f_assoc := fun  s w hp hne => w_assoc hE ih  s w hp hne
    f_initializer := fun  s w hp hne => w_initializer hE ih  s w hp hne
    f_braces := fun  s w hp hne => w_braces hE ih  s w hp hne
    f_item := fun  s w hp hne => w_item hE ih  s w hp hne
    f_desig := fun  s w hp hne => w_desig hE ih  s w hp hne
    f_declarator := fun k s w hp hne => w_declarator hE ih k s w hp hne
    f_array := fun  s w hp hne => w_array hE ih  s w hp hne
    f_params := fun  s w hp hne => w_params hE ih  s w hp hne
    f_param := fun  s w hp hne => w_param hE ih  s w hp hne
    f_external := fun  s w hp hne => w_external hE ih  s w hp hne
    f_body := fun p y s w hd hp hne => w_body hE ih p y s w hd hp hne
    f_declaration := fun  s w hp hne => w_declaration hE ih  s w hp hne
    f_moreInits := fun t s w hp hne => w_moreInits hE ih t s w hp hne
    f_init := fun t s w hp hne => w_init hE ih t s w hp hne
    f_restOfInit := fun h s w hp hne => w_restOfInit hE ih h s w hp hne
    f_assert := fun  s w hp hne => w_assert hE ih  s w hp hne
    f_items := fun  s w hp hne => w_items hE ih  s w hp hne
    f_part := fun  s w hp hne => w_part hE ih  s w hp hne
    f_condition := fun  s w hp hne => w_condition hE ih  s w hp hne
    f_until := fun x s w hp hne => w_until hE ih x s w hp hne
    f_statement := fun  s w hp hne => w_statement hE ih  s w hp hne
    f_keyword := fun x h s w hp hne => w_keyword hE ih x h s w hp hne
    f_compound := fun x h s w hp hne => w_compound hE ih x h s w hp hne
    f_specs := fun a s w hp hne => w_specs hE ih a s w hp hne
    f_align := fun  s w hp hne => w_align hE ih  s w hp hne
    f_atomic := fun  s w hp hne => w_atomic hE ih  s w hp hne
    f_record := fun  s w hp hne => w_record hE ih  s w hp hne
    f_member := fun  s w hp hne => w_member hE ih  s w hp hne
    f_field := fun  s w hp hne => w_field hE ih  s w hp hne
    f_enum := fun  s w hp hne => w_enum hE ih  s w hp hne
    f_enumerator := fun  s w hp hne => w_enumerator hE ih  s w hp hne
    f_typeName := fun  s w hp hne => w_typeName hE ih  s w hp hne
   }
end Go.Proofs.YtlboejdhmggjpaaGreat.Pp

/- WnB -/
namespace Go.Proofs.YtlboejdhmggjpaaGreat.Pp
set_option maxRecDepth 100000
set_option maxHeartbeats 16000000
open Go.RowKit Go.BigFrame Go.Proofs.YtlboejdhmggjpaaGreat

theorem catch_idle (p : Addr) (w : World) : CallsD Tryz.prog 54 #[.pointer (some p)] .returning w fun e u' w' => e = .returned (.tuple #[]) ∧ u' = .returning ∧ w' = w := by
 refine callsD_of_wpS Tryz.func54 rfl fun c₀ cs hu => ?_
 have hnil : ∀ w : World, (binOp BinOp.eql 20 .nilIface .nilIface).run Tryz.prog w = .ok (.bool true) w := fun _ => by kernel_rfl
 apply wpS_seq
 apply wpS_region
 simp [wpOpsS, go_sem, recoverD, hu, Tryz.ntmps54, Exit.thenS]
 refine wpS_of_wp ?_
 go_wp2_with fail
 cases c₀
 simp_all [bodyPostS, results, Tryz.results54]
theorem catch_fail (b : Nat) (n : Int) (w : World) (hb : w.heap[b]? = some (.cells #[.bool false] 4 (0, 0))) : CallsD Tryz.prog 54 #[.pointer (some ⟨b, 0, none⟩)] (.panicking (failV n)) w fun e u' w' => e = .returned (.tuple #[]) ∧ u' = .panicking [{ v := .iface 114 (.agg #[.int .i64 n]), recovered := true }] ∧ w' = (w.setCell ⟨b, 0, none⟩ (.bool false)).alloc (.cells #[.int .i64 n] 114) := by
 refine callsD_of_wpS Tryz.func54 rfl fun c₀ cs hu => ?_
 unfold failV at hu
 have hnil : ∀ (v : Value) (w : World), (binOp BinOp.eql 20 (.iface 114 v) .nilIface).run Tryz.prog w = .ok (.bool false) w := fun _ _ => by kernel_rfl
 have hta : ∀ (v : Value) (w : World), (Instr.typeAssert (.iface 114 v) 20 114 true).run Tryz.prog w = .ok (.tuple #[v, .bool true]) w := fun _ _ => by kernel_rfl
 have hlt := (Array.getElem?_eq_some_iff.1 hb).1
 have c0 : w.cell? ⟨b, 0, none⟩ = some (.bool false) := by simp [World.cell?, hb]
 have f0 : w.frozen? ⟨b, 0, none⟩ = false := Lib.frozen_of_heap hb 0
 simp only [Tryz.ntmps54, List.size_toArray, List.length_cons, List.length_nil, Nat.reduceAdd, Nat.reduceSub, Array.replicate_succ, Array.replicate_zero, List.push_toArray, List.append_toArray, List.nil_append, List.cons_append]
 apply wpS_seq
 apply wpS_region
 simp [wpOpsS, go_sem, recoverD, hu, Exit.thenS]
 refine wpS_of_wp ?_
 have HU := Hh hu
 clear hu hb
 go_wp2_with fail
 exact ⟨rfl, _, rfl, .tuple #[], by simp [results, Tryz.results54, go_sem], rfl, rfl, rfl⟩
theorem fits31 (B : Nat) (w : World) {A Bd : World → Prop} (h : Calls Tryz.prog 31 #[.pointer (some ⟨B, 0, none⟩)] (w.alloc (.cells #[.bool false] 4)) fun e W' => KP (w.alloc (.cells #[.bool false] 4)) W' ∧ ((e = .returned (.tuple #[]) ∧ A W') ∨ ((∃ n : Int, e = .panicked (failV n)) ∧ Bd W'))) :
  Calls Tryz.prog 35 #[.func (.func 31) #[] #[.pointer (some ⟨B, 0, none⟩)]] w fun e w' => (∃ W', A W' ∧ KP (w.alloc (.cells #[.bool false] 4)) W' ∧ e = .returned (.bool true) ∧ w' = W'.setCell ⟨w.heap.size, 0, none⟩ (.bool true)) ∨ (∃ W' n, Bd W' ∧ KP (w.alloc (.cells #[.bool false] 4)) W' ∧ e = .returned (.bool false) ∧ w' = (W'.setCell ⟨w.heap.size, 0, none⟩ (.bool false)).alloc (.cells #[.int .i64 n] 114)) := by
 have hmf : ∀ (fn : Fn) (first cap : Array Value) (w : World), (Instr.makeFunc fn first cap).run Tryz.prog w = .ok (.func fn first cap) w := fun _ _ _ _ => rfl
 have HC := Hh h
 clear h
 go_enter_defers Tryz.func35, Tryz.ntmps35
 go_wp2_with fail
 refine HC.out.mono ?_
 rintro e W' ⟨hk, ⟨rfl, hA⟩ | ⟨⟨n, rfl⟩, hB⟩⟩
 ·have hb := hk.2 w.heap.size _ 4 (0, 0) rfl (new_cells _ _ _)
  have f0 : W'.frozen? ⟨w.heap.size, 0, none⟩ = false := Lib.frozen_of_heap hb 0
  have c0 : W'.cell? ⟨w.heap.size, 0, none⟩ = some (.bool false) := by simp [World.cell?, hb]
  have HK := Hh hk
  have HA := Hh hA
  clear hk hA hb
  go_wp2_with fail
  refine leaves_cons (f := 54) (args := #[.pointer (some ⟨w.heap.size, 0, none⟩)]) (by simp) (by simp [go_sem]) ?_
  refine (catch_idle ⟨w.heap.size, 0, none⟩ _).mono ?_
  rintro e u' w'' ⟨rfl, rfl, rfl⟩
  simp only [Leaves, settle]
  refine ⟨.bool true, by simp [results, Tryz.results35, go_sem, c0], .inl ⟨W', HA.out, HK.out, rfl, rfl⟩⟩
 ·have hb := hk.2 w.heap.size _ 4 (0, 0) rfl (new_cells _ _ _)
  have HK := Hh hk
  have HB := Hh hB
  clear hk hB
  refine leaves_cons (f := 54) (args := #[.pointer (some ⟨w.heap.size, 0, none⟩)]) (by simp) (by simp [go_sem]) ?_
  refine (catch_fail w.heap.size n _ hb).mono ?_
  rintro e u' w'' ⟨rfl, rfl, rfl⟩
  have hlt := (Array.getElem?_eq_some_iff.1 hb).1
  have c0 : W'.cell? ⟨w.heap.size, 0, none⟩ = some (.bool false) := by simp [World.cell?, hb]
  have hs : settle (.panicking [{ v := .iface 114 (.agg #[.int .i64 n]), recovered := true }]) = .returning := rfl
  simp only [hs, Leaves]
  refine ⟨.bool false, by simp [results, Tryz.results35, go_sem, c0, hlt], .inr ⟨W', n, HB.out, HK.out, rfl, rfl⟩⟩
theorem fits33 (B : Nat) (w : World) {A Bd : World → Prop} (h : Calls Tryz.prog 33 #[.pointer (some ⟨B, 0, none⟩)] (w.alloc (.cells #[.bool false] 4)) fun e W' => KP (w.alloc (.cells #[.bool false] 4)) W' ∧ ((e = .returned (.tuple #[]) ∧ A W') ∨ ((∃ n : Int, e = .panicked (failV n)) ∧ Bd W'))) :
    Calls Tryz.prog 35 #[.func (.func 33) #[.pointer (some ⟨B, 0, none⟩)] #[]] w fun e w' => (∃ W', A W' ∧ KP (w.alloc (.cells #[.bool false] 4)) W' ∧ e = .returned (.bool true) ∧ w' = W'.setCell ⟨w.heap.size, 0, none⟩ (.bool true)) ∨ (∃ W' n, Bd W' ∧ KP (w.alloc (.cells #[.bool false] 4)) W' ∧ e = .returned (.bool false) ∧ w' = (W'.setCell ⟨w.heap.size, 0, none⟩ (.bool false)).alloc (.cells #[.int .i64 n] 114)) := by
  have hmf : ∀ (fn : Fn) (first cap : Array Value) (w : World), (Instr.makeFunc fn first cap).run Tryz.prog w = .ok (.func fn first cap) w := fun _ _ _ _ => rfl
  have HC := Lib.hid h
  clear h
  go_enter_defers Tryz.func35, Tryz.ntmps35
  go_wp2_with fail
  refine HC.out.mono ?_
  rintro e W' ⟨hk, ⟨rfl, hA⟩ | ⟨⟨n, rfl⟩, hB⟩⟩
  · have hb := hk.2 w.heap.size _ 4 (0, 0) rfl (new_cells _ _ _)
    have f0 : W'.frozen? ⟨w.heap.size, 0, none⟩ = false := Lib.frozen_of_heap hb 0
    have c0 : W'.cell? ⟨w.heap.size, 0, none⟩ = some (.bool false) := by simp [World.cell?, hb]
    have HK := Lib.hid hk
    have HA := Lib.hid hA
    clear hk hA hb
    go_wp2_with fail
    refine leaves_cons (f := 54) (args := #[.pointer (some ⟨w.heap.size, 0, none⟩)]) (by simp) (by simp [go_sem]) ?_
    refine (catch_idle ⟨w.heap.size, 0, none⟩ _).mono ?_
    rintro e u' w'' ⟨rfl, rfl, rfl⟩
    simp only [Leaves, settle]
    refine ⟨.bool true, by simp [results, Tryz.results35, go_sem, c0], .inl ⟨W', HA.out, HK.out, rfl, rfl⟩⟩
  · have hb := hk.2 w.heap.size _ 4 (0, 0) rfl (new_cells _ _ _)
    have HK := Lib.hid hk
    have HB := Lib.hid hB
    clear hk hB
    refine leaves_cons (f := 54) (args := #[.pointer (some ⟨w.heap.size, 0, none⟩)]) (by simp) (by simp [go_sem]) ?_
    refine (catch_fail w.heap.size n _ hb).mono ?_
    rintro e u' w'' ⟨rfl, rfl, rfl⟩
    have hlt := (Array.getElem?_eq_some_iff.1 hb).1
    have c0 : W'.cell? ⟨w.heap.size, 0, none⟩ = some (.bool false) := by simp [World.cell?, hb]
    have hs : settle (.panicking [{ v := .iface 114 (.agg #[.int .i64 n]), recovered := true }]) = .returning := rfl
    simp only [hs, Leaves]
    refine ⟨.bool false, by simp [results, Tryz.results35, go_sem, c0, hlt], .inr ⟨W', n, HB.out, HK.out, rfl, rfl⟩⟩
end Go.Proofs.YtlboejdhmggjpaaGreat.Pp

/-
  No cell of these rows narrows 'for every input' (looked for: loops, veiled, ifaces, maps, wideKeys, modest, calm, conditions, laid).
  DERIVED. THE GIVEN ROWS OF THIS SEAT. 11 by the template 'for every input the law returns true; each argument reads behind the call as it read before'; 0 by the template 'total and deterministic' (their statements: YtblooekephkojaaTotals.lean).
  GIVEN WITH THE SEED: the statements are not yours to turn. If you find one false, say at which input.
  Laid BY PROGRAM, IN A SANDBOX (cutbox-rows.mjs): the forced cells as the released guide's own fill.sh prints them over the translation 75dd124ce82a5eaa… (all of the seat's roots in one cut). By AI agents, Wed Nov 11 2026. No macro, syntax, notation, axiom, sorry.
-/
import Derived.Test.YtblooekephkojaaChecked
import GoSem.Claim
import GoSem.ClaimJoined
import GoSem.ClaimMapViews
import Derived.JoinedTies
import Derived.KernelRfl
namespace Go.Proofs.Ytblooekephkojaa
/- THE CELL 'sum', in the pinned program and in every row, IS THE sha256 OF THE DUMP (.gsa) THAT YtblooekephkojaaProg.lean LOADS. Nothing in Lean hashes anything: it is a label: what it is worth is what the hold of that sum in a sandbox is worth. -/
noncomputable def Try.pinned : Pinned := { name := "ytblooekephkojaa", sum := "75dd124ce82a5eaa8ad142a1a5fe924456c7dbab06658dd311435567ab196160", checked := Try.checked }
namespace Rows
def none {H : Type} : Left H := { results := [], args := [] }

/-- 'regletlaw25.ShellEscapes': WHATEVER THE INPUT: true; the input reads as it did. -/
def shellEscapesSpec : ChangeSpec := { name := "shellEscapes", fn := fun _ => fun
  | [d] => { results := [.lit (.bool true)], args := [d] }
  | _ => none }
def shellEscapesRow : OpenClaim := { program := "ytblooekephkojaa", sum := "75dd124ce82a5eaa8ad142a1a5fe924456c7dbab06658dd311435567ab196160", func := "reglet/regletlaw25.ShellEscapes", spec := "shellEscapes", inPlace := ["internal/abi.NoEscape"], apart := false }
def ShellEscapesSaid : Prop := shellEscapesRow.holds Try.pinned (OpenSpec.ofChange shellEscapesSpec)

/-- ITS FALSE NEIGHBOUR: 'it returns false'. Refute it at one input. -/
def shellEscapesWrong : ChangeSpec := { name := "shellEscapes", fn := fun _ => fun
  | [d] => { results := [.lit (.bool false)], args := [d] }
  | _ => none }
def ShellEscapesWrongFalsely : Prop := shellEscapesRow.holds Try.pinned (OpenSpec.ofChange shellEscapesWrong)

/-- 'regletlaw14.SearchCosts': WHATEVER THE INPUT: true; the input reads as it did. -/
def searchCostsSpec : ChangeSpec := { name := "searchCosts", fn := fun _ => fun
  | [d1, d2, d3] => { results := [.lit (.bool true)], args := [d1, d2, d3] }
  | _ => none }
def searchCostsRow : OpenClaim := { program := "ytblooekephkojaa", sum := "75dd124ce82a5eaa8ad142a1a5fe924456c7dbab06658dd311435567ab196160", func := "reglet/regletlaw14.SearchCosts", spec := "searchCosts", apart := false }
def SearchCostsSaid : Prop := searchCostsRow.holds Try.pinned (OpenSpec.ofChange searchCostsSpec)

/-- ITS FALSE NEIGHBOUR: 'it returns false'. Refute it at one input. -/
def searchCostsWrong : ChangeSpec := { name := "searchCosts", fn := fun _ => fun
  | [d1, d2, d3] => { results := [.lit (.bool false)], args := [d1, d2, d3] }
  | _ => none }
def SearchCostsWrongFalsely : Prop := searchCostsRow.holds Try.pinned (OpenSpec.ofChange searchCostsWrong)

/-- 'regletlaw10.ScopeLast': WHATEVER THE INPUT: true; the input reads as it did. -/
def scopeLastSpec : ChangeSpec := { name := "scopeLast", fn := fun _ => fun
  | [d1, d2, d3] => { results := [.lit (.bool true)], args := [d1, d2, d3] }
  | _ => none }
def scopeLastRow : OpenClaim := { program := "ytblooekephkojaa", sum := "75dd124ce82a5eaa8ad142a1a5fe924456c7dbab06658dd311435567ab196160", func := "reglet/regletlaw10.ScopeLast", spec := "scopeLast", apart := false }
def ScopeLastSaid : Prop := scopeLastRow.holds Try.pinned (OpenSpec.ofChange scopeLastSpec)

/-- ITS FALSE NEIGHBOUR: 'it returns false'. Refute it at one input. -/
def scopeLastWrong : ChangeSpec := { name := "scopeLast", fn := fun _ => fun
  | [d1, d2, d3] => { results := [.lit (.bool false)], args := [d1, d2, d3] }
  | _ => none }
def ScopeLastWrongFalsely : Prop := scopeLastRow.holds Try.pinned (OpenSpec.ofChange scopeLastWrong)

/-- 'regletlaw10.ScopePlays': WHATEVER THE INPUT: true; the input reads as it did. -/
def scopePlaysSpec : ChangeSpec := { name := "scopePlays", fn := fun _ => fun
  | [d1, d2] => { results := [.lit (.bool true)], args := [d1, d2] }
  | _ => none }
def scopePlaysRow : OpenClaim := { program := "ytblooekephkojaa", sum := "75dd124ce82a5eaa8ad142a1a5fe924456c7dbab06658dd311435567ab196160", func := "reglet/regletlaw10.ScopePlays", spec := "scopePlays", unfollowed := true, recurses := true, apart := false }
def ScopePlaysSaid : Prop := scopePlaysRow.holds Try.pinned (OpenSpec.ofChange scopePlaysSpec)

/-- ITS FALSE NEIGHBOUR: 'it returns false'. Refute it at one input. -/
def scopePlaysWrong : ChangeSpec := { name := "scopePlays", fn := fun _ => fun
  | [d1, d2] => { results := [.lit (.bool false)], args := [d1, d2] }
  | _ => none }
def ScopePlaysWrongFalsely : Prop := scopePlaysRow.holds Try.pinned (OpenSpec.ofChange scopePlaysWrong)

/-- 'regletlaw10.ScopeNames': WHATEVER THE INPUT: true; the input reads as it did. -/
def scopeNamesSpec : ChangeSpec := { name := "scopeNames", fn := fun _ => fun
  | [] => { results := [.lit (.bool true)], args := [] }
  | _ => none }
def scopeNamesRow : OpenClaim := { program := "ytblooekephkojaa", sum := "75dd124ce82a5eaa8ad142a1a5fe924456c7dbab06658dd311435567ab196160", func := "reglet/regletlaw10.ScopeNames", spec := "scopeNames", unfollowed := true, recurses := true, apart := false }
def ScopeNamesSaid : Prop := scopeNamesRow.holds Try.pinned (OpenSpec.ofChange scopeNamesSpec)

/-- ITS FALSE NEIGHBOUR: 'it returns false'. Refute it at one input. -/
def scopeNamesWrong : ChangeSpec := { name := "scopeNames", fn := fun _ => fun
  | [] => { results := [.lit (.bool false)], args := [] }
  | _ => none }
def ScopeNamesWrongFalsely : Prop := scopeNamesRow.holds Try.pinned (OpenSpec.ofChange scopeNamesWrong)

/-- 'regletlaw10.ScopeBalances': WHATEVER THE INPUT: true; the input reads as it did. -/
def scopeBalancesSpec : ChangeSpec := { name := "scopeBalances", fn := fun _ => fun
  | [d1, d2, d3] => { results := [.lit (.bool true)], args := [d1, d2, d3] }
  | _ => none }
def scopeBalancesRow : OpenClaim := { program := "ytblooekephkojaa", sum := "75dd124ce82a5eaa8ad142a1a5fe924456c7dbab06658dd311435567ab196160", func := "reglet/regletlaw10.ScopeBalances", spec := "scopeBalances", unfollowed := true, recurses := true, apart := false }
def ScopeBalancesSaid : Prop := scopeBalancesRow.holds Try.pinned (OpenSpec.ofChange scopeBalancesSpec)

/-- ITS FALSE NEIGHBOUR: 'it returns false'. Refute it at one input. -/
def scopeBalancesWrong : ChangeSpec := { name := "scopeBalances", fn := fun _ => fun
  | [d1, d2, d3] => { results := [.lit (.bool false)], args := [d1, d2, d3] }
  | _ => none }
def ScopeBalancesWrongFalsely : Prop := scopeBalancesRow.holds Try.pinned (OpenSpec.ofChange scopeBalancesWrong)

/-- 'regletlaw14.SearchAll': WHATEVER THE INPUT: true; the input reads as it did. -/
def searchAllSpec : ChangeSpec := { name := "searchAll", fn := fun _ => fun
  | [d1, d2, d3] => { results := [.lit (.bool true)], args := [d1, d2, d3] }
  | _ => none }
def searchAllRow : OpenClaim := { program := "ytblooekephkojaa", sum := "75dd124ce82a5eaa8ad142a1a5fe924456c7dbab06658dd311435567ab196160", func := "reglet/regletlaw14.SearchAll", spec := "searchAll", unfollowed := true, recurses := true, apart := false }
def SearchAllSaid : Prop := searchAllRow.holds Try.pinned (OpenSpec.ofChange searchAllSpec)

/-- ITS FALSE NEIGHBOUR: 'it returns false'. Refute it at one input. -/
def searchAllWrong : ChangeSpec := { name := "searchAll", fn := fun _ => fun
  | [d1, d2, d3] => { results := [.lit (.bool false)], args := [d1, d2, d3] }
  | _ => none }
def SearchAllWrongFalsely : Prop := searchAllRow.holds Try.pinned (OpenSpec.ofChange searchAllWrong)

/-- 'regletlaw14.SearchLong': WHATEVER THE INPUT: true; the input reads as it did. -/
def searchLongSpec : ChangeSpec := { name := "searchLong", fn := fun _ => fun
  | [d1, d2, d3] => { results := [.lit (.bool true)], args := [d1, d2, d3] }
  | _ => none }
def searchLongRow : OpenClaim := { program := "ytblooekephkojaa", sum := "75dd124ce82a5eaa8ad142a1a5fe924456c7dbab06658dd311435567ab196160", func := "reglet/regletlaw14.SearchLong", spec := "searchLong", unfollowed := true, recurses := true, apart := false }
def SearchLongSaid : Prop := searchLongRow.holds Try.pinned (OpenSpec.ofChange searchLongSpec)

/-- ITS FALSE NEIGHBOUR: 'it returns false'. Refute it at one input. -/
def searchLongWrong : ChangeSpec := { name := "searchLong", fn := fun _ => fun
  | [d1, d2, d3] => { results := [.lit (.bool false)], args := [d1, d2, d3] }
  | _ => none }
def SearchLongWrongFalsely : Prop := searchLongRow.holds Try.pinned (OpenSpec.ofChange searchLongWrong)

/-- 'regletlaw14.SearchWider': WHATEVER THE INPUT: true; the input reads as it did. -/
def searchWiderSpec : ChangeSpec := { name := "searchWider", fn := fun _ => fun
  | [d1, d2, d3] => { results := [.lit (.bool true)], args := [d1, d2, d3] }
  | _ => none }
def searchWiderRow : OpenClaim := { program := "ytblooekephkojaa", sum := "75dd124ce82a5eaa8ad142a1a5fe924456c7dbab06658dd311435567ab196160", func := "reglet/regletlaw14.SearchWider", spec := "searchWider", unfollowed := true, recurses := true, apart := false }
def SearchWiderSaid : Prop := searchWiderRow.holds Try.pinned (OpenSpec.ofChange searchWiderSpec)

/-- ITS FALSE NEIGHBOUR: 'it returns false'. Refute it at one input. -/
def searchWiderWrong : ChangeSpec := { name := "searchWider", fn := fun _ => fun
  | [d1, d2, d3] => { results := [.lit (.bool false)], args := [d1, d2, d3] }
  | _ => none }
def SearchWiderWrongFalsely : Prop := searchWiderRow.holds Try.pinned (OpenSpec.ofChange searchWiderWrong)

/-- 'regletlaw14.SearchNames': WHATEVER THE INPUT: true; the input reads as it did. -/
def searchNamesSpec : ChangeSpec := { name := "searchNames", fn := fun _ => fun
  | [] => { results := [.lit (.bool true)], args := [] }
  | _ => none }
def searchNamesRow : OpenClaim := { program := "ytblooekephkojaa", sum := "75dd124ce82a5eaa8ad142a1a5fe924456c7dbab06658dd311435567ab196160", func := "reglet/regletlaw14.SearchNames", spec := "searchNames", unfollowed := true, recurses := true, apart := false }
def SearchNamesSaid : Prop := searchNamesRow.holds Try.pinned (OpenSpec.ofChange searchNamesSpec)

/-- ITS FALSE NEIGHBOUR: 'it returns false'. Refute it at one input. -/
def searchNamesWrong : ChangeSpec := { name := "searchNames", fn := fun _ => fun
  | [] => { results := [.lit (.bool false)], args := [] }
  | _ => none }
def SearchNamesWrongFalsely : Prop := searchNamesRow.holds Try.pinned (OpenSpec.ofChange searchNamesWrong)

/-- 'regletlaw14.SearchLeast': WHATEVER THE INPUT: true; the input reads as it did. -/
def searchLeastSpec : ChangeSpec := { name := "searchLeast", fn := fun _ => fun
  | [d1, d2, d3] => { results := [.lit (.bool true)], args := [d1, d2, d3] }
  | _ => none }
def searchLeastRow : OpenClaim := { program := "ytblooekephkojaa", sum := "75dd124ce82a5eaa8ad142a1a5fe924456c7dbab06658dd311435567ab196160", func := "reglet/regletlaw14.SearchLeast", spec := "searchLeast", unfollowed := true, recurses := true, apart := false }
def SearchLeastSaid : Prop := searchLeastRow.holds Try.pinned (OpenSpec.ofChange searchLeastSpec)

/-- ITS FALSE NEIGHBOUR: 'it returns false'. Refute it at one input. -/
def searchLeastWrong : ChangeSpec := { name := "searchLeast", fn := fun _ => fun
  | [d1, d2, d3] => { results := [.lit (.bool false)], args := [d1, d2, d3] }
  | _ => none }
def SearchLeastWrongFalsely : Prop := searchLeastRow.holds Try.pinned (OpenSpec.ofChange searchLeastWrong)

/- THE SECOND FORM. 'bulk': how many values and letters a reading holds, each counted each time it is reached (what is shared counts as often as it is met; a slice's spare places count too). A statement '..UptoSaid' is the law's where the arguments, and the package variables that the reading takes, are together of bulk at most 1048576: NARROWER than '..Said'. Prove '..Said' where nothing that the law and all that it calls make is longer than what came in: it says more and counts as full. Else prove '..UptoSaid'. A law counts once. -/
mutual
def uptoBulk {H : Type} : DataW H → Nat
  | .lit (.string bytes) => bytes.length + 1
  | .lit _ => 1
  | .nil => 1
  | .ptr d => uptoBulk d + 1
  | .slice elems spare => uptoBulkAll elems + uptoBulkAll spare + 1
  | .agg parts => uptoBulkAll parts + 1
  | .iface _ d => uptoBulk d + 1
  | .map entries => uptoBulkEntries entries + 1
  | .held _ => 1
def uptoBulkAll {H : Type} : List (DataW H) → Nat
  | [] => 0
  | d :: r => uptoBulk d + uptoBulkAll r
def uptoBulkEntries {H : Type} : List (Lit × DataW H) → Nat
  | [] => 0
  | x :: r => uptoBulkEntry x + uptoBulkEntries r
def uptoBulkEntry {H : Type} : Lit × DataW H → Nat
  | (.string bytes, d) => bytes.length + uptoBulk d + 1
  | (_, d) => uptoBulk d + 1
 end
def uptoSmall : (H : Type) → List (DataW H) → Bool := fun _ ds => decide (uptoBulkAll ds ≤ 1048576)
def OpenSpec.upto (s : _root_.Go.ChangeSpec) : _root_.Go.OpenSpec := { _root_.Go.OpenSpec.ofChange s with cond := some uptoSmall }

/-- 'regletlaw25.ShellEscapes', WHERE WHAT IT READS IS OF BULK AT MOST 1048576: true; the input reads as it did. -/
def shellEscapesUptoRow : OpenClaim := { program := "ytblooekephkojaa", sum := "75dd124ce82a5eaa8ad142a1a5fe924456c7dbab06658dd311435567ab196160", func := "reglet/regletlaw25.ShellEscapes", spec := "shellEscapes", inPlace := ["internal/abi.NoEscape"], apart := false, narrowed := true }
def ShellEscapesUptoSaid : Prop := shellEscapesUptoRow.holds Try.pinned (OpenSpec.upto shellEscapesSpec)

/-- 'regletlaw14.SearchCosts', WHERE WHAT IT READS IS OF BULK AT MOST 1048576: true; the input reads as it did. -/
def searchCostsUptoRow : OpenClaim := { program := "ytblooekephkojaa", sum := "75dd124ce82a5eaa8ad142a1a5fe924456c7dbab06658dd311435567ab196160", func := "reglet/regletlaw14.SearchCosts", spec := "searchCosts", apart := false, narrowed := true }
def SearchCostsUptoSaid : Prop := searchCostsUptoRow.holds Try.pinned (OpenSpec.upto searchCostsSpec)

/-- 'regletlaw10.ScopeLast', WHERE WHAT IT READS IS OF BULK AT MOST 1048576: true; the input reads as it did. -/
def scopeLastUptoRow : OpenClaim := { program := "ytblooekephkojaa", sum := "75dd124ce82a5eaa8ad142a1a5fe924456c7dbab06658dd311435567ab196160", func := "reglet/regletlaw10.ScopeLast", spec := "scopeLast", apart := false, narrowed := true }
def ScopeLastUptoSaid : Prop := scopeLastUptoRow.holds Try.pinned (OpenSpec.upto scopeLastSpec)

/-- 'regletlaw10.ScopePlays', WHERE WHAT IT READS IS OF BULK AT MOST 1048576: true; the input reads as it did. -/
def scopePlaysUptoRow : OpenClaim := { program := "ytblooekephkojaa", sum := "75dd124ce82a5eaa8ad142a1a5fe924456c7dbab06658dd311435567ab196160", func := "reglet/regletlaw10.ScopePlays", spec := "scopePlays", unfollowed := true, recurses := true, apart := false, narrowed := true }
def ScopePlaysUptoSaid : Prop := scopePlaysUptoRow.holds Try.pinned (OpenSpec.upto scopePlaysSpec)

/-- 'regletlaw10.ScopeNames', WHERE WHAT IT READS IS OF BULK AT MOST 1048576: true; the input reads as it did. -/
def scopeNamesUptoRow : OpenClaim := { program := "ytblooekephkojaa", sum := "75dd124ce82a5eaa8ad142a1a5fe924456c7dbab06658dd311435567ab196160", func := "reglet/regletlaw10.ScopeNames", spec := "scopeNames", unfollowed := true, recurses := true, apart := false, narrowed := true }
def ScopeNamesUptoSaid : Prop := scopeNamesUptoRow.holds Try.pinned (OpenSpec.upto scopeNamesSpec)

/-- 'regletlaw10.ScopeBalances', WHERE WHAT IT READS IS OF BULK AT MOST 1048576: true; the input reads as it did. -/
def scopeBalancesUptoRow : OpenClaim := { program := "ytblooekephkojaa", sum := "75dd124ce82a5eaa8ad142a1a5fe924456c7dbab06658dd311435567ab196160", func := "reglet/regletlaw10.ScopeBalances", spec := "scopeBalances", unfollowed := true, recurses := true, apart := false, narrowed := true }
def ScopeBalancesUptoSaid : Prop := scopeBalancesUptoRow.holds Try.pinned (OpenSpec.upto scopeBalancesSpec)

/-- 'regletlaw14.SearchAll', WHERE WHAT IT READS IS OF BULK AT MOST 1048576: true; the input reads as it did. -/
def searchAllUptoRow : OpenClaim := { program := "ytblooekephkojaa", sum := "75dd124ce82a5eaa8ad142a1a5fe924456c7dbab06658dd311435567ab196160", func := "reglet/regletlaw14.SearchAll", spec := "searchAll", unfollowed := true, recurses := true, apart := false, narrowed := true }
def SearchAllUptoSaid : Prop := searchAllUptoRow.holds Try.pinned (OpenSpec.upto searchAllSpec)

/-- 'regletlaw14.SearchLong', WHERE WHAT IT READS IS OF BULK AT MOST 1048576: true; the input reads as it did. -/
def searchLongUptoRow : OpenClaim := { program := "ytblooekephkojaa", sum := "75dd124ce82a5eaa8ad142a1a5fe924456c7dbab06658dd311435567ab196160", func := "reglet/regletlaw14.SearchLong", spec := "searchLong", unfollowed := true, recurses := true, apart := false, narrowed := true }
def SearchLongUptoSaid : Prop := searchLongUptoRow.holds Try.pinned (OpenSpec.upto searchLongSpec)

/-- 'regletlaw14.SearchWider', WHERE WHAT IT READS IS OF BULK AT MOST 1048576: true; the input reads as it did. -/
def searchWiderUptoRow : OpenClaim := { program := "ytblooekephkojaa", sum := "75dd124ce82a5eaa8ad142a1a5fe924456c7dbab06658dd311435567ab196160", func := "reglet/regletlaw14.SearchWider", spec := "searchWider", unfollowed := true, recurses := true, apart := false, narrowed := true }
def SearchWiderUptoSaid : Prop := searchWiderUptoRow.holds Try.pinned (OpenSpec.upto searchWiderSpec)

/-- 'regletlaw14.SearchNames', WHERE WHAT IT READS IS OF BULK AT MOST 1048576: true; the input reads as it did. -/
def searchNamesUptoRow : OpenClaim := { program := "ytblooekephkojaa", sum := "75dd124ce82a5eaa8ad142a1a5fe924456c7dbab06658dd311435567ab196160", func := "reglet/regletlaw14.SearchNames", spec := "searchNames", unfollowed := true, recurses := true, apart := false, narrowed := true }
def SearchNamesUptoSaid : Prop := searchNamesUptoRow.holds Try.pinned (OpenSpec.upto searchNamesSpec)

/-- 'regletlaw14.SearchLeast', WHERE WHAT IT READS IS OF BULK AT MOST 1048576: true; the input reads as it did. -/
def searchLeastUptoRow : OpenClaim := { program := "ytblooekephkojaa", sum := "75dd124ce82a5eaa8ad142a1a5fe924456c7dbab06658dd311435567ab196160", func := "reglet/regletlaw14.SearchLeast", spec := "searchLeast", unfollowed := true, recurses := true, apart := false, narrowed := true }
def SearchLeastUptoSaid : Prop := searchLeastUptoRow.holds Try.pinned (OpenSpec.upto searchLeastSpec)

end Rows
end Go.Proofs.Ytblooekephkojaa

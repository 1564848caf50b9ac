/-
  No cell of these rows narrows 'for every input' (looked for: loops, veiled, ifaces, maps, wideKeys, modest, calm, conditions, laid).
  DERIVED. THE GIVEN ROWS OF THIS SEAT. 6 by the template 'for every input the law returns true; each argument reads behind the call as it read before'; 0 by the template 'total and deterministic' (their statements: YtlboejdhmggjpaaGreatTotals.lean).
  GIVEN WITH THE SEED: the statements are not yours to turn. If you find one false, say at which input.
  Laid BY PROGRAM, IN A SANDBOX (cutbox-rows.mjs): the forced cells as the released guide's own fill.sh prints them over the translation edd51f63def9069f… (all of the seat's roots in one cut). By AI agents, Wed Nov 11 2026. No macro, syntax, notation, axiom, sorry.
-/
import Derived.Test.YtlboejdhmggjpaaGreatChecked
import GoSem.Claim
import GoSem.ClaimJoined
import GoSem.ClaimMapViews
import Derived.JoinedTies
import Derived.KernelRfl
namespace Go.Proofs.YtlboejdhmggjpaaGreat
/- THE CELL 'sum', in the pinned program and in every row, IS THE sha256 OF THE DUMP (.gsa) THAT YtlboejdhmggjpaaGreatProg.lean LOADS. Nothing in Lean hashes anything: it is a label: what it is worth is what the hold of that sum in a sandbox is worth. -/
noncomputable def Tryz.pinned : Pinned := { name := "ytlboejdhmggjpaagreat", sum := "edd51f63def9069f36ecbeafcc9668e2e7b9480d8af608af993b1c2df074a4ed", checked := Tryz.checked }
namespace Rows
def none {H : Type} : Left H := { results := [], args := [] }

/-- 'regletlaw11.ParseTells': WHATEVER THE INPUT: true; the input reads as it did. -/
def parseTellsSpec : ChangeSpec := { name := "parseTells", fn := fun _ => fun
  | [d] => { results := [.lit (.bool true)], args := [d] }
  | _ => none }
def parseTellsRow : OpenClaim := { program := "ytlboejdhmggjpaagreat", sum := "edd51f63def9069f36ecbeafcc9668e2e7b9480d8af608af993b1c2df074a4ed", func := "reglet/regletlaw11.ParseTells", spec := "parseTells", unfollowed := true, recurses := true, apart := false }
def ParseTellsSaid : Prop := parseTellsRow.holds Tryz.pinned (OpenSpec.ofChange parseTellsSpec)

/-- ITS FALSE NEIGHBOUR: 'it returns false'. Refute it at one input. -/
def parseTellsWrong : ChangeSpec := { name := "parseTells", fn := fun _ => fun
  | [d] => { results := [.lit (.bool false)], args := [d] }
  | _ => none }
def ParseTellsWrongFalsely : Prop := parseTellsRow.holds Tryz.pinned (OpenSpec.ofChange parseTellsWrong)

/-- 'regletlaw11.ParseBegins': WHATEVER THE INPUT: true; the input reads as it did. -/
def parseBeginsSpec : ChangeSpec := { name := "parseBegins", fn := fun _ => fun
  | [d1, d2, d3] => { results := [.lit (.bool true)], args := [d1, d2, d3] }
  | _ => none }
def parseBeginsRow : OpenClaim := { program := "ytlboejdhmggjpaagreat", sum := "edd51f63def9069f36ecbeafcc9668e2e7b9480d8af608af993b1c2df074a4ed", func := "reglet/regletlaw11.ParseBegins", spec := "parseBegins", unfollowed := true, recurses := true, apart := false }
def ParseBeginsSaid : Prop := parseBeginsRow.holds Tryz.pinned (OpenSpec.ofChange parseBeginsSpec)

/-- ITS FALSE NEIGHBOUR: 'it returns false'. Refute it at one input. -/
def parseBeginsWrong : ChangeSpec := { name := "parseBegins", fn := fun _ => fun
  | [d1, d2, d3] => { results := [.lit (.bool false)], args := [d1, d2, d3] }
  | _ => none }
def ParseBeginsWrongFalsely : Prop := parseBeginsRow.holds Tryz.pinned (OpenSpec.ofChange parseBeginsWrong)

/-- 'regletlaw11.ParseShape': WHATEVER THE INPUT: true; the input reads as it did. -/
def parseShapeSpec : ChangeSpec := { name := "parseShape", fn := fun _ => fun
  | [d] => { results := [.lit (.bool true)], args := [d] }
  | _ => none }
def parseShapeRow : OpenClaim := { program := "ytlboejdhmggjpaagreat", sum := "edd51f63def9069f36ecbeafcc9668e2e7b9480d8af608af993b1c2df074a4ed", func := "reglet/regletlaw11.ParseShape", spec := "parseShape", inPlace := ["internal/bytealg.IndexByteString", "internal/bytealg.IndexString", "math/bits.Add64"], unfollowed := true, recurses := true, named := ["internal/bytealg.MaxLen"], apart := false }
def ParseShapeSaid : Prop := parseShapeRow.holds Tryz.pinned (OpenSpec.ofChange parseShapeSpec)

/-- ITS FALSE NEIGHBOUR: 'it returns false'. Refute it at one input. -/
def parseShapeWrong : ChangeSpec := { name := "parseShape", fn := fun _ => fun
  | [d] => { results := [.lit (.bool false)], args := [d] }
  | _ => none }
def ParseShapeWrongFalsely : Prop := parseShapeRow.holds Tryz.pinned (OpenSpec.ofChange parseShapeWrong)

/-- 'regletlaw11.ParseRenamed': WHATEVER THE INPUT: true; the input reads as it did. -/
def parseRenamedSpec : ChangeSpec := { name := "parseRenamed", fn := fun _ => fun
  | [d1, d2, d3] => { results := [.lit (.bool true)], args := [d1, d2, d3] }
  | _ => none }
def parseRenamedRow : OpenClaim := { program := "ytlboejdhmggjpaagreat", sum := "edd51f63def9069f36ecbeafcc9668e2e7b9480d8af608af993b1c2df074a4ed", func := "reglet/regletlaw11.ParseRenamed", spec := "parseRenamed", inPlace := ["internal/bytealg.IndexByteString", "internal/bytealg.IndexString", "math/bits.Add64"], unfollowed := true, recurses := true, named := ["internal/bytealg.MaxLen"], apart := false }
def ParseRenamedSaid : Prop := parseRenamedRow.holds Tryz.pinned (OpenSpec.ofChange parseRenamedSpec)

/-- ITS FALSE NEIGHBOUR: 'it returns false'. Refute it at one input. -/
def parseRenamedWrong : ChangeSpec := { name := "parseRenamed", fn := fun _ => fun
  | [d1, d2, d3] => { results := [.lit (.bool false)], args := [d1, d2, d3] }
  | _ => none }
def ParseRenamedWrongFalsely : Prop := parseRenamedRow.holds Tryz.pinned (OpenSpec.ofChange parseRenamedWrong)

/-- 'regletlaw11.ParseNames': WHATEVER THE INPUT: true; the input reads as it did. -/
def parseNamesSpec : ChangeSpec := { name := "parseNames", fn := fun _ => fun
  | [] => { results := [.lit (.bool true)], args := [] }
  | _ => none }
def parseNamesRow : OpenClaim := { program := "ytlboejdhmggjpaagreat", sum := "edd51f63def9069f36ecbeafcc9668e2e7b9480d8af608af993b1c2df074a4ed", func := "reglet/regletlaw11.ParseNames", spec := "parseNames", inPlace := ["internal/bytealg.IndexByteString", "internal/bytealg.IndexString", "math/bits.Add64"], unfollowed := true, recurses := true, named := ["internal/bytealg.MaxLen"], apart := false }
def ParseNamesSaid : Prop := parseNamesRow.holds Tryz.pinned (OpenSpec.ofChange parseNamesSpec)

/-- ITS FALSE NEIGHBOUR: 'it returns false'. Refute it at one input. -/
def parseNamesWrong : ChangeSpec := { name := "parseNames", fn := fun _ => fun
  | [] => { results := [.lit (.bool false)], args := [] }
  | _ => none }
def ParseNamesWrongFalsely : Prop := parseNamesRow.holds Tryz.pinned (OpenSpec.ofChange parseNamesWrong)

/-- 'regletlaw11.ParseParts': WHATEVER THE INPUT: true; the input reads as it did. -/
def parsePartsSpec : ChangeSpec := { name := "parseParts", fn := fun _ => fun
  | [d] => { results := [.lit (.bool true)], args := [d] }
  | _ => none }
def parsePartsRow : OpenClaim := { program := "ytlboejdhmggjpaagreat", sum := "edd51f63def9069f36ecbeafcc9668e2e7b9480d8af608af993b1c2df074a4ed", func := "reglet/regletlaw11.ParseParts", spec := "parseParts", inPlace := ["internal/bytealg.IndexByteString", "internal/bytealg.IndexString", "math/bits.Add64"], unfollowed := true, recurses := true, named := ["internal/bytealg.MaxLen"], apart := false }
def ParsePartsSaid : Prop := parsePartsRow.holds Tryz.pinned (OpenSpec.ofChange parsePartsSpec)

/-- ITS FALSE NEIGHBOUR: 'it returns false'. Refute it at one input. -/
def parsePartsWrong : ChangeSpec := { name := "parseParts", fn := fun _ => fun
  | [d] => { results := [.lit (.bool false)], args := [d] }
  | _ => none }
def ParsePartsWrongFalsely : Prop := parsePartsRow.holds Tryz.pinned (OpenSpec.ofChange parsePartsWrong)

/- THE SECOND FORM. 'bulk': how many values and letters a reading holds, each counted each time it is reached (what is shared counts as often as it is met; a slice's spare places count too). A statement '..UptoSaid' is the law's where the arguments, and the package variables that the reading takes, are together of bulk at most 1048576: NARROWER than '..Said'. Prove '..Said' where nothing that the law and all that it calls make is longer than what came in: it says more and counts as full. Else prove '..UptoSaid'. A law counts once. -/
mutual
def uptoBulk {H : Type} : DataW H → Nat
  | .lit (.string bytes) => bytes.length + 1
  | .lit _ => 1
  | .nil => 1
  | .ptr d => uptoBulk d + 1
  | .slice elems spare => uptoBulkAll elems + uptoBulkAll spare + 1
  | .agg parts => uptoBulkAll parts + 1
  | .iface _ d => uptoBulk d + 1
  | .map entries => uptoBulkEntries entries + 1
  | .held _ => 1
def uptoBulkAll {H : Type} : List (DataW H) → Nat
  | [] => 0
  | d :: r => uptoBulk d + uptoBulkAll r
def uptoBulkEntries {H : Type} : List (Lit × DataW H) → Nat
  | [] => 0
  | x :: r => uptoBulkEntry x + uptoBulkEntries r
def uptoBulkEntry {H : Type} : Lit × DataW H → Nat
  | (.string bytes, d) => bytes.length + uptoBulk d + 1
  | (_, d) => uptoBulk d + 1
 end
def uptoSmall : (H : Type) → List (DataW H) → Bool := fun _ ds => decide (uptoBulkAll ds ≤ 1048576)
def OpenSpec.upto (s : _root_.Go.ChangeSpec) : _root_.Go.OpenSpec := { _root_.Go.OpenSpec.ofChange s with cond := some uptoSmall }

/-- 'regletlaw11.ParseTells', WHERE WHAT IT READS IS OF BULK AT MOST 1048576: true; the input reads as it did. -/
def parseTellsUptoRow : OpenClaim := { program := "ytlboejdhmggjpaagreat", sum := "edd51f63def9069f36ecbeafcc9668e2e7b9480d8af608af993b1c2df074a4ed", func := "reglet/regletlaw11.ParseTells", spec := "parseTells", unfollowed := true, recurses := true, apart := false, narrowed := true }
def ParseTellsUptoSaid : Prop := parseTellsUptoRow.holds Tryz.pinned (OpenSpec.upto parseTellsSpec)

/-- 'regletlaw11.ParseBegins', WHERE WHAT IT READS IS OF BULK AT MOST 1048576: true; the input reads as it did. -/
def parseBeginsUptoRow : OpenClaim := { program := "ytlboejdhmggjpaagreat", sum := "edd51f63def9069f36ecbeafcc9668e2e7b9480d8af608af993b1c2df074a4ed", func := "reglet/regletlaw11.ParseBegins", spec := "parseBegins", unfollowed := true, recurses := true, apart := false, narrowed := true }
def ParseBeginsUptoSaid : Prop := parseBeginsUptoRow.holds Tryz.pinned (OpenSpec.upto parseBeginsSpec)

/-- 'regletlaw11.ParseShape', WHERE WHAT IT READS IS OF BULK AT MOST 1048576: true; the input reads as it did. -/
def parseShapeUptoRow : OpenClaim := { program := "ytlboejdhmggjpaagreat", sum := "edd51f63def9069f36ecbeafcc9668e2e7b9480d8af608af993b1c2df074a4ed", func := "reglet/regletlaw11.ParseShape", spec := "parseShape", inPlace := ["internal/bytealg.IndexByteString", "internal/bytealg.IndexString", "math/bits.Add64"], unfollowed := true, recurses := true, named := ["internal/bytealg.MaxLen"], apart := false, narrowed := true }
def ParseShapeUptoSaid : Prop := parseShapeUptoRow.holds Tryz.pinned (OpenSpec.upto parseShapeSpec)

/-- 'regletlaw11.ParseRenamed', WHERE WHAT IT READS IS OF BULK AT MOST 1048576: true; the input reads as it did. -/
def parseRenamedUptoRow : OpenClaim := { program := "ytlboejdhmggjpaagreat", sum := "edd51f63def9069f36ecbeafcc9668e2e7b9480d8af608af993b1c2df074a4ed", func := "reglet/regletlaw11.ParseRenamed", spec := "parseRenamed", inPlace := ["internal/bytealg.IndexByteString", "internal/bytealg.IndexString", "math/bits.Add64"], unfollowed := true, recurses := true, named := ["internal/bytealg.MaxLen"], apart := false, narrowed := true }
def ParseRenamedUptoSaid : Prop := parseRenamedUptoRow.holds Tryz.pinned (OpenSpec.upto parseRenamedSpec)

/-- 'regletlaw11.ParseNames', WHERE WHAT IT READS IS OF BULK AT MOST 1048576: true; the input reads as it did. -/
def parseNamesUptoRow : OpenClaim := { program := "ytlboejdhmggjpaagreat", sum := "edd51f63def9069f36ecbeafcc9668e2e7b9480d8af608af993b1c2df074a4ed", func := "reglet/regletlaw11.ParseNames", spec := "parseNames", inPlace := ["internal/bytealg.IndexByteString", "internal/bytealg.IndexString", "math/bits.Add64"], unfollowed := true, recurses := true, named := ["internal/bytealg.MaxLen"], apart := false, narrowed := true }
def ParseNamesUptoSaid : Prop := parseNamesUptoRow.holds Tryz.pinned (OpenSpec.upto parseNamesSpec)

/-- 'regletlaw11.ParseParts', WHERE WHAT IT READS IS OF BULK AT MOST 1048576: true; the input reads as it did. -/
def parsePartsUptoRow : OpenClaim := { program := "ytlboejdhmggjpaagreat", sum := "edd51f63def9069f36ecbeafcc9668e2e7b9480d8af608af993b1c2df074a4ed", func := "reglet/regletlaw11.ParseParts", spec := "parseParts", inPlace := ["internal/bytealg.IndexByteString", "internal/bytealg.IndexString", "math/bits.Add64"], unfollowed := true, recurses := true, named := ["internal/bytealg.MaxLen"], apart := false, narrowed := true }
def ParsePartsUptoSaid : Prop := parsePartsUptoRow.holds Tryz.pinned (OpenSpec.upto parsePartsSpec)

end Rows
end Go.Proofs.YtlboejdhmggjpaaGreat

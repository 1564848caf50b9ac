/- The law of told: texts. -/
import Derived.Test.YtodjhgalbaelkaaDoorTrO
import Derived.Test.YtodjhgalbaelkaaDoorTrM
namespace Go.Proofs.YtodjhgalbaelkaaDoor
open Go.RowKit Go.BigFrame Go.Shelf
set_option linter.unusedVariables false

theorem Td.texts (b : Option Addr) (cb : Nat) (c : List Chg) (s : ByteArray) (w : World) (hc : ChsAt w b c) (hcb : c.length ≤ cb) (hcm : cb ≤ maxLen) (hb : Bnd c) (hw : wt c ≤ 1048576) (hs : s.size ≤ 2000000) (ht : Tab w) :
    Calls Tryd.prog 4 #[.slice b c.length cb, .string s] w fun e w' => e = .returned (.bool true) ∧ Below w.heap.size w w' :=
  Td.textsOf Rf.parse b cb c s w hc hcb hcm hb hw hs ht
end Go.Proofs.YtodjhgalbaelkaaDoor

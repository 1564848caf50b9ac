/- reflow's paragraphs answer as the document's: with it, sameWords. -/
import Derived.Test.YtbnhefibpjldfaaGreatDoorPzR
import Derived.Test.YtbnhefibpjldfaaGreatDoorPzK
import Derived.Test.YtbnhefibpjldfaaGreatDoorPzH
namespace Go.Proofs.YtbnhefibpjldfaaGreatDoor
open Go.RowKit Go.BigFrame Go.Shelf
set_option linter.unusedVariables false
theorem W83 : W83ok := fun y W hm hl => Re.paras y W hm hl
theorem SW : SWok := Pr.sameWords (Re.words W83)
end Go.Proofs.YtbnhefibpjldfaaGreatDoor

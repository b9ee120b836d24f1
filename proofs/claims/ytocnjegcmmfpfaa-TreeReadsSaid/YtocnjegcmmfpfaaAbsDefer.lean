/-
 FUNCTIONS WITH ONE DEFERRED CALL that does nothing where no panic is under way (it recovers): their run, if it ends without a panic.
-/
import Derived.Test.YtocnjegcmmfpfaaAbsTab
import Derived.Test.YtocnjegcmmfpfaaAbsFast
import Derived.Defers
import Derived.Recover
set_option linter.unusedSimpArgs false
set_option linter.unusedVariables false
namespace Go.Ab
open Go
section
variable {P : Program} {w : World}
end
section
variable {P : Program} {E : FuncId → CallFn} {En : String → CallFn} {an : FAnn}
end
section
variable {P : Program} {w w' : World} {F F' : Cells} {ρ ρ' : Nat → Reg} {h h' : Heap} {β : Type} {r : β}
end
end Go.Ab

/- All forms. -/
import Derived.Test.YtgnmblegndbflaaGreatDoorTInf0
import Derived.Test.YtgnmblegndbflaaGreatDoorTInf1
import Derived.Test.YtgnmblegndbflaaGreatDoorTInf2
namespace Go.Proofs.Kh
set_option linter.all false
set_option linter.unusedVariables false
set_option linter.unusedSimpArgs false
open Go
def tabL : List (Nat × FX) := tab0 ++ tab1 ++ tab2
theorem tabL_fit : AllFit Tryz.prog tabL := (AllFit.append (AllFit.append tab0_fit tab1_fit) tab2_fit)
end Go.Proofs.Kh


import Derived.Test.YtfbkajadbjbfiaaGreatMA18
set_option linter.unusedVariables false
set_option linter.unusedSimpArgs false
set_option maxRecDepth 100000
namespace Go.Vs
open Go Go.Proofs
theorem QB:callL Tryz.prog zD 26 [kP]=some kIs:=uE (n:=60) (by kernel_rfl)
end Go.Vs

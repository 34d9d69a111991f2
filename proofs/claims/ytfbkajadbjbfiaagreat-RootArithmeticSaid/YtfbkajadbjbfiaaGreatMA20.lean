
import Derived.Test.YtfbkajadbjbfiaaGreatMA18
set_option linter.unusedVariables false
set_option linter.unusedSimpArgs false
set_option maxRecDepth 100000
namespace Go.Vs
open Go Go.Proofs
theorem zFD:callL Tryz.prog zD 63 [kL0,kL1]=some (.int .i64 (-1)):=uE (n:=60) (by kernel_rfl)
end Go.Vs


import Derived.Test.YtfbkajadbjbfiaaGreatMA18
set_option linter.unusedVariables false
set_option linter.unusedSimpArgs false
set_option maxRecDepth 100000
namespace Go.Vs
open Go Go.Proofs
theorem zDc:callL Tryz.prog zD 64 [kX,kL1]=some (.int .i64 1):=uE (n:=60) (by kernel_rfl)
theorem zAa:callL Tryz.prog zD 62 [kL0]=some (.bool true):=uE (n:=60) (by kernel_rfl)
theorem zAb:callL Tryz.prog zD 62 [kL1]=some (.bool true):=uE (n:=60) (by kernel_rfl)
end Go.Vs

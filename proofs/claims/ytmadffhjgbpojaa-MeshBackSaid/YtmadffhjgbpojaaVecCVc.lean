/- VecC: what the evaluator asks of each function, printed by a program and checked by the kernel. -/
import Derived.Test.YtmadffhjgbpojaaVecDefs
import Derived.KernelRfl
namespace Go.Proofs.Ytmadffhjgbpojaa.Fix
open Go Go.Proofs.Ytmadffhjgbpojaa.Sx
end Go.Proofs.Ytmadffhjgbpojaa.Fix

/- Msh2: what the evaluator asks of each function, printed by a program and checked by the kernel. -/
import Derived.Test.YtmadffhjgbpojaaMshDefs
import Derived.KernelRfl
namespace Go.Proofs.Ytmadffhjgbpojaa.Fix
open Go Go.Proofs.Ytmadffhjgbpojaa.Sx
theorem vcMNear (x y z : Int) (K : Out → Prop) : (evFunc Try.prog ΓG noAnn 10 9 23 [V3 x y z] [] (inK none K)) = ((3 : Nat) ≤ (9223372036854775807 : Nat) → BR (decide ((-4503599627370496 : Int) ≤ x)) (BR (decide (x ≤ (4503599627370496 : Int))) (BR (decide ((-4503599627370496 : Int) ≤ y)) (BR (decide (y ≤ (4503599627370496 : Int))) (BR (decide ((-4503599627370496 : Int) ≤ z)) (BR (decide (z ≤ (4503599627370496 : Int))) (True ∧ K (Out.val (SV.d (D.bool true)))) (True ∧ K (Out.val (SV.d (D.bool false))))) (True ∧ K (Out.val (SV.d (D.bool false))))) (True ∧ K (Out.val (SV.d (D.bool false))))) (True ∧ K (Out.val (SV.d (D.bool false))))) (True ∧ K (Out.val (SV.d (D.bool false))))) (True ∧ K (Out.val (SV.d (D.bool false))))) := by
  kernel_rfl
end Go.Proofs.Ytmadffhjgbpojaa.Fix

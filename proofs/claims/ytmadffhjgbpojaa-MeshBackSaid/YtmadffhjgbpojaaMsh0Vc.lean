/- Msh0: what the evaluator asks of each function, printed by a program and checked by the kernel. -/
import Derived.Test.YtmadffhjgbpojaaMshDefs
import Derived.KernelRfl
namespace Go.Proofs.Ytmadffhjgbpojaa.Fix
open Go Go.Proofs.Ytmadffhjgbpojaa.Sx
theorem vcMCount (p t b : Nat) (g1 g2 g3 : Nat → Nat → D) (K : Out → Prop) : (evFunc Try.prog ΓG noAnn 10 9 11 [.agg [.d (.list 3 p g1), .d (.list 3 t g2), .d (.list 4 b g3)]] [] (inK none K)) = (t ≤ (9223372036854775807 : Nat) → b ≤ (9223372036854775807 : Nat) → True ∧ K (Out.val (SV.d (D.int IntKind.i64 (IntKind.i64.wrap ((↑t : Int) + (↑b : Int))))))) := by
  kernel_rfl
theorem vcMThere (p t b : Nat) (g1 g2 g3 : Nat → Nat → D) (x y z : Int) (K : Out → Prop) : (evFunc Try.prog ΓG noAnn 10 9 26 [.agg [.d (.list 3 p g1), .d (.list 3 t g2), .d (.list 4 b g3)], V3 x y z] [] (inK none K)) = ((3 : Nat) ≤ (9223372036854775807 : Nat) → BR (decide ((0 : Int) ≤ x)) (p ≤ (9223372036854775807 : Nat) → BR (decide (x < (↑p : Int))) (BR (decide ((0 : Int) ≤ y)) (p ≤ (9223372036854775807 : Nat) → BR (decide (y < (↑p : Int))) (BR (decide ((0 : Int) ≤ z)) (p ≤ (9223372036854775807 : Nat) → BR (decide (z < (↑p : Int))) (True ∧ K (Out.val (SV.d (D.bool true)))) (True ∧ K (Out.val (SV.d (D.bool false))))) (True ∧ K (Out.val (SV.d (D.bool false))))) (True ∧ K (Out.val (SV.d (D.bool false))))) (True ∧ K (Out.val (SV.d (D.bool false))))) (True ∧ K (Out.val (SV.d (D.bool false))))) (True ∧ K (Out.val (SV.d (D.bool false))))) := by
  kernel_rfl
end Go.Proofs.Ytmadffhjgbpojaa.Fix

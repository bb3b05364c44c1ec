/- Vec1: what the evaluator asks of each function, printed by a program and checked by the kernel. -/
import Derived.Test.YtcclekhekdibjaaVecDefs
import Derived.KernelRfl
namespace Go.Proofs.Ytcclekhekdibjaa.Fix
open Go Go.Proofs.Ytcclekhekdibjaa.Sx
theorem vcVLen (a b c : Int) (K : Out → Prop) : (evFunc Try.prog ΓV1 noAnn 10 5 64 [V3 a b c] [] (inK none K)) = (BR (inV a b c) (BR (inV a b c) (∀ (n : Int), n = dotV (a, b, c) (a, b, c) → BR (inI64 n) (∀ (n_1 : Int), n_1 = sqrtZ n → True ∧ K (Out.val (SV.d (D.int IntKind.i64 n_1)))) False) False) False) := by
  kernel_rfl
theorem vcVUnit (a b c : Int) (K : Out → Prop) : (evFunc Try.prog ΓV1 noAnn 10 5 42 [V3 a b c] [] (inK none K)) = (BR (inV a b c) (BR (inV a b c) (∀ (n : Int), n = dotV (a, b, c) (a, b, c) → BR (inI64 n) (∀ (n_1 : Int), n_1 = sqrtZ n → BR (decide (n_1 = (0 : Int))) ((True ∧ True ∧ True ∧ True) ∧ K (Out.val (SV.agg [SV.d (D.int IntKind.i64 (0 : Int)), SV.d (D.int IntKind.i64 (0 : Int)), SV.d (D.int IntKind.i64 (0 : Int))]))) (BR (inI64 a) (BR (inI64 n_1) (∀ (n : Int), n = divZ a n_1 → BR (inI64 b) (BR (inI64 n_1) (∀ (n_2 : Int), n_2 = divZ b n_1 → BR (inI64 c) (BR (inI64 n_1) (∀ (n_3 : Int), n_3 = divZ c n_1 → (True ∧ True ∧ True ∧ True) ∧ K (Out.val (SV.agg [SV.d (D.int IntKind.i64 n), SV.d (D.int IntKind.i64 n_2), SV.d (D.int IntKind.i64 n_3)]))) False) False) False) False) False) False)) False) False) False) := by
  kernel_rfl
end Go.Proofs.Ytcclekhekdibjaa.Fix

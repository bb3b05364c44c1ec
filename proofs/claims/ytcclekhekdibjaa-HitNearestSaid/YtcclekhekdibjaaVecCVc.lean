/- VecC: what the evaluator asks of each function, printed by a program and checked by the kernel. -/
import Derived.Test.YtcclekhekdibjaaVecDefs
import Derived.KernelRfl
namespace Go.Proofs.Ytcclekhekdibjaa.Fix
open Go Go.Proofs.Ytcclekhekdibjaa.Sx
theorem vcVNeg1 (a b : Int) (K : Out → Prop) : (evFunc Try.prog Γ3 noAnn 10 5 66 [I64 a, I64 b] [] (inK none K)) = (BR (inI64 a) (∀ (n : Int), n = negZ a → True ∧ K (Out.val (SV.d (D.int IntKind.i64 n)))) False) := by
  kernel_rfl
theorem vcVScale1 (a b s : Int) (ty : TypeId) (K : Out → Prop) : (evFunc Try.prog Γ3 noAnn 10 5 63 [I64 a, I64 b, .ptr 0 0] [.fix ty [I64 s]] (capK [.fix ty [I64 s]] K)) = (BR (inI64 a) (BR (inI64 s) (∀ (n : Int), n = mulZ a s → True ∧ ((ty = ty ∧ [SV.d (D.int IntKind.i64 s)] = [SV.d (D.int IntKind.i64 s)]) ∧ True) ∧ K (Out.val (SV.d (D.int IntKind.i64 n)))) False) False) := by
  kernel_rfl
theorem vcVUnit1 (a b s : Int) (ty : TypeId) (K : Out → Prop) : (evFunc Try.prog Γ3 noAnn 10 5 65 [I64 a, I64 b, .ptr 0 0] [.fix ty [I64 s]] (capK [.fix ty [I64 s]] K)) = (BR (inI64 a) (BR (inI64 s) (∀ (n : Int), n = divZ a s → True ∧ ((ty = ty ∧ [SV.d (D.int IntKind.i64 s)] = [SV.d (D.int IntKind.i64 s)]) ∧ True) ∧ K (Out.val (SV.d (D.int IntKind.i64 n)))) False) False) := by
  kernel_rfl
theorem vcVArea (a b c d : Int) (K : Out → Prop) : (evFunc Try.prog Γ3 noAnn 10 5 59 [I64 a, I64 b, I64 c, I64 d] [] (inK none K)) = (BR (inI64 a) (BR (inI64 b) (∀ (n : Int), n = mulZ a b → BR (inI64 c) (BR (inI64 d) (∀ (n_1 : Int), n_1 = mulZ c d → BR (inI64 n) (BR (inI64 n_1) (∀ (n_2 : Int), n_2 = subZ n n_1 → True ∧ K (Out.val (SV.d (D.int IntKind.i64 n_2)))) False) False) False) False) False) False) := by
  kernel_rfl
end Go.Proofs.Ytcclekhekdibjaa.Fix

/- Hil4: what the evaluator asks of each function, printed by a program and checked by the kernel. -/
import Derived.Test.YtcclekhekdibjaaHinDefs
import Derived.KernelRfl
namespace Go.Proofs.Ytcclekhekdibjaa.Fix
open Go Go.Proofs.Ytcclekhekdibjaa.Sx
theorem vcHNumbers  : (evFunc Try.prog ΓGe noAnn 10 9 3 [] [] yesK) = ((3 : Nat) ≤ (9223372036854775807 : Nat) → (3 : Nat) ≤ (9223372036854775807 : Nat) → (3 : Nat) ≤ (9223372036854775807 : Nat) → (3 : Nat) ≤ (9223372036854775807 : Nat) → True) := by
  kernel_rfl
end Go.Proofs.Ytcclekhekdibjaa.Fix

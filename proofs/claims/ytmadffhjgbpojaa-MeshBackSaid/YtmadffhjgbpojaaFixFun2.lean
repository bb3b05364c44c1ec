/- Fix: sums, products, quotients, roots, sines. -/
import Derived.Test.YtmadffhjgbpojaaFixSpecs
import Derived.Test.YtmadffhjgbpojaaFix1Vc
namespace Go.Proofs.Ytmadffhjgbpojaa.Fix
open Go Go.Proofs.Ytmadffhjgbpojaa.Sx
attribute [local irreducible] evFunc

theorem add_ok {a b : Int} (ha : In64 a) (hb : In64 b) {K : Out → Prop} (h : K (.val (I64 (addZ a b)))) : Ev Γ0 31 [I64 a, I64 b] K := by
  unfold Ev
  rw [vcAdd]
  simp only [true_and]
  have go : ∀ z : Int, z = addZ a b → K (.val (I64 z)) := fun z hz => by rw [hz]; exact h
  unfold In64 at ha hb
  repeat' (first | refine BR_d (fun _ => ?_) fun _ => ?_ | (refine go _ ?_; (try simp only [IntKind.wrap_i64] at *); unfold addZ sat; omega))
/-! ## Products -/
theorem or32 {h l : Int} (h1 : 0 ≤ h) (l1 : 0 ≤ l) (l2 : l < 18446744073709551616) : bits .or .u64 (IntKind.u64.wrap (h * 4294967296)) (l / 4294967296) = h % 4294967296 * 4294967296 + l / 4294967296 := by
  have e : IntKind.u64.wrap (h * 4294967296) = h % 4294967296 * 2 ^ 32 := by rw [IntKind.wrap_u64, show (2 : Int) ^ 32 = 4294967296 from rfl]; omega
  rw [e, or_parts (by omega) (by omega) (by rw [show (2 : Int) ^ 32 = 4294967296 from rfl]; omega) (by rw [show (2 : Int) ^ 32 = 4294967296 from rfl]; omega) (by omega), show (2 : Int) ^ 32 = 4294967296 from rfl]
/-! ## Quotients -/
end Go.Proofs.Ytmadffhjgbpojaa.Fix

/- Fix: roots, quotients by the document, differences, sines. -/
import Derived.Test.YtmadffhjgbpojaaFixFun2
namespace Go.Proofs.Ytmadffhjgbpojaa.Fix
open Go Go.Proofs.Ytmadffhjgbpojaa.Sx
attribute [local irreducible] evFunc

/-! ## The document's quotients -/
theorem Γ1_ok : GammaOK Try.prog Γ1 := by
  intro f s h
  unfold Γ1 at h
  split at h
  · cases h
  · cases h; exact fn2_ok Γ0_ok fun a b ha hb K h => add_ok ha hb h -- fix.Add
  · exact Γ0_ok _ _ h
end Go.Proofs.Ytmadffhjgbpojaa.Fix

/- Vec: lengths, units, what is thrown back. -/
import Derived.Test.YtmadffhjgbpojaaVec1Vc
import Derived.Test.YtmadffhjgbpojaaVecFun0
namespace Go.Proofs.Ytmadffhjgbpojaa.Fix
open Go Go.Proofs.Ytmadffhjgbpojaa.Sx
attribute [local irreducible] evFunc
theorem ΓV2_ok : GammaOK Try.prog ΓV2 := by
  intro f s h
  unfold ΓV2 at h
  split at h
  · cases h
  · exact ΓV1_ok _ _ h
end Go.Proofs.Ytmadffhjgbpojaa.Fix

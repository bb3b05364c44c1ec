/- Vec: lengths, units, what is thrown back. -/
import Derived.Test.YtcclekhekdibjaaVec1Vc
import Derived.Test.YtcclekhekdibjaaVecFun0
namespace Go.Proofs.Ytcclekhekdibjaa.Fix
open Go Go.Proofs.Ytcclekhekdibjaa.Sx
attribute [local irreducible] evFunc
theorem vLen_ok {a b c : Int} (ha : In64 a) (hb : In64 b) (hc : In64 c) {K : Out → Prop} (h : K (.val (I64 (lenV (a, b, c))))) : EvV ΓV1 64 [V3 a b c] K := by
  unfold EvV
  rw [vcVLen]
  simp only [true_and, and_true, forall_eq, inI64_of ha, inI64_of hb, inI64_of hc, inV, Bool.and_true, inI64_of (dotV_in _ _), inI64_of (addZ_in _ _), inI64_of (subZ_in _ _), inI64_of (mulZ_in _ _), inI64_of (negZ_in _), BR_true]
  exact h
theorem vUnit_ok {a b c : Int} (ha : In64 a) (hb : In64 b) (hc : In64 c) {K : Out → Prop} (h : K (.val (Vp (unitV (a, b, c))))) : EvV ΓV1 42 [V3 a b c] K := by
  unfold EvV
  rw [vcVUnit]
  simp only [true_and, and_true, forall_eq, inI64_of ha, inI64_of hb, inI64_of hc, inV, Bool.and_true, inI64_of (dotV_in _ _), BR_true]
  have hl : sqrtZ (dotV (a, b, c) (a, b, c)) = lenV (a, b, c) := rfl
  rw [hl]
  simp only [inI64_of (lenV_in _), BR_true]
  unfold unitV at h
  refine BR_d (fun e => ?_) fun e => ?_
  · rw [if_pos e] at h; exact h
  · rw [if_neg e] at h; exact h
theorem ΓV2_ok : GammaOK Try.prog ΓV2 := by
  intro f s h
  unfold ΓV2 at h
  split at h
  · cases h
  · cases h; exact vn_ok ΓV1_ok fun a b c ha hb hc K h => vLen_ok ha hb hc h -- vec.Len
  · cases h; exact v1_ok ΓV1_ok fun a b c ha hb hc K h => vUnit_ok ha hb hc h -- vec.Unit
  · exact ΓV1_ok _ _ h
end Go.Proofs.Ytcclekhekdibjaa.Fix

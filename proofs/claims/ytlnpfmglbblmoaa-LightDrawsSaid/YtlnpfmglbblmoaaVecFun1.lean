/- Vec: lengths, units, what is thrown back. -/
import Derived.Test.YtlnpfmglbblmoaaVec1Vc
import Derived.Test.YtlnpfmglbblmoaaVecFun0
namespace Go.Proofs.Ytlnpfmglbblmoaa.Fix
open Go Go.Proofs.Ytlnpfmglbblmoaa.Sx
attribute [local irreducible] evFunc
theorem vLen_ok {a b c : Int} (ha : In64 a) (hb : In64 b) (hc : In64 c) {K : Out → Prop} (h : K (.val (I64 (lenV (a, b, c))))) : EvV ΓV1 58 [V3 a b c] K := by
  unfold EvV
  rw [vcVLen]
  simp only [true_and, and_true, forall_eq, inI64_of ha, inI64_of hb, inI64_of hc, inV, Bool.and_true, inI64_of (dotV_in _ _), inI64_of (addZ_in _ _), inI64_of (subZ_in _ _), inI64_of (mulZ_in _ _), inI64_of (negZ_in _), BR_true]
  exact h
theorem vUnit_ok {a b c : Int} (ha : In64 a) (hb : In64 b) (hc : In64 c) {K : Out → Prop} (h : K (.val (Vp (unitV (a, b, c))))) : EvV ΓV1 27 [V3 a b c] K := by
  unfold EvV
  rw [vcVUnit]
  simp only [true_and, and_true, forall_eq, inI64_of ha, inI64_of hb, inI64_of hc, inV, Bool.and_true, inI64_of (dotV_in _ _), BR_true]
  have hl : sqrtZ (dotV (a, b, c) (a, b, c)) = lenV (a, b, c) := rfl
  rw [hl]
  simp only [inI64_of (lenV_in _), BR_true]
  unfold unitV at h
  refine BR_d (fun e => ?_) fun e => ?_
  · rw [if_pos e] at h; exact h
  · rw [if_neg e] at h; exact h
theorem vBend_ok {a b c d e g : Int} (ha : In64 a) (hb : In64 b) (hc : In64 c) (hd : In64 d) (he : In64 e) (hg : In64 g) {K : Out → Prop} (h : K (.val (Vp (bendV (a, b, c) (d, e, g))))) : EvV ΓV1 42 [V3 a b c, V3 d e g] K := by
  unfold EvV
  rw [vcVBend]
  simp only [true_and, and_true, forall_eq, inI64_of ha, inI64_of hb, inI64_of hc, inI64_of hd, inI64_of he, inI64_of hg, inV, Bool.and_true, inI64_of (dotV_in _ _), inI64_of (scaleV_in _ _).1, inI64_of (scaleV_in _ _).2.1, inI64_of (scaleV_in _ _).2.2, inI64_of (addZ_in _ _), inI64_of (subZ_in _ _), inI64_of (mulZ_in _ _), inI64_of (negZ_in _), BR_true]
  exact h
theorem vrLen_ok {a b c : Int} (ha : In64 a) (hb : In64 b) (hc : In64 c) {K : Out → Prop} (h : K (.val (I64 (lenV (a, b, c))))) : EvV ΓV1 66 [V3 a b c] K := by
  unfold EvV
  rw [vcVRLen]
  simp only [true_and, and_true, forall_eq, inI64_of ha, inI64_of hb, inI64_of hc, inV, Bool.and_true, inI64_of (dotV_in _ _), inI64_of (addZ_in _ _), inI64_of (subZ_in _ _), inI64_of (mulZ_in _ _), inI64_of (negZ_in _), BR_true]
  exact h
theorem vrUnit_ok {a b c : Int} (ha : In64 a) (hb : In64 b) (hc : In64 c) {K : Out → Prop} (h : K (.val (Vp (unitV (a, b, c))))) : EvV ΓV1 34 [V3 a b c] K := by
  unfold EvV
  rw [vcVRUnit]
  simp only [true_and, and_true, forall_eq, inI64_of ha, inI64_of hb, inI64_of hc, inV, Bool.and_true, inI64_of (dotV_in _ _), BR_true]
  have hl : sqrtZ (dotV (a, b, c) (a, b, c)) = lenV (a, b, c) := rfl
  rw [hl]
  simp only [inI64_of (lenV_in _), BR_true]
  unfold unitV at h
  refine BR_d (fun e => ?_) fun e => ?_
  · rw [if_pos e] at h; exact h
  · rw [if_neg e] at h; exact h
theorem vrBend_ok {a b c d e g : Int} (ha : In64 a) (hb : In64 b) (hc : In64 c) (hd : In64 d) (he : In64 e) (hg : In64 g) {K : Out → Prop} (h : K (.val (Vp (bendV (a, b, c) (d, e, g))))) : EvV ΓV1 46 [V3 a b c, V3 d e g] K := by
  unfold EvV
  rw [vcVRBend]
  simp only [true_and, and_true, forall_eq, inI64_of ha, inI64_of hb, inI64_of hc, inI64_of hd, inI64_of he, inI64_of hg, inV, Bool.and_true, inI64_of (dotV_in _ _), inI64_of (scaleV_in _ _).1, inI64_of (scaleV_in _ _).2.1, inI64_of (scaleV_in _ _).2.2, inI64_of (addZ_in _ _), inI64_of (subZ_in _ _), inI64_of (mulZ_in _ _), inI64_of (negZ_in _), BR_true]
  exact h
theorem ΓV2_ok : GammaOK Try.prog ΓV2 := by
  intro f s h
  unfold ΓV2 at h
  split at h
  · cases h
  · cases h; exact vn_ok ΓV1_ok fun a b c ha hb hc K h => vLen_ok ha hb hc h -- vec.Len
  · cases h; exact v1_ok ΓV1_ok fun a b c ha hb hc K h => vUnit_ok ha hb hc h -- vec.Unit
  · cases h; exact vv_ok ΓV1_ok fun a b c d e g ha hb hc hd he hg K h => vBend_ok ha hb hc hd he hg h -- vec.Bend
  · cases h; exact vn_ok ΓV1_ok fun a b c ha hb hc K h => vrLen_ok ha hb hc h -- lightwellref02.Len
  · cases h; exact v1_ok ΓV1_ok fun a b c ha hb hc K h => vrUnit_ok ha hb hc h -- lightwellref02.Unit
  · cases h; exact vv_ok ΓV1_ok fun a b c d e g ha hb hc hd he hg K h => vrBend_ok ha hb hc hd he hg h -- lightwellref02.Bend
  · exact ΓV1_ok _ _ h
end Go.Proofs.Ytlnpfmglbblmoaa.Fix

/- Vec: the functions do what is said of them. -/
import Derived.Test.YtmadffhjgbpojaaVecCVc
import Derived.Test.YtmadffhjgbpojaaVec0Vc
import Derived.Test.YtmadffhjgbpojaaFixFun4
import Derived.Test.YtmadffhjgbpojaaSxCap
namespace Go.Proofs.Ytmadffhjgbpojaa.Fix
open Go Go.Proofs.Ytmadffhjgbpojaa.Sx
attribute [local irreducible] evFunc

abbrev EvV (Γ : FuncId → Option Sx.Spec) (f : FuncId) (xs : List SV) (K : Out → Prop) : Prop := evFunc Try.prog Γ noAnn 10 5 f xs [] (inK none K)
theorem inV_of {a b c : Int} (ha : In64 a) (hb : In64 b) (hc : In64 c) : inV a b c = true := by
  simp only [inV, inI64_of ha, inI64_of hb, inI64_of hc, Bool.and_true]
theorem inV_of3 {p : P3} (h : In3 p) : inV p.1 p.2.1 p.2.2 = true := inV_of h.1 h.2.1 h.2.2
theorem of_inV {a b c : Int} (h : inV a b c = true) : In64 a ∧ In64 b ∧ In64 c := by
  simp only [inV, Bool.and_eq_true] at h
  exact ⟨of_inI64 h.1, of_inI64 h.2.1, of_inI64 h.2.2⟩
theorem kd_ans3 (p : P3) : KD (ans3 p) := by
  unfold ans3
  refine kd_all (E := fun x K => ∀ y : Int, y = p.2.1 → ∀ z : Int, z = p.2.2 → K (.val (V3 x y z))) ?_
  refine kd_all (E := fun y K => ∀ z : Int, z = p.2.2 → K (.val (V3 p.1 y z))) ?_
  exact kd_all (E := fun z K => K (.val (V3 p.1 p.2.1 z))) (kd_ret _)
theorem vv_calm (F : P3 → P3 → P3) : SpecCalm (vv F) := pureSpec_calm fun xs => by
  repeat' (first | exact kd_false | exact kd_ans3 _ | refine kd_br ?_ ?_ | split)
theorem v1_calm (F : P3 → P3) : SpecCalm (v1 F) := pureSpec_calm fun xs => by
  repeat' (first | exact kd_false | exact kd_ans3 _ | refine kd_br ?_ ?_ | split)
theorem vs_calm (F : P3 → Int → P3) : SpecCalm (vs F) := pureSpec_calm fun xs => by
  repeat' (first | exact kd_false | exact kd_ans3 _ | refine kd_br ?_ ?_ | split)
theorem vvn_calm (F : P3 → P3 → Int) : SpecCalm (vvn F) := pureSpec_calm fun xs => by
  repeat' (first | exact kd_ret _ | exact kd_false | refine kd_br ?_ ?_ | refine kd_all (E := fun n K => K (.val (I64 n))) ?_ | split)
theorem vn_calm (F : P3 → Int) : SpecCalm (vn F) := pureSpec_calm fun xs => by
  repeat' (first | exact kd_ret _ | exact kd_false | refine kd_br ?_ ?_ | refine kd_all (E := fun n K => K (.val (I64 n))) ?_ | split)
theorem vv_ok {Γ : FuncId → Option Sx.Spec} (hΓ : GammaOK Try.prog Γ) {f : FuncId} {F : P3 → P3 → P3} (H : ∀ a b c d e g, In64 a → In64 b → In64 c → In64 d → In64 e → In64 g → ∀ K, K (.val (Vp (F (a, b, c) (d, e, g)))) → EvV Γ f [V3 a b c, V3 d e g] K) : SpecOK Try.prog f (vv F) ∧ SpecCalm (vv F) := by
  refine ⟨pureSpec_ok (nl := none) (evFunc_sound hΓ noAnn 10 5) fun xs K h => ?_, vv_calm F⟩
  split at h
  · obtain ⟨h1, h2⟩ := req h
    obtain ⟨h2, h3⟩ := req h2
    obtain ⟨a1, a2, a3⟩ := of_inV h1
    obtain ⟨b1, b2, b3⟩ := of_inV h2
    exact H _ _ _ _ _ _ a1 a2 a3 b1 b2 b3 K (h3 _ rfl _ rfl _ rfl)
  · exact h.elim
theorem v1_ok {Γ : FuncId → Option Sx.Spec} (hΓ : GammaOK Try.prog Γ) {f : FuncId} {F : P3 → P3} (H : ∀ a b c, In64 a → In64 b → In64 c → ∀ K, K (.val (Vp (F (a, b, c)))) → EvV Γ f [V3 a b c] K) : SpecOK Try.prog f (v1 F) ∧ SpecCalm (v1 F) := by
  refine ⟨pureSpec_ok (nl := none) (evFunc_sound hΓ noAnn 10 5) fun xs K h => ?_, v1_calm F⟩
  split at h
  · obtain ⟨h1, h2⟩ := req h
    obtain ⟨a1, a2, a3⟩ := of_inV h1
    exact H _ _ _ a1 a2 a3 K (h2 _ rfl _ rfl _ rfl)
  · exact h.elim
theorem vs_ok {Γ : FuncId → Option Sx.Spec} (hΓ : GammaOK Try.prog Γ) {f : FuncId} {F : P3 → Int → P3} (H : ∀ a b c s, In64 a → In64 b → In64 c → In64 s → ∀ K, K (.val (Vp (F (a, b, c) s))) → EvV Γ f [V3 a b c, I64 s] K) : SpecOK Try.prog f (vs F) ∧ SpecCalm (vs F) := by
  refine ⟨pureSpec_ok (nl := none) (evFunc_sound hΓ noAnn 10 5) fun xs K h => ?_, vs_calm F⟩
  split at h
  · obtain ⟨h1, h2⟩ := req h
    obtain ⟨h2, h3⟩ := req h2
    obtain ⟨a1, a2, a3⟩ := of_inV h1
    exact H _ _ _ _ a1 a2 a3 (of_inI64 h2) K (h3 _ rfl _ rfl _ rfl)
  · exact h.elim
theorem vvn_ok {Γ : FuncId → Option Sx.Spec} (hΓ : GammaOK Try.prog Γ) {f : FuncId} {F : P3 → P3 → Int} (H : ∀ a b c d e g, In64 a → In64 b → In64 c → In64 d → In64 e → In64 g → ∀ K, K (.val (I64 (F (a, b, c) (d, e, g)))) → EvV Γ f [V3 a b c, V3 d e g] K) : SpecOK Try.prog f (vvn F) ∧ SpecCalm (vvn F) := by
  refine ⟨pureSpec_ok (nl := none) (evFunc_sound hΓ noAnn 10 5) fun xs K h => ?_, vvn_calm F⟩
  split at h
  · obtain ⟨h1, h2⟩ := req h
    obtain ⟨h2, h3⟩ := req h2
    obtain ⟨a1, a2, a3⟩ := of_inV h1
    obtain ⟨b1, b2, b3⟩ := of_inV h2
    exact H _ _ _ _ _ _ a1 a2 a3 b1 b2 b3 K (h3 _ rfl)
  · exact h.elim
theorem vn_ok {Γ : FuncId → Option Sx.Spec} (hΓ : GammaOK Try.prog Γ) {f : FuncId} {F : P3 → Int} (H : ∀ a b c, In64 a → In64 b → In64 c → ∀ K, K (.val (I64 (F (a, b, c)))) → EvV Γ f [V3 a b c] K) : SpecOK Try.prog f (vn F) ∧ SpecCalm (vn F) := by
  refine ⟨pureSpec_ok (nl := none) (evFunc_sound hΓ noAnn 10 5) fun xs K h => ?_, vn_calm F⟩
  split at h
  · obtain ⟨h1, h2⟩ := req h
    obtain ⟨a1, a2, a3⟩ := of_inV h1
    exact H _ _ _ a1 a2 a3 K (h2 _ rfl)
  · exact h.elim
theorem cap2_ok {f : FuncId} {F : Int → Int → Int} (H : ∀ a b s ty, In64 a → In64 s → ∀ K, K (.val (I64 (F a s))) → evFunc Try.prog Γ3 noAnn 10 5 f [I64 a, I64 b, .ptr 0 0] [.fix ty [I64 s]] (capK [.fix ty [I64 s]] K)) : SpecOK Try.prog f (cap2 F) ∧ SpecCalm (cap2 F) := by
  refine ⟨capSpec_ok (evFunc_sound Γ3_ok noAnn 10 5) fun xs obs K h => ?_, capSpec_calm fun xs obs => ?_⟩
  · split at h
    · obtain ⟨h1, h2⟩ := req h
      obtain ⟨h2, h3⟩ := req h2
      exact H _ _ _ _ (of_inI64 h1) (of_inI64 h2) K (h3 _ rfl)
    · exact h.elim
  · repeat' (first | exact kd_ret _ | exact kd_false | refine kd_br ?_ ?_ | refine kd_all (E := fun n K => K (.val (I64 n))) ?_ | split)
theorem ΓV0_ok : GammaOK Try.prog ΓV0 := by
  intro f s h
  unfold ΓV0 at h
  split at h
  · cases h
  · exact Γ3_ok _ _ h
theorem ΓV1_ok : GammaOK Try.prog ΓV1 := by
  intro f s h
  unfold ΓV1 at h
  split at h
  · cases h
  · exact ΓV0_ok _ _ h
end Go.Proofs.Ytmadffhjgbpojaa.Fix

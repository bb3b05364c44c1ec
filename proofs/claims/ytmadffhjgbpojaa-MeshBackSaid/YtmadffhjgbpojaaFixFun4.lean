/- Fix: differences and sines. -/
import Derived.Test.YtmadffhjgbpojaaFixFun3
namespace Go.Proofs.Ytmadffhjgbpojaa.Fix
open Go Go.Proofs.Ytmadffhjgbpojaa.Sx
attribute [local irreducible] evFunc

theorem sub_ok {a b : Int} (ha : In64 a) (hb : In64 b) {K : Out → Prop} (h : K (.val (I64 (subZ a b)))) : Ev Γ1 30 [I64 a, I64 b] K := by
  unfold Ev
  rw [vcSub]
  have go : ∀ z : Int, z = subZ a b → K (.val (I64 z)) := fun z hz => by rw [hz]; exact h
  simp only [true_and, forall_eq, inI64_of ha, inI64_of (addZ_in _ _), BR_true]
  refine BR_d (fun e => go _ ?_) fun e => ?_
  · unfold In64 at ha
    unfold addZ subZ sat
    omega
  · have hn : In64 (IntKind.i64.wrap (0 - b)) := by
      unfold In64 at hb ⊢
      rw [IntKind.wrap_i64]; omega
    rw [inI64_of hn, BR_true]
    refine go _ ?_
    unfold In64 at hb
    rw [w64 (by unfold In64; omega)]
    unfold addZ subZ
    congr 1
    omega
theorem in_of_bd {a : Int} (h : -6746518852 ≤ a ∧ a ≤ 6746518852) : In64 a := by unfold In64; omega
theorem one_sub {x n : Int} (hx : In64 x) (hn : n = 6 ∨ n = 20 ∨ n = 42 ∨ n = 72) : IntKind.i64.wrap (4294967296 - x / n) = 4294967296 - x / n ∧ In64 (4294967296 - x / n) := by
  have : In64 (4294967296 - x / n) := by
    unfold In64 at hx ⊢
    rcases hn with rfl | rfl | rfl | rfl <;> omega
  exact ⟨w64 this, this⟩
theorem Γ2_ok : GammaOK Try.prog Γ2 := by
  intro f s h
  unfold Γ2 at h
  split at h
  · cases h
  · cases h; exact fn2_ok Γ1_ok fun a b ha hb K h => sub_ok ha hb h -- fix.Sub
  · exact Γ1_ok _ _ h
theorem Γ3_ok : GammaOK Try.prog Γ3 := by
  intro f s h
  unfold Γ3 at h
  split at h
  · cases h
  · exact Γ2_ok _ _ h
end Go.Proofs.Ytmadffhjgbpojaa.Fix

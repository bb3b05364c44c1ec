/- Fix: what is known of the functions, as the evaluator takes it. -/
import Derived.Test.YtmadffhjgbpojaaFixFun1
namespace Go.Proofs.Ytmadffhjgbpojaa.Fix
open Go Go.Proofs.Ytmadffhjgbpojaa.Sx
attribute [local irreducible] evFunc

theorem req {b : Bool} {A : Prop} (h : BR b A False) : b = true ∧ A := by
  rw [BR_iff] at h
  cases b with
  | true => exact ⟨rfl, h.1 rfl⟩
  | false => exact (h.2 rfl).elim
abbrev Ev (Γ : FuncId → Option Sx.Spec) (f : FuncId) (xs : List SV) (K : Out → Prop) : Prop := evFunc Try.prog Γ ann 10 3 f xs [] (inK none K)
theorem fn1_calm (F : Int → Int) : SpecCalm (fn1 F) := pureSpec_calm fun xs => by
  repeat' (first | exact kd_ret _ | exact kd_false | refine kd_br ?_ ?_ | refine kd_all (E := fun n K => K (.val (I64 n))) ?_ | split)
theorem fn2_calm (F : Int → Int → Int) : SpecCalm (fn2 F) := pureSpec_calm fun xs => by
  repeat' (first | exact kd_ret _ | exact kd_false | refine kd_br ?_ ?_ | refine kd_all (E := fun n K => K (.val (I64 n))) ?_ | split)
theorem fn1_ok {Γ : FuncId → Option Sx.Spec} (hΓ : GammaOK Try.prog Γ) {f : FuncId} {F : Int → Int} (H : ∀ a, In64 a → ∀ K, K (.val (I64 (F a))) → Ev Γ f [I64 a] K) : SpecOK Try.prog f (fn1 F) ∧ SpecCalm (fn1 F) := by
  refine ⟨pureSpec_ok (nl := none) (evFunc_sound hΓ ann 10 3) fun xs K h => ?_, fn1_calm F⟩
  split at h
  · obtain ⟨h1, h2⟩ := req h
    exact H _ (of_inI64 h1) K (h2 _ rfl)
  · exact h.elim
theorem fn2_ok {Γ : FuncId → Option Sx.Spec} (hΓ : GammaOK Try.prog Γ) {f : FuncId} {F : Int → Int → Int} (H : ∀ a b, In64 a → In64 b → ∀ K, K (.val (I64 (F a b))) → Ev Γ f [I64 a, I64 b] K) : SpecOK Try.prog f (fn2 F) ∧ SpecCalm (fn2 F) := by
  refine ⟨pureSpec_ok (nl := none) (evFunc_sound hΓ ann 10 3) fun xs K h => ?_, fn2_calm F⟩
  split at h
  · obtain ⟨h1, h2⟩ := req h
    obtain ⟨h2, h3⟩ := req h2
    exact H _ _ (of_inI64 h1) (of_inI64 h2) K (h3 _ rfl)
  · exact h.elim
theorem none_ok : GammaOK Try.prog (fun _ => none) := fun f s h => by cases h
theorem Γl_ok : GammaOK Try.prog Γl := by
  intro f s h
  unfold Γl at h
  split at h
  · cases h
  · cases h
theorem size_spec {f : FuncId} (H : ∀ a, In64 a → ∀ K, K (.val (U64 (sizeZ a))) → Ev (fun _ => none) f [I64 a] K) : SpecOK Try.prog f sizeSpec ∧ SpecCalm sizeSpec := by
  refine ⟨pureSpec_ok (nl := none) (evFunc_sound none_ok ann 10 3) fun xs K h => ?_, pureSpec_calm fun xs => ?_⟩
  · split at h
    · obtain ⟨h1, h2⟩ := req h
      exact H _ (of_inI64 h1) K (h2 _ rfl)
    · exact h.elim
  · repeat' (first | exact kd_ret _ | exact kd_false | refine kd_br ?_ ?_ | refine kd_all (E := fun n K => K (.val (U64 n))) ?_ | split)
theorem prod_spec {f : FuncId} (H : ∀ x y, 0 ≤ x → x < 18446744073709551616 → 0 ≤ y → y < 18446744073709551616 → ∀ K, K (.val (.tuple [U64 (x * y / 18446744073709551616), U64 (x * y % 18446744073709551616)])) → Ev (fun _ => none) f [U64 x, U64 y] K) : SpecOK Try.prog f prodSpec ∧ SpecCalm prodSpec := by
  refine ⟨pureSpec_ok (nl := none) (evFunc_sound none_ok ann 10 3) fun xs K h => ?_, pureSpec_calm fun xs => ?_⟩
  · split at h
    · obtain ⟨h1, h2⟩ := req h
      obtain ⟨h2, h3⟩ := req h2
      obtain ⟨a1, a2⟩ := of_inU64 h1
      obtain ⟨b1, b2⟩ := of_inU64 h2
      exact H _ _ a1 a2 b1 b2 K (h3 _ rfl _ rfl)
    · exact h.elim
  · repeat' (first | exact kd_ret _ | exact kd_false | refine kd_br ?_ ?_ | refine kd_all (E := fun h K => ∀ l : Int, l = _ → K (.val (.tuple [U64 h, U64 l]))) ?_ | refine kd_all (E := fun l K => K (.val (.tuple [U64 _, U64 l]))) ?_ | split)
theorem Γ0_ok : GammaOK Try.prog Γ0 := by
  intro f s h
  unfold Γ0 at h
  split at h
  · cases h
  · cases h -- fix.Add$1
    refine ⟨pureSpec_ok (nl := none) (evFunc_sound none_ok ann 10 3) fun xs K h => ?_, pureSpec_calm fun xs => ?_⟩
    · split at h
      · exact over_ok h
      · exact h.elim
    · repeat' (first | exact kd_ret _ | exact kd_false | split)
  · cases h
end Go.Proofs.Ytmadffhjgbpojaa.Fix

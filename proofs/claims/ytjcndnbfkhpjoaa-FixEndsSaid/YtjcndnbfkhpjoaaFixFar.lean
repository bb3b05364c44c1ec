/- Fix: the law of the ends. -/
import Derived.Test.YtjcndnbfkhpjoaaFixLaws
import Derived.Test.YtjcndnbfkhpjoaaFixLbVc
namespace Go.Proofs.Ytjcndnbfkhpjoaa.Fix
open Go Go.Proofs.Ytjcndnbfkhpjoaa.Sx Go.RowKit
attribute [local irreducible] evFunc

theorem overB_t {a b : Int} (h : 0 < a ∧ 0 < b ∧ 9223372036854775807 < a + b) : overB a b = true := decide_eq_true h
theorem overB_f {a b : Int} (h : ¬ (0 < a ∧ 0 < b ∧ 9223372036854775807 < a + b)) : overB a b = false := decide_eq_false h
theorem underB_t {a b : Int} (h : a < 0 ∧ b < 0 ∧ a + b < -9223372036854775808) : underB a b = true := decide_eq_true h
theorem underB_f {a b : Int} (h : ¬ (a < 0 ∧ b < 0 ∧ a + b < -9223372036854775808)) : underB a b = false := decide_eq_false h
theorem neg_neg {a : Int} (ha : In64 a) (h : a ≠ -9223372036854775808) : negZ (negZ a) = a := by
  unfold In64 at ha; unfold negZ sat; omega
theorem ends_ok {a b : Int} (ha : In64 a) (hb : In64 b) : evFunc Try.prog Γ5 ann 10 3 7 [I64 a, I64 b] [] yesK := by
  rw [vcEnds]
  have u : ∀ {p : Prop}, p → ∃ s : Unit, p ∧ True := fun h => ⟨(), h, trivial⟩
  have iab : b ≠ -9223372036854775808 → inI64 (IntKind.i64.wrap (0 - b)) = true ∧ subZ a b = addZ a (IntKind.i64.wrap (0 - b)) := fun h => by
    rw [w64 (by unfold In64 at *; omega)]
    exact ⟨inI64_of (by unfold In64 at *; omega), by unfold subZ addZ; congr 1; omega⟩
  have fin : BR (decide (b = (-9223372036854775808 : Int))) True (BR (inI64 a) (BR (inI64 b) (∀ (n : Int), n = subZ a b → BR (inI64 a) (BR (inI64 (IntKind.i64.wrap ((0 : Int) - b))) (∀ (n_1 : Int), n_1 = addZ a (IntKind.i64.wrap ((0 : Int) - b)) → BR (decide (n = n_1)) True False) False) False) False) False) := by
    refine BR_d (fun _ => trivial) fun h => ?_
    obtain ⟨h1, h2⟩ := iab h
    simp only [inI64_of ha, inI64_of hb, h1, BR_true, forall_eq, ← h2, decide_true]
  simp only [inI64_of ha, inI64_of hb, BR_true, forall_eq] at fin
  have hn : In64 (negZ a) := negZ_in a
  simp only [inI64_of ha, inI64_of hb, inI64_of hn, BR_true]
  intro n hnn
  unfold In64 at ha hb
  have hs : n = max (-9223372036854775808) (min 9223372036854775807 (a + b)) := hnn
  refine ⟨?_, fun _ => ⟨?_, fun _ => ⟨⟨?_, fun _ => ⟨?_, fun _ => ⟨(), by and_intros <;> first | rfl | trivial, trivial⟩⟩⟩, fun _ => ?_⟩⟩⟩
  · refine BR_d (fun h1 => BR_d (fun h2 => ?_) fun h2 => u ?_) fun h1 => u ?_
    · rw [w64 (by unfold In64; omega)]
      refine BR_d (fun h3 => u ?_) fun h3 => u ?_
      · rw [overB_t (by omega)]; simp
      · rw [overB_f (by omega)]; simp
    · rw [overB_f (by omega)]; simp
    · rw [overB_f (by omega)]; simp
  · refine BR_d (fun h1 => BR_d (fun h2 => ?_) fun h2 => u ?_) fun h1 => u ?_
    · rw [w64 (by unfold In64; omega)]
      refine BR_d (fun h3 => u ?_) fun h3 => u ?_
      · rw [underB_t (by omega)]; simp
      · rw [underB_f (by omega)]; simp
    · rw [underB_f (by omega)]; simp
    · rw [underB_f (by omega)]; simp
  · by_cases h1 : 0 < a ∧ 0 < b ∧ 9223372036854775807 < a + b
    · have : n = 9223372036854775807 := by omega
      subst this
      simp only [overB_t h1, underB_f (show ¬ (a < 0 ∧ b < 0 ∧ a + b < -9223372036854775808) by omega), BR_true, BR_false, BR_nd, decide_true, Bool.not_true]
      exact ⟨(), by and_intros <;> first | rfl | trivial, trivial⟩
    · by_cases h2 : a < 0 ∧ b < 0 ∧ a + b < -9223372036854775808
      · have : n = -9223372036854775808 := by omega
        subst this
        simp only [overB_f h1, underB_t h2, BR_true, BR_false, BR_nd, decide_true, Bool.not_true]
        exact ⟨(), by and_intros <;> first | rfl | trivial, trivial⟩
      · have : n = a + b := by omega
        subst this
        simp only [overB_f h1, underB_f h2, BR_true, BR_false, BR_nd, w64 (n := a + b) (by unfold In64; omega), decide_true, Bool.not_true, BR_false]
        exact ⟨(), by and_intros <;> first | rfl | trivial, trivial⟩
  · by_cases h : a = -9223372036854775808
    · subst h
      have e : negZ (-9223372036854775808) = 9223372036854775807 := by decide
      have e2 : inI64 9223372036854775807 = true := by decide
      simp only [BR_nd, decide_true, Bool.not_true, BR_false, BR_true, forall_eq, e, e2]
      exact ⟨(), by and_intros <;> first | rfl | trivial, trivial⟩
    · simp only [BR_nd, forall_eq, neg_neg ⟨ha.1, ha.2⟩ h, decide_true, BR_true, inI64_of (negZ_in a)]
      refine BR_n h (BR_n h ⟨(), by and_intros <;> first | rfl | trivial, trivial⟩)
  · simp only [forall_eq]
    refine BR_d (fun h1 => ?_) fun h1 => BR_d (fun h2 => ?_) fun h2 => BR_d (fun h3 => ?_) fun h3 => ?_
    · rw [div_zero_pos h1]; exact BR_y rfl fin
    · rw [div_zero_neg h2]; exact BR_y rfl fin
    · subst h3; rw [div_zero_zero]; exact BR_y rfl fin
    · omega
theorem walk_ends (v0 v1 : Value) (w : World) (h0 : InArg Try.prog w 2 v0) (h1 : InArg Try.prog w 2 v1) :
    Calls Try.prog 7 #[v0, v1] w fun e w' => e = .returned (.bool true) ∧ Below w.heap.size w w' := by
  obtain ⟨a, ha, d0⟩ := in_i64' h0
  obtain ⟨b, hb, d1⟩ := in_i64' h1
  exact law_calls Γ5_ok (ends_ok ha hb) (dens_cons d0 (dens_cons d1 dens_nil))
end Go.Proofs.Ytjcndnbfkhpjoaa.Fix

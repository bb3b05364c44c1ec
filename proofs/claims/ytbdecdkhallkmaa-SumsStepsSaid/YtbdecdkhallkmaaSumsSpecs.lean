/- Sums: what is known of the functions, as the evaluator takes it. -/
import Derived.Test.YtbdecdkhallkmaaSumsFun
import Derived.Test.YtbdecdkhallkmaaSxLaw
namespace Go.Proofs.Ytbdecdkhallkmaa.Sums
open Go Go.Proofs.Ytbdecdkhallkmaa.Sx Go.RowKit
attribute [local irreducible] evFunc

theorem none_ok : GammaOK Try.prog (fun _ => none) := fun f s h => by cases h
theorem tableSpec_ok : SpecOK Try.prog 17 tableSpec := pureSpec_ok (nl := none) (evFunc_sound none_ok ann 10 3) fun xs K h => table_ok xs K h
theorem table_calm : SpecCalm tableSpec := pureSpec_calm fun xs => by
  try dsimp only
  repeat' (first | exact kd_ret _ | exact kd_false | refine kd_br ?_ ?_ | refine kd_all ?_ | split)
theorem sum_calm (F : Nat → List UInt8 → Nat) : SpecCalm (sumSpec F) := pureSpec_calm fun xs => by
  try dsimp only
  repeat' (first | exact kd_ret _ | exact kd_false | refine kd_br ?_ ?_ | refine kd_all (E := fun n K => K (.val (u32 n))) ?_ | split)
theorem copy_calm : SpecCalm copySpec := pureSpec_calm fun xs => by
  try dsimp only
  repeat' (first | exact kd_ret _ | exact kd_false | refine kd_br ?_ ?_ | split)
theorem same_calm : SpecCalm sameSpec := pureSpec_calm fun xs => by
  try dsimp only
  repeat' (first | exact kd_ret _ | exact kd_false | refine kd_br ?_ ?_ | split)
theorem pick_calm : SpecCalm pickSpec := pureSpec_calm fun xs => by
  try dsimp only
  repeat' (first | exact kd_ret _ | exact kd_false | refine kd_br ?_ ?_ | refine kd_all (E := fun n K => K (.val (i64 n))) ?_ | split)
theorem true_calm : SpecCalm trueSpec := pureSpec_calm fun xs => by
  try dsimp only
  repeat' (first | exact kd_ret _ | exact kd_false | split)
theorem Γt_ok : GammaOK Try.prog Γt := by
  intro f s h
  unfold Γt at h
  split at h
  · cases h; exact ⟨tableSpec_ok, table_calm⟩
  · cases h
theorem inU32_nat {s : Int} (h : inU32 s = true) : s.toNat < 4294967296 ∧ s = (s.toNat : Int) := by
  simp only [inU32, decide_eq_true_eq] at h
  omega
theorem sum_ok {f : FuncId} {F : Nat → List UInt8 → Nat} (H : ∀ (s : Nat), s < 4294967296 → ∀ (l : List UInt8) (K : Out → Prop), K (.val (u32 (F s l))) → evFunc Try.prog Γt ann 10 3 f [u32 s, .d (.bytes l)] [] (inK none K)) : SpecOK Try.prog f (sumSpec F) := by
  refine pureSpec_ok (nl := none) (evFunc_sound Γt_ok ann 10 3) fun xs K h => ?_
  split at h
  · rename_i s l
    rw [BR_iff] at h
    cases hs : inU32 s with
    | false => exact (h.2 hs).elim
    | true =>
      obtain ⟨h1, h2⟩ := inU32_nat hs
      have := H s.toNat h1 l K (h.1 hs _ rfl)
      rw [u32, ← h2] at this
      exact this
  · exact h.elim
theorem Γ0_ok : GammaOK Try.prog Γ0 := by
  intro f s h
  unfold Γ0 at h
  split at h
  · cases h; exact ⟨sum_ok adler_ok, sum_calm _⟩
  · cases h; exact ⟨sum_ok adlerRef_ok, sum_calm _⟩
  · cases h; exact ⟨sum_ok crc_ok, sum_calm _⟩
  · cases h; exact ⟨sum_ok crcRef_ok, sum_calm _⟩
  · cases h
    refine ⟨pureSpec_ok (nl := some (5, .bytes [])) (evFunc_sound Γt_ok ann 10 3) fun xs K h => ?_, copy_calm⟩
    split at h
    · obtain ⟨h1, h2⟩ := BR_req h
      exact copy_ok _ h1 K h2
    · exact h.elim
  · cases h
    refine ⟨pureSpec_ok (nl := none) (evFunc_sound Γt_ok ann 10 3) fun xs K h => ?_, same_calm⟩
    split at h
    · exact same_ok _ _ K h
    · exact h.elim
  · cases h
    refine ⟨pureSpec_ok (nl := none) (evFunc_sound Γt_ok ann 10 3) fun xs K h => ?_, pick_calm⟩
    split at h
    · rename_i n m
      rw [BR_iff] at h
      cases hs : inI64 n && inI64 m with
      | false => exact (h.2 hs).elim
      | true =>
        have h3 := h.1 hs _ rfl
        simp only [Bool.and_eq_true] at hs
        exact pick_ok _ _ hs.1 hs.2 K h3
    · exact h.elim
  · cases h
theorem Γ1_ok : GammaOK Try.prog Γ1 := by
  intro f s h
  unfold Γ1 at h
  split at h
  · cases h
    refine ⟨pureSpec_ok (nl := none) (evFunc_sound Γ0_ok annLaw 10 3) fun xs K h => ?_, true_calm⟩
    split at h
    · rw [vcAwake]
      simp only [true_and]
      exact fun n hn => BR_y (by omega) fun n hn => BR_y (by omega) fun n hn => BR_y (by omega) fun n hn => BR_y (by omega) h
    · exact h.elim
  · exact Γ0_ok _ _ h

theorem tells_ok (s : Nat) (hs : s < 4294967296) (l : List UInt8) : evFunc Try.prog Γ1 annLaw 10 3 4 [u32 s, .d (.bytes l)] [] yesK := by
  have hin : inU32 (s : Int) = true := by simp only [inU32, decide_eq_true_eq]; omega
  rw [vcTells]
  simp only [BR_pF, Int.toNat_natCast, true_and, and_true, implies_true, List.drop_zero, List.take_length, hin, BR_true]
  exact fun hl => BR_d (fun _ => trivial) (fun h => ⟨by omega, fun n hn m hm => ⟨by rw [hn, hm], fun n hn m hm => by rw [hn, hm]⟩⟩)
theorem walk_tells (a0 : Int) (a1 : Option Addr) (len1 cap1 : Nat) (z1 : List Int) (w : World) (w0 : (Lit.int .u32 a0).wf = true) (w1 : IsRow .u8 w a1 len1 cap1 z1) :
    Calls Try.prog 4 #[.int .u32 a0, .slice a1 len1 cap1] w fun e w' => e = .returned (.bool true) ∧ Below w.heap.size w w' := by
  obtain ⟨l, hl⟩ := isRow_bytes w1
  obtain ⟨s, rfl, hs⟩ : ∃ s : Nat, a0 = s ∧ s < 4294967296 := ⟨a0.toNat, by have := wf_u32' w0; omega, by have := wf_u32' w0; omega⟩
  exact law_calls Γ1_ok (tells_ok s hs l) (dens_cons (int_den _ _ _) (dens_cons hl dens_nil))
end Go.Proofs.Ytbdecdkhallkmaa.Sums

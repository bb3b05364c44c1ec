/- Fix: the laws return true. -/
import Derived.Test.YtjcndnbfkhpjoaaFixFun4
import Derived.Test.YtjcndnbfkhpjoaaFixLaVc
import Derived.Test.YtjcndnbfkhpjoaaFixFacts
import Derived.Test.YtjcndnbfkhpjoaaSxOpen
import Derived.Test.YtjcndnbfkhpjoaaSxLaw
import Derived.Below
import Derived.KernelRfl
namespace Go.Proofs.Ytjcndnbfkhpjoaa.Fix
open Go Go.Proofs.Ytjcndnbfkhpjoaa.Sx Go.RowKit
attribute [local irreducible] evFunc

theorem near_ok (a b : Int) {K : Out → Prop} (h : K (.val (Bo (decide (IntKind.i64.wrap (a - b) ≤ 16384) && decide (IntKind.i64.wrap (b - a) ≤ 16384))))) : Ev Γ3 21 [I64 a, I64 b] K := by
  unfold Ev
  rw [vcNear]
  simp only [true_and]
  cases h1 : decide (IntKind.i64.wrap (a - b) ≤ 16384) with
  | false => rw [h1] at h; exact Eq.mpr BR_false h
  | true =>
    rw [h1] at h
    cases h2 : decide (IntKind.i64.wrap (b - a) ≤ 16384) with
    | false => rw [h2] at h; exact Eq.mpr BR_true (Eq.mpr BR_false h)
    | true => rw [h2] at h; exact Eq.mpr BR_true (Eq.mpr BR_true h)
theorem root_two : sqrtZ 8589934592 = 6074000999 := by decide +kernel
theorem root_nine : sqrtZ 38654705664 = 12884901888 := by decide +kernel
theorem awake_ok {K : Out → Prop} (h : K (.val (Bo true))) : Ev Γ3 17 [] K := by
  unfold Ev
  rw [vcAwake]
  have i1 : inI64 8589934592 = true := by decide
  have i2 : inI64 38654705664 = true := by decide
  simp only [forall_eq, i1, i2, root_two, root_nine, decide_true, BR_true, true_and]
  exact h
theorem Γ4_ok : GammaOK Try.prog Γ4 := by
  intro f s h
  unfold Γ4 at h
  split at h
  · cases h
    refine ⟨pureSpec_ok (nl := none) (evFunc_sound Γ3_ok ann 10 3) fun xs K h => ?_, pureSpec_calm fun xs => ?_⟩
    · split at h
      · exact near_ok _ _ h
      · exact h.elim
    · repeat' (first | exact kd_ret _ | exact kd_false | split)
  · exact Γ3_ok _ _ h
theorem Γ5_ok : GammaOK Try.prog Γ5 := by
  intro f s h
  unfold Γ5 at h
  split at h
  · cases h
    refine ⟨pureSpec_ok (nl := none) (evFunc_sound Γ3_ok ann 10 3) fun xs K h => ?_, pureSpec_calm fun xs => ?_⟩
    · split at h
      · exact awake_ok h
      · exact h.elim
    · repeat' (first | exact kd_ret _ | exact kd_false | split)
  · exact Γ4_ok _ _ h

theorem in_i64' {v : Value} {w : World} (h : InArg Try.prog w 2 v) : ∃ n, In64 n ∧ den ⟨w, [], []⟩ (I64 n) v := by
  obtain ⟨n, h1, h2⟩ := in_int (k := .i64) (by kernel_rfl) (by kernel_rfl) h
  exact ⟨n, by have := wf_i64' h1; unfold In64; omega, h2⟩
theorem in_int' {v : Value} {w : World} (h : InArg Try.prog w 3 v) : ∃ n, In64 n ∧ den ⟨w, [], []⟩ (I64 n) v := by
  obtain ⟨n, h1, h2⟩ := in_int (k := .i64) (by kernel_rfl) (by kernel_rfl) h
  exact ⟨n, by have := wf_i64' h1; unfold In64; omega, h2⟩
theorem wf_i16 {n : Int} (h : (Lit.int .i16 n).wf = true) : -32768 ≤ n ∧ n < 32768 := by
  obtain ⟨h1, h2⟩ := wf_ends h
  have e1 : IntKind.min .i16 = -32768 := by decide
  have e2 : IntKind.max .i16 = 32767 := by decide
  omega
theorem in_i16' {v : Value} {w : World} (h : InArg Try.prog w 28 v) : ∃ n, (-32768 ≤ n ∧ n < 32768) ∧ den ⟨w, [], []⟩ (.d (.int .i16 n)) v := by
  obtain ⟨n, h1, h2⟩ := in_int (k := .i16) (by kernel_rfl) (by kernel_rfl) h
  exact ⟨n, wf_i16 h1, h2⟩

theorem tells_ok {a b n : Int} (ha : In64 a) (hb : In64 b) (hn : In64 n) : evFunc Try.prog Γ5 ann 10 3 9 [I64 a, I64 b, I64 n] [] yesK := by
  rw [vcTells]
  simp only [forall_eq, inI64_of ha, inI64_of hb, inI64_of hn, decide_true, BR_true]
theorem walk_tells (v0 v1 v2 : Value) (w : World) (h0 : InArg Try.prog w 2 v0) (h1 : InArg Try.prog w 2 v1) (h2 : InArg Try.prog w 3 v2) :
    Calls Try.prog 9 #[v0, v1, v2] w fun e w' => e = .returned (.bool true) ∧ Below w.heap.size w w' := by
  obtain ⟨a, ha, d0⟩ := in_i64' h0
  obtain ⟨b, hb, d1⟩ := in_i64' h1
  obtain ⟨n, hn, d2⟩ := in_int' h2
  exact law_calls Γ5_ok (tells_ok ha hb hn) (dens_cons d0 (dens_cons d1 (dens_cons d2 dens_nil)))

/-! ## Turns -/
theorem tm_bd (a : Int) {b : Int} (hb : 0 < b) : -b < a.tmod b ∧ a.tmod b < b := by
  rcases Int.le_total 0 a with h | h
  · rw [Int.tmod_eq_emod_of_nonneg h]
    have := Int.emod_lt_of_pos a hb
    have := Int.emod_nonneg a (show b ≠ 0 by omega)
    omega
  · have e : a.tmod b = -((-a) % b) := by rw [← Int.tmod_eq_emod_of_nonneg (show 0 ≤ -a by omega), Int.neg_tmod, Int.neg_neg]
    rw [e]
    have := Int.emod_lt_of_pos (-a) hb
    have := Int.emod_nonneg (-a) (show b ≠ 0 by omega)
    omega
theorem turns_ok {a n : Int} : evFunc Try.prog Γ5 ann 10 3 4 [I64 a, .d (.int .i16 n)] [] yesK := by
  rw [vcTurns]
  have h1 := tm_bd a (b := 1152921504606846976) (by omega)
  have h2 := tm_bd n (b := 1000) (by omega)
  generalize a.tmod 1152921504606846976 = x at *
  generalize n.tmod 1000 = m at *
  rw [w64 (n := m) (by unfold In64; omega), w64 (n := m * 26986075409) (by unfold In64; omega), w64 (n := x + m * 26986075409) (by unfold In64; omega), w64 (n := x + 6746518852) (by unfold In64; omega)]
  have i1 : inI64 (x + m * 26986075409) = true := inI64_of (by unfold In64; omega)
  have i2 : inI64 x = true := inI64_of (by unfold In64; omega)
  have i3 : inI64 (x + 6746518852) = true := inI64_of (by unfold In64; omega)
  have c1 : cosZ (x + m * 26986075409) = cosZ x := cos_add (by unfold In64; omega) (by unfold In64; omega)
  have c2 : cosZ x = sinZ (x + 6746518852) := cos_sin (by unfold In64; omega)
  simp only [forall_eq, i1, i2, i3, c1, sin_add, ← c2, decide_true, BR_true]
theorem walk_turns (v0 v1 : Value) (w : World) (h0 : InArg Try.prog w 2 v0) (h1 : InArg Try.prog w 28 v1) :
    Calls Try.prog 4 #[v0, v1] w fun e w' => e = .returned (.bool true) ∧ Below w.heap.size w w' := by
  obtain ⟨a, ha, d0⟩ := in_i64' h0
  obtain ⟨n, hn, d1⟩ := in_i16' h1
  exact law_calls Γ5_ok turns_ok (dens_cons d0 (dens_cons d1 dens_nil))
/-! ## Order -/
theorem order_ok {a b c : Int} (ha : In64 a) (hb : In64 b) (hc : In64 c) : evFunc Try.prog Γ5 ann 10 3 5 [I64 a, I64 b, I64 c] [] yesK := by
  rw [vcOrder]
  refine ⟨BR_d (fun h => ⟨(), ⟨by omega, by omega, rfl, rfl, trivial⟩, trivial⟩) fun h => ⟨(), ⟨by omega, by omega, rfl, rfl, trivial⟩, trivial⟩, fun _ => ?_⟩
  have hx : In64 (min a b) := by unfold In64 at *; omega
  have hy : In64 (max a b) := by unfold In64 at *; omega
  have hxy : min a b ≤ max a b := by omega
  generalize min a b = x at *
  generalize max a b = y at *
  have n1 : ∀ {p : Prop} [Decidable p] {A B : Prop}, ¬ p → A → BR (decide p) B A := fun h a => BR_n h a
  have hs := subZ_in x c
  simp only [forall_eq, forall_const, inI64_of hx, inI64_of hy, inI64_of hc, inI64_of hs, BR_true, and_self, exists_const, BR_nd, addZ_comm y x, mulZ_comm y x, mul_one hx, div_one hx, add_zero hx, mul_zero, decide_true, and_true, BR_nF, BR_pF]
  have l1 := addZ_mono hxy c
  have l2 := subZ_anti hxy c
  have l3 := negZ_anti hxy
  have l4 := sqrtZ_mono hx hy hxy
  have l5 := floorZ_mono hxy
  refine ⟨?_, ?_⟩
  · and_intros <;> first | trivial | omega
  have m1 : 0 ≤ c → mulZ x c ≤ mulZ y c := mulZ_mono hxy
  have m2 : c < 0 → mulZ y c ≤ mulZ x c := mulZ_anti hxy
  have m3 : 0 < c → divZ x c ≤ divZ y c := divZ_mono hxy
  have m4 : c < 0 → divZ y c ≤ divZ x c := divZ_anti hxy
  have s1 := sub_add (c := c) hx
  simp only [BR_dec]
  grind
theorem walk_order (v0 v1 v2 : Value) (w : World) (h0 : InArg Try.prog w 2 v0) (h1 : InArg Try.prog w 2 v1) (h2 : InArg Try.prog w 2 v2) :
    Calls Try.prog 5 #[v0, v1, v2] w fun e w' => e = .returned (.bool true) ∧ Below w.heap.size w w' := by
  obtain ⟨a, ha, d0⟩ := in_i64' h0
  obtain ⟨b, hb, d1⟩ := in_i64' h1
  obtain ⟨n, hn, d2⟩ := in_i64' h2
  exact law_calls Γ5_ok (order_ok ha hb hn) (dens_cons d0 (dens_cons d1 (dens_cons d2 dens_nil)))
end Go.Proofs.Ytjcndnbfkhpjoaa.Fix

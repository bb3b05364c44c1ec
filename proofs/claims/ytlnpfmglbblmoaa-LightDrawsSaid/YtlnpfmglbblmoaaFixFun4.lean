/- Fix: differences and sines. -/
import Derived.Test.YtlnpfmglbblmoaaFixFun3
namespace Go.Proofs.Ytlnpfmglbblmoaa.Fix
open Go Go.Proofs.Ytlnpfmglbblmoaa.Sx
attribute [local irreducible] evFunc

theorem sub_ok {a b : Int} (ha : In64 a) (hb : In64 b) {K : Out → Prop} (h : K (.val (I64 (subZ a b)))) : Ev Γ1 30 [I64 a, I64 b] K := by
  unfold Ev
  rw [vcSub]
  have go : ∀ z : Int, z = subZ a b → K (.val (I64 z)) := fun z hz => by rw [hz]; exact h
  simp only [true_and, forall_eq, inI64_of ha, inI64_of (addZ_in _ _), BR_true]
  refine BR_d (fun e => go _ ?_) fun e => ?_
  · unfold In64 at ha
    unfold addZ subZ sat
    omega
  · have hn : In64 (IntKind.i64.wrap (0 - b)) := by
      unfold In64 at hb ⊢
      rw [IntKind.wrap_i64]; omega
    rw [inI64_of hn, BR_true]
    refine go _ ?_
    unfold In64 at hb
    rw [w64 (by unfold In64; omega)]
    unfold addZ subZ
    congr 1
    omega
theorem in_of_bd {a : Int} (h : -6746518852 ≤ a ∧ a ≤ 6746518852) : In64 a := by unfold In64; omega
theorem one_sub {x n : Int} (hx : In64 x) (hn : n = 6 ∨ n = 20 ∨ n = 42 ∨ n = 72) : IntKind.i64.wrap (4294967296 - x / n) = 4294967296 - x / n ∧ In64 (4294967296 - x / n) := by
  have : In64 (4294967296 - x / n) := by
    unfold In64 at hx ⊢
    rcases hn with rfl | rfl | rfl | rfl <;> omega
  exact ⟨w64 this, this⟩
theorem sin_ok {a : Int} (ha : In64 a) {K : Out → Prop} (h : K (.val (I64 (sinZ a)))) : Ev Γ1 45 [I64 a] K := by
  unfold Ev
  rw [vcSin]
  have hr := in_of_bd (fold_bd a)
  have c1 := fun x (hx : In64 x) => (one_sub (x := x) (n := 72) hx (by omega)).1
  have c2 := fun x (hx : In64 x) => (one_sub (x := x) (n := 42) hx (by omega)).1
  have c3 := fun x (hx : In64 x) => (one_sub (x := x) (n := 20) hx (by omega)).1
  have c4 := fun x (hx : In64 x) => (one_sub (x := x) (n := 6) hx (by omega)).1
  have d1 := fun x (hx : In64 x) => inI64_of (one_sub (x := x) (n := 72) hx (by omega)).2
  have d2 := fun x (hx : In64 x) => inI64_of (one_sub (x := x) (n := 42) hx (by omega)).2
  have d3 := fun x (hx : In64 x) => inI64_of (one_sub (x := x) (n := 20) hx (by omega)).2
  have d4 := fun x (hx : In64 x) => inI64_of (one_sub (x := x) (n := 6) hx (by omega)).2
  have hfin : K (Out.val (SV.d (D.int IntKind.i64 (min (max (serZ (foldZ (turnZ a))) (-4294967296)) 4294967296)))) := h
  unfold serZ at hfin
  have hi := inI64_of ha
  have h3 : decide ((0 : Int) < 26986075409 ∧ (26986075409 : Int) < 9223372036854775808) = true := by decide
  simp only [true_and, and_true, forall_eq, hi, inI64_of hr, BR_true, inI64_of (mulZ_in _ _), c1 _ (mulZ_in _ _), c2 _ (mulZ_in _ _), c3 _ (mulZ_in _ _), c4 _ (mulZ_in _ _), d1 _ (mulZ_in _ _), d2 _ (mulZ_in _ _), d3 _ (mulZ_in _ _), d4 _ (mulZ_in _ _), exists_const, forall_const, hfin]
  unfold In64 at ha
  have e0 : IntKind.i64.wrap (a - IntKind.i64.wrap (a / 26986075409 * 26986075409)) = a % 26986075409 := by
    rw [IntKind.wrap_i64, IntKind.wrap_i64]; omega
  rw [e0]
  unfold foldZ turnZ
  refine BR_d (fun e1 => ?_) fun e1 => ?_
  · rw [w64 (n := a % 26986075409 - 26986075409) (by unfold In64; omega)]
    simp only [if_pos e1, gt_iff_lt]
    refine BR_d (fun e2 => ?_) fun e2 => BR_d (fun e3 => ?_) fun e3 => ?_
    · rw [w64 (by unfold In64; omega), if_pos e2]
    · rw [w64 (by unfold In64; omega), if_neg e2, if_pos e3]
    · rw [if_neg e2, if_neg e3]
  · simp only [if_neg (show ¬ a % 26986075409 > 13493037704 from e1), gt_iff_lt]
    refine BR_d (fun e2 => ?_) fun e2 => BR_d (fun e3 => ?_) fun e3 => ?_
    · rw [w64 (by unfold In64; omega), if_pos e2]
    · rw [w64 (by unfold In64; omega), if_neg e2, if_pos e3]
    · rw [if_neg e2, if_neg e3]
theorem rsin_ok {a : Int} (ha : In64 a) {K : Out → Prop} (h : K (.val (I64 (sinZ a)))) : Ev Γ1 49 [I64 a] K := by
  unfold Ev
  rw [vcRSin]
  have hb := fold_bd a
  have hr := in_of_bd hb
  obtain ⟨q1, q2⟩ := sq_small hb.1 hb.2
  have hfin : K (Out.val (SV.d (D.int IntKind.i64 (min (max (serZ (foldZ (turnZ a))) (-4294967296)) 4294967296)))) := h
  unfold serZ at hfin
  obtain ⟨a1, a2⟩ := mulZ_small q1 q2 (s := 4294967296 - mulZ (foldZ (turnZ a)) (foldZ (turnZ a)) / 72) (by omega) (by omega)
  obtain ⟨b1, b2⟩ := mulZ_small q1 q2 (s := 4294967296 - mulZ (mulZ (foldZ (turnZ a)) (foldZ (turnZ a))) (4294967296 - mulZ (foldZ (turnZ a)) (foldZ (turnZ a)) / 72) / 42) (by omega) (by omega)
  obtain ⟨d1, d2⟩ := mulZ_small q1 q2 (s := 4294967296 - mulZ (mulZ (foldZ (turnZ a)) (foldZ (turnZ a))) (4294967296 - mulZ (mulZ (foldZ (turnZ a)) (foldZ (turnZ a))) (4294967296 - mulZ (foldZ (turnZ a)) (foldZ (turnZ a)) / 72) / 42) / 20) (by omega) (by omega)
  have c1 := fun x (hx : In64 x) => (one_sub (x := x) (n := 72) hx (by omega)).1
  have c2 := fun x (hx : In64 x) => (one_sub (x := x) (n := 42) hx (by omega)).1
  have c3 := fun x (hx : In64 x) => (one_sub (x := x) (n := 20) hx (by omega)).1
  have c4 := fun x (hx : In64 x) => (one_sub (x := x) (n := 6) hx (by omega)).1
  have d1' := fun x (hx : In64 x) => inI64_of (one_sub (x := x) (n := 72) hx (by omega)).2
  have d2' := fun x (hx : In64 x) => inI64_of (one_sub (x := x) (n := 42) hx (by omega)).2
  have d3' := fun x (hx : In64 x) => inI64_of (one_sub (x := x) (n := 20) hx (by omega)).2
  have d4' := fun x (hx : In64 x) => inI64_of (one_sub (x := x) (n := 6) hx (by omega)).2
  have hi := inI64_of ha
  have dd := fun x (h1 : (0 : Int) ≤ x) (h2 : x ≤ 10600000000) => decide_eq_true (show (-4611686018427387904 : Int) ≤ x ∧ x < 9223372036854775808 by omega)
  simp only [true_and, and_true, forall_eq, hi, inI64_of hr, BR_true, inI64_of (mulZ_in _ _), dd _ q1 q2, dd _ a1 (by omega), dd _ b1 (by omega), dd _ d1 (by omega), c1 _ (mulZ_in _ _), c2 _ (mulZ_in _ _), c3 _ (mulZ_in _ _), c4 _ (mulZ_in _ _), d1' _ (mulZ_in _ _), d2' _ (mulZ_in _ _), d3' _ (mulZ_in _ _), d4' _ (mulZ_in _ _), exists_const, forall_const]
  clear a1 a2 b1 b2 d1 d2 c1 c2 c3 c4 d1' d2' d3' d4' dd hfin
  simp only [← serZ.eq_1]
  have tail : BR (decide (4294967296 < serZ (foldZ (turnZ a)))) (K (Out.val (SV.d (D.int IntKind.i64 4294967296)))) (BR (decide (serZ (foldZ (turnZ a)) < -4294967296)) (K (Out.val (SV.d (D.int IntKind.i64 (-4294967296))))) (K (Out.val (SV.d (D.int IntKind.i64 (serZ (foldZ (turnZ a)))))))) := by
    unfold sinZ at h
    generalize serZ (foldZ (turnZ a)) = M at *
    have go : ∀ z : Int, z = min (max M (-4294967296)) 4294967296 → K (.val (I64 z)) := fun z hz => by rw [hz]; exact h
    refine BR_d (fun e => go _ (by omega)) fun e => BR_d (fun e2 => go _ (by omega)) fun e2 => go _ (by omega)
  simp only [tail, and_true]
  unfold In64 at ha
  have e0 : a.tmod 26986075409 = if 0 ≤ a then a % 26986075409 else -((-a) % 26986075409) := by
    split
    · rename_i h0; rw [tm h0]
    · rename_i h0; rw [← tm (show 0 ≤ -a by omega), Int.neg_tmod, Int.neg_neg]
  have key : ∀ r : Int, r = a % 26986075409 → BR (decide (13493037704 < r))
      (BR (decide (6746518852 < IntKind.i64.wrap (r - 26986075409))) (IntKind.i64.wrap (13493037704 - IntKind.i64.wrap (r - 26986075409)) = foldZ (turnZ a))
        (BR (decide (IntKind.i64.wrap (r - 26986075409) < -6746518852)) (IntKind.i64.wrap (-13493037704 - IntKind.i64.wrap (r - 26986075409)) = foldZ (turnZ a)) (IntKind.i64.wrap (r - 26986075409) = foldZ (turnZ a))))
      (BR (decide (6746518852 < r)) (IntKind.i64.wrap (13493037704 - r) = foldZ (turnZ a)) (BR (decide (r < -6746518852)) (IntKind.i64.wrap (-13493037704 - r) = foldZ (turnZ a)) (r = foldZ (turnZ a)))) := by
    intro r hr
    subst hr
    unfold foldZ turnZ
    refine BR_d (fun e1 => ?_) fun e1 => ?_
    · rw [w64 (n := a % 26986075409 - 26986075409) (by unfold In64; omega)]
      simp only [if_pos e1, gt_iff_lt]
      refine BR_d (fun e2 => ?_) fun e2 => BR_d (fun e3 => ?_) fun e3 => ?_
      · rw [w64 (by unfold In64; omega), if_pos e2]
      · rw [w64 (by unfold In64; omega), if_neg e2, if_pos e3]
      · rw [if_neg e2, if_neg e3]
    · simp only [if_neg (show ¬ a % 26986075409 > 13493037704 from e1), gt_iff_lt]
      refine BR_d (fun e2 => ?_) fun e2 => BR_d (fun e3 => ?_) fun e3 => ?_
      · rw [w64 (by unfold In64; omega), if_pos e2]
      · rw [w64 (by unfold In64; omega), if_neg e2, if_pos e3]
      · rw [if_neg e2, if_neg e3]
  refine BR_d (fun e => ?_) fun e => ?_
  · refine key _ ?_
    rw [IntKind.wrap_i64]
    split at e0 <;> omega
  · refine key _ ?_
    split at e0 <;> omega
theorem cos_ok {a : Int} (ha : In64 a) {K : Out → Prop} (h : K (.val (I64 (cosZ a)))) : Ev Γ2 44 [I64 a] K := by
  unfold Ev
  rw [vcCos]
  simp only [true_and, forall_eq, inI64_of ha, inI64_of (addZ_in _ _), BR_true]
  exact h
theorem rcos_ok {a : Int} (ha : In64 a) {K : Out → Prop} (h : K (.val (I64 (cosZ a)))) : Ev Γ2 48 [I64 a] K := by
  unfold Ev
  rw [vcRCos]
  simp only [true_and, forall_eq, inI64_of ha, inI64_of (addZ_in _ _), BR_true]
  exact h
theorem Γ2_ok : GammaOK Try.prog Γ2 := by
  intro f s h
  unfold Γ2 at h
  split at h
  · cases h
  · cases h; exact fn2_ok Γ1_ok fun a b ha hb K h => sub_ok ha hb h -- fix.Sub
  · cases h; exact fn1_ok Γ1_ok fun a ha K h => sin_ok ha h -- fix.Sin
  · cases h; exact fn1_ok Γ1_ok fun a ha K h => rsin_ok ha h -- lightwellref01.Sin
  · exact Γ1_ok _ _ h
theorem Γ3_ok : GammaOK Try.prog Γ3 := by
  intro f s h
  unfold Γ3 at h
  split at h
  · cases h
  · cases h; exact fn1_ok Γ2_ok fun a ha K h => cos_ok ha h -- fix.Cos
  · cases h; exact fn1_ok Γ2_ok fun a ha K h => rcos_ok ha h -- lightwellref01.Cos
  · exact Γ2_ok _ _ h
end Go.Proofs.Ytlnpfmglbblmoaa.Fix

/- Vec: along an axis. -/
import Derived.Test.YtcihpmhnkgkdcaaVelFacts
namespace Go.Proofs.Ytcihpmhnkgkdcaa.Fix

theorem mulO {a : Int} (h1 : -4611686018427387904 < a) (h2 : a < 4611686018427387904) : mulZ 4294967296 a = a := by
  rw [mulZ_comm]; exact mul_one (by unfold In64; omega)
theorem mulNO {a : Int} (h1 : -4611686018427387904 < a) (h2 : a < 4611686018427387904) : mulZ (-4294967296) a = -a := by
  unfold mulZ
  rw [show -4294967296 * a = -a * 4294967296 by omega, Int.mul_ediv_cancel _ (by omega)]
  exact sat_id (by unfold In64; omega)
theorem mul0 (a : Int) : mulZ 0 a = 0 := by rw [mulZ_comm, mul_zero]
theorem mul_neg_neg (a : Int) : mulZ (-a) (-a) = mulZ a a := by unfold mulZ; rw [Int.neg_mul_neg]
/-- How long a way along an axis is. -/
def lenA (X : Int) : Int := sqrtZ (mulZ X X)
theorem sq_in {X : Int} (h1 : -1099511627776 < X) (h2 : X < 1099511627776) : mulZ X X = X * X / 4294967296 ∧ 0 ≤ X * X ∧ X * X ≤ 1208925819614629174706176 := by
  have h := prod_bd h1 h2 h1 h2
  have h0 : 0 ≤ X * X := by
    rcases Int.le_total 0 X with hx | hx
    · exact Int.mul_nonneg hx hx
    · have := Int.mul_nonneg (show 0 ≤ -X by omega) (show 0 ≤ -X by omega)
      rw [Int.neg_mul_neg] at this; exact this
  refine ⟨?_, h0, by omega⟩
  unfold mulZ
  exact sat_id (by unfold In64; omega)
theorem add00 {a : Int} (h : In64 a) : addZ a 0 = a := add_zero h
theorem add0 {a : Int} (h : In64 a) : addZ 0 a = a := by rw [addZ_comm]; exact add_zero h
theorem len_x (X : Int) : lenV (X, 0, 0) = lenA X := by
  simp only [lenV, dotV, mul_zero, add00 (mulZ_in X X), lenA]
theorem len_y (X : Int) : lenV (0, X, 0) = lenA X := by
  simp only [lenV, dotV, mul_zero, add0 (mulZ_in X X), add00 (mulZ_in X X), lenA]
theorem len_z (X : Int) : lenV (0, 0, X) = lenA X := by
  have : addZ 0 0 = 0 := by decide
  simp only [lenV, dotV, mul_zero, this, add0 (mulZ_in X X), lenA]
theorem lenA_neg (X : Int) : lenA (-X) = lenA X := by unfold lenA; rw [mul_neg_neg]
theorem lenA_bd {X : Int} (h0 : 0 ≤ X) (h2 : X < 1099511627776) : lenA X ≤ X ∧ X - 65536 ≤ lenA X ∧ 0 ≤ lenA X := by
  obtain ⟨q1, q2, q3⟩ := sq_in (X := X) (by omega) h2
  have hin : In64 (mulZ X X) := mulZ_in X X
  unfold lenA sqrtZ
  rw [q1] at hin ⊢
  unfold In64 at hin
  split
  · rename_i hlt
    refine ⟨h0, ?_, by omega⟩
    have : X < 65536 := sq_lt (by omega) (by omega)
    omega
  · rename_i hge
    obtain ⟨r1, r2, r3, r4⟩ := root_spec (A := X * X / 4294967296 * 4294967296) (by omega) (by omega)
    generalize root (X * X / 4294967296 * 4294967296) = R at *
    refine ⟨?_, ?_, r1⟩
    · have : R < X + 1 := sq_lt (by omega) (by
        rw [show (X + 1) * (X + 1) = X * X + 2 * X + 1 by grind]; omega)
      omega
    · rcases Int.lt_or_le X 65536 with hx | hx
      · omega
      · have : X - 65536 < R + 1 := sq_lt (by omega) (by
          rw [show (X - 65536) * (X - 65536) = X * X - 131072 * X + 4294967296 by grind]; omega)
        omega
theorem lenA_whole {X : Int} (h0 : 0 < X) (h2 : X < 1099511627776) (hm : X % 4294967296 = 0) : lenA X = X := by
  obtain ⟨q1, q2, q3⟩ := sq_in (X := X) (by omega) h2
  obtain ⟨m, rfl⟩ : ∃ m, X = m * 4294967296 := ⟨X / 4294967296, by omega⟩
  have hm2 : 0 < m * m := Int.mul_pos (by omega) (by omega)
  have e : m * 4294967296 * (m * 4294967296) = m * m * 4294967296 * 4294967296 := by grind
  rw [e] at q1 q3
  rw [Int.mul_ediv_cancel _ (by omega)] at q1
  unfold lenA sqrtZ
  rw [q1, if_neg (by omega)]
  exact root_eq (by omega) (by omega) e
theorem div_self {X : Int} (h0 : 0 < X) : divZ X X = 4294967296 := by
  unfold divZ quoZ
  rw [if_neg (by omega), if_pos h0, Int.mul_comm, Int.mul_ediv_cancel _ (by omega)]
  rfl
theorem div_negself {X : Int} (h0 : 0 < X) : divZ (-X) X = -4294967296 := by
  unfold divZ quoZ
  rw [if_neg (by omega), if_pos h0, show -X * 4294967296 = -4294967296 * X by omega, Int.mul_ediv_cancel _ (by omega)]
  rfl
theorem div0 {X : Int} (h0 : 0 < X) : divZ 0 X = 0 := by
  unfold divZ quoZ
  rw [if_neg (by omega), if_pos h0, Int.zero_mul, Int.zero_ediv]
  decide
theorem unit_x {X : Int} (h0 : 0 < X) (h2 : X < 1099511627776) (hm : X % 4294967296 = 0) : unitV (X, 0, 0) = (4294967296, 0, 0) ∧ unitV (-X, 0, 0) = (-4294967296, 0, 0) ∧ unitV (0, X, 0) = (0, 4294967296, 0) ∧ unitV (0, -X, 0) = (0, -4294967296, 0) ∧ unitV (0, 0, X) = (0, 0, 4294967296) ∧ unitV (0, 0, -X) = (0, 0, -4294967296) := by
  have hl := lenA_whole h0 h2 hm
  simp only [unitV, len_x, len_y, len_z, lenA_neg, hl, div_self h0, div_negself h0, div0 h0, if_neg (show ¬ X = 0 by omega), and_self]
/-! ## Bends -/
def far (a : Int) : Prop := -1099511627776 < a ∧ a < 1099511627776
theorem bend_x {a b c : Int} (h : Low3 (a, b, c)) : (dotV (a, b, c) (4294967296, 0, 0) = a ∧ dotV (a, b, c) (-4294967296, 0, 0) = -a) ∧ bendV (a, b, c) (4294967296, 0, 0) = (-a, b, c) ∧ bendV (a, b, c) (-4294967296, 0, 0) = (-a, b, c) := by
  obtain ⟨⟨p1, p1'⟩, ⟨p2, p2'⟩, p3, p3'⟩ := h
  simp only at p1 p1' p2 p2' p3 p3'
  have d1 : dotV (a, b, c) (4294967296, 0, 0) = a := by
    simp only [dotV, mul_zero, mulZ_comm a, mulO (a := a) (by omega) (by omega), add00 (a := a) (by unfold In64; omega)]
  have d2 : dotV (a, b, c) (-4294967296, 0, 0) = -a := by
    simp only [dotV, mul_zero, mulZ_comm a, mulNO (a := a) (by omega) (by omega), add00 (a := -a) (by unfold In64; omega)]
  have e1 : addZ a a = 2 * a := by unfold addZ; rw [sat_id (by unfold In64; omega)]; omega
  have e2 : addZ (-a) (-a) = -(2 * a) := by unfold addZ; rw [sat_id (by unfold In64; omega)]; omega
  refine ⟨⟨d1, d2⟩, ?_, ?_⟩
  · simp only [bendV, d1, e1, scaleV, subV, mul0, mulO (a := 2 * a) (by omega) (by omega), subZ, Prod.mk.injEq]
    unfold sat; omega
  · simp only [bendV, d2, e2, scaleV, subV, mul0, mulNO (a := -(2 * a)) (by omega) (by omega), subZ, Prod.mk.injEq]
    unfold sat; omega
theorem bend_y {a b c : Int} (h : Low3 (a, b, c)) : (dotV (a, b, c) (0, 4294967296, 0) = b ∧ dotV (a, b, c) (0, -4294967296, 0) = -b) ∧ bendV (a, b, c) (0, 4294967296, 0) = (a, -b, c) ∧ bendV (a, b, c) (0, -4294967296, 0) = (a, -b, c) := by
  obtain ⟨⟨p1, p1'⟩, ⟨p2, p2'⟩, p3, p3'⟩ := h
  simp only at p1 p1' p2 p2' p3 p3'
  have d1 : dotV (a, b, c) (0, 4294967296, 0) = b := by
    simp only [dotV, mul_zero, mulZ_comm b, mulO (a := b) (by omega) (by omega), add0 (a := b) (by unfold In64; omega), add00 (a := b) (by unfold In64; omega)]
  have d2 : dotV (a, b, c) (0, -4294967296, 0) = -b := by
    simp only [dotV, mul_zero, mulZ_comm b, mulNO (a := b) (by omega) (by omega), add0 (a := -b) (by unfold In64; omega), add00 (a := -b) (by unfold In64; omega)]
  have e1 : addZ b b = 2 * b := by unfold addZ; rw [sat_id (by unfold In64; omega)]; omega
  have e2 : addZ (-b) (-b) = -(2 * b) := by unfold addZ; rw [sat_id (by unfold In64; omega)]; omega
  refine ⟨⟨d1, d2⟩, ?_, ?_⟩
  · simp only [bendV, d1, e1, scaleV, subV, mul0, mulO (a := 2 * b) (by omega) (by omega), subZ, Prod.mk.injEq]
    unfold sat; omega
  · simp only [bendV, d2, e2, scaleV, subV, mul0, mulNO (a := -(2 * b)) (by omega) (by omega), subZ, Prod.mk.injEq]
    unfold sat; omega
theorem bend_z {a b c : Int} (h : Low3 (a, b, c)) : (dotV (a, b, c) (0, 0, 4294967296) = c ∧ dotV (a, b, c) (0, 0, -4294967296) = -c) ∧ bendV (a, b, c) (0, 0, 4294967296) = (a, b, -c) ∧ bendV (a, b, c) (0, 0, -4294967296) = (a, b, -c) := by
  obtain ⟨⟨p1, p1'⟩, ⟨p2, p2'⟩, p3, p3'⟩ := h
  simp only at p1 p1' p2 p2' p3 p3'
  have z : addZ 0 0 = 0 := by decide
  have d1 : dotV (a, b, c) (0, 0, 4294967296) = c := by
    simp only [dotV, mul_zero, mulZ_comm c, mulO (a := c) (by omega) (by omega), z, add0 (a := c) (by unfold In64; omega)]
  have d2 : dotV (a, b, c) (0, 0, -4294967296) = -c := by
    simp only [dotV, mul_zero, mulZ_comm c, mulNO (a := c) (by omega) (by omega), z, add0 (a := -c) (by unfold In64; omega)]
  have e1 : addZ c c = 2 * c := by unfold addZ; rw [sat_id (by unfold In64; omega)]; omega
  have e2 : addZ (-c) (-c) = -(2 * c) := by unfold addZ; rw [sat_id (by unfold In64; omega)]; omega
  refine ⟨⟨d1, d2⟩, ?_, ?_⟩
  · simp only [bendV, d1, e1, scaleV, subV, mul0, mulO (a := 2 * c) (by omega) (by omega), subZ, Prod.mk.injEq]
    unfold sat; omega
  · simp only [bendV, d2, e2, scaleV, subV, mul0, mulNO (a := -(2 * c)) (by omega) (by omega), subZ, Prod.mk.injEq]
    unfold sat; omega
end Go.Proofs.Ytcihpmhnkgkdcaa.Fix

/- Fix: the plain laws of the numbers. -/
import Derived.Test.YtcclekhekdibjaaFixPlain
namespace Go.Proofs.Ytcclekhekdibjaa.Fix

theorem sat_mono {x y : Int} (h : x ≤ y) : sat x ≤ sat y := by unfold sat; omega
theorem addZ_comm (a b : Int) : addZ a b = addZ b a := by unfold addZ; rw [Int.add_comm]
theorem mulZ_comm (a b : Int) : mulZ a b = mulZ b a := by unfold mulZ; rw [Int.mul_comm]
theorem addZ_mono {a b : Int} (h : a ≤ b) (c : Int) : addZ a c ≤ addZ b c := sat_mono (by omega)
theorem subZ_anti {a b : Int} (h : a ≤ b) (c : Int) : subZ c b ≤ subZ c a := sat_mono (by omega)
theorem negZ_anti {a b : Int} (h : a ≤ b) : negZ b ≤ negZ a := sat_mono (by omega)
theorem mulZ_mono {a b c : Int} (h : a ≤ b) (hc : 0 ≤ c) : mulZ a c ≤ mulZ b c :=
  sat_mono (Int.ediv_le_ediv (by omega) (Int.mul_le_mul_of_nonneg_right h hc))
theorem mulZ_anti {a b c : Int} (h : a ≤ b) (hc : c < 0) : mulZ b c ≤ mulZ a c :=
  sat_mono (Int.ediv_le_ediv (by omega) (Int.mul_le_mul_of_nonpos_right h (by omega)))
theorem divZ_mono {a b c : Int} (h : a ≤ b) (hc : 0 < c) : divZ a c ≤ divZ b c := by
  unfold divZ quoZ
  rw [if_neg (show ¬ c = 0 by omega), if_pos hc, if_neg (show ¬ c = 0 by omega), if_pos hc]
  exact sat_mono (Int.ediv_le_ediv hc (by omega))
theorem divZ_anti {a b c : Int} (h : a ≤ b) (hc : c < 0) : divZ b c ≤ divZ a c := by
  unfold divZ quoZ
  rw [if_neg (show ¬ c = 0 by omega), if_neg (show ¬ 0 < c by omega), if_neg (show ¬ c = 0 by omega), if_neg (show ¬ 0 < c by omega)]
  exact sat_mono (Int.ediv_le_ediv (by omega) (by omega))
theorem sqrtZ_mono {a b : Int} (ha : In64 a) (hb : In64 b) (h : a ≤ b) : sqrtZ a ≤ sqrtZ b := by
  have := (sqrtZ_in hb).2.1
  unfold sqrtZ at this ⊢
  unfold In64 at ha hb
  split
  · exact this
  · rw [if_neg (by omega)]
    exact root_mono (by omega) (by omega) (by omega)
theorem floorZ_mono {a b : Int} (h : a ≤ b) : floorZ a ≤ floorZ b := by unfold floorZ; omega
theorem floorZ_in {a : Int} (ha : In64 a) : In64 (floorZ a) := by unfold In64 floorZ at *; omega
theorem sub_add {a c : Int} (ha : In64 a) (h1 : -9223372036854775808 < subZ a c) (h2 : subZ a c < 9223372036854775807) : addZ (subZ a c) c = a := by
  unfold In64 at ha; unfold addZ; unfold subZ sat at *; omega
theorem mul_one {a : Int} (ha : In64 a) : mulZ a 4294967296 = a := by
  unfold mulZ; rw [Int.mul_ediv_cancel _ (by omega), sat_id ha]
theorem div_one {a : Int} (ha : In64 a) : divZ a 4294967296 = a := by
  unfold divZ quoZ; rw [if_neg (by omega), if_pos (by omega), Int.mul_ediv_cancel _ (by omega), sat_id ha]
theorem add_zero {a : Int} (ha : In64 a) : addZ a 0 = a := by unfold addZ; rw [Int.add_zero, sat_id ha]
theorem mul_zero (a : Int) : mulZ a 0 = 0 := by unfold mulZ sat; rw [Int.mul_zero]; omega
theorem sinZ_bd (a : Int) : -4294967296 ≤ sinZ a ∧ sinZ a ≤ 4294967296 := by unfold sinZ; omega
theorem cosZ_bd (a : Int) : -4294967296 ≤ cosZ a ∧ cosZ a ≤ 4294967296 := sinZ_bd _
theorem sinZ_in (a : Int) : In64 (sinZ a) := by have := sinZ_bd a; unfold In64; omega
theorem turn_add (a n : Int) : turnZ (a + n * 26986075409) = turnZ a := by
  unfold turnZ; rw [Int.add_mul_emod_self_right]
theorem sin_add (a n : Int) : sinZ (a + n * 26986075409) = sinZ a := by unfold sinZ; rw [turn_add]
theorem cos_add {a n : Int} (h1 : In64 (a + 6746518852)) (h2 : In64 (a + n * 26986075409 + 6746518852)) : cosZ (a + n * 26986075409) = cosZ a := by
  unfold cosZ addZ
  rw [sat_id h1, sat_id h2, show a + n * 26986075409 + 6746518852 = (a + 6746518852) + n * 26986075409 by omega, sin_add]
theorem cos_sin {a : Int} (h1 : In64 (a + 6746518852)) : cosZ a = sinZ (a + 6746518852) := by
  unfold cosZ addZ; rw [sat_id h1]
theorem div_zero_pos {a : Int} (h : 0 < a) : divZ a 0 = 9223372036854775807 := by
  unfold divZ; rw [if_pos rfl, if_neg (by omega), if_pos h]
theorem div_zero_neg {a : Int} (h : a < 0) : divZ a 0 = -9223372036854775808 := by
  unfold divZ; rw [if_pos rfl, if_neg (by omega), if_neg (by omega)]
theorem div_zero_zero : divZ 0 0 = 0 := rfl
/-! ## Rounds -/
theorem quo_small {x y : Int} (h1 : -17592186044416 < x) (h2 : x < 17592186044416) (hy : 1048576 ≤ y) :
    divZ x y = x * 4294967296 / y ∧ -72057594037927936 ≤ x * 4294967296 / y ∧ x * 4294967296 / y < 72057594037927936 := by
  have a1 : -72057594037927936 ≤ x * 4294967296 / y := by
    rw [Int.le_ediv_iff_mul_le (by omega)]
    have : -72057594037927936 * y ≤ -72057594037927936 * 1048576 := Int.mul_le_mul_of_nonpos_left (by omega) (by omega)
    omega
  have a2 : x * 4294967296 / y < 72057594037927936 := by
    rw [Int.ediv_lt_iff_lt_mul (by omega)]
    omega
  refine ⟨?_, a1, a2⟩
  unfold divZ quoZ
  rw [if_neg (by omega), if_pos (by omega), sat_id (by unfold In64; omega)]
theorem quo_back {x y : Int} (h1 : -17592186044416 < x) (h2 : x < 17592186044416) (hy : 1048576 ≤ y) :
    mulZ (divZ x y) y ≤ x ∧ x ≤ mulZ (divZ x y + 1) y := by
  rw [(quo_small h1 h2 hy).1]
  have e1 : x * 4294967296 / y * y ≤ x * 4294967296 := Int.ediv_mul_le _ (by omega)
  have e2 : x * 4294967296 < (x * 4294967296 / y + 1) * y := Int.lt_ediv_add_one_mul_self _ (by omega)
  unfold mulZ sat
  omega
theorem root_back {a : Int} (ha : In64 a) (h : 0 < a) : mulZ (sqrtZ a) (sqrtZ a) ≤ a ∧ a ≤ mulZ (sqrtZ a + 1) (sqrtZ a + 1) := by
  unfold In64 at ha
  have := root_spec (A := a * 4294967296) (by omega) (by omega)
  unfold sqrtZ
  rw [if_neg (by omega)]
  unfold mulZ sat
  omega
/-! ## Whole numbers -/
theorem of_id {n : Int} (h : -2147483648 ≤ n) (h' : n < 2147483648) : ofZ n = n * 4294967296 := by
  unfold ofZ; rw [sat_id (by unfold In64; omega)]
theorem prod16 {n m : Int} (h : -32768 ≤ n) (h' : n < 32768) (g : -32768 ≤ m) (g' : m < 32768) : -1073741824 ≤ n * m ∧ n * m ≤ 1073741824 := by
  have a : (32768 - n) * (32768 + m) ≥ 0 := Int.mul_nonneg (by omega) (by omega)
  have b : (32768 + n) * (32768 - m) ≥ 0 := Int.mul_nonneg (by omega) (by omega)
  have c : (32768 - n) * (32768 - m) ≥ 0 := Int.mul_nonneg (by omega) (by omega)
  have d : (32768 + n) * (32768 + m) ≥ 0 := Int.mul_nonneg (by omega) (by omega)
  constructor <;> grind
theorem whole_mul {n m : Int} (h : -32768 ≤ n) (h' : n < 32768) (g : -32768 ≤ m) (g' : m < 32768) : mulZ (ofZ n) (ofZ m) = ofZ (n * m) := by
  have := prod16 h h' g g'
  rw [of_id (by omega) (by omega), of_id (by omega) (by omega)]
  unfold mulZ
  rw [show n * 4294967296 * (m * 4294967296) = (n * m * 4294967296) * 4294967296 by grind, Int.mul_ediv_cancel _ (by omega)]
  rfl
theorem whole_floor {n : Int} (h : -2147483648 ≤ n) (h' : n < 2147483648) : floorZ (ofZ n) = n := by
  rw [of_id h h']; unfold floorZ; omega
theorem whole_div {n m : Int} (h : -32768 ≤ n) (h' : n < 32768) (g : -32768 ≤ m) (g' : m < 32768) (hm : m ≠ 0) : divZ (ofZ (n * m)) (ofZ m) = ofZ n := by
  have := prod16 h h' g g'
  rw [of_id (by omega) (by omega), of_id (by omega) (by omega)]
  unfold divZ quoZ
  rw [if_neg (by omega)]
  unfold ofZ
  congr 1
  split
  · rw [show n * m * 4294967296 * 4294967296 = n * 4294967296 * (m * 4294967296) by grind, Int.mul_ediv_cancel _ (by omega)]
  · rw [show -(n * m * 4294967296 * 4294967296) = n * 4294967296 * -(m * 4294967296) by grind, Int.mul_ediv_cancel _ (by omega)]
theorem whole_root {n : Int} (h : -32768 ≤ n) (h' : n < 32768) : sqrtZ (ofZ (n * n)) = ofZ (if 0 ≤ n then n else -n) := by
  have := prod16 h h' h h'
  have hn : 0 ≤ n * n := by
    rcases Int.le_total 0 n with e | e
    · exact Int.mul_nonneg e e
    · have := Int.mul_nonneg_of_nonpos_of_nonpos e e; exact this
  rw [of_id (by omega) (by omega), of_id (by split <;> omega) (by split <;> omega)]
  unfold sqrtZ
  split
  · have : n * n = 0 := by omega
    have : n = 0 := by rcases Int.mul_eq_zero.1 this with e | e <;> exact e
    subst this; rfl
  · refine root_eq (by omega) (by split <;> omega) ?_
    split <;> grind
theorem whole_add {n m : Int} (h : -32768 ≤ n) (h' : n < 32768) (g : -32768 ≤ m) (g' : m < 32768) : addZ (ofZ n) (ofZ m) = ofZ (n + m) := by
  unfold addZ ofZ sat; omega
theorem whole_sub {n m : Int} (h : -32768 ≤ n) (h' : n < 32768) (g : -32768 ≤ m) (g' : m < 32768) : subZ (ofZ n) (ofZ m) = ofZ (n - m) := by
  unfold subZ ofZ sat; omega
theorem whole_neg {n : Int} (h : -32768 ≤ n) (h' : n < 32768) : negZ (ofZ n) = ofZ (-n) := by
  unfold negZ ofZ sat; omega
end Go.Proofs.Ytcclekhekdibjaa.Fix

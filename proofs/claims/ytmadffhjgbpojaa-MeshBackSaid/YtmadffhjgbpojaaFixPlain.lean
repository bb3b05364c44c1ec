/- Fix: what the functions compute, in plain arithmetic. -/
namespace Go.Proofs.Ytmadffhjgbpojaa.Fix

def sat (z : Int) : Int := max (-9223372036854775808) (min 9223372036854775807 z)
def satS (m : Int) (neg : Bool) : Int := if neg then max (-9223372036854775808) (-m) else min 9223372036854775807 m
def sizeZ (a : Int) : Int := if a < 0 then -a else a
def addZ (a b : Int) : Int := sat (a + b)
def subZ (a b : Int) : Int := sat (a - b)
def negZ (a : Int) : Int := sat (-a)
def mulZ (a b : Int) : Int := sat (a * b / 4294967296)
def quoZ (x b : Int) : Int := if 0 < b then x / b else (-x) / (-b)
def divZ (a b : Int) : Int := if b = 0 then (if a = 0 then 0 else if 0 < a then 9223372036854775807 else -9223372036854775808) else sat (quoZ (a * 4294967296) b)
def ofZ (n : Int) : Int := sat (n * 4294967296)
def floorZ (x : Int) : Int := x / 4294967296
/-- The root, bit by bit. -/
def rootGo (A : Int) : Nat → Int → Int
  | 0, r => r
  | k + 1, r => if (r + 2 ^ k) * (r + 2 ^ k) ≤ A then rootGo A k (r + 2 ^ k) else rootGo A k r
def root (A : Int) : Int := rootGo A 48 0
def sqrtZ (a : Int) : Int := if a < 1 then 0 else root (a * 4294967296)
def oneZ : Int := 4294967296
def turnZ (a : Int) : Int :=
  if a % 26986075409 > 13493037704 then a % 26986075409 - 26986075409 else a % 26986075409
def foldZ (r : Int) : Int := if r > 6746518852 then 13493037704 - r else if r < -6746518852 then -13493037704 - r else r
def serZ (r : Int) : Int :=
  mulZ r (4294967296 - mulZ (mulZ r r) (4294967296 - mulZ (mulZ r r) (4294967296 - mulZ (mulZ r r) (4294967296 - mulZ r r / 72) / 42) / 20) / 6)
def sinZ (a : Int) : Int := min (max (serZ (foldZ (turnZ a))) (-4294967296)) 4294967296
def cosZ (a : Int) : Int := sinZ (addZ a 6746518852)
def In64 (a : Int) : Prop := -9223372036854775808 ≤ a ∧ a < 9223372036854775808

theorem sat_in (z : Int) : In64 (sat z) := by unfold In64 sat; omega
theorem sat_id {z : Int} (h : In64 z) : sat z = z := by unfold In64 at h; unfold sat; omega
theorem addZ_in (a b : Int) : In64 (addZ a b) := sat_in _
theorem subZ_in (a b : Int) : In64 (subZ a b) := sat_in _
theorem negZ_in (a : Int) : In64 (negZ a) := sat_in _
theorem mulZ_in (a b : Int) : In64 (mulZ a b) := sat_in _
theorem ofZ_in (a : Int) : In64 (ofZ a) := sat_in _
theorem divZ_in (a b : Int) : In64 (divZ a b) := by
  unfold divZ
  split
  · split
    · unfold In64; omega
    · split <;> unfold In64 <;> omega
  · exact sat_in _

/-! ## Products -/
theorem mul_bd {x y : Int} (h : 0 ≤ x) (h' : x ≤ 4294967295) (hy : 0 ≤ y) (h2 : y ≤ 4294967295) : 0 ≤ x * y ∧ x * y ≤ 18446744065119617025 := by
  constructor
  · exact Int.mul_nonneg h hy
  · have := Int.mul_le_mul h' h2 hy (by omega); omega
theorem halves {x : Int} (h : 0 ≤ x) (h' : x < 18446744073709551616) : 0 ≤ x / 4294967296 ∧ x / 4294967296 ≤ 4294967295 ∧ 0 ≤ x % 4294967296 ∧ x % 4294967296 ≤ 4294967295 ∧ x = x / 4294967296 * 4294967296 + x % 4294967296 := by omega
/-- The product of two sizes, of its four parts. -/
theorem prod_parts {x y : Int} (hx : 0 ≤ x) (hx' : x < 18446744073709551616) (hy : 0 ≤ y) (hy' : y < 18446744073709551616) :
    let a := x / 4294967296; let b := x % 4294967296; let c := y / 4294967296; let d := y % 4294967296
    let t := a * d + b * d / 4294967296
    let u := b * c + t % 4294967296
    (0 ≤ a * c ∧ 0 ≤ b * d ∧ b * d < 18446744073709551616 ∧ 0 ≤ a * d ∧ a * d ≤ 18446744065119617025 ∧ 0 ≤ b * c ∧ b * c ≤ 18446744065119617025 ∧ a * c ≤ 18446744065119617025 ∧ 0 ≤ t ∧ t < 18446744073709551616 ∧ 0 ≤ u ∧ u < 18446744073709551616) ∧
    x * y / 18446744073709551616 = a * c + t / 4294967296 + u / 4294967296 ∧ x * y % 18446744073709551616 = u % 4294967296 * 4294967296 + b * d % 4294967296 ∧ a * c + t / 4294967296 + u / 4294967296 < 18446744073709551616 := by
  intro a b c d t u
  obtain ⟨h1, h2, h3, h4, h5⟩ := halves hx hx'
  obtain ⟨g1, g2, g3, g4, g5⟩ := halves hy hy'
  have e : x * y = a * c * 18446744073709551616 + (a * d + b * c) * 4294967296 + b * d := by
    have hx5 : x = a * 4294967296 + b := h5
    have hy5 : y = c * 4294967296 + d := g5
    rw [hx5, hy5]; grind
  have b1 := mul_bd h1 h2 g1 g2
  have b2 := mul_bd h1 h2 g3 g4
  have b3 := mul_bd h3 h4 g1 g2
  have b4 := mul_bd h3 h4 g3 g4
  have bx : x * y < 18446744073709551616 * 18446744073709551616 := by
    have := Int.mul_le_mul (show x ≤ 18446744073709551615 by omega) (show y ≤ 18446744073709551615 by omega) hy (by omega)
    omega
  generalize x * y = p at e bx
  change 0 ≤ a * c ∧ a * c ≤ _ at b1
  change 0 ≤ a * d ∧ a * d ≤ _ at b2
  change 0 ≤ b * c ∧ b * c ≤ _ at b3
  change 0 ≤ b * d ∧ b * d ≤ _ at b4
  have ht : t = a * d + b * d / 4294967296 := rfl
  have hu : u = b * c + t % 4294967296 := rfl
  generalize a * c = A at *
  generalize a * d = B at *
  generalize b * c = C at *
  generalize b * d = E at *
  clear_value t u
  omega

/-! ## Quotients -/
theorem quo_neg {X y : Int} (hy : 0 < y) : (-X) / y = -(X / y + if 0 < X % y then 1 else 0) := by
  have h1 := Int.emod_nonneg X (show y ≠ 0 by omega)
  have h2 := Int.emod_lt_of_pos X hy
  have h3 := Int.mul_ediv_add_emod X y
  split
  · refine ((Int.ediv_emod_unique (r := y - X % y) hy).2 ⟨?_, by omega, by omega⟩).1
    grind
  · refine ((Int.ediv_emod_unique (r := 0) hy).2 ⟨?_, by omega, by omega⟩).1
    have : X % y = 0 := by omega
    grind
/-- One digit of a long division: the digit that was guessed is not too small, and goes down while it is too great. -/
theorem digit {U d v v1 v0 : Int} (hv : v = v1 * 4294967296 + v0) (h1 : 2147483648 ≤ v1) (h1' : v1 < 4294967296) (h0 : 0 ≤ v0) (h0' : v0 < 4294967296) (hU : 0 ≤ U) (hUv : U < v) (hd : 0 ≤ d) (hd' : d < 4294967296) :
    0 ≤ (U * 4294967296 + d) / v ∧ (U * 4294967296 + d) / v < 4294967296 ∧ (U * 4294967296 + d) / v ≤ U / v1 ∧ U / v1 ≤ 4294967297 ∧
    ∀ q r, (U * 4294967296 + d) / v ≤ q → r = U - q * v1 → 0 ≤ r →
      ((q ≥ 4294967296 ∨ q * v0 > 4294967296 * r + d) → (U * 4294967296 + d) / v ≤ q - 1) ∧
      (¬ (q ≥ 4294967296) → ¬ q * v0 > 4294967296 * r + d → q = (U * 4294967296 + d) / v) ∧
      (r ≥ 4294967296 → q ≤ 4294967296 → q = (U * 4294967296 + d) / v) := by
  have hvp : 0 < v := by omega
  have hq0 : 0 ≤ (U * 4294967296 + d) / v := Int.ediv_nonneg (by omega) (by omega)
  have hq1 : (U * 4294967296 + d) / v < 4294967296 := by
    refine Int.ediv_lt_of_lt_mul hvp ?_
    omega
  have hle : ∀ q : Int, q * v ≤ U * 4294967296 + d → q ≤ (U * 4294967296 + d) / v := fun q h => (Int.le_ediv_iff_mul_le hvp).2 h
  have hlt : ∀ q : Int, U * 4294967296 + d < q * v → (U * 4294967296 + d) / v < q := fun q h => Int.ediv_lt_of_lt_mul hvp h
  have hexp : ∀ q : Int, q * v = q * v1 * 4294967296 + q * v0 := fun q => by rw [hv]; grind
  have hself := Int.ediv_mul_le (U * 4294967296 + d) (show v ≠ 0 by omega)
  refine ⟨hq0, hq1, ?_, ?_, fun q r hq hr hr0 => ⟨fun h => ?_, fun g1 g2 => ?_, fun g1 g2 => ?_⟩⟩
  · refine (Int.le_ediv_iff_mul_le (by omega)).2 ?_
    have e := hexp ((U * 4294967296 + d) / v)
    have : 0 ≤ (U * 4294967296 + d) / v * v0 := Int.mul_nonneg hq0 h0
    omega
  · have : U / v1 < 4294967298 := by
      refine Int.ediv_lt_of_lt_mul (by omega) ?_
      omega
    omega
  · rcases h with h | h
    · omega
    · have := hlt q (by rw [hexp q]; omega)
      omega
  · have := hle q (by rw [hexp q]; omega)
    omega
  · have h3 : q * v0 ≤ 4294967296 * 4294967295 := by
      have := Int.mul_le_mul g2 (show v0 ≤ 4294967295 by omega) h0 (by omega)
      omega
    have := hle q (by rw [hexp q]; omega)
    omega

/-! ## Roots -/
theorem rootGo_spec {A : Int} (hA : 0 ≤ A) : ∀ (k : Nat) (r : Int), 0 ≤ r → r * r ≤ A → A < (r + 2 ^ k) * (r + 2 ^ k) → 0 ≤ rootGo A k r ∧ rootGo A k r * rootGo A k r ≤ A ∧ A < (rootGo A k r + 1) * (rootGo A k r + 1) ∧ rootGo A k r < r + 2 ^ k
  | 0, r, h0, h1, h2 => by
    unfold rootGo
    simp only [Int.pow_zero] at h2 ⊢
    exact ⟨h0, h1, h2, by omega⟩
  | k + 1, r, h0, h1, h2 => by
    unfold rootGo
    have hp : (0 : Int) < 2 ^ k := Int.pow_pos (by omega)
    rw [Int.pow_succ] at h2 ⊢
    split
    · rename_i h
      have := rootGo_spec hA k (r + 2 ^ k) (by omega) h (by rw [show r + 2 ^ k + 2 ^ k = r + 2 ^ k * 2 by omega]; exact h2)
      exact ⟨this.1, this.2.1, this.2.2.1, by omega⟩
    · rename_i h
      have := rootGo_spec hA k r h0 h1 (by omega)
      exact ⟨this.1, this.2.1, this.2.2.1, by omega⟩
theorem root_spec {A : Int} (hA : 0 ≤ A) (hA' : A < 79228162514264337593543950336) : 0 ≤ root A ∧ root A * root A ≤ A ∧ A < (root A + 1) * (root A + 1) ∧ root A < 281474976710656 := by
  have := rootGo_spec hA 48 0 (by omega) (by omega) (by simpa using hA')
  simpa [root] using this
theorem sq_le {a b : Int} (ha : 0 ≤ a) (h : a ≤ b) : a * a ≤ b * b := Int.mul_le_mul h h ha (by omega)
theorem sq_lt {a b : Int} (hb : 0 ≤ b) (h : a * a < b * b) : a < b := by
  rcases Int.lt_or_le a b with h1 | h1
  · exact h1
  · have := sq_le hb h1; omega
/-- A number is not above the root just if its square is not above. -/
theorem le_root {A t : Int} (hA : 0 ≤ A) (hA' : A < 79228162514264337593543950336) (ht : 0 ≤ t) : t ≤ root A ↔ t * t ≤ A := by
  obtain ⟨h1, h2, h3, _⟩ := root_spec hA hA'
  constructor
  · intro h; have := sq_le ht h; omega
  · intro h
    have := sq_lt (a := t) (b := root A + 1) (by omega) (by omega)
    omega
theorem root_mono {A B : Int} (hA : 0 ≤ A) (h : A ≤ B) (hB : B < 79228162514264337593543950336) : root A ≤ root B := by
  obtain ⟨h1, h2, _, _⟩ := root_spec hA (by omega)
  exact (le_root (by omega) hB h1).2 (by omega)
theorem root_eq {A r : Int} (hA' : A < 79228162514264337593543950336) (hr : 0 ≤ r) (h : r * r = A) : root A = r := by
  have hA : 0 ≤ A := by rw [← h]; exact Int.mul_nonneg hr hr
  obtain ⟨h1, h2, h3, _⟩ := root_spec hA hA'
  have a1 := (le_root hA hA' hr).2 (by omega)
  have a2 := sq_lt (a := root A) (b := r + 1) (by omega) (by
    have : r * r < (r + 1) * (r + 1) := by grind
    omega)
  omega
theorem sqrtZ_in {a : Int} (ha : In64 a) : In64 (sqrtZ a) ∧ 0 ≤ sqrtZ a ∧ sqrtZ a < 281474976710656 := by
  unfold sqrtZ
  unfold In64 at ha ⊢
  split
  · omega
  · have := root_spec (A := a * 4294967296) (by omega) (by omega)
    omega
/-! ## Signs -/
theorem sizeZ_bd {a : Int} (ha : In64 a) : 0 ≤ sizeZ a ∧ sizeZ a ≤ 9223372036854775808 := by
  unfold In64 at ha; unfold sizeZ; split <;> omega
def negS (a b : Int) : Bool := decide (a < 0) != decide (b < 0)
theorem size_prod (a b : Int) : a * b = if negS a b = true then -(sizeZ a * sizeZ b) else sizeZ a * sizeZ b := by
  unfold negS sizeZ
  by_cases h1 : a < 0 <;> by_cases h2 : b < 0 <;> simp [h1, h2, Int.neg_mul, Int.mul_neg]
theorem size_prod_bd {a b : Int} (ha : In64 a) (hb : In64 b) : 0 ≤ sizeZ a * sizeZ b ∧ sizeZ a * sizeZ b ≤ 85070591730234615865843651857942052864 := by
  obtain ⟨a1, a2⟩ := sizeZ_bd ha
  obtain ⟨b1, b2⟩ := sizeZ_bd hb
  have := Int.mul_le_mul a2 b2 b1 (by omega)
  exact ⟨Int.mul_nonneg a1 b1, by omega⟩
theorem mul_satS {a b : Int} {m : Int} {neg : Bool} (hn : neg = negS a b) (hm : m = sizeZ a * sizeZ b / 4294967296 + if neg = true ∧ sizeZ a * sizeZ b % 4294967296 ≠ 0 then 1 else 0) (h0 : 0 ≤ sizeZ a * sizeZ b) : satS m neg = mulZ a b := by
  subst hn
  unfold mulZ
  rw [size_prod a b]
  generalize sizeZ a * sizeZ b = X at *
  unfold satS sat
  cases hc : negS a b with
  | true =>
    simp only [hc, if_true, true_and] at hm ⊢
    split at hm <;> omega
  | false =>
    simp only [hc, Bool.false_eq_true, if_false, false_and] at hm ⊢
    omega
theorem sat_neg {m : Int} (h : 0 ≤ m) : sat (-m) = satS m true := by
  unfold sat satS
  simp only [if_true]
  omega
theorem sat_pos {m : Int} (h : 0 ≤ m) : sat m = satS m false := by
  unfold sat satS
  simp only [Bool.false_eq_true, if_false]
  omega
theorem div_satS {a b m : Int} {neg : Bool} (hb : b ≠ 0) (hn : neg = negS a b) (hm : m = sizeZ a * 4294967296 / sizeZ b + if neg = true ∧ 0 < sizeZ a * 4294967296 % sizeZ b then 1 else 0) : satS m neg = divZ a b := by
  subst hn
  unfold divZ quoZ
  rw [if_neg hb]
  have hy : 0 < sizeZ b := by unfold sizeZ; split <;> omega
  have hx : 0 ≤ sizeZ a := by unfold sizeZ; split <;> omega
  have hq : 0 ≤ sizeZ a * 4294967296 / sizeZ b := Int.ediv_nonneg (by omega) (by omega)
  have hm0 : 0 ≤ m := by rw [hm]; split <;> omega
  have hneg := quo_neg (X := sizeZ a * 4294967296) hy
  by_cases h1 : a < 0 <;> by_cases h2 : b < 0
  · have e : negS a b = false := by simp [negS, h1, h2]
    rw [e] at hm ⊢
    have e1 : sizeZ a = -a := by unfold sizeZ; rw [if_pos h1]
    have e2 : sizeZ b = -b := by unfold sizeZ; rw [if_pos h2]
    rw [if_neg (by omega), ← sat_pos hm0, hm, e1, e2]
    simp only [Bool.false_eq_true, false_and, if_false, Int.add_zero]
    rw [Int.neg_mul]
  · have e : negS a b = true := by simp [negS, h1, h2]
    rw [e] at hm ⊢
    have e1 : sizeZ a = -a := by unfold sizeZ; rw [if_pos h1]
    have e2 : sizeZ b = b := by unfold sizeZ; rw [if_neg h2]
    rw [if_pos (by omega), ← sat_neg hm0, hm]
    simp only [true_and]
    rw [e1, e2] at hneg
    rw [e1, e2, ← hneg, Int.neg_mul, Int.neg_neg]
  · have e : negS a b = true := by simp [negS, h1, h2]
    rw [e] at hm ⊢
    have e1 : sizeZ a = a := by unfold sizeZ; rw [if_neg h1]
    have e2 : sizeZ b = -b := by unfold sizeZ; rw [if_pos h2]
    rw [if_neg (by omega), ← sat_neg hm0, hm]
    simp only [true_and]
    rw [e1, e2] at hneg
    rw [e1, e2, ← hneg]
  · have e : negS a b = false := by simp [negS, h1, h2]
    rw [e] at hm ⊢
    have e1 : sizeZ a = a := by unfold sizeZ; rw [if_neg h1]
    have e2 : sizeZ b = b := by unfold sizeZ; rw [if_neg h2]
    rw [if_pos (by omega), ← sat_pos hm0, hm, e1, e2]
    simp only [Bool.false_eq_true, false_and, if_false, Int.add_zero]
theorem div_parts {x y : Int} (hx : 0 ≤ x) (hx' : x ≤ 9223372036854775808) (hy : 0 < y) :
    let w := x / 4294967296 % y * 18446744073709551616 + x % 4294967296 * 4294967296
    x * 4294967296 / y = x / 4294967296 / y * 18446744073709551616 + w / y ∧ x * 4294967296 % y = w % y ∧ 0 ≤ w / y ∧ w / y < 18446744073709551616 ∧ 0 ≤ x / 4294967296 / y ∧ x / 4294967296 / y ≤ 2147483648 ∧ 0 ≤ x / 4294967296 % y ∧ x / 4294967296 % y < y := by
  intro w
  have a1 := Int.mul_ediv_add_emod (x / 4294967296) y
  have a2 := Int.emod_nonneg (x / 4294967296) (show y ≠ 0 by omega)
  have a3 := Int.emod_lt_of_pos (x / 4294967296) hy
  have a4 : 0 ≤ x / 4294967296 / y := Int.ediv_nonneg (by omega) (by omega)
  have a5 : x / 4294967296 / y ≤ x / 4294967296 := Int.ediv_le_self _ (by omega)
  have w0 : 0 ≤ w := by show 0 ≤ _ * _ + _; omega
  have hw : w = x / 4294967296 % y * 18446744073709551616 + x % 4294967296 * 4294967296 := rfl
  have b1 := Int.mul_ediv_add_emod w y
  have b2 := Int.emod_nonneg w (show y ≠ 0 by omega)
  have b3 := Int.emod_lt_of_pos w hy
  have b4 : 0 ≤ w / y := Int.ediv_nonneg w0 (by omega)
  have b5 : w / y < 18446744073709551616 := Int.ediv_lt_of_lt_mul hy (by omega)
  have huu := (Int.ediv_emod_unique (a := x * 4294967296) (q := x / 4294967296 / y * 18446744073709551616 + w / y) (r := w % y) hy).2 ⟨by
    have e : x * 4294967296 = (y * (x / 4294967296 / y) + x / 4294967296 % y) * 18446744073709551616 + x % 4294967296 * 4294967296 := by rw [a1]; omega
    rw [e, Int.mul_add]
    have e2 : y * (x / 4294967296 / y * 18446744073709551616) = y * (x / 4294967296 / y) * 18446744073709551616 := by rw [Int.mul_assoc]
    rw [e2]
    generalize y * (x / 4294967296 / y) = p at *
    generalize y * (w / y) = p2 at *
    omega, b2, b3⟩
  exact ⟨huu.1, huu.2, b4, b5, a4, by omega, a2, a3⟩
/-! ## Roots, step by step -/
theorem half_pow {R : Int} (hR : 0 ≤ R) (j : Nat) : R / 2 ^ (j + 1) = R / 2 ^ j / 2 := by
  have hP : (0 : Int) < 2 ^ j := Int.pow_pos (by omega)
  rw [Int.pow_succ]
  have h1 := Int.mul_ediv_add_emod R (2 ^ j)
  have h2 := Int.emod_nonneg R (show (2 : Int) ^ j ≠ 0 by omega)
  have h3 := Int.emod_lt_of_pos R hP
  refine ((Int.ediv_emod_unique (r := 2 ^ j * (R / 2 ^ j % 2) + R % 2 ^ j) (show 0 < (2 : Int) ^ j * 2 by omega)).2 ⟨?_, ?_, ?_⟩).1
  · have e : R / 2 ^ j = 2 * (R / 2 ^ j / 2) + R / 2 ^ j % 2 := by omega
    calc _ = 2 ^ j * (2 * (R / 2 ^ j / 2) + R / 2 ^ j % 2) + R % 2 ^ j := by grind
      _ = R := by rw [← e]; exact h1
  · have : 0 ≤ 2 ^ j * (R / 2 ^ j % 2) := Int.mul_nonneg (by omega) (by omega)
    omega
  · have : 2 ^ j * (R / 2 ^ j % 2) ≤ 2 ^ j * 1 := Int.mul_le_mul_of_nonneg_left (by omega) (by omega)
    omega
theorem root_step {R : Int} (hR : 0 ≤ R) (j : Nat) :
    (R / 2 ^ (j + 1) * 2 ^ (j + 1) + 2 ^ j ≤ R → R / 2 ^ (j + 1) * 2 ^ (j + 1) + 2 ^ j = R / 2 ^ j * 2 ^ j) ∧
    (¬ R / 2 ^ (j + 1) * 2 ^ (j + 1) + 2 ^ j ≤ R → R / 2 ^ (j + 1) * 2 ^ (j + 1) = R / 2 ^ j * 2 ^ j) := by
  have hP : (0 : Int) < 2 ^ j := Int.pow_pos (by omega)
  have h1 := Int.mul_ediv_add_emod R (2 ^ j)
  have h2 := Int.emod_nonneg R (show (2 : Int) ^ j ≠ 0 by omega)
  have h3 := Int.emod_lt_of_pos R hP
  rw [half_pow hR j, Int.pow_succ]
  have e : R / 2 ^ j / 2 * (2 ^ j * 2) = 2 ^ j * (2 * (R / 2 ^ j / 2)) := by grind
  have e2 : R / 2 ^ j * 2 ^ j = 2 ^ j * (R / 2 ^ j) := Int.mul_comm _ _
  rw [e, e2]
  rcases Int.emod_two_eq (R / 2 ^ j) with h | h
  · have e3 : 2 * (R / 2 ^ j / 2) = R / 2 ^ j := by omega
    rw [e3]
    exact ⟨fun h => by omega, fun _ => rfl⟩
  · have e3 : 2 * (R / 2 ^ j / 2) = R / 2 ^ j - 1 := by omega
    rw [e3, Int.mul_sub, Int.mul_one]
    exact ⟨fun _ => by omega, fun h => by omega⟩
theorem sq_test {t a : Int} (ht : 0 ≤ t * t) (ha : 1 ≤ a) (ha' : a < 9223372036854775808) :
    (t * t / 18446744073709551616 < a / 4294967296 → t * t ≤ a * 4294967296) ∧ (t * t / 18446744073709551616 = a / 4294967296 → (t * t % 18446744073709551616 ≤ a % 4294967296 * 4294967296 ↔ t * t ≤ a * 4294967296)) ∧
    (¬ t * t / 18446744073709551616 < a / 4294967296 → ¬ t * t / 18446744073709551616 = a / 4294967296 → ¬ t * t ≤ a * 4294967296) := by
  generalize t * t = p at *
  refine ⟨fun h => by omega, fun h => by omega, fun h h2 => by omega⟩
/-! ## Long division, bit by bit -/
theorem bit_step {X y : Int} (hX : 0 ≤ X) (hy : 0 < y) (j : Nat) :
    X / 2 ^ j = 2 * (X / 2 ^ (j + 1)) + X / 2 ^ j % 2 ∧
    (y ≤ 2 * (X / 2 ^ (j + 1) % y) + X / 2 ^ j % 2 → X / 2 ^ j / y = 2 * (X / 2 ^ (j + 1) / y) + 1 ∧ X / 2 ^ j % y = 2 * (X / 2 ^ (j + 1) % y) + X / 2 ^ j % 2 - y) ∧
    (¬ y ≤ 2 * (X / 2 ^ (j + 1) % y) + X / 2 ^ j % 2 → X / 2 ^ j / y = 2 * (X / 2 ^ (j + 1) / y) ∧ X / 2 ^ j % y = 2 * (X / 2 ^ (j + 1) % y) + X / 2 ^ j % 2) := by
  rw [half_pow hX j]
  generalize X / 2 ^ j = P
  have h1 := Int.mul_ediv_add_emod (P / 2) y
  have h2 := Int.emod_nonneg (P / 2) (show y ≠ 0 by omega)
  have h3 := Int.emod_lt_of_pos (P / 2) hy
  have e : P = 2 * (P / 2) + P % 2 := by omega
  refine ⟨e, fun h => ?_, fun h => ?_⟩
  · refine (Int.ediv_emod_unique hy).2 ⟨?_, by omega, by omega⟩
    have e2 : y * (2 * (P / 2 / y) + 1) = 2 * (y * (P / 2 / y)) + y := by grind
    rw [e2]; omega
  · refine (Int.ediv_emod_unique hy).2 ⟨?_, by omega, by omega⟩
    have e2 : y * (2 * (P / 2 / y)) = 2 * (y * (P / 2 / y)) := by grind
    rw [e2]; omega
theorem bit_high {x : Int} (hx : 0 ≤ x) (j : Nat) : x * 4294967296 / 2 ^ (j + 32) % 2 = x / 2 ^ j % 2 := by
  have hP : (0 : Int) < 2 ^ j := Int.pow_pos (by omega)
  rw [Int.pow_add, show (2 : Int) ^ 32 = 4294967296 from rfl, Int.mul_comm x, Int.mul_comm (2 ^ j), Int.mul_ediv_mul_of_pos _ _ (by omega)]
theorem bit_low {x : Int} (hx : 0 ≤ x) {j : Nat} (hj : j < 32) : x * 4294967296 / 2 ^ j % 2 = 0 := by
  have hP : (0 : Int) < 2 ^ j := Int.pow_pos (by omega)
  have e : (4294967296 : Int) = 2 ^ j * (2 * 2 ^ (31 - j)) := by
    rw [show (2 : Int) ^ j * (2 * 2 ^ (31 - j)) = 2 ^ j * 2 ^ (31 - j) * 2 by grind, ← Int.pow_add, show j + (31 - j) = 31 by omega]; rfl
  rw [e, show x * (2 ^ j * (2 * 2 ^ (31 - j))) = 2 ^ j * (2 * (x * 2 ^ (31 - j))) by grind, Int.mul_ediv_cancel_left _ (by omega)]
  omega
/-! ## Sines -/
theorem fold_bd (a : Int) : -6746518852 ≤ foldZ (turnZ a) ∧ foldZ (turnZ a) ≤ 6746518852 := by
  have h : -13493037704 ≤ turnZ a ∧ turnZ a ≤ 13493037704 := by unfold turnZ; split <;> omega
  unfold foldZ
  split
  · omega
  · split <;> omega
theorem mulZ_small {q s : Int} (hq : 0 ≤ q) (hq' : q ≤ 10600000000) (hs : 0 ≤ s) (hs' : s ≤ 4294967296) : 0 ≤ mulZ q s ∧ mulZ q s ≤ q := by
  have h1 := Int.mul_nonneg hq hs
  have h2 := Int.mul_le_mul_of_nonneg_left hs' hq
  unfold mulZ
  generalize q * s = p at *
  rw [sat_id (by unfold In64; omega)]
  omega
theorem sq_small {r : Int} (h1 : -6746518852 ≤ r) (h2 : r ≤ 6746518852) : 0 ≤ mulZ r r ∧ mulZ r r ≤ 10600000000 := by
  have h3 : 0 ≤ r * r := by
    rcases Int.le_total 0 r with h | h
    · exact Int.mul_nonneg h h
    · exact Int.mul_nonneg_of_nonpos_of_nonpos h h
  have h4 : r * r ≤ 6746518852 * 6746518852 := by
    rcases Int.le_total 0 r with h | h
    · exact sq_le h h2
    · have := sq_le (a := -r) (b := 6746518852) (by omega) (by omega)
      rw [Int.neg_mul_neg] at this; exact this
  unfold mulZ
  generalize r * r = p at *
  rw [sat_id (by unfold In64; omega)]
  omega
end Go.Proofs.Ytmadffhjgbpojaa.Fix

/- Vec: whole numbers: sums, products and roots are exact. -/
import Derived.Test.YtcihpmhnkgkdcaaVelFacts
namespace Go.Proofs.Ytcihpmhnkgkdcaa.Fix

abbrev T3 (a b c : Int) : P3 := (a * 4294967296, b * 4294967296, c * 4294967296)
theorem prod_le {a b A B : Int} (h1 : -A ≤ a) (h2 : a ≤ A) (g1 : -B ≤ b) (g2 : b ≤ B) : -(A * B) ≤ a * b ∧ a * b ≤ A * B := by
  have h : ∀ {x y : Int}, 0 ≤ x → x ≤ A → 0 ≤ y → y ≤ B → 0 ≤ x * y ∧ x * y ≤ A * B := fun h h' hy h2 =>
    ⟨Int.mul_nonneg h hy, Int.mul_le_mul h' h2 hy (by omega)⟩
  rcases Int.le_total 0 a with ha | ha <;> rcases Int.le_total 0 b with hb | hb
  · have := h ha (by omega) hb (by omega); omega
  · have := h ha (by omega) (show 0 ≤ -b by omega) (by omega)
    rw [Int.mul_neg] at this; omega
  · have := h (show 0 ≤ -a by omega) (by omega) hb (by omega)
    rw [Int.neg_mul] at this; omega
  · have := h (show 0 ≤ -a by omega) (by omega) (show 0 ≤ -b by omega) (by omega)
    rw [Int.neg_mul_neg] at this; omega
theorem mul_S {a b : Int} (h1 : -1073741824 ≤ a * b) (h2 : a * b ≤ 1073741824) : mulZ (a * 4294967296) (b * 4294967296) = a * b * 4294967296 := by
  unfold mulZ
  rw [show a * 4294967296 * (b * 4294967296) = a * b * 4294967296 * 4294967296 by grind]
  rw [Int.mul_ediv_cancel _ (by omega)]
  generalize a * b = x at *
  unfold sat; omega
theorem add_S {a b : Int} (h1 : -2147483648 ≤ a + b) (h2 : a + b < 2147483648) : addZ (a * 4294967296) (b * 4294967296) = (a + b) * 4294967296 := by
  unfold addZ sat; omega
theorem sub_S {a b : Int} (h1 : -2147483648 ≤ a - b) (h2 : a - b < 2147483648) : subZ (a * 4294967296) (b * 4294967296) = (a - b) * 4294967296 := by
  unfold subZ sat; omega
theorem neg_S {a : Int} (h1 : -2147483647 ≤ a) (h2 : a < 2147483648) : negZ (a * 4294967296) = -a * 4294967296 := by
  unfold negZ sat; omega
structure B3 (M a b c : Int) : Prop where
  a1 : -M ≤ a
  a2 : a ≤ M
  b1 : -M ≤ b
  b2 : b ≤ M
  c1 : -M ≤ c
  c2 : c ≤ M
theorem cross_T {M N a b c d e f : Int} (hMN : M * N ≤ 536870912) (h : B3 M a b c) (g : B3 N d e f) : crossV (T3 a b c) (T3 d e f) = T3 (b * f - c * e) (c * d - a * f) (a * e - b * d) ∧ B3 (2 * (M * N)) (b * f - c * e) (c * d - a * f) (a * e - b * d) := by
  have p1 := prod_le h.b1 h.b2 g.c1 g.c2
  have p2 := prod_le h.c1 h.c2 g.b1 g.b2
  have p3 := prod_le h.c1 h.c2 g.a1 g.a2
  have p4 := prod_le h.a1 h.a2 g.c1 g.c2
  have p5 := prod_le h.a1 h.a2 g.b1 g.b2
  have p6 := prod_le h.b1 h.b2 g.a1 g.a2
  simp only [crossV, T3]
  rw [mul_S (by omega) (by omega), mul_S (by omega) (by omega), mul_S (by omega) (by omega), mul_S (by omega) (by omega), mul_S (by omega) (by omega), mul_S (by omega) (by omega), sub_S (by omega) (by omega), sub_S (by omega) (by omega), sub_S (by omega) (by omega)]
  exact ⟨rfl, ⟨by omega, by omega, by omega, by omega, by omega, by omega⟩⟩
theorem dot_T {M N a b c d e f : Int} (hMN : M * N ≤ 536870912) (h : B3 M a b c) (g : B3 N d e f) : dotV (T3 a b c) (T3 d e f) = (a * d + b * e + c * f) * 4294967296 ∧ (-(3 * (M * N)) ≤ a * d + b * e + c * f ∧ a * d + b * e + c * f ≤ 3 * (M * N)) := by
  have p1 := prod_le h.a1 h.a2 g.a1 g.a2
  have p2 := prod_le h.b1 h.b2 g.b1 g.b2
  have p3 := prod_le h.c1 h.c2 g.c1 g.c2
  simp only [dotV, T3]
  rw [mul_S (by omega) (by omega), mul_S (by omega) (by omega), mul_S (by omega) (by omega), add_S (by omega) (by omega), add_S (by omega) (by omega)]
  exact ⟨rfl, by omega, by omega⟩
theorem add_T {M N a b c d e f : Int} (hMN : M + N ≤ 536870912) (h : B3 M a b c) (g : B3 N d e f) : addV (T3 a b c) (T3 d e f) = T3 (a + d) (b + e) (c + f) ∧ B3 (M + N) (a + d) (b + e) (c + f) := by
  obtain ⟨h1, h2, h3, h4, h5, h6⟩ := h
  obtain ⟨g1, g2, g3, g4, g5, g6⟩ := g
  simp only [addV, T3]
  rw [add_S (by omega) (by omega), add_S (by omega) (by omega), add_S (by omega) (by omega)]
  exact ⟨rfl, ⟨by omega, by omega, by omega, by omega, by omega, by omega⟩⟩
theorem sub_T {M N a b c d e f : Int} (hMN : M + N ≤ 536870912) (h : B3 M a b c) (g : B3 N d e f) : subV (T3 a b c) (T3 d e f) = T3 (a - d) (b - e) (c - f) ∧ B3 (M + N) (a - d) (b - e) (c - f) := by
  obtain ⟨h1, h2, h3, h4, h5, h6⟩ := h
  obtain ⟨g1, g2, g3, g4, g5, g6⟩ := g
  simp only [subV, T3]
  rw [sub_S (by omega) (by omega), sub_S (by omega) (by omega), sub_S (by omega) (by omega)]
  exact ⟨rfl, ⟨by omega, by omega, by omega, by omega, by omega, by omega⟩⟩
theorem neg_T {M a b c : Int} (hM : M ≤ 536870912) (h : B3 M a b c) : negV (T3 a b c) = T3 (-a) (-b) (-c) := by
  obtain ⟨h1, h2, h3, h4, h5, h6⟩ := h
  simp only [negV, T3]
  rw [neg_S (by omega) (by omega), neg_S (by omega) (by omega), neg_S (by omega) (by omega)]
theorem scale_T {M N a b c k : Int} (hMN : M * N ≤ 536870912) (h : B3 M a b c) (k1 : -N ≤ k) (k2 : k ≤ N) : scaleV (T3 a b c) (k * 4294967296) = T3 (a * k) (b * k) (c * k) ∧ B3 (M * N) (a * k) (b * k) (c * k) := by
  have p1 := prod_le h.a1 h.a2 k1 k2
  have p2 := prod_le h.b1 h.b2 k1 k2
  have p3 := prod_le h.c1 h.c2 k1 k2
  simp only [scaleV, T3]
  rw [mul_S (by omega) (by omega), mul_S (by omega) (by omega), mul_S (by omega) (by omega)]
  exact ⟨rfl, ⟨by omega, by omega, by omega, by omega, by omega, by omega⟩⟩
theorem floor_S (a : Int) : floorZ (a * 4294967296) = a := by unfold floorZ; omega
theorem B3_le {M N a b c : Int} (h : B3 M a b c) (hl : M ≤ N) : B3 N a b c := by
  obtain ⟨h1, h2, h3, h4, h5, h6⟩ := h
  exact ⟨by omega, by omega, by omega, by omega, by omega, by omega⟩
/-! ## The identities -/
theorem id_upright (a b c d e f : Int) : (b * f - c * e) * a + (c * d - a * f) * b + (a * e - b * d) * c = 0 := by grind
theorem id_upright2 (a b c d e f : Int) : (b * f - c * e) * d + (c * d - a * f) * e + (a * e - b * d) * f = 0 := by grind
theorem id_square (a b c d e f : Int) : (b * f - c * e) * (b * f - c * e) + (c * d - a * f) * (c * d - a * f) + (a * e - b * d) * (a * e - b * d) = (a * a + b * b + c * c) * (d * d + e * e + f * f) - (a * d + b * e + c * f) * (a * d + b * e + c * f) := by grind
theorem id_triple (a b c d e f g h i : Int) : a * (e * i - f * h) + b * (f * g - d * i) + c * (d * h - e * g) = g * (b * f - c * e) + h * (c * d - a * f) + i * (a * e - b * d) := by grind
end Go.Proofs.Ytcihpmhnkgkdcaa.Fix

/- Vec: plain facts for the laws of 02. -/
import Derived.Test.YtcihpmhnkgkdcaaVelDefs
import Derived.Test.YtcihpmhnkgkdcaaFixFacts
namespace Go.Proofs.Ytcihpmhnkgkdcaa.Fix

theorem addV_comm (p q : P3) : addV p q = addV q p := by simp only [addV, addZ_comm p.1 q.1, addZ_comm p.2.1 q.2.1, addZ_comm p.2.2 q.2.2]
theorem mulV_comm (p q : P3) : mulV p q = mulV q p := by simp only [mulV, mulZ_comm p.1 q.1, mulZ_comm p.2.1 q.2.1, mulZ_comm p.2.2 q.2.2]
theorem dotV_comm (p q : P3) : dotV p q = dotV q p := by simp only [dotV, mulZ_comm p.1 q.1, mulZ_comm p.2.1 q.2.1, mulZ_comm p.2.2 q.2.2]
theorem subZ_self (a : Int) : subZ a a = 0 := by unfold subZ sat; omega
theorem subV_self (p : P3) : subV p p = (0, 0, 0) := by simp only [subV, subZ_self]
theorem tm_bd (a : Int) {b : Int} (hb : 0 < b) : -b < a.tmod b ∧ a.tmod b < b := by
  rcases Int.le_total 0 a with h | h
  · rw [Int.tmod_eq_emod_of_nonneg h]
    have := Int.emod_lt_of_pos a hb
    have := Int.emod_nonneg a (show b ≠ 0 by omega)
    omega
  · have e : a.tmod b = -((-a) % b) := by rw [← Int.tmod_eq_emod_of_nonneg (show 0 ≤ -a by omega), Int.neg_tmod, Int.neg_neg]
    rw [e]
    have := Int.emod_lt_of_pos (-a) hb
    have := Int.emod_nonneg (-a) (show b ≠ 0 by omega)
    omega
def Low (a : Int) : Prop := -1099511627776 < a ∧ a < 1099511627776
def Low3 (p : P3) : Prop := (-1099511627776 < p.1 ∧ p.1 < 1099511627776) ∧ (-1099511627776 < p.2.1 ∧ p.2.1 < 1099511627776) ∧ (-1099511627776 < p.2.2 ∧ p.2.2 < 1099511627776)
theorem lowV_bd (p : P3) : Low3 (lowV p) := ⟨tm_bd _ (by omega), tm_bd _ (by omega), tm_bd _ (by omega)⟩
theorem prod_bd {a b A B : Int} (h1 : -A < a) (h2 : a < A) (g1 : -B < b) (g2 : b < B) : -(A * B) ≤ a * b ∧ a * b ≤ A * B := by
  have h : ∀ {x y : Int}, 0 ≤ x → x ≤ A → 0 ≤ y → y ≤ B → 0 ≤ x * y ∧ x * y ≤ A * B := fun h h' hy h2 =>
    ⟨Int.mul_nonneg h hy, Int.mul_le_mul h' h2 hy (by omega)⟩
  rcases Int.le_total 0 a with ha | ha <;> rcases Int.le_total 0 b with hb | hb
  · have := h ha (by omega) hb (by omega); omega
  · have := h ha (by omega) (show 0 ≤ -b by omega) (by omega)
    rw [Int.mul_neg] at this; omega
  · have := h (show 0 ≤ -a by omega) (by omega) hb (by omega)
    rw [Int.neg_mul] at this; omega
  · have := h (show 0 ≤ -a by omega) (by omega) (show 0 ≤ -b by omega) (by omega)
    rw [Int.neg_mul_neg] at this; omega
theorem mul_low {a b : Int} (h1 : -1099511627776 < a) (h2 : a < 1099511627776) (g1 : -1099511627776 < b) (g2 : b < 1099511627776) : -281474976710656 ≤ mulZ a b ∧ mulZ a b ≤ 281474976710656 := by
  have := prod_bd h1 h2 g1 g2
  unfold mulZ sat
  generalize a * b = x at *
  omega
theorem neg_sub {x y : Int} (h1 : -281474976710656 ≤ x) (h2 : x ≤ 281474976710656) (g1 : -281474976710656 ≤ y) (g2 : y ≤ 281474976710656) : negZ (subZ x y) = subZ y x := by
  unfold negZ subZ sat; omega
theorem cross_neg {p q : P3} (hp : Low3 p) (hq : Low3 q) : negV (crossV q p) = crossV p q := by
  obtain ⟨⟨p1, p1'⟩, ⟨p2, p2'⟩, p3, p3'⟩ := hp
  obtain ⟨⟨q1, q1'⟩, ⟨q2, q2'⟩, q3, q3'⟩ := hq
  have a1 := mul_low q2 q2' p3 p3'
  have a2 := mul_low q3 q3' p2 p2'
  have a3 := mul_low q3 q3' p1 p1'
  have a4 := mul_low q1 q1' p3 p3'
  have a5 := mul_low q1 q1' p2 p2'
  have a6 := mul_low q2 q2' p1 p1'
  simp only [negV, crossV, neg_sub a1.1 a1.2 a2.1 a2.2, neg_sub a3.1 a3.2 a4.1 a4.2, neg_sub a5.1 a5.2 a6.1 a6.2, mulZ_comm p.1, mulZ_comm p.2.1, mulZ_comm p.2.2]
theorem cross_self (p : P3) : crossV p p = (0, 0, 0) := by
  simp only [crossV, mulZ_comm p.2.2, mulZ_comm p.2.1 p.1, subZ_self]
theorem sub_addV {p q : P3} (hp : Low3 p) (hq : Low3 q) : addV (subV p q) q = p := by
  obtain ⟨⟨p1, p1'⟩, ⟨p2, p2'⟩, p3, p3'⟩ := hp
  obtain ⟨⟨q1, q1'⟩, ⟨q2, q2'⟩, q3, q3'⟩ := hq
  obtain ⟨a, b, c⟩ := p
  obtain ⟨d, e, f⟩ := q
  simp only [addV, subV, addZ, subZ, sat, Prod.mk.injEq] at *
  omega
theorem scale_one {p : P3} (hp : Low3 p) : scaleV p 4294967296 = p := by
  obtain ⟨⟨p1, p1'⟩, ⟨p2, p2'⟩, p3, p3'⟩ := hp
  obtain ⟨a, b, c⟩ := p
  simp only [scaleV] at *
  rw [mul_one (by unfold In64; omega), mul_one (by unfold In64; omega), mul_one (by unfold In64; omega)]
theorem scale_zero (p : P3) : scaleV p 0 = (0, 0, 0) := by simp only [scaleV, mul_zero]
end Go.Proofs.Ytcihpmhnkgkdcaa.Fix

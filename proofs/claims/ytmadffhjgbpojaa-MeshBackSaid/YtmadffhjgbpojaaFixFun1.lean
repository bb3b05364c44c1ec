/- Fix: how long a number is, and the long division of sizes. -/
import Derived.Test.YtmadffhjgbpojaaFixFun0
namespace Go.Proofs.Ytmadffhjgbpojaa.Fix
open Go Go.Proofs.Ytmadffhjgbpojaa.Sx
attribute [local irreducible] evFunc

theorem tab0_nat : ∀ n : Nat, n < 256 → (tab0.data.toList.getD n 0).toNat = if n = 0 then 0 else n.log2 + 1 := by decide +kernel
theorem tab0_at {y : Int} (h1 : 0 ≤ y) (h2 : y < 256) : ((tab0.data.toList.getD y.toNat 0).toNat : Int) = lenZ y := by
  rw [tab0_nat y.toNat (by omega)]
  unfold lenZ
  by_cases h : y ≤ 0
  · rw [if_pos h, if_pos (by omega)]; rfl
  · rw [if_neg h, if_neg (by omega)]; simp
theorem lenZ_bd {y : Int} (h : 0 < y) : ∃ L : Nat, lenZ y = L ∧ 1 ≤ L ∧ (2 : Int) ^ (L - 1) ≤ y ∧ y < 2 ^ L := by
  obtain ⟨n, rfl⟩ := Int.eq_ofNat_of_zero_le (show 0 ≤ y by omega)
  refine ⟨n.log2 + 1, ?_, by omega, ?_, ?_⟩
  · unfold lenZ; rw [if_neg (by omega), Int.toNat_natCast]; simp
  · have := Nat.log2_self_le (n := n) (by omega)
    rw [Nat.add_sub_cancel]
    exact_mod_cast this
  · have := Nat.lt_log2_self (n := n)
    exact_mod_cast this
theorem lenZ_eq {y : Int} {L : Nat} (hL : 1 ≤ L) (h1 : (2 : Int) ^ (L - 1) ≤ y) (h2 : y < 2 ^ L) : lenZ y = L := by
  have hp : (0 : Int) < 2 ^ (L - 1) := Int.pow_pos (by omega)
  obtain ⟨n, rfl⟩ := Int.eq_ofNat_of_zero_le (show 0 ≤ y by omega)
  have hn : n ≠ 0 := by omega
  unfold lenZ
  rw [if_neg (by omega), Int.toNat_natCast, (Nat.log2_eq_iff (k := L - 1) hn).2 ⟨by exact_mod_cast h1, by rw [show L - 1 + 1 = L by omega]; exact_mod_cast h2⟩]
  omega
theorem lenZ_shift {x : Int} (k : Nat) (h : (2 : Int) ^ k ≤ x) : lenZ x = k + lenZ (x / 2 ^ k) := by
  have hp : (0 : Int) < 2 ^ k := Int.pow_pos (by omega)
  have h1 : 0 < x / 2 ^ k := by
    have : 1 ≤ x / 2 ^ k := (Int.le_ediv_iff_mul_le hp).2 (by omega)
    omega
  obtain ⟨L, e, hL, b1, b2⟩ := lenZ_bd h1
  rw [e, show ((k : Int) + L) = ((L + k : Nat) : Int) by omega]
  refine lenZ_eq (by omega) ?_ ?_
  · rw [show L + k - 1 = (L - 1) + k by omega, Int.pow_add]
    exact (Int.le_ediv_iff_mul_le hp).1 b1
  · rw [Int.pow_add]
    have := (Int.ediv_lt_iff_lt_mul hp).1 b2
    exact this
/-! ## The long division -/
theorem dig_start {U d v v1 v0 : Int} (hv : v = v1 * 4294967296 + v0) (h1 : 2147483648 ≤ v1) (h1' : v1 < 4294967296) (h0 : 0 ≤ v0) (h0' : v0 < 4294967296) (hU : 0 ≤ U) (hUv : U < v) (hd : 0 ≤ d) (hd' : d < 4294967296) (hv' : v < 18446744073709551616) :
    Dig U d v v1 (IntKind.u64.wrap (U.tdiv v1), IntKind.u64.wrap (U - IntKind.u64.wrap (IntKind.u64.wrap (U.tdiv v1) * v1))) := by
  obtain ⟨_, _, a3, a4, _⟩ := digit hv h1 h1' h0 h0' hU hUv hd hd'
  have q1 := Int.mul_ediv_add_emod U v1
  have q2 := Int.emod_nonneg U (show v1 ≠ 0 by omega)
  have q3 := Int.emod_lt_of_pos U (show 0 < v1 by omega)
  have q4 : 0 ≤ U / v1 := Int.ediv_nonneg hU (by omega)
  have q5 : U / v1 * v1 = v1 * (U / v1) := Int.mul_comm _ _
  rw [td hU, wu q4 (by omega), wu (n := U / v1 * v1) (by rw [q5]; have := Int.mul_nonneg (show 0 ≤ v1 by omega) q4; omega) (by omega), wu (by omega) (by omega)]
  exact ⟨a3, a4, rfl, by omega, by omega⟩
theorem dig_loop {U d v v1 v0 : Int} (hv : v = v1 * 4294967296 + v0) (h1 : 2147483648 ≤ v1) (h1' : v1 < 4294967296) (h0 : 0 ≤ v0) (h0' : v0 < 4294967296) (hU : 0 ≤ U) (hUv : U < v) (hd : 0 ≤ d) (hd' : d < 4294967296) (hv' : v < 18446744073709551616)
    (q r : Int) (hD : Dig U d v v1 (q, r)) :
    BR (decide (4294967296 ≤ q))
      (∀ a, a = IntKind.u64.wrap (q - 1) → ∀ b, b = IntKind.u64.wrap (r + v1) → BR (decide (4294967296 ≤ b)) (a = (U * 4294967296 + d) / v) (∃ q' r', Dig U d v v1 (q', r') ∧ q'.toNat < q.toNat ∧ a = q' ∧ b = r'))
      (BR (decide (IntKind.u64.wrap (IntKind.u64.wrap (4294967296 * r) + d) < IntKind.u64.wrap (q * v0)))
        (∀ a, a = IntKind.u64.wrap (q - 1) → ∀ b, b = IntKind.u64.wrap (r + v1) → BR (decide (4294967296 ≤ b)) (a = (U * 4294967296 + d) / v) (∃ q' r', Dig U d v v1 (q', r') ∧ q'.toNat < q.toNat ∧ a = q' ∧ b = r'))
        (q = (U * 4294967296 + d) / v)) := by
  obtain ⟨a1, a2, a3, a4, a5⟩ := digit hv h1 h1' h0 h0' hU hUv hd hd'
  obtain ⟨d1, d2, d3, d4, d5⟩ := hD
  obtain ⟨c1, c2, c3⟩ := a5 q r d1 d3 d4
  have step : (U * 4294967296 + d) / v ≤ q - 1 → ∀ a, a = IntKind.u64.wrap (q - 1) → ∀ b, b = IntKind.u64.wrap (r + v1) → BR (decide (4294967296 ≤ b)) (a = (U * 4294967296 + d) / v) (∃ q' r', Dig U d v v1 (q', r') ∧ q'.toNat < q.toNat ∧ a = q' ∧ b = r') := by
    intro hq a ha b hb
    rw [wu (by omega) (by omega)] at ha hb
    subst ha; subst hb
    have hr : r + v1 = U - (q - 1) * v1 := by
      have d3 : r = U - q * v1 := d3
      grind
    obtain ⟨_, _, e3⟩ := a5 (q - 1) (r + v1) hq hr (by omega)
    refine BR_d (fun h => e3 h (by omega)) fun h => ⟨q - 1, r + v1, ⟨hq, by show q - 1 ≤ _; omega, hr, by show 0 ≤ r + v1; omega, by show r + v1 < _; omega⟩, by omega, rfl, rfl⟩
  refine BR_d (fun h => step (c1 (.inl h))) fun h => ?_
  have hqv : 0 ≤ q * v0 ∧ q * v0 < 18446744073709551616 := by
    have := mul_bd (x := q) (y := v0) (by omega) (by omega) h0 (by omega)
    omega
  rw [wu (n := 4294967296 * r) (by omega) (by omega), wu (n := 4294967296 * r + d) (by omega) (by omega), wu hqv.1 hqv.2]
  exact BR_d (fun e => step (c1 (.inr e))) fun e => c2 h e
theorem pow_split {σ : Nat} (h : σ ≤ 64) : (2 : Int) ^ σ * 2 ^ (64 - σ) = 18446744073709551616 := by
  rw [← Int.pow_add, show σ + (64 - σ) = 64 by omega]; rfl
theorem or_parts {a b : Int} {σ : Nat} (ha : 0 ≤ a) (hb : 0 ≤ b) (hb' : b < 2 ^ σ) (hs : a * 2 ^ σ < 18446744073709551616) (hσ : σ ≤ 64) : bits .or .u64 (a * 2 ^ σ) b = a * 2 ^ σ + b := by
  obtain ⟨A, rfl⟩ := Int.eq_ofNat_of_zero_le ha
  obtain ⟨B, rfl⟩ := Int.eq_ofNat_of_zero_le hb
  have hB : B < 2 ^ σ := by exact_mod_cast hb'
  have hB64 : B < 18446744073709551616 := Nat.lt_of_lt_of_le hB (Nat.le_trans (Nat.pow_le_pow_right (by omega) hσ) (by decide))
  have e : ((A : Int) * 2 ^ σ) = ((A * 2 ^ σ : Nat) : Int) := by push_cast; rfl
  rw [e] at hs ⊢
  rw [u64_or_nat _ _ (by omega) hB64, Nat.mul_comm, ← Nat.two_pow_add_eq_or_of_lt hB]
  push_cast; rfl
theorem len_le {y : Int} {L : Nat} (y2 : y < 18446744073709551616) (b1 : (2 : Int) ^ (L - 1) ≤ y) : L ≤ 64 := by
  by_cases hc : L ≤ 64
  · exact hc
  · obtain ⟨k, hk⟩ : ∃ k, L - 1 = 64 + k := ⟨L - 1 - 64, by omega⟩
    have hp : (0 : Int) < 2 ^ k := Int.pow_pos (by omega)
    rw [hk, Int.pow_add, show (2 : Int) ^ 64 = 18446744073709551616 from rfl] at b1
    omega
theorem two_steps {v D1 D2 R1 R2 X d d0 : Int} (h1 : v * D1 + R1 = X * 4294967296 + d) (h2 : v * D2 + R2 = R1 * 4294967296 + d0) : v * (D1 * 4294967296 + D2) + R2 = X * 18446744073709551616 + d * 4294967296 + d0 := by grind
end Go.Proofs.Ytmadffhjgbpojaa.Fix

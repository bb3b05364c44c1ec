/- Fix: roots, quotients by the document, differences, sines. -/
import Derived.Test.YtcclekhekdibjaaFixFun2
namespace Go.Proofs.Ytcclekhekdibjaa.Fix
open Go Go.Proofs.Ytcclekhekdibjaa.Sx
attribute [local irreducible] evFunc

theorem sqrt_ok {a : Int} (ha : In64 a) {K : Out → Prop} (h : K (.val (I64 (sqrtZ a)))) : Ev Γ0 37 [I64 a] K := by
  unfold Ev
  rw [vcSqrt]
  simp only [true_and, and_true, BR_nd, BR_pF, forall_eq, Subtype.forall, Subtype.exists, exists_prop]
  unfold In64 at ha
  have go : ∀ z : Int, z = sqrtZ a → K (.val (I64 z)) := fun z hz => by rw [hz]; exact h
  refine BR_d (fun e => go _ (by unfold sqrtZ; rw [if_pos e])) fun e => ?_
  have hA : 0 ≤ a * 4294967296 := by omega
  have hA' : a * 4294967296 < 79228162514264337593543950336 := by omega
  obtain ⟨r1, r2, r3, r4⟩ := root_spec hA hA'
  have hle := fun t (ht : (0 : Int) ≤ t) => le_root (t := t) hA hA' ht
  have hsq : sqrtZ a = root (a * 4294967296) := by unfold sqrtZ; rw [if_neg e]
  generalize root (a * 4294967296) = R at *
  have wa : IntKind.u64.wrap a = a := wu (by omega) (by omega)
  have wb : IntKind.u64.wrap (a * 4294967296) = a % 4294967296 * 4294967296 := by rw [IntKind.wrap_u64]; omega
  rw [wa, wb]
  refine ⟨⟨48, by omega, ?_, by decide⟩, fun k hk => BR_d (fun e2 => ?_) fun e2 => ?_⟩
  · have e48 : (2 : Int) ^ 48 = 281474976710656 := rfl
    rw [e48, Int.ediv_eq_zero_of_lt r1 r4]; rfl
  · cases k with
    | zero => simp at e2
    | succ j =>
      have hP : (0 : Int) < 2 ^ j := Int.pow_pos (by omega)
      have hP47 : (2 : Int) ^ j ≤ 140737488355328 := by
        have : (2 : Int) ^ j * 2 ^ (47 - j) = 140737488355328 := by rw [← Int.pow_add, show j + (47 - j) = 47 by omega]; rfl
        have h2 : (0 : Int) < 2 ^ (47 - j) := Int.pow_pos (by omega)
        have := Int.mul_le_mul_of_nonneg_left (show 1 ≤ (2 : Int) ^ (47 - j) by omega) (Int.le_of_lt hP)
        omega
      have hb : (2 : Int) ^ (j + 1) / 2 = 2 ^ j := by rw [Int.pow_succ]; omega
      have q0 : 0 ≤ R / 2 ^ (j + 1) := Int.ediv_nonneg r1 (by rw [Int.pow_succ]; omega)
      have q1 : R / 2 ^ (j + 1) * 2 ^ (j + 1) ≤ R := Int.ediv_mul_le _ (by rw [Int.pow_succ]; omega)
      have q2 : 0 ≤ R / 2 ^ (j + 1) * 2 ^ (j + 1) := Int.mul_nonneg q0 (by rw [Int.pow_succ]; omega)
      have hor := or_parts (a := R / 2 ^ (j + 1)) (b := 2 ^ j) (σ := j + 1) q0 (by omega) (by rw [Int.pow_succ]; omega) (by omega) (by omega)
      obtain ⟨s1, s2⟩ := root_step r1 j
      rw [hb, hor]
      generalize hT : R / 2 ^ (j + 1) * 2 ^ (j + 1) + 2 ^ j = T at *
      have T0 : 0 ≤ T := by omega
      have T1 : T < 18446744073709551616 := by omega
      have hTT : 0 ≤ T * T := Int.mul_nonneg T0 T0
      obtain ⟨t1, t2, t3⟩ := sq_test (t := T) (a := a) hTT (by omega) (by omega)
      have hb2 : ((2 : Int) ^ j).fdiv 2 = 2 ^ j / 2 := fd (by omega)
      simp only [inU64_of T0 T1, BR_true, hb2, fd (show (0 : Int) ≤ 4294967296 by omega)]
      refine BR_d (fun c1 => ?_) fun c1 => BR_d (fun c2 => BR_d (fun c3 => ?_) fun c3 => ?_) fun c2 => ?_
      · exact ⟨j, by omega, by omega, s1 ((hle T T0).2 (t1 c1)), rfl⟩
      · exact ⟨j, by omega, by omega, s1 ((hle T T0).2 ((t2 c2).1 c3)), rfl⟩
      · exact ⟨j, by omega, by omega, s2 (fun hc => c3 ((t2 c2).2 ((hle T T0).1 hc))), rfl⟩
      · exact ⟨j, by omega, by omega, s2 (fun hc => t3 c1 c2 ((hle T T0).1 hc)), rfl⟩
  · cases k with
    | zero =>
      refine go _ ?_
      rw [hsq, Int.pow_zero, Int.ediv_one, Int.mul_one, w64 (by unfold In64; omega)]
    | succ j =>
      exfalso
      have hP : (0 : Int) < 2 ^ j := Int.pow_pos (by omega)
      rw [Int.pow_succ] at e2
      omega
theorem rsqrt_ok {a : Int} (ha : In64 a) {K : Out → Prop} (h : K (.val (I64 (sqrtZ a)))) : Ev Γ0 51 [I64 a] K := by
  unfold Ev
  rw [vcRSqrt]
  simp only [true_and, and_true, BR_nd, BR_pF]
  unfold In64 at ha
  have go : ∀ z : Int, z = sqrtZ a → K (.val (I64 z)) := fun z hz => by rw [hz]; exact h
  refine BR_d (fun e => go _ (by unfold sqrtZ; rw [if_pos e])) fun e => ?_
  have hA : 0 ≤ a * 4294967296 := by omega
  have hA' : a * 4294967296 < 79228162514264337593543950336 := by omega
  obtain ⟨r1, r2, r3, r4⟩ := root_spec hA hA'
  have hle := fun t (ht : (0 : Int) ≤ t) => le_root (t := t) hA hA' ht
  have hsq : sqrtZ a = root (a * 4294967296) := by unfold sqrtZ; rw [if_neg e]
  generalize root (a * 4294967296) = R at *
  have wa : IntKind.u64.wrap a = a := wu (by omega) (by omega)
  have wb : IntKind.u64.wrap (a * 4294967296) = a % 4294967296 * 4294967296 := by rw [IntKind.wrap_u64]; omega
  rw [wa, wb]
  refine ⟨⟨⟨(0, 281474976710656), by omega, r1, r4, by omega⟩, rfl, rfl⟩, ?_⟩
  rintro ⟨⟨lo, hi⟩, p1, p2, p3, p4⟩
  simp only at p1 p2 p3 p4 ⊢
  rw [w64 (n := hi - lo) (by unfold In64; omega), w64 (n := lo + hi) (by unfold In64; omega), td (by omega), w64 (n := (lo + hi) / 2) (by unfold In64; omega)]
  refine BR_d (fun e2 => ?_) fun e2 => ?_
  · intro T hT
    have T0 : 0 ≤ T := by omega
    have T1 : T < 18446744073709551616 := by omega
    have hTT : 0 ≤ T * T := Int.mul_nonneg T0 T0
    obtain ⟨t1, t2, t3⟩ := sq_test (t := T) (a := a) hTT (by omega) (by omega)
    simp only [wu T0 T1, forall_eq, inU64_of T0 T1, BR_true, fd (show (0 : Int) ≤ 4294967296 by omega)]
    have yes : T ≤ R → ∃ s' : { p : Int × Int // 0 ≤ p.1 ∧ p.1 ≤ R ∧ R < p.2 ∧ p.2 ≤ 281474976710656 }, (s'.val.2 - s'.val.1).toNat < (hi - lo).toNat ∧ T = s'.val.1 ∧ hi = s'.val.2 := fun hc => ⟨⟨(T, hi), T0, hc, p3, p4⟩, by show (hi - T).toNat < _; omega, rfl, rfl⟩
    have no : ¬ T ≤ R → ∃ s' : { p : Int × Int // 0 ≤ p.1 ∧ p.1 ≤ R ∧ R < p.2 ∧ p.2 ≤ 281474976710656 }, (s'.val.2 - s'.val.1).toNat < (hi - lo).toNat ∧ lo = s'.val.1 ∧ T = s'.val.2 := fun hc => ⟨⟨(lo, T), p1, p2, by show R < T; omega, by show T ≤ _; omega⟩, by show (T - lo).toNat < _; omega, rfl, rfl⟩
    refine BR_d (fun c1 => ?_) fun c1 => BR_d (fun c2 => BR_d (fun c3 => ?_) fun c3 => ?_) fun c2 => ?_
    · exact yes ((hle T T0).2 (t1 c1))
    · exact yes ((hle T T0).2 ((t2 c2).1 c3))
    · exact no (fun hc => c3 ((t2 c2).2 ((hle T T0).1 hc)))
    · exact no (fun hc => t3 c1 c2 ((hle T T0).1 hc))
  · exact go _ (by omega)
/-! ## The document's quotients -/
theorem rdiv_ok {a b : Int} (ha : In64 a) (hb : In64 b) {K : Out → Prop} (h : K (.val (I64 (divZ a b)))) : Ev Γ0 44 [I64 a, I64 b] K := by
  unfold Ev
  rw [vcRDiv]
  have go : ∀ z : Int, z = divZ a b → K (.val (I64 z)) := fun z hz => by rw [hz]; exact h
  by_cases hb0 : b = 0
  · have d1 : decide (b = 0) = true := decide_eq_true hb0
    simp only [d1, BR_true, true_and]
    refine BR_d (fun e => go _ ?_) fun e => BR_d (fun e2 => go _ ?_) fun e2 => go _ ?_ <;> unfold divZ <;> rw [if_pos hb0]
    · rw [if_pos e]
    · rw [if_neg e, if_pos e2]
    · rw [if_neg e, if_neg e2]
  · have d1 : decide (b = 0) = false := decide_eq_false hb0
    obtain ⟨s1, s2⟩ := sizeZ_bd ha
    obtain ⟨t1, t2⟩ := sizeZ_bd hb
    have hy : 0 < sizeZ b := by unfold sizeZ; split <;> omega
    have hX : 0 ≤ sizeZ a * 4294967296 := by omega
    simp only [d1, BR_false, true_and, and_true, BR_nd, BR_pF, BR_nF, forall_eq, inI64_of ha, inI64_of hb, BR_true, Subtype.forall, Subtype.exists, exists_prop]
    have key := fun (m : Int) (neg : Bool) (hn : neg = negS a b) hm => div_satS (a := a) (b := b) (m := m) (neg := neg) hb0 hn hm
    have hbit := fun j => bit_step hX hy j
    have hhigh := fun j => bit_high s1 j
    have hlow := fun j (hj : j < 32) => bit_low s1 (j := j) hj
    generalize sizeZ b = y at *
    generalize sizeZ a = x at *
    have hQ : ∀ k : Nat, 0 ≤ x * 4294967296 / 2 ^ k / y ∧ x * 4294967296 / 2 ^ k / y ≤ 39614081257132168796771975168 ∧ 0 ≤ x * 4294967296 / 2 ^ k % y ∧ x * 4294967296 / 2 ^ k % y < y := by
      intro k
      have hP : (0 : Int) < 2 ^ k := Int.pow_pos (by omega)
      have a1 : 0 ≤ x * 4294967296 / 2 ^ k := Int.ediv_nonneg hX (by omega)
      have a2 : x * 4294967296 / 2 ^ k ≤ x * 4294967296 := Int.ediv_le_self _ hX
      have a3 : x * 4294967296 / 2 ^ k / y ≤ x * 4294967296 / 2 ^ k := Int.ediv_le_self _ a1
      exact ⟨Int.ediv_nonneg a1 (by omega), by omega, Int.emod_nonneg _ (by omega), Int.emod_lt_of_pos _ hy⟩
    refine ⟨⟨96, by omega, ?_⟩, fun k hk => BR_d (fun e => ?_) fun e => ?_⟩
    · have e96 : (2 : Int) ^ 96 = 79228162514264337593543950336 := rfl
      have : x * 4294967296 / 2 ^ 96 = 0 := by rw [e96]; omega
      simp only [this, Int.zero_ediv, Int.zero_emod, true_and]
      omega
    · obtain ⟨j, rfl⟩ : ∃ j, k = j + 1 := ⟨k - 1, by omega⟩
      obtain ⟨b1, b2, b3⟩ := hbit j
      obtain ⟨q1, q2, q3, q4⟩ := hQ (j + 1)
      obtain ⟨q1', q2', q3', q4'⟩ := hQ j
      have hj1 : ((j + 1 : Nat) : Int) - 1 - 1 = (j : Int) - 1 := by omega
      have hw1 : IntKind.u64.wrap (2 * (x * 4294967296 / 2 ^ (j + 1) % y)) = 2 * (x * 4294967296 / 2 ^ (j + 1) % y) := wu (by omega) (by omega)
      have hw2 : IntKind.u64.wrap (IntKind.u64.wrap (2 * (x * 4294967296 / 2 ^ (j + 1) / y / 18446744073709551616)) + (x * 4294967296 / 2 ^ (j + 1) / y % 18446744073709551616).fdiv 9223372036854775808) = 2 * (x * 4294967296 / 2 ^ (j + 1) / y) / 18446744073709551616 := by
        rw [fd (by omega), wu (n := 2 * _) (by omega) (by omega), wu (by omega) (by omega)]; omega
      have hw3 : IntKind.u64.wrap (2 * (x * 4294967296 / 2 ^ (j + 1) / y % 18446744073709551616)) = 2 * (x * 4294967296 / 2 ^ (j + 1) / y) % 18446744073709551616 := by
        rw [IntKind.wrap_u64]; omega
      rw [hw1, hw2, hw3, hj1, w64 (n := (j : Int) - 1) (by unfold In64; omega)]
      have fin : ∀ r : Int, r = 2 * (x * 4294967296 / 2 ^ (j + 1) % y) + x * 4294967296 / 2 ^ j % 2 →
          BR (decide (y ≤ r))
            (∃ a_1, a_1 ≤ 96 ∧ a_1 < j + 1 ∧ 2 * (x * 4294967296 / 2 ^ (j + 1) / y) / 18446744073709551616 = x * 4294967296 / 2 ^ a_1 / y / 18446744073709551616 ∧ IntKind.u64.wrap (2 * (x * 4294967296 / 2 ^ (j + 1) / y) % 18446744073709551616 + 1) = x * 4294967296 / 2 ^ a_1 / y % 18446744073709551616 ∧ IntKind.u64.wrap (r - y) = x * 4294967296 / 2 ^ a_1 % y ∧ (j : Int) - 1 = (a_1 : Int) - 1)
            (∃ a_1, a_1 ≤ 96 ∧ a_1 < j + 1 ∧ 2 * (x * 4294967296 / 2 ^ (j + 1) / y) / 18446744073709551616 = x * 4294967296 / 2 ^ a_1 / y / 18446744073709551616 ∧ 2 * (x * 4294967296 / 2 ^ (j + 1) / y) % 18446744073709551616 = x * 4294967296 / 2 ^ a_1 / y % 18446744073709551616 ∧ r = x * 4294967296 / 2 ^ a_1 % y ∧ (j : Int) - 1 = (a_1 : Int) - 1) := by
        intro r hr
        refine BR_d (fun c => ?_) fun c => ?_
        · obtain ⟨c1, c2⟩ := b2 (by omega)
          refine ⟨j, by omega, by omega, by omega, ?_, ?_, rfl⟩
          · rw [IntKind.wrap_u64]; omega
          · rw [wu (by omega) (by omega)]; omega
        · obtain ⟨c1, c2⟩ := b3 (by omega)
          exact ⟨j, by omega, by omega, by omega, by omega, by omega, rfl⟩
      refine BR_d (fun c => ?_) fun c => ?_
      · obtain ⟨i, rfl⟩ : ∃ i, j = i + 32 := ⟨j - 32, by omega⟩
        have hsh : IntKind.u64.wrap (IntKind.i64.wrap (((i + 32 + 1 : Nat) : Int) - 1 - 32)) = (i : Int) := by
          rw [w64 (by unfold In64; omega), wu (by omega) (by omega)]; omega
        rw [hsh, show min ((i : Int)).toNat 64 = i by omega]
        have hP : (0 : Int) < 2 ^ i := Int.pow_pos (by omega)
        have a1 : 0 ≤ x / 2 ^ i := Int.ediv_nonneg s1 (by omega)
        have a2 : x / 2 ^ i ≤ x := Int.ediv_le_self _ s1
        have hand : bits .and .u64 (x.fdiv (2 ^ i)) 1 = x * 4294967296 / 2 ^ (i + 32) % 2 := by
          rw [fd (by omega), hhigh i]
          obtain ⟨N, hN⟩ := Int.eq_ofNat_of_zero_le a1
          rw [hN]
          have := u64_and_nat N 1 (by omega) (by omega)
          rw [Nat.and_one_is_mod] at this
          exact this
        rw [hand]
        refine ⟨by omega, fin _ ?_⟩
        rw [wu (by omega) (by omega)]
      · refine fin _ ?_
        rw [hlow j (by omega), Int.add_zero]
    · obtain rfl : k = 0 := by omega
      obtain ⟨q1, q2, q3, q4⟩ := hQ 0
      simp only [Int.pow_zero, Int.ediv_one] at q1 q2 q3 q4 ⊢
      have i2 := inU64_of (show 0 ≤ x * 4294967296 / y % 18446744073709551616 by omega) (by omega)
      simp only [i2, BR_true]
      have leaf : ∀ (neg : Bool) (c : Int), neg = negS a b → (neg = true ∧ 0 < x * 4294967296 % y → c = 1) → (¬ (neg = true ∧ 0 < x * 4294967296 % y) → c = 0) → (0 ≤ x * 4294967296 / y / 18446744073709551616 ∧ x * 4294967296 / y / 18446744073709551616 < 18446744073709551615) ∧
          K (.val (I64 (satS (x * 4294967296 / y / 18446744073709551616 * 18446744073709551616 + x * 4294967296 / y % 18446744073709551616 + c) neg))) := by
        intro neg c hn hc1 hc2
        refine ⟨by omega, go _ (key _ _ hn ?_)⟩
        split
        · rename_i hh; rw [hc1 hh]; omega
        · rename_i hh; rw [hc2 hh]; omega
      refine BR_d (fun e1 => BR_d (fun e2 => BR_d (fun e3 => ?_) fun e3 => ?_) fun e2 => BR_d (fun e3 => ?_) fun e3 => ?_) fun e1 => BR_d (fun e2 => BR_d (fun e3 => ?_) fun e3 => ?_) fun e2 => BR_d (fun e3 => ?_) fun e3 => ?_
      all_goals exact leaf _ _ (by simp [negS, e1, e2]) (by simp [e3]) (by simp [e3])
theorem Γ1_ok : GammaOK Try.prog Γ1 := by
  intro f s h
  unfold Γ1 at h
  split at h
  · cases h
  · cases h; exact fn2_ok Γ0_ok fun a b ha hb K h => add_ok ha hb h -- fix.Add
  · cases h; exact fn2_ok Γ0_ok fun a b ha hb K h => radd_ok ha hb h -- lightwellref01.Add
  · cases h; exact fn2_ok Γ0_ok fun a b ha hb K h => rsub_ok ha hb h -- lightwellref01.Sub
  · cases h; exact fn1_ok Γ0_ok fun a ha K h => neg_ok ha h -- fix.Neg
  · cases h; exact fn1_ok Γ0_ok fun a ha K h => rneg_ok ha h -- lightwellref01.Neg
  · cases h; exact fn2_ok Γ0_ok fun a b ha hb K h => mul_ok ha hb h -- fix.Mul
  · cases h; exact fn2_ok Γ0_ok fun a b ha hb K h => rmul_ok ha hb h -- lightwellref01.Mul
  · cases h; exact fn2_ok Γ0_ok fun a b ha hb K h => div_ok ha hb h -- fix.Div
  · cases h; exact fn2_ok Γ0_ok fun a b ha hb K h => rdiv_ok ha hb h -- lightwellref01.Div
  · cases h; exact fn1_ok Γ0_ok fun a ha K h => sqrt_ok ha h -- fix.Sqrt
  · cases h; exact fn1_ok Γ0_ok fun a ha K h => rsqrt_ok ha h -- lightwellref01.Sqrt
  · exact Γ0_ok _ _ h
end Go.Proofs.Ytcclekhekdibjaa.Fix

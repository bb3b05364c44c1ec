/- Fix: sums, products, quotients, roots, sines. -/
import Derived.Test.YtcclekhekdibjaaFixSpecs
import Derived.Test.YtcclekhekdibjaaFix1Vc
namespace Go.Proofs.Ytcclekhekdibjaa.Fix
open Go Go.Proofs.Ytcclekhekdibjaa.Sx
attribute [local irreducible] evFunc

theorem add_ok {a b : Int} (ha : In64 a) (hb : In64 b) {K : Out → Prop} (h : K (.val (I64 (addZ a b)))) : Ev Γ0 35 [I64 a, I64 b] K := by
  unfold Ev
  rw [vcAdd]
  simp only [true_and]
  have go : ∀ z : Int, z = addZ a b → K (.val (I64 z)) := fun z hz => by rw [hz]; exact h
  unfold In64 at ha hb
  repeat' (first | refine BR_d (fun _ => ?_) fun _ => ?_ | (refine go _ ?_; (try simp only [IntKind.wrap_i64] at *); unfold addZ sat; omega))
theorem radd_ok {a b : Int} (ha : In64 a) (hb : In64 b) {K : Out → Prop} (h : K (.val (I64 (addZ a b)))) : Ev Γ0 49 [I64 a, I64 b] K := by
  unfold Ev
  rw [vcRAdd]
  simp only [true_and]
  have go : ∀ z : Int, z = addZ a b → K (.val (I64 z)) := fun z hz => by rw [hz]; exact h
  unfold In64 at ha hb
  repeat' (first | refine BR_d (fun _ => ?_) fun _ => ?_ | (refine go _ ?_; (try simp only [IntKind.wrap_i64] at *); unfold addZ sat; omega))
theorem rsub_ok {a b : Int} (ha : In64 a) (hb : In64 b) {K : Out → Prop} (h : K (.val (I64 (subZ a b)))) : Ev Γ0 45 [I64 a, I64 b] K := by
  unfold Ev
  rw [vcRSub]
  simp only [true_and]
  have go : ∀ z : Int, z = subZ a b → K (.val (I64 z)) := fun z hz => by rw [hz]; exact h
  unfold In64 at ha hb
  repeat' (first | refine BR_d (fun _ => ?_) fun _ => ?_ | (refine go _ ?_; (try simp only [IntKind.wrap_i64] at *); unfold subZ sat; omega))
theorem neg_ok {a : Int} (ha : In64 a) {K : Out → Prop} (h : K (.val (I64 (negZ a)))) : Ev Γ0 38 [I64 a] K := by
  unfold Ev
  rw [vcNeg]
  simp only [true_and]
  have go : ∀ z : Int, z = negZ a → K (.val (I64 z)) := fun z hz => by rw [hz]; exact h
  unfold In64 at ha
  repeat' (first | refine BR_d (fun _ => ?_) fun _ => ?_ | (refine go _ ?_; (try simp only [IntKind.wrap_i64] at *); unfold negZ sat; omega))
theorem rneg_ok {a : Int} (ha : In64 a) {K : Out → Prop} (h : K (.val (I64 (negZ a)))) : Ev Γ0 52 [I64 a] K := by
  unfold Ev
  rw [vcRNeg]
  simp only [true_and]
  have go : ∀ z : Int, z = negZ a → K (.val (I64 z)) := fun z hz => by rw [hz]; exact h
  unfold In64 at ha
  repeat' (first | refine BR_d (fun _ => ?_) fun _ => ?_ | (refine go _ ?_; (try simp only [IntKind.wrap_i64] at *); unfold negZ sat; omega))
/-! ## Products -/
theorem or32 {h l : Int} (h1 : 0 ≤ h) (l1 : 0 ≤ l) (l2 : l < 18446744073709551616) : bits .or .u64 (IntKind.u64.wrap (h * 4294967296)) (l / 4294967296) = h % 4294967296 * 4294967296 + l / 4294967296 := by
  have e : IntKind.u64.wrap (h * 4294967296) = h % 4294967296 * 2 ^ 32 := by rw [IntKind.wrap_u64, show (2 : Int) ^ 32 = 4294967296 from rfl]; omega
  rw [e, or_parts (by omega) (by omega) (by rw [show (2 : Int) ^ 32 = 4294967296 from rfl]; omega) (by rw [show (2 : Int) ^ 32 = 4294967296 from rfl]; omega) (by omega), show (2 : Int) ^ 32 = 4294967296 from rfl]
theorem mul_ok {a b : Int} (ha : In64 a) (hb : In64 b) {K : Out → Prop} (h : K (.val (I64 (mulZ a b)))) : Ev Γ0 36 [I64 a, I64 b] K := by
  unfold Ev
  rw [vcMul]
  obtain ⟨s1, s2⟩ := sizeZ_bd ha
  obtain ⟨t1, t2⟩ := sizeZ_bd hb
  obtain ⟨x1, x2⟩ := size_prod_bd ha hb
  simp only [true_and, BR_nd, BR_pF, forall_eq, inI64_of ha, inI64_of hb, inU64_of s1 (show sizeZ a < 18446744073709551616 by omega), inU64_of t1 (show sizeZ b < 18446744073709551616 by omega), BR_true, fd (show (0 : Int) ≤ 4294967296 by omega)]
  have key := fun (m : Int) (neg : Bool) (hn : neg = negS a b) hm => mul_satS (a := a) (b := b) (m := m) (neg := neg) hn hm x1
  generalize sizeZ a * sizeZ b = X at *
  rw [or32 (h := X / 18446744073709551616) (l := X % 18446744073709551616) (by omega) (by omega) (by omega)]
  have go : ∀ z : Int, z = mulZ a b → K (.val (I64 z)) := fun z hz => by rw [hz]; exact h
  have i1 := inU64_of (show 0 ≤ X / 18446744073709551616 / 4294967296 by omega) (by omega)
  have i2 := inU64_of (show 0 ≤ X / 18446744073709551616 % 4294967296 * 4294967296 + X % 18446744073709551616 / 4294967296 by omega) (by omega)
  have w0 : IntKind.u64.wrap (X % 18446744073709551616 * 4294967296) = X % 4294967296 * 4294967296 := by rw [IntKind.wrap_u64]; omega
  simp only [w0, i1, i2, BR_true]
  have leafP : negS a b = false → K (.val (I64 (satS (X / 18446744073709551616 / 4294967296 * 18446744073709551616 + (X / 18446744073709551616 % 4294967296 * 4294967296 + X % 18446744073709551616 / 4294967296)) false))) := by
    intro hn
    refine go _ (key _ _ hn.symm ?_)
    simp only [Bool.false_eq_true, false_and, if_false]
    omega
  have leafN : negS a b = true → X % 4294967296 * 4294967296 = 0 → K (.val (I64 (satS (X / 18446744073709551616 / 4294967296 * 18446744073709551616 + (X / 18446744073709551616 % 4294967296 * 4294967296 + X % 18446744073709551616 / 4294967296)) true))) := by
    intro hn hz
    refine go _ (key _ _ hn.symm ?_)
    rw [if_neg (by omega)]
    omega
  have leafR : negS a b = true → ¬ X % 4294967296 * 4294967296 = 0 → (0 ≤ X / 18446744073709551616 % 4294967296 * 4294967296 + X % 18446744073709551616 / 4294967296 ∧ (0 : Int) ≤ 1 ∧ (0 : Int) ≤ 0 ∧ (0 : Int) ≤ 1) ∧
      BR (inU64 (IntKind.u64.wrap (X / 18446744073709551616 / 4294967296 + (X / 18446744073709551616 % 4294967296 * 4294967296 + X % 18446744073709551616 / 4294967296 + 1 + 0) / 18446744073709551616)))
        (BR (inU64 ((X / 18446744073709551616 % 4294967296 * 4294967296 + X % 18446744073709551616 / 4294967296 + 1 + 0) % 18446744073709551616))
          (K (.val (I64 (satS (IntKind.u64.wrap (X / 18446744073709551616 / 4294967296 + (X / 18446744073709551616 % 4294967296 * 4294967296 + X % 18446744073709551616 / 4294967296 + 1 + 0) / 18446744073709551616) * 18446744073709551616 + (X / 18446744073709551616 % 4294967296 * 4294967296 + X % 18446744073709551616 / 4294967296 + 1 + 0) % 18446744073709551616) true)))) False) False := by
    intro hn hz
    refine ⟨⟨by omega, by omega, by omega, by omega⟩, ?_⟩
    rw [wu (by omega) (by omega), inU64_of (by omega) (by omega), inU64_of (by omega) (by omega), BR_true, BR_true]
    refine go _ (key _ _ hn.symm ?_)
    rw [if_pos ⟨rfl, by omega⟩]
    omega
  refine BR_d (fun e1 => BR_d (fun e2 => BR_d (fun e3 => ?_) fun e3 => ?_) fun e2 => BR_d (fun e3 => ?_) fun e3 => ?_) fun e1 => BR_d (fun e2 => BR_d (fun e3 => ?_) fun e3 => ?_) fun e2 => BR_d (fun e3 => ?_) fun e3 => ?_
  · exact leafP (by simp [negS, e1, e2])
  · exact leafP (by simp [negS, e1, e2])
  · exact leafN (by simp [negS, e1, e2]) e3
  · exact leafR (by simp [negS, e1, e2]) e3
  · exact leafN (by simp [negS, e1, e2]) e3
  · exact leafR (by simp [negS, e1, e2]) e3
  · exact leafP (by simp [negS, e1, e2])
  · exact leafP (by simp [negS, e1, e2])
theorem rmul_ok {a b : Int} (ha : In64 a) (hb : In64 b) {K : Out → Prop} (h : K (.val (I64 (mulZ a b)))) : Ev Γ0 50 [I64 a, I64 b] K := by
  unfold Ev
  rw [vcRMul]
  obtain ⟨s1, s2⟩ := sizeZ_bd ha
  obtain ⟨t1, t2⟩ := sizeZ_bd hb
  obtain ⟨x1, x2⟩ := size_prod_bd ha hb
  simp only [true_and, BR_nd, BR_pF, forall_eq, inI64_of ha, inI64_of hb, inU64_of s1 (show sizeZ a < 18446744073709551616 by omega), inU64_of t1 (show sizeZ b < 18446744073709551616 by omega), BR_true, fd (show (0 : Int) ≤ 4294967296 by omega)]
  have key := fun (m : Int) (neg : Bool) (hn : neg = negS a b) hm => mul_satS (a := a) (b := b) (m := m) (neg := neg) hn hm x1
  generalize sizeZ a * sizeZ b = X at *
  have go : ∀ z : Int, z = mulZ a b → K (.val (I64 z)) := fun z hz => by rw [hz]; exact h
  have e0 : bits .and .u64 (X % 18446744073709551616) 4294967295 = X % 4294967296 := by rw [low32 (by omega) (by omega)]; omega
  have e1 : IntKind.u64.wrap (IntKind.u64.wrap (X / 18446744073709551616 * 4294967296) + X % 18446744073709551616 / 4294967296) = X / 18446744073709551616 % 4294967296 * 4294967296 + X % 18446744073709551616 / 4294967296 := by rw [IntKind.wrap_u64, IntKind.wrap_u64]; omega
  have i2 := inU64_of (show 0 ≤ X / 18446744073709551616 % 4294967296 * 4294967296 + X % 18446744073709551616 / 4294967296 by omega) (by omega)
  simp only [e0, e1, i2, BR_true]
  have b0 : 0 ≤ X / 18446744073709551616 / 4294967296 ∧ X / 18446744073709551616 / 4294967296 < 18446744073709551615 := by omega
  have leaf : ∀ (neg : Bool) (c : Int), neg = negS a b → (c = if neg = true ∧ X % 4294967296 ≠ 0 then 1 else 0) → (0 ≤ X / 18446744073709551616 / 4294967296 ∧ X / 18446744073709551616 / 4294967296 < 18446744073709551615) ∧
      K (.val (I64 (satS (X / 18446744073709551616 / 4294967296 * 18446744073709551616 + (X / 18446744073709551616 % 4294967296 * 4294967296 + X % 18446744073709551616 / 4294967296) + c) neg))) := by
    intro neg c hn hc
    refine ⟨b0, go _ (key _ _ hn ?_)⟩
    rw [← hc]
    omega
  refine BR_d (fun e1 => BR_d (fun e2 => BR_d (fun e3 => ?_) fun e3 => ?_) fun e2 => BR_d (fun e3 => ?_) fun e3 => ?_) fun e1 => BR_d (fun e2 => BR_d (fun e3 => ?_) fun e3 => ?_) fun e2 => BR_d (fun e3 => ?_) fun e3 => ?_
  all_goals exact leaf _ _ (by simp [negS, e1, e2]) (by simp [e3])
/-! ## Quotients -/
theorem div_ok {a b : Int} (ha : In64 a) (hb : In64 b) {K : Out → Prop} (h : K (.val (I64 (divZ a b)))) : Ev Γ0 30 [I64 a, I64 b] K := by
  unfold Ev
  rw [vcDiv]
  have go : ∀ z : Int, z = divZ a b → K (.val (I64 z)) := fun z hz => by rw [hz]; exact h
  by_cases hb0 : b = 0
  · have d1 : decide (b = 0) = true := decide_eq_true hb0
    simp only [d1, BR_true, true_and]
    refine BR_d (fun e => go _ ?_) fun e => BR_d (fun e2 => go _ ?_) fun e2 => go _ ?_ <;> unfold divZ <;> rw [if_pos hb0]
    · rw [if_pos e]
    · rw [if_neg e, if_pos e2]
    · rw [if_neg e, if_neg e2]
  · have d1 : decide (b = 0) = false := decide_eq_false hb0
    obtain ⟨s1, s2⟩ := sizeZ_bd ha
    obtain ⟨t1, t2⟩ := sizeZ_bd hb
    have hy : 0 < sizeZ b := by unfold sizeZ; split <;> omega
    have hy0 : ¬ sizeZ b = 0 := by omega
    obtain ⟨p1, p2, p3, p4, p5, p6, p7, p8⟩ := div_parts (x := sizeZ a) (y := sizeZ b) s1 s2 hy
    have w1 : IntKind.u64.wrap (sizeZ a * 4294967296) = sizeZ a % 4294967296 * 4294967296 := by rw [IntKind.wrap_u64]; omega
    simp only [d1, BR_false, true_and, BR_nd, BR_pF, BR_nF, forall_eq, hy0, not_false_eq_true, inI64_of ha, inI64_of hb, inU64_of t1 (show sizeZ b < 18446744073709551616 by omega), BR_true, fd (show (0 : Int) ≤ 4294967296 by omega), w1,
      td (show 0 ≤ sizeZ a / 4294967296 by omega), tm (show 0 ≤ sizeZ a / 4294967296 by omega), wu p5 (show sizeZ a / 4294967296 / sizeZ b < 18446744073709551616 by omega), inU64_of p7 (show sizeZ a / 4294967296 % sizeZ b < 18446744073709551616 by omega), inU64_of (show 0 ≤ sizeZ a % 4294967296 * 4294967296 by omega) (show sizeZ a % 4294967296 * 4294967296 < 18446744073709551616 by omega), p8, inU64_of p3 p4, inU64_of p5 (show sizeZ a / 4294967296 / sizeZ b < 18446744073709551616 by omega)]
    have key := fun (m : Int) (neg : Bool) (hn : neg = negS a b) hm => div_satS (a := a) (b := b) (m := m) (neg := neg) hb0 hn hm
    rw [p1, p2] at key
    generalize (sizeZ a / 4294967296 % sizeZ b * 18446744073709551616 + sizeZ a % 4294967296 * 4294967296) / sizeZ b = q at *
    generalize (sizeZ a / 4294967296 % sizeZ b * 18446744073709551616 + sizeZ a % 4294967296 * 4294967296) % sizeZ b = r at *
    generalize sizeZ a / 4294967296 / sizeZ b = p at *
    have leafP : negS a b = false → K (.val (I64 (satS (p * 18446744073709551616 + q) false))) := fun hn => go _ (key _ _ hn.symm (by simp))
    have leafN : negS a b = true → ¬ 0 < r → K (.val (I64 (satS (p * 18446744073709551616 + q) true))) := fun hn hr => go _ (key _ _ hn.symm (by simp [hr]))
    have leafR : negS a b = true → 0 < r → (0 ≤ q ∧ (0 : Int) ≤ 1 ∧ (0 : Int) ≤ 0 ∧ (0 : Int) ≤ 1) ∧ BR (inU64 (IntKind.u64.wrap (p + (q + 1 + 0) / 18446744073709551616))) (BR (inU64 ((q + 1 + 0) % 18446744073709551616)) (K (.val (I64 (satS (IntKind.u64.wrap (p + (q + 1 + 0) / 18446744073709551616) * 18446744073709551616 + (q + 1 + 0) % 18446744073709551616) true)))) False) False := by
      intro hn hr
      refine ⟨⟨p3, by omega, by omega, by omega⟩, ?_⟩
      rw [wu (by omega) (by omega), inU64_of (by omega) (by omega), inU64_of (by omega) (by omega), BR_true, BR_true]
      refine go _ (key _ _ hn.symm ?_)
      rw [if_pos ⟨rfl, hr⟩]
      omega
    have all : BR (decide (a < 0)) (BR (decide (b < 0)) (K (.val (I64 (satS (p * 18446744073709551616 + q) false)))) (BR (decide (0 < r)) ((0 ≤ q ∧ (0 : Int) ≤ 1 ∧ (0 : Int) ≤ 0 ∧ (0 : Int) ≤ 1) ∧ BR (inU64 (IntKind.u64.wrap (p + (q + 1 + 0) / 18446744073709551616))) (BR (inU64 ((q + 1 + 0) % 18446744073709551616)) (K (.val (I64 (satS (IntKind.u64.wrap (p + (q + 1 + 0) / 18446744073709551616) * 18446744073709551616 + (q + 1 + 0) % 18446744073709551616) true)))) False) False) (K (.val (I64 (satS (p * 18446744073709551616 + q) true))))))
        (BR (decide (b < 0)) (BR (decide (0 < r)) ((0 ≤ q ∧ (0 : Int) ≤ 1 ∧ (0 : Int) ≤ 0 ∧ (0 : Int) ≤ 1) ∧ BR (inU64 (IntKind.u64.wrap (p + (q + 1 + 0) / 18446744073709551616))) (BR (inU64 ((q + 1 + 0) % 18446744073709551616)) (K (.val (I64 (satS (IntKind.u64.wrap (p + (q + 1 + 0) / 18446744073709551616) * 18446744073709551616 + (q + 1 + 0) % 18446744073709551616) true)))) False) False) (K (.val (I64 (satS (p * 18446744073709551616 + q) true))))) (K (.val (I64 (satS (p * 18446744073709551616 + q) false))))) := by
      refine BR_d (fun e1 => BR_d (fun e2 => ?_) fun e2 => BR_d (fun e3 => ?_) fun e3 => ?_) fun e1 => BR_d (fun e2 => BR_d (fun e3 => ?_) fun e3 => ?_) fun e2 => ?_
      · exact leafP (by simp [negS, e1, e2])
      · exact leafR (by simp [negS, e1, e2]) e3
      · exact leafN (by simp [negS, e1, e2]) e3
      · exact leafR (by simp [negS, e1, e2]) e3
      · exact leafN (by simp [negS, e1, e2]) e3
      · exact leafP (by simp [negS, e1, e2])
    exact all
end Go.Proofs.Ytcclekhekdibjaa.Fix

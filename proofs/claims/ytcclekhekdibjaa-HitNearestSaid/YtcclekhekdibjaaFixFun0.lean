/- Fix: sizes, signs, products and quotients of sizes. -/
import Derived.Test.YtcclekhekdibjaaFix0Vc
import Derived.Test.YtcclekhekdibjaaSxSpec
import Derived.Laws.BitsAllLaws
import Derived.Laws.Bits64
namespace Go.Proofs.Ytcclekhekdibjaa.Fix
open Go Go.Proofs.Ytcclekhekdibjaa.Sx
attribute [local irreducible] evFunc

theorem BR_nd {p : Prop} [Decidable p] {A B : Prop} : BR (!decide p) A B = BR (decide p) B A := by
  by_cases h : p <;> simp [BR, h]
theorem w64 {n : Int} (h : In64 n) : IntKind.i64.wrap n = n := by
  unfold In64 at h
  rw [IntKind.wrap_i64]; omega
theorem wu {n : Int} (h1 : 0 ≤ n) (h2 : n < 18446744073709551616) : IntKind.u64.wrap n = n := by
  rw [IntKind.wrap_u64]; omega
theorem inI64_of {a : Int} (h : In64 a) : inI64 a = true := by
  unfold In64 at h
  simp only [inI64, decide_eq_true_eq]; omega
theorem of_inI64 {a : Int} (h : inI64 a = true) : In64 a := by
  simp only [inI64, decide_eq_true_eq] at h; exact h
theorem inU64_of {a : Int} (h1 : 0 ≤ a) (h2 : a < 18446744073709551616) : inU64 a = true := by
  simp only [inU64, decide_eq_true_eq]; omega
theorem of_inU64 {a : Int} (h : inU64 a = true) : 0 ≤ a ∧ a < 18446744073709551616 := by
  simp only [inU64, decide_eq_true_eq] at h; exact h
theorem low32 {x : Int} (h1 : 0 ≤ x) (h2 : x < 18446744073709551616) : bits .and .u64 x 4294967295 = x % 4294967296 := by
  obtain ⟨n, rfl⟩ := Int.eq_ofNat_of_zero_le h1
  have := u64_and_nat n 4294967295 (by omega) (by omega)
  rw [show (4294967295 : Nat) = 2 ^ 32 - 1 from rfl, Nat.and_two_pow_sub_one_eq_mod] at this
  rw [show (4294967295 : Int) = ((2 ^ 32 - 1 : Nat) : Int) from rfl, this]
  omega
theorem fd {x c : Int} (hc : 0 ≤ c) : x.fdiv c = x / c := Int.fdiv_eq_ediv_of_nonneg _ hc
theorem td {x c : Int} (hx : 0 ≤ x) : x.tdiv c = x / c := Int.tdiv_eq_ediv_of_nonneg hx
theorem tm {x c : Int} (hx : 0 ≤ x) : x.tmod c = x % c := Int.tmod_eq_emod_of_nonneg hx

theorem size_ok {a : Int} (ha : In64 a) {K : Out → Prop} (h : K (.val (U64 (sizeZ a)))) : evFunc Try.prog (fun _ => none) ann 10 3 54 [I64 a] [] (inK none K) := by
  rw [vcSize]
  simp only [true_and]
  unfold In64 at ha
  refine BR_d (fun h1 => ?_) fun h1 => ?_
  · rw [show IntKind.u64.wrap (0 - IntKind.u64.wrap a) = sizeZ a by rw [IntKind.wrap_u64, IntKind.wrap_u64, sizeZ, if_pos h1]; omega]; exact h
  · rw [show IntKind.u64.wrap a = sizeZ a by rw [IntKind.wrap_u64, sizeZ, if_neg h1]; omega]; exact h
theorem rsize_ok {a : Int} (ha : In64 a) {K : Out → Prop} (h : K (.val (U64 (sizeZ a)))) : evFunc Try.prog (fun _ => none) ann 10 3 67 [I64 a] [] (inK none K) := by
  rw [vcRSize, ← vcSize]; exact size_ok ha h
theorem signed_ok {h l : Int} {n : Bool} (h1 : 0 ≤ h) (h2 : h < 18446744073709551616) (l1 : 0 ≤ l) (l2 : l < 18446744073709551616) {K : Out → Prop} (hK : K (.val (I64 (satS (h * 18446744073709551616 + l) n)))) :
    evFunc Try.prog (fun _ => none) ann 10 3 57 [U64 h, U64 l, Bo n] [] (inK none K) := by
  rw [vcSigned]
  simp only [true_and, IntKind.wrap_i64, IntKind.wrap_u64]
  have go : ∀ z : Int, z = satS (h * 18446744073709551616 + l) n → K (.val (I64 z)) := fun z hz => by rw [hz]; exact hK
  cases n with
  | true =>
    simp only [BR_true]
    refine BR_d (fun e => go _ ?_) fun e => BR_d (fun e2 => go _ ?_) fun e2 => go _ ?_ <;> simp only [satS, if_true] <;> omega
  | false =>
    simp only [BR_false]
    refine BR_d (fun e => go _ ?_) fun e => BR_d (fun e2 => go _ ?_) fun e2 => go _ ?_ <;> simp only [satS, Bool.false_eq_true, if_false] <;> omega
theorem in_ok {h l : Int} {n r : Bool} (h1 : 0 ≤ h) (h2 : h < 18446744073709551615) (l1 : 0 ≤ l) (l2 : l < 18446744073709551616) {K : Out → Prop} (hK : K (.val (I64 (satS (h * 18446744073709551616 + l + (if (n && r) = true then 1 else 0)) n)))) :
    evFunc Try.prog (fun _ => none) ann 10 3 68 [U64 h, U64 l, Bo n, Bo r] [] (inK none K) := by
  rw [vcIn]
  simp only [true_and, IntKind.wrap_i64, IntKind.wrap_u64]
  have go : ∀ z : Int, z = satS (h * 18446744073709551616 + l + (if (n && r) = true then 1 else 0)) n → K (.val (I64 z)) := fun z hz => by rw [hz]; exact hK
  cases n <;> cases r <;> simp only [BR_true, BR_false, Bool.and_true, Bool.and_false, Bool.false_and, Bool.true_and, if_true, Bool.false_eq_true, if_false, Int.add_zero] at go ⊢ <;>
    (repeat' (first | refine BR_d (fun e => ?_) fun e => ?_ | (refine go _ ?_; simp only [satS, if_true, Bool.false_eq_true, if_false]; omega)))
theorem mul64_ok {x y : Int} (x1 : 0 ≤ x) (x2 : x < 18446744073709551616) (y1 : 0 ≤ y) (y2 : y < 18446744073709551616) {K : Out → Prop} (h : K (.val (.tuple [U64 (x * y / 18446744073709551616), U64 (x * y % 18446744073709551616)]))) :
    evFunc Try.prog (fun _ => none) ann 10 3 62 [U64 x, U64 y] [] (inK none K) := by
  obtain ⟨⟨a1, a2, a3, a4, a5, a6, a7, a8, a9, a10, a11, a12⟩, e1, e2, e3⟩ := prod_parts x1 x2 y1 y2
  obtain ⟨h1, h2, h3, h4, h5⟩ := halves x1 x2
  obtain ⟨g1, g2, g3, g4, g5⟩ := halves y1 y2
  rw [vcMul64]
  simp only [true_and, forall_eq, low32 x1 x2, low32 y1 y2, fd (show (0 : Int) ≤ 4294967296 by omega)]
  rw [wu a2 a3, wu (n := x / 4294967296 * (y % 4294967296)) a4 (by omega), wu a9 a10, low32 a9 a10, wu a6 (by omega), wu (n := x / 4294967296 * (y / 4294967296)) a1 (by omega)]
  rw [Int.add_comm ((x / 4294967296 * (y % 4294967296) + x % 4294967296 * (y % 4294967296) / 4294967296) % 4294967296) (x % 4294967296 * (y / 4294967296))]
  rw [wu a11 a12, wu (n := x / 4294967296 * (y / 4294967296) + _) (by omega) (by omega), wu (by omega) (by omega), ← e1, IntKind.wrap_u64]
  exact h
theorem product_ok {x y : Int} (x1 : 0 ≤ x) (x2 : x < 18446744073709551616) (y1 : 0 ≤ y) (y2 : y < 18446744073709551616) {K : Out → Prop} (h : K (.val (.tuple [U64 (x * y / 18446744073709551616), U64 (x * y % 18446744073709551616)]))) :
    evFunc Try.prog (fun _ => none) ann 10 3 69 [U64 x, U64 y] [] (inK none K) := by
  obtain ⟨⟨a1, a2, a3, a4, a5, a6, a7, a8, a9, a10, a11, a12⟩, e1, e2, e3⟩ := prod_parts x1 x2 y1 y2
  obtain ⟨h1, h2, h3, h4, h5⟩ := halves x1 x2
  obtain ⟨g1, g2, g3, g4, g5⟩ := halves y1 y2
  rw [vcProduct]
  simp only [true_and, forall_eq, low32 x1 x2, low32 y1 y2, fd (show (0 : Int) ≤ 4294967296 by omega)]
  rw [wu a2 a3, wu (n := x / 4294967296 * (y % 4294967296)) a4 (by omega), wu a9 a10, low32 a9 a10, wu a6 (by omega), wu (n := x / 4294967296 * (y / 4294967296)) a1 (by omega)]
  rw [wu a11 a12, wu (n := x / 4294967296 * (y / 4294967296) + _) (by omega) (by omega), wu (by omega) (by omega), ← e1, low32 a2 a3]
  have e4 : IntKind.u64.wrap (IntKind.u64.wrap ((x % 4294967296 * (y / 4294967296) + (x / 4294967296 * (y % 4294967296) + x % 4294967296 * (y % 4294967296) / 4294967296) % 4294967296) * 4294967296) + x % 4294967296 * (y % 4294967296) % 4294967296) = x * y % 18446744073709551616 := by
    rw [IntKind.wrap_u64, IntKind.wrap_u64, e2]; omega
  rw [e4]
  exact h
theorem over_ok {x : Int} {K : Out → Prop} (h : K (.val (Bo (decide (x < 0))))) : evFunc Try.prog (fun _ => none) ann 10 3 61 [I64 x] [] (inK none K) := by
  rw [vcOver]
  simp only [true_and]
  refine BR_d (fun e => ?_) fun e => ?_
  · rw [decide_eq_true e] at h; exact h
  · rw [decide_eq_false e] at h; exact h
theorem tdm (a b : Int) : a.tdiv b * b + a.tmod b = a := by
  have := Int.mul_tdiv_add_tmod a b
  grind
theorem tdiv_exact {b k : Int} (hb : 0 < b) : (b * k).tdiv b = k := by
  rw [Int.mul_comm]; exact Int.mul_tdiv_cancel _ (by omega)
end Go.Proofs.Ytcclekhekdibjaa.Fix

/- Fix: sizes, signs, products and quotients of sizes. -/
import Derived.Test.YtmadffhjgbpojaaFix0Vc
import Derived.Test.YtmadffhjgbpojaaSxSpec
import Derived.Laws.BitsAllLaws
import Derived.Laws.Bits64
namespace Go.Proofs.Ytmadffhjgbpojaa.Fix
open Go Go.Proofs.Ytmadffhjgbpojaa.Sx
attribute [local irreducible] evFunc

theorem BR_nd {p : Prop} [Decidable p] {A B : Prop} : BR (!decide p) A B = BR (decide p) B A := by
  by_cases h : p <;> simp [BR, h]
theorem w64 {n : Int} (h : In64 n) : IntKind.i64.wrap n = n := by
  unfold In64 at h
  rw [IntKind.wrap_i64]; omega
theorem wu {n : Int} (h1 : 0 ≤ n) (h2 : n < 18446744073709551616) : IntKind.u64.wrap n = n := by
  rw [IntKind.wrap_u64]; omega
theorem inI64_of {a : Int} (h : In64 a) : inI64 a = true := by
  unfold In64 at h
  simp only [inI64, decide_eq_true_eq]; omega
theorem of_inI64 {a : Int} (h : inI64 a = true) : In64 a := by
  simp only [inI64, decide_eq_true_eq] at h; exact h
theorem inU64_of {a : Int} (h1 : 0 ≤ a) (h2 : a < 18446744073709551616) : inU64 a = true := by
  simp only [inU64, decide_eq_true_eq]; omega
theorem of_inU64 {a : Int} (h : inU64 a = true) : 0 ≤ a ∧ a < 18446744073709551616 := by
  simp only [inU64, decide_eq_true_eq] at h; exact h
theorem low32 {x : Int} (h1 : 0 ≤ x) (h2 : x < 18446744073709551616) : bits .and .u64 x 4294967295 = x % 4294967296 := by
  obtain ⟨n, rfl⟩ := Int.eq_ofNat_of_zero_le h1
  have := u64_and_nat n 4294967295 (by omega) (by omega)
  rw [show (4294967295 : Nat) = 2 ^ 32 - 1 from rfl, Nat.and_two_pow_sub_one_eq_mod] at this
  rw [show (4294967295 : Int) = ((2 ^ 32 - 1 : Nat) : Int) from rfl, this]
  omega
theorem fd {x c : Int} (hc : 0 ≤ c) : x.fdiv c = x / c := Int.fdiv_eq_ediv_of_nonneg _ hc
theorem td {x c : Int} (hx : 0 ≤ x) : x.tdiv c = x / c := Int.tdiv_eq_ediv_of_nonneg hx
theorem tm {x c : Int} (hx : 0 ≤ x) : x.tmod c = x % c := Int.tmod_eq_emod_of_nonneg hx

theorem over_ok {x : Int} {K : Out → Prop} (h : K (.val (Bo (decide (x < 0))))) : evFunc Try.prog (fun _ => none) ann 10 3 47 [I64 x] [] (inK none K) := by
  rw [vcOver]
  simp only [true_and]
  refine BR_d (fun e => ?_) fun e => ?_
  · rw [decide_eq_true e] at h; exact h
  · rw [decide_eq_false e] at h; exact h
theorem tdm (a b : Int) : a.tdiv b * b + a.tmod b = a := by
  have := Int.mul_tdiv_add_tmod a b
  grind
theorem tdiv_exact {b k : Int} (hb : 0 < b) : (b * k).tdiv b = k := by
  rw [Int.mul_comm]; exact Int.mul_tdiv_cancel _ (by omega)
end Go.Proofs.Ytmadffhjgbpojaa.Fix

/- Fix: how long a number is, and the long division of sizes. -/
import Derived.Test.YtcclekhekdibjaaFixFun0
namespace Go.Proofs.Ytcclekhekdibjaa.Fix
open Go Go.Proofs.Ytcclekhekdibjaa.Sx
attribute [local irreducible] evFunc

theorem tab0_nat : ∀ n : Nat, n < 256 → (tab0.data.toList.getD n 0).toNat = if n = 0 then 0 else n.log2 + 1 := by decide +kernel
theorem tab0_at {y : Int} (h1 : 0 ≤ y) (h2 : y < 256) : ((tab0.data.toList.getD y.toNat 0).toNat : Int) = lenZ y := by
  rw [tab0_nat y.toNat (by omega)]
  unfold lenZ
  by_cases h : y ≤ 0
  · rw [if_pos h, if_pos (by omega)]; rfl
  · rw [if_neg h, if_neg (by omega)]; simp
theorem lenZ_bd {y : Int} (h : 0 < y) : ∃ L : Nat, lenZ y = L ∧ 1 ≤ L ∧ (2 : Int) ^ (L - 1) ≤ y ∧ y < 2 ^ L := by
  obtain ⟨n, rfl⟩ := Int.eq_ofNat_of_zero_le (show 0 ≤ y by omega)
  refine ⟨n.log2 + 1, ?_, by omega, ?_, ?_⟩
  · unfold lenZ; rw [if_neg (by omega), Int.toNat_natCast]; simp
  · have := Nat.log2_self_le (n := n) (by omega)
    rw [Nat.add_sub_cancel]
    exact_mod_cast this
  · have := Nat.lt_log2_self (n := n)
    exact_mod_cast this
theorem lenZ_eq {y : Int} {L : Nat} (hL : 1 ≤ L) (h1 : (2 : Int) ^ (L - 1) ≤ y) (h2 : y < 2 ^ L) : lenZ y = L := by
  have hp : (0 : Int) < 2 ^ (L - 1) := Int.pow_pos (by omega)
  obtain ⟨n, rfl⟩ := Int.eq_ofNat_of_zero_le (show 0 ≤ y by omega)
  have hn : n ≠ 0 := by omega
  unfold lenZ
  rw [if_neg (by omega), Int.toNat_natCast, (Nat.log2_eq_iff (k := L - 1) hn).2 ⟨by exact_mod_cast h1, by rw [show L - 1 + 1 = L by omega]; exact_mod_cast h2⟩]
  omega
theorem lenZ_shift {x : Int} (k : Nat) (h : (2 : Int) ^ k ≤ x) : lenZ x = k + lenZ (x / 2 ^ k) := by
  have hp : (0 : Int) < 2 ^ k := Int.pow_pos (by omega)
  have h1 : 0 < x / 2 ^ k := by
    have : 1 ≤ x / 2 ^ k := (Int.le_ediv_iff_mul_le hp).2 (by omega)
    omega
  obtain ⟨L, e, hL, b1, b2⟩ := lenZ_bd h1
  rw [e, show ((k : Int) + L) = ((L + k : Nat) : Int) by omega]
  refine lenZ_eq (by omega) ?_ ?_
  · rw [show L + k - 1 = (L - 1) + k by omega, Int.pow_add]
    exact (Int.le_ediv_iff_mul_le hp).1 b1
  · rw [Int.pow_add]
    have := (Int.ediv_lt_iff_lt_mul hp).1 b2
    exact this
theorem len64_ok {x : Int} (x1 : 0 ≤ x) (x2 : x < 18446744073709551616) {K : Out → Prop} (h : K (.val (I64 (lenZ x)))) : evFunc Try.prog (fun _ => none) ann 10 3 75 [U64 x] [] (inK none K) := by
  rw [vcLen64]
  simp only [true_and, fd (show (0 : Int) ≤ 4294967296 by omega), fd (show (0 : Int) ≤ 65536 by omega), fd (show (0 : Int) ≤ 256 by omega), IntKind.wrap_u8', BR_pF]
  have s32 := fun (y : Int) (h : (4294967296 : Int) ≤ y) => lenZ_shift (x := y) 32 h
  have s16 := fun (y : Int) (h : (65536 : Int) ≤ y) => lenZ_shift (x := y) 16 h
  have s8 := fun (y : Int) (h : (256 : Int) ≤ y) => lenZ_shift (x := y) 8 h
  simp only [show ((2 : Int) ^ 32) = 4294967296 from rfl, show ((2 : Int) ^ 16) = 65536 from rfl, show ((2 : Int) ^ 8) = 256 from rfl] at s32 s16 s8
  have small : ∀ y : Int, 0 ≤ y → y < 256 → 0 ≤ lenZ y ∧ lenZ y ≤ 8 := by
    intro y h1 h2
    rw [← tab0_at h1 h2, tab0_nat _ (by omega)]
    split
    · omega
    · have := (Nat.log2_lt (n := y.toNat) (k := 8) (by omega)).2 (by omega)
      omega
  have leaf : ∀ (c y : Int), lenZ x = c + lenZ y → 0 ≤ y → y < 256 → 0 ≤ c → c ≤ 56 → (0 ≤ y % 256 ∧ y % 256 < 256) ∧ K (Out.val (SV.d (D.int IntKind.i64 (IntKind.i64.wrap (c + IntKind.i64.wrap (↑(tab0.data.toList.getD (y % 256).toNat 0).toNat : Int)))))) := by
    intro c y e h1 h2 h3 h4
    have := small y h1 h2
    rw [Int.emod_eq_of_lt h1 h2, tab0_at h1 h2, w64 (n := lenZ y) (by unfold In64; omega), w64 (by unfold In64; omega), ← e]
    exact ⟨⟨h1, h2⟩, h⟩
  refine BR_d (fun a => ?_) fun a => ?_
  · have e1 := s32 x (by omega)
    refine BR_d (fun b => ?_) fun b => ?_
    · have e2 := s16 _ b
      refine BR_d (fun c => ?_) fun c => ?_
      · have e3 := s8 _ c
        exact leaf 56 _ (by omega) (by omega) (by omega) (by omega) (by omega)
      · exact leaf 48 _ (by omega) (by omega) (by omega) (by omega) (by omega)
    · refine BR_d (fun c => ?_) fun c => ?_
      · have e3 := s8 _ c
        exact leaf 40 _ (by omega) (by omega) (by omega) (by omega) (by omega)
      · exact leaf 32 _ (by omega) (by omega) (by omega) (by omega) (by omega)
  · refine BR_d (fun b => ?_) fun b => ?_
    · have e2 := s16 _ b
      refine BR_d (fun c => ?_) fun c => ?_
      · have e3 := s8 _ c
        exact leaf 24 _ (by omega) (by omega) (by omega) (by omega) (by omega)
      · exact leaf 16 _ (by omega) (by omega) (by omega) (by omega) (by omega)
    · refine BR_d (fun c => ?_) fun c => ?_
      · have e3 := s8 _ c
        exact leaf 8 _ (by omega) (by omega) (by omega) (by omega) (by omega)
      · exact leaf 0 _ (by omega) (by omega) (by omega) (by omega) (by omega)
/-! ## The long division -/
theorem dig_start {U d v v1 v0 : Int} (hv : v = v1 * 4294967296 + v0) (h1 : 2147483648 ≤ v1) (h1' : v1 < 4294967296) (h0 : 0 ≤ v0) (h0' : v0 < 4294967296) (hU : 0 ≤ U) (hUv : U < v) (hd : 0 ≤ d) (hd' : d < 4294967296) (hv' : v < 18446744073709551616) :
    Dig U d v v1 (IntKind.u64.wrap (U.tdiv v1), IntKind.u64.wrap (U - IntKind.u64.wrap (IntKind.u64.wrap (U.tdiv v1) * v1))) := by
  obtain ⟨_, _, a3, a4, _⟩ := digit hv h1 h1' h0 h0' hU hUv hd hd'
  have q1 := Int.mul_ediv_add_emod U v1
  have q2 := Int.emod_nonneg U (show v1 ≠ 0 by omega)
  have q3 := Int.emod_lt_of_pos U (show 0 < v1 by omega)
  have q4 : 0 ≤ U / v1 := Int.ediv_nonneg hU (by omega)
  have q5 : U / v1 * v1 = v1 * (U / v1) := Int.mul_comm _ _
  rw [td hU, wu q4 (by omega), wu (n := U / v1 * v1) (by rw [q5]; have := Int.mul_nonneg (show 0 ≤ v1 by omega) q4; omega) (by omega), wu (by omega) (by omega)]
  exact ⟨a3, a4, rfl, by omega, by omega⟩
theorem dig_loop {U d v v1 v0 : Int} (hv : v = v1 * 4294967296 + v0) (h1 : 2147483648 ≤ v1) (h1' : v1 < 4294967296) (h0 : 0 ≤ v0) (h0' : v0 < 4294967296) (hU : 0 ≤ U) (hUv : U < v) (hd : 0 ≤ d) (hd' : d < 4294967296) (hv' : v < 18446744073709551616)
    (q r : Int) (hD : Dig U d v v1 (q, r)) :
    BR (decide (4294967296 ≤ q))
      (∀ a, a = IntKind.u64.wrap (q - 1) → ∀ b, b = IntKind.u64.wrap (r + v1) → BR (decide (4294967296 ≤ b)) (a = (U * 4294967296 + d) / v) (∃ q' r', Dig U d v v1 (q', r') ∧ q'.toNat < q.toNat ∧ a = q' ∧ b = r'))
      (BR (decide (IntKind.u64.wrap (IntKind.u64.wrap (4294967296 * r) + d) < IntKind.u64.wrap (q * v0)))
        (∀ a, a = IntKind.u64.wrap (q - 1) → ∀ b, b = IntKind.u64.wrap (r + v1) → BR (decide (4294967296 ≤ b)) (a = (U * 4294967296 + d) / v) (∃ q' r', Dig U d v v1 (q', r') ∧ q'.toNat < q.toNat ∧ a = q' ∧ b = r'))
        (q = (U * 4294967296 + d) / v)) := by
  obtain ⟨a1, a2, a3, a4, a5⟩ := digit hv h1 h1' h0 h0' hU hUv hd hd'
  obtain ⟨d1, d2, d3, d4, d5⟩ := hD
  obtain ⟨c1, c2, c3⟩ := a5 q r d1 d3 d4
  have step : (U * 4294967296 + d) / v ≤ q - 1 → ∀ a, a = IntKind.u64.wrap (q - 1) → ∀ b, b = IntKind.u64.wrap (r + v1) → BR (decide (4294967296 ≤ b)) (a = (U * 4294967296 + d) / v) (∃ q' r', Dig U d v v1 (q', r') ∧ q'.toNat < q.toNat ∧ a = q' ∧ b = r') := by
    intro hq a ha b hb
    rw [wu (by omega) (by omega)] at ha hb
    subst ha; subst hb
    have hr : r + v1 = U - (q - 1) * v1 := by
      have d3 : r = U - q * v1 := d3
      grind
    obtain ⟨_, _, e3⟩ := a5 (q - 1) (r + v1) hq hr (by omega)
    refine BR_d (fun h => e3 h (by omega)) fun h => ⟨q - 1, r + v1, ⟨hq, by show q - 1 ≤ _; omega, hr, by show 0 ≤ r + v1; omega, by show r + v1 < _; omega⟩, by omega, rfl, rfl⟩
  refine BR_d (fun h => step (c1 (.inl h))) fun h => ?_
  have hqv : 0 ≤ q * v0 ∧ q * v0 < 18446744073709551616 := by
    have := mul_bd (x := q) (y := v0) (by omega) (by omega) h0 (by omega)
    omega
  rw [wu (n := 4294967296 * r) (by omega) (by omega), wu (n := 4294967296 * r + d) (by omega) (by omega), wu hqv.1 hqv.2]
  exact BR_d (fun e => step (c1 (.inr e))) fun e => c2 h e
theorem pow_split {σ : Nat} (h : σ ≤ 64) : (2 : Int) ^ σ * 2 ^ (64 - σ) = 18446744073709551616 := by
  rw [← Int.pow_add, show σ + (64 - σ) = 64 by omega]; rfl
theorem or_parts {a b : Int} {σ : Nat} (ha : 0 ≤ a) (hb : 0 ≤ b) (hb' : b < 2 ^ σ) (hs : a * 2 ^ σ < 18446744073709551616) (hσ : σ ≤ 64) : bits .or .u64 (a * 2 ^ σ) b = a * 2 ^ σ + b := by
  obtain ⟨A, rfl⟩ := Int.eq_ofNat_of_zero_le ha
  obtain ⟨B, rfl⟩ := Int.eq_ofNat_of_zero_le hb
  have hB : B < 2 ^ σ := by exact_mod_cast hb'
  have hB64 : B < 18446744073709551616 := Nat.lt_of_lt_of_le hB (Nat.le_trans (Nat.pow_le_pow_right (by omega) hσ) (by decide))
  have e : ((A : Int) * 2 ^ σ) = ((A * 2 ^ σ : Nat) : Int) := by push_cast; rfl
  rw [e] at hs ⊢
  rw [u64_or_nat _ _ (by omega) hB64, Nat.mul_comm, ← Nat.two_pow_add_eq_or_of_lt hB]
  push_cast; rfl
theorem len_le {y : Int} {L : Nat} (y2 : y < 18446744073709551616) (b1 : (2 : Int) ^ (L - 1) ≤ y) : L ≤ 64 := by
  by_cases hc : L ≤ 64
  · exact hc
  · obtain ⟨k, hk⟩ : ∃ k, L - 1 = 64 + k := ⟨L - 1 - 64, by omega⟩
    have hp : (0 : Int) < 2 ^ k := Int.pow_pos (by omega)
    rw [hk, Int.pow_add, show (2 : Int) ^ 64 = 18446744073709551616 from rfl] at b1
    omega
theorem two_steps {v D1 D2 R1 R2 X d d0 : Int} (h1 : v * D1 + R1 = X * 4294967296 + d) (h2 : v * D2 + R2 = R1 * 4294967296 + d0) : v * (D1 * 4294967296 + D2) + R2 = X * 18446744073709551616 + d * 4294967296 + d0 := by grind
theorem div64_ok {h l y : Int} (h1 : 0 ≤ h) (hy : h < y) (y2 : y < 18446744073709551616) (l1 : 0 ≤ l) (l2 : l < 18446744073709551616) {K : Out → Prop}
    (hK : K (.val (.tuple [U64 ((h * 18446744073709551616 + l) / y), U64 ((h * 18446744073709551616 + l) % y)]))) : evFunc Try.prog Γl ann 10 3 55 [U64 h, U64 l, U64 y] [] (inK none K) := by
  rw [vcDiv64]
  have hy0 : ¬ y = 0 := by omega
  have hyh : ¬ y ≤ h := by omega
  simp only [true_and, and_true, BR_nF, hy0, hyh, not_false_eq_true, inU64_of (show 0 ≤ y by omega) y2, BR_true, exists_const, forall_const]
  intro n0 _ n1 _
  refine BR_d (fun e => ?_) fun e => ?_
  · subst e
    have q1 : 0 ≤ l / y := Int.ediv_nonneg l1 (by omega)
    have q2 : l / y ≤ l := Int.ediv_le_self _ l1
    simp only [forall_eq]
    rw [td l1, tm l1, wu q1 (by omega)]
    rw [Int.zero_mul, Int.zero_add] at hK
    exact hK
  · obtain ⟨L, eL, hL1, b1, b2⟩ := lenZ_bd (show 0 < y by omega)
    have hL64 := len_le y2 b1
    intro n hn s hs
    subst hn
    rw [eL, w64 (by unfold In64; omega), wu (by omega) (by omega)] at hs
    obtain ⟨σ, hσ⟩ : ∃ σ : Nat, 64 - L = σ := ⟨_, rfl⟩
    have hs : s = (σ : Int) := by omega
    subst hs
    have hσ63 : σ ≤ 63 := by omega
    have hmin : min ((σ : Int)).toNat 64 = σ := by omega
    have hmin2 : min (IntKind.u64.wrap (64 - (σ : Int))).toNat 64 = 64 - σ := by rw [wu (by omega) (by omega)]; omega
    have hPQ := pow_split (σ := σ) (by omega)
    rw [hmin, hmin2]
    have hP : (0 : Int) < 2 ^ σ := Int.pow_pos (by omega)
    have hQ : (0 : Int) < 2 ^ (64 - σ) := Int.pow_pos (by omega)
    -- the divisor fills its bits
    have hv63 : 9223372036854775808 ≤ y * 2 ^ σ := by
      have e1 : (2 : Int) ^ (L - 1) * 2 ^ σ = 9223372036854775808 := by rw [← Int.pow_add, show L - 1 + σ = 63 by omega]; rfl
      have := Int.mul_le_mul_of_nonneg_right b1 (Int.le_of_lt hP)
      omega
    have hv64 : y * 2 ^ σ < 18446744073709551616 := by
      have e1 : (2 : Int) ^ L * 2 ^ σ = 18446744073709551616 := by rw [← Int.pow_add, show L + σ = 64 by omega]; rfl
      have := Int.mul_lt_mul_of_pos_right b2 hP
      omega
    have hhP : h * 2 ^ σ + 2 ^ σ ≤ y * 2 ^ σ := by
      have := Int.mul_le_mul_of_nonneg_right (show h + 1 ≤ y by omega) (Int.le_of_lt hP)
      rw [Int.add_mul, Int.one_mul] at this; exact this
    have hh0 : 0 ≤ h * 2 ^ σ := Int.mul_nonneg h1 (Int.le_of_lt hP)
    have hlq : 0 ≤ l / 2 ^ (64 - σ) := Int.ediv_nonneg l1 (Int.le_of_lt hQ)
    have hlq2 : l / 2 ^ (64 - σ) < 2 ^ σ := Int.ediv_lt_of_lt_mul hQ (by omega)
    rw [wu (n := y * 2 ^ σ) (by omega) hv64, wu (n := h * 2 ^ σ) hh0 (by omega), fd (c := 2 ^ (64 - σ)) (Int.le_of_lt hQ), or_parts h1 hlq hlq2 (by omega) (by omega)]
    refine ⟨by omega, fun v hv v1 hv1 v0 hv0 => ⟨by omega, by rw [wu (by omega) (by omega)]; omega, fun U hU => ⟨by omega, fun z hz d hd d0 hd0 => ?_⟩⟩⟩
    have hlm0 := Int.emod_nonneg l (show (2 : Int) ^ (64 - σ) ≠ 0 by omega)
    have hlm1 := Int.emod_lt_of_pos l hQ
    have hle := Int.mul_ediv_add_emod l (2 ^ (64 - σ))
    have hz' : z = l % 2 ^ (64 - σ) * 2 ^ σ := by
      rw [hz, IntKind.wrap_u64]
      have e1 : l * 2 ^ σ = l / 2 ^ (64 - σ) * 18446744073709551616 + l % 2 ^ (64 - σ) * 2 ^ σ := by
        rw [← hPQ]
        calc l * 2 ^ σ = (2 ^ (64 - σ) * (l / 2 ^ (64 - σ)) + l % 2 ^ (64 - σ)) * 2 ^ σ := by rw [hle]
          _ = _ := by grind
      have e2 : 0 ≤ l % 2 ^ (64 - σ) * 2 ^ σ := Int.mul_nonneg hlm0 (Int.le_of_lt hP)
      have e3 : l % 2 ^ (64 - σ) * 2 ^ σ < 18446744073709551616 := by
        have := Int.mul_lt_mul_of_pos_right hlm1 hP
        rw [Int.mul_comm (2 ^ (64 - σ))] at this
        omega
      omega
    have hz0 : 0 ≤ z := by rw [hz']; exact Int.mul_nonneg hlm0 (Int.le_of_lt hP)
    have hz1 : z < 18446744073709551616 := by
      have := Int.mul_lt_mul_of_pos_right hlm1 hP
      rw [Int.mul_comm (2 ^ (64 - σ))] at this
      omega
    have hN : U * 18446744073709551616 + z = (h * 18446744073709551616 + l) * 2 ^ σ := by
      rw [hU, hz', ← hPQ]
      calc (h * 2 ^ σ + l / 2 ^ (64 - σ)) * (2 ^ σ * 2 ^ (64 - σ)) + l % 2 ^ (64 - σ) * 2 ^ σ = (h * (2 ^ σ * 2 ^ (64 - σ)) + (2 ^ (64 - σ) * (l / 2 ^ (64 - σ)) + l % 2 ^ (64 - σ))) * 2 ^ σ := by grind
        _ = _ := by rw [hle]
    rw [fd (by omega)] at hv1 hd
    rw [low32 (by omega) (by omega)] at hv0
    rw [low32 hz0 hz1] at hd0
    have hvv : v = v1 * 4294967296 + v0 := by omega
    have hU0 : 0 ≤ U := by omega
    have hUv : U < v := by omega
    have hvp : 0 < v := by omega
    have g1 : 2147483648 ≤ v1 := by omega
    have g2 : v1 < 4294967296 := by omega
    have g3 : 0 ≤ v0 := by omega
    have g4 : v0 < 4294967296 := by omega
    have g5 : 0 ≤ d := by omega
    have g6 : d < 4294967296 := by omega
    have g7 : 0 ≤ d0 := by omega
    have g8 : d0 < 4294967296 := by omega
    have gv : v < 18446744073709551616 := by omega
    have hzd : z = d * 4294967296 + d0 := by omega
    have start : ∀ U d : Int, 0 ≤ U → U < v → 0 ≤ d → d < 4294967296 → ∀ q, q = IntKind.u64.wrap (U.tdiv v1) → ∀ r, r = IntKind.u64.wrap (U - IntKind.u64.wrap (q * v1)) → (∃ s : { p : Int × Int // Dig U d v v1 p }, q = s.val.fst ∧ r = s.val.snd) := by
      intro U d a1 a2 a3 a4 q hq r hr
      subst hq; subst hr
      exact ⟨⟨_, dig_start hvv g1 g2 g3 g4 a1 a2 a3 a4 gv⟩, rfl, rfl⟩
    have loop : ∀ U d : Int, 0 ≤ U → U < v → 0 ≤ d → d < 4294967296 → ∀ s : { p : Int × Int // Dig U d v v1 p },
        BR (decide (4294967296 ≤ s.val.fst))
          (∀ a, a = IntKind.u64.wrap (s.val.fst - 1) → ∀ b, b = IntKind.u64.wrap (s.val.snd + v1) → BR (decide (4294967296 ≤ b)) (a = (U * 4294967296 + d) / v) (∃ s' : { p : Int × Int // Dig U d v v1 p }, s'.val.fst.toNat < s.val.fst.toNat ∧ a = s'.val.fst ∧ b = s'.val.snd))
          (BR (decide (IntKind.u64.wrap (IntKind.u64.wrap (4294967296 * s.val.snd) + d) < IntKind.u64.wrap (s.val.fst * v0)))
            (∀ a, a = IntKind.u64.wrap (s.val.fst - 1) → ∀ b, b = IntKind.u64.wrap (s.val.snd + v1) → BR (decide (4294967296 ≤ b)) (a = (U * 4294967296 + d) / v) (∃ s' : { p : Int × Int // Dig U d v v1 p }, s'.val.fst.toNat < s.val.fst.toNat ∧ a = s'.val.fst ∧ b = s'.val.snd))
            (s.val.fst = (U * 4294967296 + d) / v)) := by
      rintro U d a1 a2 a3 a4 ⟨⟨q, r⟩, hD⟩
      have := dig_loop hvv g1 g2 g3 g4 a1 a2 a3 a4 gv q r hD
      have sub : ∀ a b : Int, (∃ q' r', Dig U d v v1 (q', r') ∧ q'.toNat < q.toNat ∧ a = q' ∧ b = r') → ∃ s' : { p : Int × Int // Dig U d v v1 p }, s'.val.fst.toNat < q.toNat ∧ a = s'.val.fst ∧ b = s'.val.snd := by
        rintro a b ⟨q', r', e1, e2, e3, e4⟩
        exact ⟨⟨(q', r'), e1⟩, e2, e3, e4⟩
      rw [BR_iff] at this ⊢
      refine ⟨fun e a ha b hb => ?_, fun e => ?_⟩
      · have := this.1 e a ha b hb
        rw [BR_iff] at this ⊢
        exact ⟨this.1, fun e => sub a b (this.2 e)⟩
      · have := this.2 e
        rw [BR_iff] at this ⊢
        refine ⟨fun e a ha b hb => ?_, this.2⟩
        have := this.1 e a ha b hb
        rw [BR_iff] at this ⊢
        exact ⟨this.1, fun e => sub a b (this.2 e)⟩
    obtain ⟨D1, hD1⟩ : ∃ D1, D1 = (U * 4294967296 + d) / v := ⟨_, rfl⟩
    obtain ⟨c1, c2, _⟩ := digit hvv g1 g2 g3 g4 hU0 hUv g5 g6
    have m1 := Int.mul_ediv_add_emod (U * 4294967296 + d) v
    have m2 := Int.emod_nonneg (U * 4294967296 + d) (show v ≠ 0 by omega)
    have m3 := Int.emod_lt_of_pos (U * 4294967296 + d) hvp
    refine ⟨by omega, fun q hq r hr => ⟨⟨start U d hU0 hUv g5 g6 q hq r hr, loop U d hU0 hUv g5 g6⟩, fun R hR => ⟨by omega, ?_⟩⟩⟩
    have hR' : R = (U * 4294967296 + d) % v := by
      rw [hR, IntKind.wrap_u64, IntKind.wrap_u64, IntKind.wrap_u64, IntKind.wrap_u64]
      rw [Int.mul_comm ((U * 4294967296 + d) / v) v]
      generalize v * ((U * 4294967296 + d) / v) = p at m1 ⊢
      omega
    obtain ⟨k1, k2, _⟩ := digit hvv g1 g2 g3 g4 (U := R) (by omega) (by omega) g7 g8
    have n1 := Int.mul_ediv_add_emod (R * 4294967296 + d0) v
    have n2 := Int.emod_nonneg (R * 4294967296 + d0) (show v ≠ 0 by omega)
    have n3 := Int.emod_lt_of_pos (R * 4294967296 + d0) hvp
    refine fun q hq r hr => ⟨⟨start R d0 (by omega) (by omega) g7 g8 q hq r hr, loop R d0 (by omega) (by omega) g7 g8⟩, by omega, ?_⟩
    have hfin := two_steps (v := v) (D1 := (U * 4294967296 + d) / v) (D2 := (R * 4294967296 + d0) / v) (X := U) (d := d) (d0 := d0) (R1 := R) (by rw [hR']; exact m1) n1
    rw [show U * 18446744073709551616 + d * 4294967296 + d0 = U * 18446744073709551616 + z by omega, hN] at hfin
    have hvc : 2 ^ σ * y = v := by rw [hv, Int.mul_comm]
    have huq : (R * 4294967296 + d0) % v + v * ((U * 4294967296 + d) / v * 4294967296 + (R * 4294967296 + d0) / v) = 2 ^ σ * (h * 18446744073709551616 + l) := by
      rw [Int.mul_comm (2 ^ σ), ← hfin]; omega
    have huu := (Int.ediv_emod_unique hvp).2 ⟨huq, n2, n3⟩
    rw [← hvc] at huu
    have hq1 : (h * 18446744073709551616 + l) / y = (U * 4294967296 + d) / v * 4294967296 + (R * 4294967296 + d0) / v := by
      rw [← Int.mul_ediv_mul_of_pos (h * 18446744073709551616 + l) y hP, huu.1, hvc]
    have hr1 : (R * 4294967296 + d0) % v = 2 ^ σ * ((h * 18446744073709551616 + l) % y) := by
      rw [← Int.mul_emod_mul_of_pos (h * 18446744073709551616 + l) y hP, huu.2, hvc]
    have eq1 : IntKind.u64.wrap (IntKind.u64.wrap ((U * 4294967296 + d) / v * 4294967296) + (R * 4294967296 + d0) / v) = (h * 18446744073709551616 + l) / y := by
      rw [wu (n := (U * 4294967296 + d) / v * 4294967296) (by omega) (by omega), wu (by omega) (by omega), hq1]
    have eq2 : (IntKind.u64.wrap (IntKind.u64.wrap (IntKind.u64.wrap (R * 4294967296) + d0) - IntKind.u64.wrap ((R * 4294967296 + d0) / v * v))).fdiv (2 ^ σ) = (h * 18446744073709551616 + l) % y := by
      have e1 : IntKind.u64.wrap (IntKind.u64.wrap (IntKind.u64.wrap (R * 4294967296) + d0) - IntKind.u64.wrap ((R * 4294967296 + d0) / v * v)) = (R * 4294967296 + d0) % v := by
        rw [IntKind.wrap_u64, IntKind.wrap_u64, IntKind.wrap_u64, IntKind.wrap_u64]
        rw [Int.mul_comm ((R * 4294967296 + d0) / v) v]
        generalize v * ((R * 4294967296 + d0) / v) = p at n1 ⊢
        omega
      rw [e1, hr1, fd (Int.le_of_lt hP), Int.mul_ediv_cancel_left _ (by omega)]
    simp only [forall_eq]
    rw [eq1, eq2]
    exact hK
end Go.Proofs.Ytcclekhekdibjaa.Fix

/- Sums: the laws on pieces, bursts, lists held against each other, steps, and numbers. -/
import Derived.Test.YtbdecdkhallkmaaSumsSpecs
import Derived.Test.YtbdecdkhallkmaaSxOpen
import Derived.KernelRfl
namespace Go.Proofs.Ytbdecdkhallkmaa.Sums
open Go Go.Proofs.Ytbdecdkhallkmaa.Sx Go.RowKit
attribute [local irreducible] evFunc

theorem inU32_of {n : Nat} (h : n < 4294967296) : inU32 (n : Int) = true := by
  simp only [inU32, decide_eq_true_eq]; omega
theorem inU32_crc (s : Nat) (l : List UInt8) : inU32 ((crc s l : Nat) : Int) = true := inU32_of (crc_lt s l)
theorem inU32_adler (s : Nat) (l : List UInt8) : inU32 ((adler s l : Nat) : Int) = true := inU32_of (adler_lt s l)
theorem inI64_len {n : Nat} (h : n < 9223372036854775808) : inI64 (n : Int) = true := by
  simp only [inI64, decide_eq_true_eq]; omega
theorem BR_nd {p : Prop} [Decidable p] {A B : Prop} : BR (!decide p) A B = BR (decide p) B A := by
  by_cases h : p <;> simp [BR, h]
theorem pick_lt (i m : Int) (hm : 0 < m) : (pickN i m : Int) < m := by
  unfold pickN
  split
  · show (0 : Int) < m; omega
  · split
    · rename_i h1 h2
      rw [Int.tmod_eq_emod_of_nonneg (by omega)]
      have := Int.emod_nonneg (-(i + 1)) (show m ≠ 0 by omega)
      have := Int.emod_lt_of_pos (-(i + 1)) hm
      omega
    · rename_i h1 h2
      rw [Int.tmod_eq_emod_of_nonneg (by omega)]
      have := Int.emod_nonneg i (show m ≠ 0 by omega)
      have := Int.emod_lt_of_pos i hm
      omega
theorem xor8 (x : UInt8) (t : Nat) (ht : t < 256) : bits .xor .u8 (x.toNat : Int) (t : Int) = ((x.toNat ^^^ t : Nat) : Int) ∧ x.toNat ^^^ t < 256 :=
  ⟨u8_xor_nat _ _ x.toNat_lt ht, Nat.xor_lt_two_pow (n := 8) x.toNat_lt (by omega)⟩
theorem xor_ne (x t : Nat) (h : t ≠ 0) : x ^^^ t ≠ x := by
  intro e
  apply h
  have : x ^^^ (x ^^^ t) = x ^^^ x := by rw [e]
  rw [← Nat.xor_assoc, Nat.xor_self, Nat.zero_xor] at this
  exact this
theorem pieces_ok (s : Nat) (hs : s < 4294967296) (a b : List UInt8) (i : Int) (hi : inI64 i = true) (t : Nat) (ht : t < 256) :
    evFunc Try.prog Γ1 annLaw 10 3 5 [u32 s, .d (.bytes a), .d (.bytes b), .d (.int .i64 i), .d (.int .u8 t)] [] yesK := by
  rw [vcPieces]
  simp only [BR_nd, BR_pF, BR_nF, Int.toNat_natCast, true_and, and_true, implies_true, List.drop_zero, List.take_length, forall_eq, inU32_of hs, inU32_crc, inU32_adler, BR_true, Nat.sub_zero, Nat.zero_add, hi, Bool.true_and]
  refine fun ha => BR_d (fun _ => trivial) fun h1 hb => BR_d (fun _ => trivial) fun h2 => ?_
  have hl : (a ++ b).length ≤ 8000 := by simp; omega
  refine ⟨by omega, by omega, by rw [crc_append hs], by rw [adler_append], fun _ => BR_d (fun h3 => BR_d (fun _ => trivial) fun ht0 => ⟨by omega, fun _ => ?_⟩) fun _ => trivial⟩
  generalize a ++ b = m at hl h3
  have h3 : 0 < m.length := by omega
  have hk := pick_lt i (m.length : Int) (by omega)
  generalize pickN i (m.length : Int) = k at hk
  have hk : k < m.length := by omega
  rw [inI64_len (by omega), BR_true]
  obtain ⟨e1, e2⟩ := xor8 (m.getD k 0) t ht
  rw [e1, Int.toNat_natCast, List.take_of_length_le (by simp), List.set_eq_take_append_cons_drop, if_pos hk]
  have hm : m = m.take k ++ m.getD k 0 :: m.drop (k + 1) := by
    rw [List.getD_eq_getElem?_getD, List.getElem?_eq_getElem hk, Option.getD_some]
    simp
  have hne : UInt8.ofNat ((m.getD k 0).toNat ^^^ t) ≠ m.getD k 0 := by
    intro e
    have := congrArg UInt8.toNat e
    rw [UInt8.toNat_ofNat', Nat.mod_eq_of_lt (by omega)] at this
    exact xor_ne _ _ (by omega) this
  refine ⟨⟨by omega, by omega⟩, ⟨by omega, by omega⟩, ⟨by omega, by omega⟩, fun e => ?_, fun e => ?_⟩
  · have e : crc s (m.take k ++ UInt8.ofNat ((m.getD k 0).toNat ^^^ t) :: m.drop (k + 1)) = crc s m := by omega
    rw [congrArg (crc s) hm] at e
    exact crc_other _ _ _ _ hne e
  · have e : adler s (m.take k ++ UInt8.ofNat ((m.getD k 0).toNat ^^^ t) :: m.drop (k + 1)) = adler s m := by omega
    rw [congrArg (adler s) hm] at e
    exact adler_other _ _ _ _ _ hne e
/-! ## Bursts -/
theorem bytesD_take {t : List UInt8} {a : Nat} (h : a ≤ t.length) : bytesD (fun j => D.int .u8 ((t.getD j 0).toNat : Int)) a = t.take a := by
  unfold bytesD
  apply List.ext_getElem?
  intro k
  rw [List.getElem?_map, List.getElem?_take]
  by_cases hk : k < a
  · rw [List.getElem?_range hk, if_pos hk, List.getElem?_eq_getElem (by omega)]
    simp only [Option.map_some, byteD, Int.toNat_natCast, Option.some.injEq]
    rw [List.getD_eq_getElem?_getD, List.getElem?_eq_getElem (by omega), Option.getD_some]
    simp
  · rw [List.getElem?_eq_none (by simp; omega), if_neg hk]; rfl
theorem xorPre_nil (m : List UInt8) : xorPre m [] = m := by cases m <;> rfl
theorem xorPre_step : ∀ (m t : List UInt8) (a : Nat), a < m.length → a < t.length → (xorPre m (t.take a)).set a (m.getD a 0 ^^^ t.getD a 0) = xorPre m (t.take (a + 1)) ∧ (xorPre m (t.take a)).getD a 0 = m.getD a 0 ∧
    anySet m (t.take (a + 1)) = (anySet m (t.take a) || t.getD a 0 != 0)
  | x :: m, y :: t, 0, _, _ => by
    simp only [List.take_zero, List.take_succ_cons, xorPre_nil]
    cases m <;> simp [xorPre, anySet]
  | x :: m, y :: t, a + 1, h1, h2 => by
    obtain ⟨e1, e2, e3⟩ := xorPre_step m t a (by simpa using h1) (by simpa using h2)
    simp only [List.take_succ_cons, xorPre, anySet, List.set_cons_succ, List.getD_cons_succ, e1, e2, e3, Bool.or_assoc, and_self]
  | [], _, _, h1, _ => by simp at h1
  | _ :: _, [], _, _, h2 => by simp at h2
theorem xorPre_over : ∀ (m t : List UInt8) (a : Nat), m.length ≤ a → xorPre m (t.take a) = xorPre m t ∧ anySet m (t.take a) = anySet m t
  | [], t, a, _ => ⟨rfl, rfl⟩
  | x :: m, [], a, _ => by simp
  | x :: m, y :: t, 0, h => by simp at h
  | x :: m, y :: t, a + 1, h => by
    obtain ⟨e1, e2⟩ := xorPre_over m t a (by simpa using h)
    simp [xorPre, anySet, e1, e2]
theorem anySet_nil (m : List UInt8) : anySet m [] = false := by cases m <;> rfl
theorem burst_ok (s : Nat) (hs : s < 4294967296) (l : List UInt8) (i : Int) (hi : inI64 i = true) (t : List UInt8) (ht : t.length = 4) :
    evFunc Try.prog Γ1 annLaw 10 3 7 [u32 s, .d (.bytes l), .d (.int .i64 i), .aggf 4 (fun j => .int .u8 (t.getD j 0).toNat)] [] yesK := by
  rw [vcBurst]
  simp only [BR_nd, BR_pF, BR_nF, Int.toNat_natCast, true_and, and_true, implies_true, Subtype.forall, Subtype.exists, exists_prop, List.drop_zero, List.take_length, forall_eq, inU32_of hs, inU32_crc, inU32_adler, BR_true, Nat.sub_zero, Nat.zero_add, hi, Bool.true_and]
  refine fun hl => BR_d (fun _ => trivial) fun h1 _ => BR_d (fun _ => trivial) fun h2 _ => ?_
  have hk := pick_lt i (l.length : Int) (by omega)
  generalize pickN i (l.length : Int) = p at hk
  have hp : p < l.length := by omega
  have hpl : (l.take p).length = p := by simp; omega
  have hm : (l.drop p).length = l.length - p := by simp
  rw [inI64_len (by omega), BR_true]
  have hfin : ∀ a, a ≤ 4 → (a = 4 ∨ l.length ≤ p + a) → BR (decide ((↑(crc s (List.take l.length (l.take p ++ xorPre (l.drop p) (bytesD (fun j => D.int .u8 ((t.getD j 0).toNat : Int)) a)))) : Int) = ↑(crc s l)))
      (BR (anySet (l.drop p) (bytesD (fun j => D.int .u8 ((t.getD j 0).toNat : Int)) a)) False True) (BR (anySet (l.drop p) (bytesD (fun j => D.int .u8 ((t.getD j 0).toNat : Int)) a)) True False) := by
    intro a ha hc
    rw [bytesD_take (by omega)]
    have he : xorPre (l.drop p) (t.take a) = xorPre (l.drop p) t ∧ anySet (l.drop p) (t.take a) = anySet (l.drop p) t := by
      rcases hc with rfl | hc
      · rw [List.take_of_length_le (by omega)]; exact ⟨rfl, rfl⟩
      · exact xorPre_over _ _ _ (by omega)
    rw [he.1, he.2, List.take_of_length_le (by rw [List.length_append, xorPre_len]; omega)]
    have hb := crc_burst s (l.take p) (l.drop p) t ht
    rw [List.take_append_drop] at hb
    refine BR_d (fun e => ?_) fun e => ?_
    · rw [hb.1 (by omega), BR_false]; trivial
    · cases ha : anySet (l.drop p) t with
      | true => rw [BR_true]; trivial
      | false => exact absurd (congrArg Int.ofNat (hb.2 ha)) e
  refine ⟨by omega, ⟨0, by omega, ⟨by rw [bytesD_take (by omega), List.take_zero, anySet_nil], rfl⟩, by rw [bytesD_take (by omega), List.take_zero, xorPre_nil, List.take_append_drop]⟩, fun a ha => BR_d (fun h3 _ => ?_) fun h3 => hfin a ha (.inl (by omega))⟩
  have h3 : a < 4 := by omega
  rw [w64 (by omega) (by omega)]
  refine BR_d (fun h4 => ?_) fun h4 => hfin a ha (.inr (by omega))
  have h4 : p + a < l.length := by omega
  rw [bytesD_take (by omega), show ((p : Int) + (a : Int)).toNat = p + a by omega]
  obtain ⟨x1, x2, x3⟩ := xorPre_step (l.drop p) t a (by omega) (by omega)
  have hg : (l.take p ++ xorPre (l.drop p) (t.take a)).getD (p + a) 0 = (l.drop p).getD a 0 := by
    rw [List.getD_eq_getElem?_getD, List.getElem?_append_right (by omega), hpl, show p + a - p = a by omega, ← List.getD_eq_getElem?_getD, x2]
  rw [hg]
  obtain ⟨e1, e2⟩ := xor8 ((l.drop p).getD a 0) (t.getD a 0).toNat (t.getD a 0).toNat_lt
  rw [e1, Int.toNat_natCast]
  have hv : UInt8.ofNat (((l.drop p).getD a 0).toNat ^^^ (t.getD a 0).toNat) = (l.drop p).getD a 0 ^^^ t.getD a 0 := by
    rw [← UInt8.toNat_xor, UInt8.ofNat_toNat]
  have hset : (l.take p ++ xorPre (l.drop p) (t.take a)).set (p + a) ((l.drop p).getD a 0 ^^^ t.getD a 0) = l.take p ++ xorPre (l.drop p) (t.take (a + 1)) := by
    rw [List.set_append_right _ _ (by omega), hpl, show p + a - p = a by omega, x1]
  rw [hv, hset, w64 (by omega) (by omega)]
  refine ⟨⟨by omega, by omega⟩, ⟨by omega, by omega⟩, ⟨by omega, by omega⟩, ⟨by omega, by omega⟩, ?_⟩
  have go : ∀ r : Bool, r = anySet (l.drop p) (t.take (a + 1)) → ∃ a_2, a_2 ≤ 4 ∧ 4 - a_2 < 4 - a ∧ (r = anySet (l.drop p) (bytesD (fun j => D.int .u8 ((t.getD j 0).toNat : Int)) a_2) ∧ (a : Int) + 1 = ↑a_2) ∧
      l.take p ++ xorPre (l.drop p) (t.take (a + 1)) = l.take p ++ xorPre (l.drop p) (bytesD (fun j => D.int .u8 ((t.getD j 0).toNat : Int)) a_2) := by
    intro r hr
    exact ⟨a + 1, by omega, by omega, ⟨by rw [bytesD_take (by omega)]; exact hr, by omega⟩, by rw [bytesD_take (by omega)]⟩
  refine BR_b (fun h5 => go true ?_) fun h5 => ⟨⟨by omega, by omega⟩, BR_d (fun h6 => go false ?_) fun h6 => go true ?_⟩
  · rw [x3, h5]; rfl
  · rw [x3, h5, show t.getD a 0 = 0 from UInt8.toNat.inj (by show _ = 0; omega)]; rfl
  · rw [x3, h5, bne_iff_ne.2 (fun e => h6 (by rw [e]; rfl))]; rfl
/-! ## Three lists -/
theorem x3_len (a b c : List UInt8) (n : Nat) : (x3 a b c n).length = n := by simp [x3]
theorem x3_succ (a b c : List UInt8) (n : Nat) : x3 a b c (n + 1) = x3 a b c n ++ [a.getD n 0 ^^^ b.getD n 0 ^^^ c.getD n 0] := by
  simp [x3, List.range_succ]
theorem x3_eq : ∀ (n : Nat) (a b c : List UInt8), n ≤ a.length → n ≤ b.length → n ≤ c.length → x3 a b c n = xor3l (a.take n) (b.take n) (c.take n)
  | 0, a, b, c, _, _, _ => by simp [x3, xor3l]
  | n + 1, x :: a, y :: b, z :: c, h1, h2, h3 => by
    have ih := x3_eq n a b c (by simpa using h1) (by simpa using h2) (by simpa using h3)
    simp only [List.take_succ_cons, xor3l, ← ih]
    unfold x3
    rw [List.range_succ_eq_map]
    simp
  | _ + 1, [], _, _, h, _, _ => by simp at h
  | _ + 1, _ :: _, [], _, _, h, _ => by simp at h
  | _ + 1, _ :: _, _ :: _, [], _, _, h => by simp at h
theorem low_bits (s : Nat) (hs : s < 4294967296) : bits .and .u32 (s : Int) 65535 = ((s % 65536 : Nat) : Int) := by
  have := u32_and_nat s 65535 hs (by omega)
  rw [show (65535 : Nat) = 2 ^ 16 - 1 from rfl, Nat.and_two_pow_sub_one_eq_mod] at this
  exact this
theorem high_bits (s : Nat) : (s : Int).fdiv 65536 = ((s / 65536 : Nat) : Int) := by
  rw [Int.fdiv_eq_ediv_of_nonneg _ (by omega)]; omega
theorem linear_ok (s : Nat) (hs : s < 4294967296) (a b c : List UInt8) : evFunc Try.prog Γ1 annLaw 10 3 6 [u32 s, .d (.bytes a), .d (.bytes b), .d (.bytes c)] [] yesK := by
  rw [vcLinear]
  simp only [BR_nd, BR_pF, BR_nF, Int.toNat_natCast, true_and, and_true, implies_true, Subtype.forall, Subtype.exists, exists_prop, List.drop_zero, List.take_length, inU32_of hs, inU32_crc, inU32_adler, BR_true, Nat.sub_zero, Nat.zero_add, Bool.true_and]
  intro h1 h2 h3 n' hn
  obtain ⟨n, rfl, hna, hnb, hnc, hn5⟩ : ∃ n : Nat, n' = n ∧ n ≤ a.length ∧ n ≤ b.length ∧ n ≤ c.length ∧ n ≤ 500 := ⟨n'.toNat, by omega, by omega, by omega, by omega, by omega⟩
  simp only [Int.toNat_natCast]
  refine ⟨⟨by omega, by omega, by omega, by omega⟩, ⟨0, by omega, by omega, by simp [x3]⟩, fun i hi => BR_d (fun h4 => ?_) fun h4 => ?_⟩
  · have h4 : i < n := by omega
    obtain ⟨e1, e2⟩ := xor8 (a.getD i 0) (b.getD i 0).toNat (b.getD i 0).toNat_lt
    rw [e1]
    have e3 := u8_xor_nat ((a.getD i 0).toNat ^^^ (b.getD i 0).toNat) (c.getD i 0).toNat e2 (c.getD i 0).toNat_lt
    have e4 : (a.getD i 0).toNat ^^^ (b.getD i 0).toNat ^^^ (c.getD i 0).toNat < 256 := Nat.xor_lt_two_pow (n := 8) e2 (c.getD i 0).toNat_lt
    rw [e3, Int.toNat_natCast]
    refine ⟨⟨by omega, by omega⟩, ⟨by omega, by omega⟩, ⟨by omega, by omega⟩, ⟨by omega, by omega⟩, ⟨by omega, by omega⟩, fun l' hl' => ⟨i + 1, by omega, by omega, by rw [w64 (by omega) (by omega)]; omega, ?_⟩⟩
    rw [hl', List.set_append_right _ _ (by rw [x3_len]; exact Nat.le_refl _), x3_len, Nat.sub_self, show n - i = (n - (i + 1)) + 1 by omega, List.replicate_succ, List.set_cons_zero, x3_succ, List.append_assoc, List.singleton_append]
    congr 2
    rw [← UInt8.toNat_xor, ← UInt8.toNat_xor, UInt8.ofNat_toNat]
  · obtain rfl : i = n := by omega
    have hx3 : List.take i (x3 a b c i) = xor3l (a.take i) (b.take i) (c.take i) := by rw [List.take_of_length_le (by rw [x3_len]; exact Nat.le_refl _), x3_eq i a b c hna hnb hnc]
    simp only [forall_eq, Nat.sub_self, List.replicate_zero, List.append_nil, hx3, low_bits s hs, high_bits, crc_nil hs]
    have hlen : ∀ x : List UInt8, i ≤ x.length → (x.take i).length = i := fun x hx => by simp; omega
    have hlin := crc_lin3 hs (a.take i) (b.take i) (c.take i) (by rw [hlen a hna, hlen b hnb]) (by rw [hlen b hnb, hlen c hnc])
    have hx1 := u32_xor_nat (crc s (a.take i)) (crc s (b.take i)) (crc_lt _ _) (crc_lt _ _)
    have hx2 := u32_xor_nat (crc s (a.take i) ^^^ crc s (b.take i)) (crc s (c.take i)) (Nat.xor_lt_two_pow (n := 32) (crc_lt _ _) (crc_lt _ _)) (crc_lt _ _)
    rw [hlin, hx1, hx2]
    have hnil := adler_nil hs
    refine ⟨⟨by omega, by omega⟩, ⟨by omega, by omega⟩, ⟨by omega, by omega⟩, rfl, trivial, BR_d (fun h5 => BR_d (fun h6 => ?_) fun h6 => ?_) fun h5 => ?_⟩
    · exact congrArg Int.ofNat (hnil.2 ⟨by omega, by omega⟩)
    · intro e
      have := hnil.1 (by omega)
      omega
    · intro e
      have := hnil.1 (by omega)
      omega
/-! ## Byte by byte -/
theorem take_drop1 (l : List UInt8) {i : Nat} (h : i < l.length) : (l.take (i + 1)).drop i = [l.getD i 0] := by
  rw [take_succ l h, List.drop_append_of_le_length (by simp; omega), List.drop_of_length_le (by simp; omega)]
  rfl
theorem adN_lt (s : Nat) (hs : s < 4294967296) (l : List UInt8) : ∀ i, adN s l i < 4294967296
  | 0 => hs
  | _ + 1 => adler_lt _ _
theorem adN_succ (s : Nat) (l : List UInt8) {i : Nat} (h : i < l.length) : adler (adN s l i) [l.getD i 0] = adN s l (i + 1) := by
  cases i with
  | zero => simp only [adN]; rw [take_succ l h]; rfl
  | succ i => simp only [adN]; rw [adler_append, ← take_succ l h]
theorem adN_full (s : Nat) (l : List UInt8) (h : 0 < l.length) : adN s l l.length = adler s l := by
  cases e : l.length with
  | zero => omega
  | succ n => simp only [adN]; rw [← e, List.take_length]
theorem steps_ok (s : Nat) (hs : s < 4294967296) (l : List UInt8) : evFunc Try.prog Γ1 annLaw 10 3 8 [u32 s, .d (.bytes l)] [] yesK := by
  rw [vcSteps]
  simp only [BR_nd, BR_pF, BR_nF, Int.toNat_natCast, true_and, and_true, implies_true, Subtype.forall, Subtype.exists, exists_prop, List.drop_zero, List.take_length, forall_eq, inU32_of hs, inU32_crc, inU32_adler, BR_true, Nat.sub_zero, Nat.zero_add, Bool.true_and, inU32_of (adN_lt s hs l _), low_bits s hs, high_bits]
  have hs0 : ((s % 65536 : Nat) : Int).tmod 65521 = ((adStart s).1 : Int) := by
    show _ = ((s % 65536 % 65521 : Nat) : Int)
    rw [Int.tmod_eq_emod_of_nonneg (by omega)]; omega
  have hs1 : ((s / 65536 : Nat) : Int).tmod 65521 = ((adStart s).2 : Int) := by
    show _ = ((s / 65536 % 65521 : Nat) : Int)
    rw [Int.tmod_eq_emod_of_nonneg (by omega)]; omega
  refine fun hl => BR_d (fun _ => trivial) fun h1 => ⟨⟨0, Nat.zero_le _, by rw [List.take_zero, crc_nil hs], by simp [adN], rfl⟩, fun i hi _ => BR_d (fun h2 => ?_) fun h2 _ => ?_⟩
  · have h2 : i < l.length := by omega
    have hw : IntKind.i64.wrap ((i : Int) + 1) = ((i + 1 : Nat) : Int) := by rw [w64 (by omega) (by omega)]; omega
    simp only [hw, Int.toNat_natCast, take_drop1 l h2]
    refine ⟨⟨by omega, by omega, by omega⟩, ⟨by omega, by omega, by omega⟩, i + 1, h2, by omega, by rw [crc_append hs, ← take_succ l h2], by rw [adN_succ s l h2], rfl⟩
  · obtain rfl : i = l.length := by omega
    rw [List.take_length]
    have hbody : (∃ a, a ≤ l.length ∧ ((s % 65536 : Nat) : Int).tmod 65521 = ((adRun (adStart s) (l.take a)).1 : Int) ∧ ((s / 65536 : Nat) : Int).tmod 65521 = ((adRun (adStart s) (l.take a)).2 : Int) ∧ (0 : Int) = (a : Int)) := ⟨0, Nat.zero_le _, by simpa [adRun] using hs0, by simpa [adRun] using hs1, rfl⟩
    have hround : ∀ a, a ≤ l.length → l.length ≤ 9223372036854775807 → BR (decide ((a : Int) < (l.length : Int)))
        ((0 ≤ (a : Int) ∧ (a : Int) < l.length) ∧ ∃ a_1, a_1 ≤ l.length ∧ l.length - a_1 < l.length - a ∧
          (IntKind.u32.wrap (((adRun (adStart s) (l.take a)).1 : Int) + IntKind.u32.wrap ((l.getD a 0).toNat : Int))).tmod 65521 = ((adRun (adStart s) (l.take a_1)).1 : Int) ∧
          (IntKind.u32.wrap (((adRun (adStart s) (l.take a)).2 : Int) + (IntKind.u32.wrap (((adRun (adStart s) (l.take a)).1 : Int) + IntKind.u32.wrap ((l.getD a 0).toNat : Int))).tmod 65521)).tmod 65521 = ((adRun (adStart s) (l.take a_1)).2 : Int) ∧
          IntKind.i64.wrap ((a : Int) + 1) = (a_1 : Int))
        ((adler s l : Int) = bits .or .u32 (IntKind.u32.wrap (((adRun (adStart s) (l.take a)).2 : Int) * 65536)) ((adRun (adStart s) (l.take a)).1 : Int)) := by
      intro a ha _
      obtain ⟨ha1, ha2⟩ := ad_lt (l.take a) (adStart s) (adStart_lt s).1 (adStart_lt s).2
      have hb := getD_lt l a
      refine BR_d (fun h3 => ?_) fun h3 => ?_
      · have h3 : a < l.length := by omega
        refine ⟨⟨by omega, by omega⟩, a + 1, h3, by omega, ?_⟩
        rw [take_succ l h3, adRun_snoc]
        generalize adRun (adStart s) (l.take a) = p at ha1 ha2 ⊢
        rw [w32 (n := ((l.getD a 0).toNat : Int)) (by omega) (by omega), w32 (n := (p.1 : Int) + ((l.getD a 0).toNat : Int)) (by omega) (by omega), Int.tmod_eq_emod_of_nonneg (a := (p.1 : Int) + ((l.getD a 0).toNat : Int)) (by omega)]
        have e1 : ((p.1 : Int) + ((l.getD a 0).toNat : Int)) % 65521 = (((p.1 + (l.getD a 0).toNat) % 65521 : Nat) : Int) := by omega
        rw [e1]
        refine ⟨rfl, ?_, by rw [w64 (by omega) (by omega)]; omega⟩
        show _ = (((p.2 + (p.1 + (l.getD a 0).toNat) % 65521) % 65521 : Nat) : Int)
        rw [w32 (by omega) (by omega), Int.tmod_eq_emod_of_nonneg (by omega)]
        omega
      · obtain rfl : a = l.length := by omega
        rw [List.take_length] at ha1 ha2 ⊢
        rw [w32 (n := ((adRun (adStart s) l).2 : Int) * 65536) (by omega) (by omega)]
        have := u32_or_nat ((adRun (adStart s) l).2 * 65536) (adRun (adStart s) l).1 (by omega) (by omega)
        rw [show (((adRun (adStart s) l).2 : Int) * 65536) = (((adRun (adStart s) l).2 * 65536 : Nat) : Int) by omega, this]
        have h16 : (adRun (adStart s) l).2 * 65536 ||| (adRun (adStart s) l).1 = (adRun (adStart s) l).2 * 65536 + (adRun (adStart s) l).1 := by
          have := Nat.two_pow_add_eq_or_of_lt (i := 16) (b := (adRun (adStart s) l).1) (by omega) (adRun (adStart s) l).2
          rw [Nat.mul_comm _ 65536, show (65536 : Nat) = 2 ^ 16 from rfl]
          exact this.symm
        rw [h16]; rfl
    refine BR_d (fun h3 => ?_) fun h3 => ⟨hbody, hround⟩
    rw [adN_full s l (by omega)]
    exact ⟨rfl, rfl, hbody, hround⟩
theorem numbers_ok : evFunc Try.prog Γ1 annLaw 10 3 3 [] [] yesK := by
  rw [vcNumbers]
  simp only [BR_nd, BR_pF, BR_nF, Int.toNat_natCast, true_and, and_true, implies_true, Subtype.forall, Subtype.exists, exists_prop, List.drop_zero, List.take_length, forall_eq, inU32_crc, inU32_adler, BR_true, Nat.sub_zero, Nat.zero_add, Bool.true_and]
  refine ⟨⟨0, by omega, by omega, rfl⟩, fun i hi => BR_d (fun h => ?_) fun h => ?_⟩
  · have hl : (List.take i (List.replicate i (255 : UInt8)) ++ List.take 1 [UInt8.ofNat 255]).length = i + 1 := by simp
    refine ⟨by rw [hl]; omega, by simp, i + 1, by omega, by omega, ⟨hl, by rw [w64 (by omega) (by omega)]; omega⟩, ?_⟩
    rw [List.take_of_length_le (by simp), List.replicate_succ']
    rfl
  · obtain rfl : i = 20000 := by omega
    exact ⟨⟨by omega, by omega⟩, by decide⟩
/-! ## The laws' walks -/
theorem in_u32 {w : World} {v : Value} (h : InArg Try.prog w 23 v) : ∃ s : Nat, s < 4294967296 ∧ den ⟨w, [], []⟩ (u32 s) v := by
  obtain ⟨n, h1, h2⟩ := in_int (k := .u32) (by kernel_rfl) (by kernel_rfl) h
  have := wf_u32' h1
  exact ⟨n.toNat, by omega, by rw [u32, show ((n.toNat : Nat) : Int) = n by omega]; exact h2⟩
theorem in_row {w : World} {v : Value} (h : InArg Try.prog w 22 v) : ∃ l, den ⟨w, [], []⟩ (.d (.bytes l)) v := in_bytes (by kernel_rfl) (by kernel_rfl) h
theorem in_i64 {w : World} {v : Value} (h : InArg Try.prog w 3 v) : ∃ i, inI64 i = true ∧ den ⟨w, [], []⟩ (.d (.int .i64 i)) v := by
  obtain ⟨n, h1, h2⟩ := in_int (k := .i64) (by kernel_rfl) (by kernel_rfl) h
  have := wf_i64' h1
  exact ⟨n, by simp only [inI64, decide_eq_true_eq]; omega, h2⟩
theorem in_u8 {w : World} {v : Value} (h : InArg Try.prog w 5 v) : ∃ t : Nat, t < 256 ∧ den ⟨w, [], []⟩ (.d (.int .u8 t)) v := by
  obtain ⟨n, h1, h2⟩ := in_int (k := .u8) (by kernel_rfl) (by kernel_rfl) h
  have := wf_u8' h1
  exact ⟨n.toNat, by omega, by rw [show ((n.toNat : Nat) : Int) = n by omega]; exact h2⟩
theorem in_four {w : World} {v : Value} (h : InArg Try.prog w 33 v) : ∃ t : List UInt8, t.length = 4 ∧ den ⟨w, [], []⟩ (.aggf 4 (fun j => .int .u8 (t.getD j 0).toNat)) v := by
  obtain ⟨g, h1, h2⟩ := in_agg (ss := [.int .u8, .int .u8, .int .u8, .int .u8]) (by kernel_rfl) (by kernel_rfl) h
  have hg : ∀ j, j < 4 → ∃ n : Nat, n < 256 ∧ g j = .int .u8 (n : Int) := by
    intro j hj
    have h3 := fitsAll_get h1 j (.int .u8) (by match j, hj with | 0, _ => rfl | 1, _ => rfl | 2, _ => rfl | 3, _ => rfl)
    unfold fits at h3
    obtain ⟨n, e, hw⟩ := h3
    have := wf_u8' hw
    exact ⟨n.toNat, by omega, by rw [e]; congr 1; omega⟩
  have hG : ∀ j, ∃ n : Nat, j < 4 → n < 256 ∧ g j = .int .u8 (n : Int) := fun j => by
    by_cases hj : j < 4
    · obtain ⟨n, h4, h5⟩ := hg j hj; exact ⟨n, fun _ => ⟨h4, h5⟩⟩
    · exact ⟨0, fun h => absurd h hj⟩
  obtain ⟨Z, hZ⟩ := Classical.axiomOfChoice hG
  refine ⟨(List.range 4).map fun j => UInt8.ofNat (Z j), by simp, ?_⟩
  unfold den at h2 ⊢
  obtain ⟨vs, rfl, hd⟩ := h2
  have hl := dens_length hd
  refine ⟨vs, rfl, by simpa using hl.symm, fun i hi => ?_⟩
  obtain ⟨u, hu, hr⟩ := dens_get hd i (.d (g i)) (by rw [List.getElem?_map, List.getElem?_map, List.getElem?_range (by simpa using hi)]; rfl)
  refine ⟨u, hu, ?_⟩
  unfold den at hr
  rw [(hZ i hi).2] at hr
  simp only []
  rw [List.getD_eq_getElem?_getD, List.getElem?_map, List.getElem?_range hi]
  simp only [Option.map_some, Option.getD_some]
  rw [UInt8.toNat_ofNat', Nat.mod_eq_of_lt (by have := (hZ i hi).1; omega)]
  exact hr
theorem walk_tells' (v0 v1 : Value) (w : World) (h0 : InArg Try.prog w 23 v0) (h1 : InArg Try.prog w 22 v1) :
    Calls Try.prog 4 #[v0, v1] w fun e w' => e = .returned (.bool true) ∧ Below w.heap.size w w' := by
  obtain ⟨s, hs, d0⟩ := in_u32 h0
  obtain ⟨l, d1⟩ := in_row h1
  exact law_calls Γ1_ok (tells_ok s hs l) (dens_cons d0 (dens_cons d1 dens_nil))
theorem walk_pieces (v0 v1 v2 v3 v4 : Value) (w : World) (h0 : InArg Try.prog w 23 v0) (h1 : InArg Try.prog w 22 v1) (h2 : InArg Try.prog w 22 v2) (h3 : InArg Try.prog w 3 v3) (h4 : InArg Try.prog w 5 v4) :
    Calls Try.prog 5 #[v0, v1, v2, v3, v4] w fun e w' => e = .returned (.bool true) ∧ Below w.heap.size w w' := by
  obtain ⟨s, hs, d0⟩ := in_u32 h0
  obtain ⟨a, d1⟩ := in_row h1
  obtain ⟨b, d2⟩ := in_row h2
  obtain ⟨i, hi, d3⟩ := in_i64 h3
  obtain ⟨t, ht, d4⟩ := in_u8 h4
  exact law_calls Γ1_ok (pieces_ok s hs a b i hi t ht) (dens_cons d0 (dens_cons d1 (dens_cons d2 (dens_cons d3 (dens_cons d4 dens_nil)))))
theorem walk_linear (v0 v1 v2 v3 : Value) (w : World) (h0 : InArg Try.prog w 23 v0) (h1 : InArg Try.prog w 22 v1) (h2 : InArg Try.prog w 22 v2) (h3 : InArg Try.prog w 22 v3) :
    Calls Try.prog 6 #[v0, v1, v2, v3] w fun e w' => e = .returned (.bool true) ∧ Below w.heap.size w w' := by
  obtain ⟨s, hs, d0⟩ := in_u32 h0
  obtain ⟨a, d1⟩ := in_row h1
  obtain ⟨b, d2⟩ := in_row h2
  obtain ⟨c, d3⟩ := in_row h3
  exact law_calls Γ1_ok (linear_ok s hs a b c) (dens_cons d0 (dens_cons d1 (dens_cons d2 (dens_cons d3 dens_nil))))
theorem walk_burst (v0 v1 v2 v3 : Value) (w : World) (h0 : InArg Try.prog w 23 v0) (h1 : InArg Try.prog w 22 v1) (h2 : InArg Try.prog w 3 v2) (h3 : InArg Try.prog w 33 v3) :
    Calls Try.prog 7 #[v0, v1, v2, v3] w fun e w' => e = .returned (.bool true) ∧ Below w.heap.size w w' := by
  obtain ⟨s, hs, d0⟩ := in_u32 h0
  obtain ⟨l, d1⟩ := in_row h1
  obtain ⟨i, hi, d2⟩ := in_i64 h2
  obtain ⟨t, ht, d3⟩ := in_four h3
  exact law_calls Γ1_ok (burst_ok s hs l i hi t ht) (dens_cons d0 (dens_cons d1 (dens_cons d2 (dens_cons d3 dens_nil))))
theorem walk_steps (v0 v1 : Value) (w : World) (h0 : InArg Try.prog w 23 v0) (h1 : InArg Try.prog w 22 v1) :
    Calls Try.prog 8 #[v0, v1] w fun e w' => e = .returned (.bool true) ∧ Below w.heap.size w w' := by
  obtain ⟨s, hs, d0⟩ := in_u32 h0
  obtain ⟨l, d1⟩ := in_row h1
  exact law_calls Γ1_ok (steps_ok s hs l) (dens_cons d0 (dens_cons d1 dens_nil))
theorem walk_numbers (w : World) : Calls Try.prog 3 #[] w fun e w' => e = .returned (.bool true) ∧ Below w.heap.size w w' :=
  law_calls Γ1_ok numbers_ok dens_nil
end Go.Proofs.Ytbdecdkhallkmaa.Sums

/- Sums: each function answers as its law says. -/
import Derived.Test.YtbdecdkhallkmaaSumsVc
import Derived.Test.YtbdecdkhallkmaaSxSpec
import Derived.Laws.BitsAllLaws
namespace Go.Proofs.Ytbdecdkhallkmaa.Sums
open Go Go.Proofs.Ytbdecdkhallkmaa.Sx
attribute [local irreducible] evFunc

theorem w64 {n : Int} (h1 : -9223372036854775808 ≤ n) (h2 : n < 9223372036854775808) : IntKind.i64.wrap n = n := by
  rw [IntKind.wrap_i64]; omega
theorem w32 {n : Int} (h1 : 0 ≤ n) (h2 : n < 4294967296) : IntKind.u32.wrap n = n := by
  rw [IntKind.wrap_u32']; omega
theorem pair_eta (p : Nat × Nat) : (p.1, p.2) = p := rfl
theorem stepN_lt : ∀ (k c : Nat), c < 4294967296 → stepN k c < 4294967296
  | 0, c, h => h
  | k + 1, c, h => step_lt (stepN_lt k c h)
theorem stepN8 (c : Nat) : stepN 8 c = step8 c := rfl
theorem step_bits (c : Nat) (h : c < 4294967296) :
    bits .xor .u32 ((c : Int).fdiv 2) (bits .and .u32 3988292384 (IntKind.u32.wrap (0 - bits .and .u32 (c : Int) 1))) = ((step c : Nat) : Int) := by
  have h1 : bits .and .u32 (c : Int) 1 = ((c % 2 : Nat) : Int) := by
    have := u32_and_nat c 1 h (by omega)
    rw [Nat.and_one_is_mod] at this
    exact this
  rw [h1, IntKind.wrap_u32']
  have h2 : (c : Int).fdiv 2 = ((c / 2 : Nat) : Int) := by
    rw [Int.fdiv_eq_ediv_of_nonneg _ (by omega)]; omega
  rw [h2]
  rcases Nat.mod_two_eq_zero_or_one c with e | e
  · rw [e]
    have h3 : bits .and .u32 3988292384 ((0 - ((0 : Nat) : Int)) % 4294967296) = ((0 : Nat) : Int) := by
      have := u32_and_nat 3988292384 0 (by omega) (by omega)
      simpa using this
    rw [h3, u32_xor_nat _ _ (by omega) (by omega)]
    simp [step, e]
  · rw [e]
    have h3 : bits .and .u32 3988292384 ((0 - ((1 : Nat) : Int)) % 4294967296) = ((3988292384 : Nat) : Int) := by
      have := u32_and_nat 3988292384 4294967295 (by omega) (by omega)
      exact this
    rw [h3, u32_xor_nat _ _ (by omega) (by omega)]
    simp [step, e]
theorem table_ok (xs : List SV) (K : Out → Prop) (h : (match xs with
  | [] => fun K : Out → Prop => K (.val (.aggf 256 (tbl 256)))
  | _ => fun _ => False) K) : evFunc Try.prog (fun _ => none) ann 10 3 17 xs [] (inK none K) := by
  split at h
  · rw [vcTable]
    simp only [BR_pF, Int.toNat_natCast, true_and, and_true, implies_true, Subtype.forall, Subtype.exists, exists_prop]
    simp only [BR_dec]
    refine ⟨⟨0, by omega, by omega, by simp⟩, fun i hi => ⟨fun h1 => ⟨⟨0, by omega, w32 (by omega) (by omega), rfl⟩, fun k hk => ⟨fun h2 => ⟨k + 1, by omega, by omega, step_bits _ (stepN_lt _ _ (by omega)), w64 (by omega) (by omega)⟩, fun h2 => ⟨by omega, i + 1, by omega, by omega, w64 (by omega) (by omega), fun j hj => ?_⟩⟩⟩, fun h1 => ?_⟩⟩
    · obtain rfl : k = 8 := by omega
      by_cases e : j = i
      · subst e; simp [stepN8]
      · rw [if_neg e]
        have : j < i + 1 ↔ j < i := by omega
        simp [this]
    · obtain rfl : i = 256 := by omega
      exact h
  · exact h.elim
theorem getD_lt (l : List UInt8) (i : Nat) : (l.getD i 0).toNat < 256 := (l.getD i 0).toNat_lt
theorem take_succ (l : List UInt8) {i : Nat} (h : i < l.length) : l.take (i + 1) = l.take i ++ [l.getD i 0] := by
  rw [List.take_add_one, List.getD_eq_getElem?_getD]
  simp [h]
theorem not32 (s : Nat) (h : s < 4294967296) : bits .xor .u32 4294967295 (s : Int) = ((4294967295 - s : Nat) : Int) := by
  have := u32_xor_nat 4294967295 s (by omega) h
  rw [Nat.xor_comm, ← not_eq_xor h] at this
  exact this
theorem crc_ok (s : Nat) (hs : s < 4294967296) (l : List UInt8) (K : Out → Prop) (h : K (.val (u32 (crc s l)))) : evFunc Try.prog Γt ann 10 3 11 [u32 s, .d (.bytes l)] [] (inK none K) := by
  rw [vcCrc]
  simp only [BR_pF, Int.toNat_natCast, true_and, and_true, implies_true, Subtype.forall, Subtype.exists, exists_prop]
  simp only [BR_dec]
  refine fun hl => ⟨⟨0, Nat.zero_le _, by simpa [crcRun] using not32 s hs, rfl⟩, fun i hi => ?_⟩
  have hc : crcRun (4294967295 - s) (l.take i) < 4294967296 := crcRun_lt _ (by omega)
  refine ⟨fun h1 => ?_, fun h1 => ?_⟩
  · have h1 : i < l.length := by omega
    have hb := getD_lt l i
    have hd : ((crcRun (4294967295 - s) (l.take i) : Nat) : Int).fdiv 256 = ((crcRun (4294967295 - s) (l.take i) / 256 : Nat) : Int) := by
      rw [Int.fdiv_eq_ediv_of_nonneg _ (by omega)]; omega
    have hw : bits .xor .u8 (IntKind.u8.wrap ((crcRun (4294967295 - s) (l.take i) : Nat) : Int)) ((l.getD i 0).toNat : Int) = ((crcRun (4294967295 - s) (l.take i) % 256 ^^^ (l.getD i 0).toNat : Nat) : Int) := by
      rw [IntKind.wrap_u8', show (((crcRun (4294967295 - s) (l.take i) : Nat) : Int) % 256) = ((crcRun (4294967295 - s) (l.take i) % 256 : Nat) : Int) by omega, u8_xor_nat _ _ (by omega) hb]
    have hx : crcRun (4294967295 - s) (l.take i) % 256 ^^^ (l.getD i 0).toNat < 256 := Nat.xor_lt_two_pow (n := 8) (by omega) (by omega)
    simp only [hw, Int.toNat_natCast, if_pos hx, hd]
    refine ⟨by omega, by omega, i + 1, h1, by omega, ?_, w64 (by omega) (by omega)⟩
    rw [take_succ l h1, crcRun_snoc, crcByte_table, u32_xor_nat _ _ (step8_lt (by omega)) (by omega)]
  · obtain rfl : i = l.length := by omega
    rw [List.take_length] at hc ⊢
    rw [not32 _ hc]
    exact h
theorem crcRef_ok (s : Nat) (hs : s < 4294967296) (l : List UInt8) (K : Out → Prop) (h : K (.val (u32 (crc s l)))) : evFunc Try.prog Γt ann 10 3 12 [u32 s, .d (.bytes l)] [] (inK none K) := by
  rw [vcCrcRef]
  simp only [BR_pF, Int.toNat_natCast, true_and, and_true, implies_true, Subtype.forall, Subtype.exists, exists_prop]
  simp only [BR_dec]
  refine ⟨⟨0, Nat.zero_le _, ?_, rfl⟩, fun i hi hl => ?_⟩
  · rw [IntKind.wrap_u32']
    show _ = ((4294967295 - s : Nat) : Int)
    omega
  have hc : crcRun (4294967295 - s) (l.take i) < 4294967296 := crcRun_lt _ (by omega)
  have hb := getD_lt l i
  have hw : bits .xor .u32 ((crcRun (4294967295 - s) (l.take i) : Nat) : Int) (IntKind.u32.wrap ((l.getD i 0).toNat : Int)) = ((crcRun (4294967295 - s) (l.take i) ^^^ (l.getD i 0).toNat : Nat) : Int) := by
    rw [w32 (by omega) (by omega), u32_xor_nat _ _ hc (by omega)]
  have hx : crcRun (4294967295 - s) (l.take i) ^^^ (l.getD i 0).toNat < 4294967296 := xor_byte_lt _ hc
  simp only [hw, Int.toNat_natCast]
  refine ⟨fun h1 => ⟨by omega, ⟨0, by omega, rfl, rfl⟩, fun k hk => ?_⟩, fun h1 => ?_⟩
  · have hs := stepN_lt k _ hx
    have hst : stepN (k + 1) (crcRun (4294967295 - s) (l.take i) ^^^ (l.getD i 0).toNat) = step (stepN k (crcRun (4294967295 - s) (l.take i) ^^^ (l.getD i 0).toNat)) := rfl
    refine ⟨fun h2 => ⟨fun h3 => ⟨k + 1, by omega, by omega, ?_, w64 (by omega) (by omega)⟩, fun h3 => ⟨k + 1, by omega, by omega, ?_, w64 (by omega) (by omega)⟩⟩, fun h2 => ⟨i + 1, by omega, by omega, ?_, w64 (by omega) (by omega)⟩⟩
    · rw [hst]
      generalize stepN k (crcRun (4294967295 - s) (l.take i) ^^^ (l.getD i 0).toNat) = c at hs h3 ⊢
      rw [Int.tmod_eq_emod_of_nonneg (by omega)] at h3
      rw [Int.tdiv_eq_ediv_of_nonneg (by omega), show ((c : Int) / 2) = ((c / 2 : Nat) : Int) by omega, w32 (by omega) (by omega)]
      have := u32_xor_nat (c / 2) 3988292384 (by omega) (by omega)
      rw [step, if_pos (by omega)]
      exact this
    · rw [hst]
      generalize stepN k (crcRun (4294967295 - s) (l.take i) ^^^ (l.getD i 0).toNat) = c at hs h3 ⊢
      rw [Int.tmod_eq_emod_of_nonneg (by omega)] at h3
      rw [Int.tdiv_eq_ediv_of_nonneg (by omega), show ((c : Int) / 2) = ((c / 2 : Nat) : Int) by omega, w32 (by omega) (by omega)]
      rw [step, if_neg (by omega), Nat.xor_zero]
    · obtain rfl : k = 8 := by omega
      rw [take_succ l (by omega), crcRun_snoc]; rfl
  · obtain rfl : i = l.length := by omega
    rw [List.take_length] at hc ⊢
    rw [show IntKind.u32.wrap (4294967295 - ((crcRun (4294967295 - s) l : Nat) : Int)) = ((crc s l : Nat) : Int) by rw [IntKind.wrap_u32', crc]; omega]
    exact h
theorem adlerRef_ok (s : Nat) (hs : s < 4294967296) (l : List UInt8) (K : Out → Prop) (h : K (.val (u32 (adler s l)))) : evFunc Try.prog Γt ann 10 3 10 [u32 s, .d (.bytes l)] [] (inK none K) := by
  rw [vcAdlerRef]
  simp only [BR_pF, Int.toNat_natCast, true_and, and_true, implies_true, Subtype.forall, Subtype.exists, exists_prop]
  simp only [BR_dec]
  refine ⟨⟨0, Nat.zero_le _, ?_, ?_, rfl⟩, fun i hi hl => ?_⟩
  · show _ = ((s % 65536 % 65521 : Nat) : Int)
    rw [Int.tmod_eq_emod_of_nonneg (a := (s : Int)) (by omega), Int.tmod_eq_emod_of_nonneg (by omega)]; omega
  · show _ = ((s / 65536 % 65521 : Nat) : Int)
    rw [Int.tdiv_eq_ediv_of_nonneg (by omega), w32 (by omega) (by omega), Int.tmod_eq_emod_of_nonneg (by omega)]; omega
  obtain ⟨ha1, ha2⟩ := ad_lt (l.take i) (adStart s) (adStart_lt s).1 (adStart_lt s).2
  have hb := getD_lt l i
  refine ⟨fun h1 => ⟨by omega, i + 1, by omega, by omega, ?_⟩, fun h1 => ?_⟩
  · rw [take_succ l (by omega), adRun_snoc]
    generalize adRun (adStart s) (l.take i) = p at ha1 ha2 ⊢
    rw [w32 (n := ((l.getD i 0).toNat : Int)) (by omega) (by omega), w32 (n := (p.1 : Int) + ((l.getD i 0).toNat : Int)) (by omega) (by omega), Int.tmod_eq_emod_of_nonneg (a := (p.1 : Int) + ((l.getD i 0).toNat : Int)) (by omega)]
    have e1 : ((p.1 : Int) + ((l.getD i 0).toNat : Int)) % 65521 = (((p.1 + (l.getD i 0).toNat) % 65521 : Nat) : Int) := by omega
    rw [e1]
    refine ⟨rfl, ?_, w64 (by omega) (by omega)⟩
    show _ = (((p.2 + (p.1 + (l.getD i 0).toNat) % 65521) % 65521 : Nat) : Int)
    rw [w32 (by omega) (by omega), Int.tmod_eq_emod_of_nonneg (by omega)]
    omega
  · obtain rfl : i = l.length := by omega
    rw [List.take_length] at ha1 ha2 ⊢
    rw [w32 (n := ((adRun (adStart s) l).2 : Int) * 65536) (by omega) (by omega), w32 (by omega) (by omega)]
    exact h
theorem copy_ok (l : List UInt8) (hl : l.length ≤ 140737488355328) (K : Out → Prop) (h : K (.row 5 (.bytes l))) : evFunc Try.prog Γt ann 10 3 14 [.d (.bytes l)] [] (inK (some (5, .bytes [])) K) := by
  rw [vcCopy]
  simp only [BR_pF, Int.toNat_natCast, true_and, and_true, implies_true, Subtype.forall, Subtype.exists, exists_prop]
  simp only [BR_dec]
  refine ⟨⟨0, Nat.zero_le _, ⟨rfl, rfl⟩, rfl⟩, fun i hi hm => ⟨fun h1 => ?_, fun h1 => ?_⟩⟩
  · have hb := getD_lt l i
    have e : List.drop 0 (List.take i (List.take i l)) ++ List.drop 0 (List.take 1 [UInt8.ofNat (l.getD i 0).toNat]) = l.take (i + 1) := by
      rw [take_succ l (by omega)]; simp [List.take_take]
    have el : (l.take (i + 1)).length = i + 1 := by rw [List.length_take]; omega
    simp only [e]
    refine ⟨by omega, by omega, fun l' hl' => ?_⟩
    subst hl'
    rw [el]
    exact ⟨by omega, by rw [List.length_take]; omega, i + 1, by omega, by omega, ⟨rfl, w64 (by omega) (by omega)⟩, rfl⟩
  · obtain rfl : i = l.length := by omega
    rw [List.take_length]
    exact ⟨rfl, h⟩
theorem same_ok (l m : List UInt8) (K : Out → Prop) (h : K (.val (.d (.bool (decide (l = m)))))) : evFunc Try.prog Γt ann 10 3 15 [.d (.bytes l), .d (.bytes m)] [] (inK none K) := by
  rw [vcSame]
  refine BR_b (fun e => ⟨trivial, ?_⟩) (fun e => ⟨trivial, ?_⟩)
  · have : l = m := by simpa using e
    rw [decide_eq_true this] at h; exact h
  · have : ¬ l = m := by simpa using e
    rw [decide_eq_false this] at h; exact h
theorem pick_ok (n m : Int) (hn : inI64 n = true) (hm : inI64 m = true) (K : Out → Prop) (h : K (.val (i64 (pickN n m)))) : evFunc Try.prog Γt ann 10 3 16 [.d (.int .i64 n), .d (.int .i64 m)] [] (inK none K) := by
  rw [vcPick]
  simp only [BR_nF, BR_pF, Int.toNat_natCast, true_and, and_true, implies_true, Subtype.forall, Subtype.exists, exists_prop]
  simp only [BR_dec]
  simp only [inI64, decide_eq_true_eq] at hn hm
  refine ⟨fun h1 => ?_, fun h1 => ⟨fun h2 => ⟨by omega, ?_⟩, fun h2 => ⟨by omega, ?_⟩⟩⟩
  · rw [pickN, if_pos h1] at h; exact h
  · rw [pickN, if_neg h1, if_pos h2] at h
    have e1 : IntKind.i64.wrap (n + 1) = n + 1 := w64 (by omega) (by omega)
    have e2 : IntKind.i64.wrap (0 - (n + 1)) = -(n + 1) := by rw [w64 (by omega) (by omega)]; omega
    have e3 : IntKind.i64.wrap (m - 1) = m - 1 := w64 (by omega) (by omega)
    have h3 : 0 ≤ (-(n + 1)).tmod m := by rw [Int.tmod_eq_emod_of_nonneg (by omega)]; exact Int.emod_nonneg _ (by omega)
    have h4 : (-(n + 1)).tmod m < m := Int.tmod_lt_of_pos _ (by omega)
    rw [e1, e2, e3, w64 (by omega) (by omega)]
    have e4 : ((m - 1 - (-(n + 1)).tmod m).toNat : Int) = m - 1 - (-(n + 1)).tmod m := Int.toNat_of_nonneg (by omega)
    rw [← e4]; exact h
  · rw [pickN, if_neg h1, if_neg h2] at h
    have h3 : 0 ≤ n.tmod m := by rw [Int.tmod_eq_emod_of_nonneg (by omega)]; exact Int.emod_nonneg _ (by omega)
    have e4 : ((n.tmod m).toNat : Int) = n.tmod m := Int.toNat_of_nonneg h3
    rw [← e4]; exact h
theorem adler_ok (s : Nat) (hs : s < 4294967296) (l : List UInt8) (K : Out → Prop) (h : K (.val (u32 (adler s l)))) : evFunc Try.prog Γt ann 10 3 9 [u32 s, .d (.bytes l)] [] (inK none K) := by
  rw [vcAdler]
  simp only [BR_nF, BR_pF, Int.toNat_natCast, true_and, and_true, implies_true, Subtype.forall, Subtype.exists, exists_prop, List.drop_zero, pair_eta]
  simp only [BR_dec]
  intro n1 hn1 n2 hn2
  have hs1 := adStart_lt s
  have e1 : n1 = ((adStart s).1 : Int) := by
    have h2 : bits .and .u32 (s : Int) 65535 = ((s % 65536 : Nat) : Int) := by
      have := u32_and_nat s 65535 hs (by omega)
      rw [nat_mask16] at this; exact this
    rw [hn1, h2, Int.tmod_eq_emod_of_nonneg (by omega)]
    show _ = ((s % 65536 % 65521 : Nat) : Int)
    omega
  have e2 : n2 = ((adStart s).2 : Int) := by
    rw [hn2, Int.fdiv_eq_ediv_of_nonneg _ (by omega), Int.tmod_eq_emod_of_nonneg (by omega)]
    show _ = ((s / 65536 % 65521 : Nat) : Int)
    omega
  refine ⟨⟨0, Nat.zero_le _, by simp, e1, e2⟩, fun a ha hl => ⟨fun h1 h2 n' hn' => ?_, fun h1 => ?_⟩⟩
  · obtain ⟨hp1, hp2⟩ := ad_lt (l.take a) (adStart s) hs1.1 hs1.2
    have hlen : (l.drop a).length = l.length - a := List.length_drop
    rw [hlen] at h1 hn'
    obtain ⟨k, rfl, hk1, hk2, hk3⟩ : ∃ k : Nat, n' = k ∧ 1 ≤ k ∧ k ≤ 5000 ∧ k ≤ l.length - a := ⟨n'.toNat, by omega, by omega, by omega, by omega⟩
    rw [hlen]
    refine ⟨by omega, fun l' hl' hm => ?_⟩
    rw [Int.toNat_natCast] at hl' ⊢
    have hll : l'.length = k := by rw [hl', List.length_take]; omega
    refine ⟨⟨0, Nat.zero_le _, rfl, rfl, rfl⟩, fun b hb => ⟨fun h3 => ⟨by omega, b + 1, by omega, by omega, ?_⟩, fun h3 => ⟨by omega, a + k, by omega, by omega, ?_, ?_⟩⟩⟩
    · have hx := getD_lt l' b
      obtain ⟨r1, r2⟩ := raw_small (adRun (adStart s) (l.take a)) (l'.take (b + 1)) hp1 hp2 (by rw [List.length_take]; omega)
      rw [take_succ l' (by omega), rawRun_snoc] at r1 r2 ⊢
      simp only [rawStep] at r1 r2 ⊢
      rw [w32 (n := ((l'.getD b 0).toNat : Int)) (by omega) (by omega), w32 (n := ((rawRun (adRun (adStart s) (l.take a)) (l'.take b)).1 : Int) + ((l'.getD b 0).toNat : Int)) (by omega) (by omega)]
      exact ⟨rfl, by rw [w32 (by omega) (by omega)]; rfl, w64 (by omega) (by omega)⟩
    · rw [← hlen, List.take_length, List.drop_drop]
    · obtain rfl : b = k := by omega
      rw [← hll, List.take_length, hll, List.take_add, adRun_append, ← hl']
      generalize adRun (adStart s) (l.take a) = p at hp1 hp2 ⊢
      have hr := raw_mod l' p
      rw [Nat.mod_eq_of_lt hp1, Nat.mod_eq_of_lt hp2] at hr
      rw [pair_eta] at hr
      rw [← hr, Int.tmod_eq_emod_of_nonneg (by omega), Int.tmod_eq_emod_of_nonneg (by omega)]
      exact ⟨by simp, by simp⟩
  · obtain rfl : a = l.length := by rw [List.length_drop] at h1; omega
    rw [List.take_length]
    obtain ⟨hp1, hp2⟩ := ad_lt l (adStart s) hs1.1 hs1.2
    rw [adler, adPack] at h
    generalize adRun (adStart s) l = p at hp1 hp2 h ⊢
    rw [w32 (n := (p.2 : Int) * 65536) (by omega) (by omega)]
    have h5 := u32_or_nat (p.2 * 65536) p.1 (by omega) (by omega)
    rw [nat_join16 _ _ (by omega) (by omega)] at h5
    rw [show (p.2 : Int) * 65536 = ((p.2 * 65536 : Nat) : Int) by omega, h5]
    exact h
end Go.Proofs.Ytbdecdkhallkmaa.Sums

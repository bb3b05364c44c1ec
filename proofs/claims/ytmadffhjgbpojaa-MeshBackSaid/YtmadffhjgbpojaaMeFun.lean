/- Mesh: what is right, its bytes: the functions do what is said of them. -/
import Derived.Test.YtmadffhjgbpojaaMe0Vc
import Derived.Test.YtmadffhjgbpojaaMshFun
import Derived.Test.YtmadffhjgbpojaaSxMem
import Derived.Laws.BitsAllLaws
namespace Go.Proofs.Ytmadffhjgbpojaa.Fix
open Go Go.Proofs.Ytmadffhjgbpojaa.Sx
attribute [local irreducible] evFunc

theorem wu8 (n : Int) : IntKind.u8.wrap n = n % 256 := by simp [IntKind.wrap, IntKind.signed, IntKind.bits]
theorem fdivp (n : Int) {d : Int} (h : 0 ≤ d) : n.fdiv d = n / d := Int.fdiv_eq_ediv_of_nonneg _ h
theorem four_parts (x : Int) : [UInt8.ofNat (IntKind.u8.wrap (x.fdiv 16777216)).toNat, UInt8.ofNat (IntKind.u8.wrap (x.fdiv 65536)).toNat, UInt8.ofNat (IntKind.u8.wrap (x.fdiv 256)).toNat, UInt8.ofNat (IntKind.u8.wrap x).toNat] = fourB x := by
  simp only [wu8, fdivp x (show (0 : Int) ≤ 16777216 by omega), fdivp x (show (0 : Int) ≤ 65536 by omega), fdivp x (show (0 : Int) ≤ 256 by omega)]
  rfl
theorem u8range (n : Int) : 0 ≤ IntKind.u8.wrap n ∧ IntKind.u8.wrap n < 256 := by rw [wu8]; omega
theorem four_okV {x : Int} {l : List UInt8} {K : SV → List Ob → Prop} (hl : l.length + 4 ≤ 140737488355328) (h : ∀ l', l' = l ++ fourB x → K (.view 1 1 0 l'.length) [.ban, .row 1 byteT (.bytes l')]) :
    evFunc Try.prog ΓM1 noAnn 10 9 33 [.view 1 0 0 l.length, .d (.int .u32 x)] [.ban, .row 0 byteT (.bytes l)] (outM true [] 2 K) := by
  rw [vcFourV, four_parts]
  refine ⟨BR_y (u8range _) (BR_y (u8range _) (BR_y (u8range _) (BR_y (u8range _) trivial))), fun l' hl' => ?_⟩
  have e : l' = l ++ fourB x := by rw [hl', List.drop_zero, List.drop_zero, List.take_length]; rfl
  have e2 : l'.length = l.length + 4 := by rw [e]; simp [fourB]
  exact BR_y (by omega) (BR_y rfl ⟨⟨trivial, trivial, trivial, trivial⟩, h l' e⟩)
theorem four_okN {x : Int} {K : SV → List Ob → Prop} (h : ∀ l', l' = fourB x → K (.view 1 0 0 l'.length) [.ban, .row 0 byteT (.bytes l')]) :
    evFunc Try.prog ΓM1 noAnn 10 9 33 [.nils, .d (.int .u32 x)] [.ban] (outM true [] 1 K) := by
  rw [vcFourN, four_parts]
  refine ⟨BR_y (u8range _) (BR_y (u8range _) (BR_y (u8range _) (BR_y (u8range _) trivial))), fun l' hl' => ?_⟩
  have e : l' = fourB x := by rw [hl']; rfl
  have e2 : l'.length = 4 := by rw [e]; simp [fourB]
  exact BR_y (by omega) ⟨⟨trivial, trivial, trivial, trivial⟩, h l' e⟩
/-! ## Numbers of bytes -/
theorem beN_snoc (l : List UInt8) (b : UInt8) : beN (l ++ [b]) = 256 * beN l + (b.toNat : Int) := by simp [beN, List.foldl_append]
theorem beN_range : ∀ (l : List UInt8), 0 ≤ beN l ∧ beN l < 256 ^ l.length := by
  have key : ∀ (m : Nat) (l : List UInt8), l.length = m → 0 ≤ beN l ∧ beN l < 256 ^ l.length := by
    intro m
    induction m with
    | zero => intro l h; obtain rfl := List.eq_nil_of_length_eq_zero h; simp [beN]
    | succ m ih =>
      intro l h
      obtain ⟨l', b, rfl⟩ : ∃ l' b, l = l' ++ [b] := by
        have hn : l ≠ [] := fun e => by rw [e] at h; cases h
        exact ⟨l.dropLast, l.getLast hn, (List.dropLast_concat_getLast hn).symm⟩
      have hl : l'.length = m := by simp at h; exact h
      obtain ⟨h1, h2⟩ := ih l' hl
      rw [beN_snoc, List.length_append, List.length_singleton, Int.pow_succ]
      have hb := b.toNat_lt
      constructor
      · omega
      · generalize (256 : Int) ^ l'.length = P at *; omega
  exact fun l => key l.length l rfl
theorem take_snoc (l : List UInt8) {i : Nat} (h : i < l.length) : l.take (i + 1) = l.take i ++ [l.getD i 0] := by
  rw [List.take_add_one, List.getD_eq_getElem?_getD]
  simp [h]
theorem or_step {a b : Int} (ha : 0 ≤ a) (ha2 : 256 * a < 18446744073709551616) (hb : 0 ≤ b) (hb2 : b < 256) : bits .or .u64 (IntKind.u64.wrap (a * 256)) (IntKind.u64.wrap b) = 256 * a + b := by
  rw [wu (by omega) (by omega), wu (by omega) (by omega)]
  obtain ⟨m, rfl⟩ := Int.eq_ofNat_of_zero_le ha
  obtain ⟨n, rfl⟩ := Int.eq_ofNat_of_zero_le hb
  rw [show ((m : Int) * 256) = ((256 * m : Nat) : Int) by omega, u64_or_nat _ _ (by omega) (by omega)]
  have := Nat.two_pow_add_eq_or_of_lt (b := n) (i := 8) (by omega) m
  rw [← this]; omega
theorem pow256 {a : Nat} (h : a ≤ 7) : (256 : Int) ^ a ≤ 256 ^ 7 := by
  have := Nat.pow_le_pow_right (n := 256) (by omega) h
  have h2 : ((256 ^ a : Nat) : Int) ≤ ((256 ^ 7 : Nat) : Int) := by omega
  simpa using h2
theorem some_ok {k : Int} {T : Nat} {l : List UInt8} {K : SV → List Ob → Prop} (hk : 0 ≤ k ∧ k ≤ 8 ∧ k ≤ l.length) (h : K (I64 (IntKind.i64.wrap (beN (l.take k.toNat)))) [.ban, .fix T [.d (.bytes (l.drop k.toNat))]]) :
    evFunc Try.prog ΓM1 annMe 10 9 35 [I64 k, .ptr 1 0] [.ban, .fix T [.d (.bytes l)]] (outM false [] 2 K) := by
  rw [vcSome]
  simp only [List.drop_zero, if_true, true_and, and_true, Subtype.forall, Subtype.exists, exists_prop, Int.toNat_natCast, List.take_length]
  have hlen : (l.take k.toNat).length = k.toNat := by rw [List.length_take]; omega
  refine BR_y ⟨hk.1, hk.2.2⟩ fun _ => ⟨⟨0, by omega, by simp [beN], rfl⟩, fun a ha => BR_d (fun h1 => BR_y ⟨by omega, h1⟩ ⟨a + 1, by omega, by omega, ?_, by rw [w64 (by unfold In64; omega)]; omega⟩) fun h1 => BR_y ⟨hk.1, hk.2.2⟩ ?_⟩
  · obtain ⟨g1, g2⟩ := beN_range ((l.take k.toNat).take a)
    have hla : ((l.take k.toNat).take a).length = a := by rw [List.length_take]; omega
    rw [hla] at g2
    have hp : (256 : Int) ^ a ≤ 256 ^ 7 := pow256 (by omega)
    have hb := ((l.take k.toNat).getD a 0).toNat_lt
    rw [take_snoc _ (by omega), beN_snoc, or_step g1 (by omega) (by omega) (by omega)]
  · obtain rfl : a = k.toNat := by omega
    rw [List.take_take, Nat.min_self]
    exact h
theorem i64_of_u32 {n : Int} (h1 : 0 ≤ n) (h2 : n < 4294967296) : IntKind.i64.wrap n = n := w64 (by unfold In64; omega)
theorem place_ok {T T' : Nat} {l : List UInt8} {K : SV → List Ob → Prop} (hl : 4 ≤ l.length) (h : K (I64 (beN (l.take 4))) [.ban, .fix T [.clo 35 [.ptr 2 0]], .fix T' [.d (.bytes (l.drop 4))]]) :
    evFunc Try.prog ΓE0 annMe 10 9 36 [.ptr 1 0] [.ban, .fix T [.clo 35 [.ptr 2 0]], .fix T' [.d (.bytes l)]] (outM false [] 3 K) := by
  rw [vcPlace]
  refine BR_y ⟨by omega, by omega, by omega⟩ fun n hn l' hl' => ?_
  subst hn; subst hl'
  obtain ⟨g1, g2⟩ := beN_range (l.take 4)
  rw [List.length_take, show min 4 l.length = 4 by omega] at g2
  rw [i64_of_u32 g1 (by omega)]
  exact h
theorem allB_succ {f : Nat → Bool} {n : Nat} (h : allB f n = true) (h2 : f n = true) : allB f (n + 1) = true := by simp [allB, h, h2]
theorem allB_at {f : Nat → Bool} : ∀ {n : Nat}, allB f n = true → ∀ i, i < n → f i = true
  | n + 1, h, i, hi => by
    simp only [allB, Bool.and_eq_true] at h
    by_cases e : i = n
    · rw [e]; exact h.1
    · exact allB_at h.2 i (by omega)
theorem allB_not {f : Nat → Bool} {n i : Nat} (hi : i < n) (h : f i = false) : allB f n = false := by
  cases e : allB f n with
  | false => rfl
  | true => rw [allB_at e i hi] at h; cases h
theorem allB_of {f : Nat → Bool} : ∀ {n : Nat}, (∀ i, i < n → f i = true) → allB f n = true
  | 0, _ => rfl
  | n + 1, h => allB_succ (allB_of fun i hi => h i (by omega)) (h n (by omega))
theorem check_ok {np nt nb : Nat} {p t b : Nat → Nat → Int} {K : Out → Prop} (hnt : nt ≤ 4294967296) (hnb : nb ≤ 4294967296)
    (h : BR (okB np nt nb (fun i j => .int .i64 (p i j)) (fun i j => .int .i64 (t i j)) (fun i j => .int .i64 (b i j))) (K (.val (I64 0))) (K (.val (I64 14)))) :
    evFunc Try.prog ΓM1 annMe 10 9 9 [.agg [NL 3 np p, NL 3 nt t, NL 4 nb b]] [] (inK none K) := by
  have k14 : ¬ (np ≤ 4096 ∧ nt ≤ 4096 ∧ nb ≤ 4096 ∧ nt + nb ≤ 4096 ∧ (∀ i, i < np → nearB (p i 0, p i 1, p i 2) = true) ∧ (∀ i, i < nt → thereB np (t i 0, t i 1, t i 2) = true) ∧ ∀ i, i < nb → (nearB (b i 0, b i 1, b i 2) = true ∧ 1 ≤ b i 3 ∧ b i 3 ≤ 4503599627370496)) → K (.val (I64 14)) := fun hn => by
    rw [BR_iff] at h
    refine h.2 ?_
    cases e : okB np nt nb (fun i j => .int .i64 (p i j)) (fun i j => .int .i64 (t i j)) (fun i j => .int .i64 (b i j)) with
    | false => rfl
    | true =>
      simp only [okB, Bool.and_eq_true, decide_eq_true_eq] at e
      obtain ⟨⟨⟨e1, e2⟩, e3, e4⟩, e5, e6, e7⟩ := e
      refine (hn ⟨e1, e2, e3, e4, fun i hi => allB_at e5 i hi, fun i hi => allB_at e6 i hi, fun i hi => ?_⟩).elim
      have := allB_at e7 i hi
      simp only [ballB, Bool.and_eq_true, decide_eq_true_eq] at this
      exact this
  have k0 : np ≤ 4096 → nt ≤ 4096 → nb ≤ 4096 → nt + nb ≤ 4096 → allB (fun i => nearB (pt (fun i j => D.int IntKind.i64 (p i j)) i)) np = true → allB (fun i => thereB np (pt (fun i j => D.int IntKind.i64 (t i j)) i)) nt = true → allB (ballB fun i j => D.int IntKind.i64 (b i j)) nb = true → K (.val (I64 0)) := fun e1 e2 e3 e4 e5 e6 e7 => by
    rw [BR_iff] at h
    refine h.1 ?_
    simp only [okB, Bool.and_eq_true, decide_eq_true_eq]
    exact ⟨⟨⟨e1, e2⟩, e3, e4⟩, e5, e6, e7⟩
  clear h
  rw [vcCheck]
  simp only [true_and, and_true, implies_true, Subtype.forall, Subtype.exists, exists_prop, Int.toNat_natCast]
  intro _
  refine BR_d (fun c1 => ?_) fun c1 => k14 fun hh => c1 (by omega)
  intro _
  refine BR_d (fun c2 => ?_) fun c2 => k14 fun hh => c2 (by omega)
  intro _
  refine BR_d (fun c3 => ?_) fun c3 => k14 fun hh => c3 (by omega)
  rw [w64 (n := (nt : Int) + (nb : Int)) (by unfold In64; omega)]
  refine BR_d (fun c4 => ?_) fun c4 => k14 fun hh => c4 (by omega)
  refine fun _ => ⟨⟨0, ⟨by omega, rfl⟩, rfl⟩, fun a ha => BR_d (fun h1 => BR_y ⟨by omega, h1⟩ (BR_b (fun hn => ⟨a + 1, ⟨by omega, allB_succ ha.2 hn⟩, by omega, by rw [w64 (by unfold In64; omega)]; omega⟩) fun hn => BR_y (by omega) (k14 fun hh => ?_))) fun h1 => ?_⟩
  · have := hh.2.2.2.2.1 a (by omega)
    rw [hn] at this; cases this
  obtain rfl : a = np := by omega
  refine fun _ => ⟨⟨0, ⟨by omega, rfl⟩, rfl⟩, fun a2 ha2 => BR_d (fun h2 => BR_y ⟨by omega, h2⟩ (BR_b (fun hn => ⟨a2 + 1, ⟨by omega, allB_succ ha2.2 hn⟩, by omega, by rw [w64 (by unfold In64; omega)]; omega⟩) fun hn => BR_y (by omega) (k14 fun hh => ?_))) fun h2 => ?_⟩
  · have := hh.2.2.2.2.2.1 a2 (by omega)
    rw [hn] at this; cases this
  obtain rfl : a2 = nt := by omega
  refine fun _ => ⟨⟨0, ⟨by omega, rfl⟩, rfl⟩, fun a3 ha3 => BR_d (fun h3 => BR_y ⟨by omega, h3⟩ (BR_b (fun hn => BR_d (fun g1 => BR_d (fun g2 => ⟨a3 + 1, ⟨by omega, allB_succ ha3.2 ?_⟩, by omega, by rw [w64 (by unfold In64; omega)]; omega⟩) fun g2 => BR_y (by omega) (k14 fun hh => ?_)) fun g1 => BR_y (by omega) (k14 fun hh => ?_)) fun hn => BR_y (by omega) (k14 fun hh => ?_))) fun h3 => ?_⟩
  · simp only [ballB, Bool.and_eq_true, decide_eq_true_eq]
    exact ⟨hn, g1, g2⟩
  · exact g2 (hh.2.2.2.2.2.2 a3 (by omega)).2.2
  · exact g1 (hh.2.2.2.2.2.2 a3 (by omega)).2.1
  · have := (hh.2.2.2.2.2.2 a3 (by omega)).1
    rw [hn] at this; cases this
  obtain rfl : a3 = nb := by omega
  exact k0 (by omega) (by omega) (by omega) (by omega) ha.2 ha2.2 ha3.2
end Go.Proofs.Ytmadffhjgbpojaa.Fix

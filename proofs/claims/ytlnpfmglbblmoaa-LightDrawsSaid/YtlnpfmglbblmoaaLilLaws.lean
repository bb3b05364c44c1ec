/- Light: the laws return true. -/
import Derived.Test.YtlnpfmglbblmoaaLitFun
import Derived.Test.YtlnpfmglbblmoaaLilVc
import Derived.Test.YtlnpfmglbblmoaaLimVc
import Derived.Test.YtlnpfmglbblmoaaSxOpen
import Derived.Test.YtlnpfmglbblmoaaSxLaw
import Derived.Laws.Closers25b
import Derived.Below
import Derived.KernelRfl
namespace Go.Proofs.Ytlnpfmglbblmoaa.Fix
open Go Go.Proofs.Ytlnpfmglbblmoaa.Sx Go.RowKit
attribute [local irreducible] evFunc

theorem BR_t {b : Bool} {A B : Prop} (h : b = true) (a : A) : BR b A B := by rw [h]; exact Eq.mpr BR_true a
theorem BR_f {b : Bool} {A B : Prop} (h : b = false) (a : B) : BR b A B := by rw [h]; exact Eq.mpr BR_false a
theorem BR_nb {b : Bool} {A B : Prop} : BR (!b) A B = BR b B A := by cases b <;> simp [BR]
theorem tm_bd (a : Int) {b : Int} (hb : 0 < b) : -b < a.tmod b ∧ a.tmod b < b := by
  rcases Int.le_total 0 a with h | h
  · rw [Int.tmod_eq_emod_of_nonneg h]
    have := Int.emod_lt_of_pos a hb
    have := Int.emod_nonneg a (show b ≠ 0 by omega)
    omega
  · have e : a.tmod b = -((-a) % b) := by rw [← Int.tmod_eq_emod_of_nonneg (show 0 ≤ -a by omega), Int.neg_tmod, Int.neg_neg]
    rw [e]
    have := Int.emod_lt_of_pos (-a) hb
    have := Int.emod_nonneg (-a) (show b ≠ 0 by omega)
    omega
theorem awake_okL {K : Out → Prop} (h : K (.val (Bo true))) : EvV ΓL2 9 [] K := by
  unfold EvV
  rw [vcLAwake]
  repeat' (first | exact h | rintro _ rfl | exact ⟨trivial, h⟩ | refine BR_t (by decide +kernel) ?_ | refine BR_f (by decide +kernel) ?_)
theorem ΓL3_ok : GammaOK Try.prog ΓL3 := by
  intro f s h
  unfold ΓL3 at h
  split at h
  · cases h
    refine ⟨pureSpec_ok (nl := none) (evFunc_sound ΓL2_ok noAnn 10 5) fun xs K h => ?_, pureSpec_calm fun xs => ?_⟩
    · split at h
      · exact awake_okL h
      · exact h.elim
    · repeat' (first | exact kd_ret _ | exact kd_false | split)
  · exact ΓL2_ok _ _ h
/-! ## What is handed in -/
theorem in_i64' {v : Value} {w : World} (h : InArg Try.prog w 2 v) : ∃ n, In64 n ∧ den ⟨w, [], []⟩ (I64 n) v := by
  obtain ⟨n, h1, h2⟩ := in_int (k := .i64) (by kernel_rfl) (by kernel_rfl) h
  exact ⟨n, by have := wf_i64' h1; unfold In64; omega, h2⟩
theorem in_int' {v : Value} {w : World} (h : InArg Try.prog w 3 v) : ∃ n, In64 n ∧ den ⟨w, [], []⟩ (I64 n) v := by
  obtain ⟨n, h1, h2⟩ := in_int (k := .i64) (by kernel_rfl) (by kernel_rfl) h
  exact ⟨n, by have := wf_i64' h1; unfold In64; omega, h2⟩
theorem in_kind {v : Value} {w : World} (h : InArg Try.prog w 39 v) : ∃ n, den ⟨w, [], []⟩ (U8 n) v := by
  obtain ⟨n, h1, h2⟩ := in_int (k := .u8) (by kernel_rfl) (by kernel_rfl) h
  exact ⟨n, h2⟩
theorem w64' {n : Int} (h : (Lit.int .i64 n).wf = true) : In64 n := by have := wf_i64' h; unfold In64; omega
theorem in_vec {v : Value} {w : World} (h : InArg Try.prog w 23 v) : ∃ a b c, In64 a ∧ In64 b ∧ In64 c ∧ den ⟨w, [], []⟩ (V3 a b c) v := by
  obtain ⟨g, h1, h2⟩ := in_agg (ss := [.int .i64, .int .i64, .int .i64]) (by kernel_rfl) (by kernel_rfl) h
  obtain ⟨⟨a, e1, q1⟩, ⟨b, e2, q2⟩, ⟨c, e3, q3⟩, _⟩ := h1
  refine ⟨a, b, c, w64' q1, w64' q2, w64' q3, ?_⟩
  have e : ((List.range [Sh.int .i64, .int .i64, .int .i64].length).map g).map SV.d = [I64 a, I64 b, I64 c] := by
    show [SV.d (g 0), .d (g 1), .d (g 2)] = _
    rw [e1, show g 1 = _ from e2, show g 2 = _ from e3]
  rw [e] at h2
  exact h2
theorem in_scene {v : Value} {w : World} (h : InArg Try.prog w 34 v) : ∃ (W H s1 s2 s3 a b c d e f g i j wide s4 s5 s6 : Int) (n1 n2 n3 : Nat) (g1 g2 g3 : Nat → Nat → D),
    (In64 W ∧ In64 H ∧ In64 a ∧ In64 b ∧ In64 c ∧ In64 d ∧ In64 e ∧ In64 f ∧ In64 g ∧ In64 i ∧ In64 j ∧ In64 wide) ∧
    den ⟨w, [], []⟩ (.agg [I64 W, I64 H, I64 s1, I64 s2, U64 s3, I64 a, I64 b, I64 c, I64 d, I64 e, I64 f, I64 g, I64 i, I64 j, I64 wide, I64 s4, I64 s5, I64 s6, .d (.list 6 n1 g1), .d (.list 5 n2 g2), .d (.list 5 n3 g3)]) v := by
  obtain ⟨g, h1, h2⟩ := in_agg (ss := [.int .i64, .int .i64, .int .i64, .int .i64, .int .u64, .int .i64, .int .i64, .int .i64, .int .i64, .int .i64, .int .i64, .int .i64, .int .i64, .int .i64, .int .i64, .int .i64, .int .i64, .int .i64,
    .list [.int .u8, .int .i64, .int .i64, .int .i64, .str, .str], .list [.int .i64, .int .i64, .int .i64, .int .i64, .int .i64], .list [.str, .int .i64, .int .i64, .int .i64, .int .i64]]) (by kernel_rfl) (by kernel_rfl) h
  obtain ⟨⟨x0, e0, q0⟩, ⟨x1, e1, q1⟩, ⟨x2, e2, q2⟩, ⟨x3, e3, q3⟩, ⟨x4, e4, q4⟩, ⟨x5, e5, q5⟩, ⟨x6, e6, q6⟩, ⟨x7, e7, q7⟩, ⟨x8, e8, q8⟩, ⟨x9, e9, q9⟩, ⟨x10, e10, q10⟩, ⟨x11, e11, q11⟩, ⟨x12, e12, q12⟩, ⟨x13, e13, q13⟩, ⟨x14, e14, q14⟩, ⟨x15, e15, q15⟩, ⟨x16, e16, q16⟩, ⟨x17, e17, q17⟩, ⟨n1, g1, e18, _⟩, ⟨n2, g2, e19, _⟩, ⟨n3, g3, e20, _⟩, _⟩ := h1
  refine ⟨x0, x1, x2, x3, x4, x5, x6, x7, x8, x9, x10, x11, x12, x13, x14, x15, x16, x17, n1, n2, n3, g1, g2, g3, ⟨w64' q0, w64' q1, w64' q5, w64' q6, w64' q7, w64' q8, w64' q9, w64' q10, w64' q11, w64' q12, w64' q13, w64' q14⟩, ?_⟩
  have e : ((List.range 21).map g).map SV.d = [I64 x0, I64 x1, I64 x2, I64 x3, U64 x4, I64 x5, I64 x6, I64 x7, I64 x8, I64 x9, I64 x10, I64 x11, I64 x12, I64 x13, I64 x14, I64 x15, I64 x16, I64 x17, .d (.list 6 n1 g1), .d (.list 5 n2 g2), .d (.list 5 n3 g3)] := by
    show [SV.d (g 0), .d (g 1), .d (g 2), .d (g 3), .d (g 4), .d (g 5), .d (g 6), .d (g 7), .d (g 8), .d (g 9), .d (g 10), .d (g 11), .d (g 12), .d (g 13), .d (g 14), .d (g 15), .d (g 16), .d (g 17), .d (g 18), .d (g 19), .d (g 20)] = _
    rw [e0, show g 1 = _ from e1, show g 2 = _ from e2, show g 3 = _ from e3, show g 4 = _ from e4, show g 5 = _ from e5, show g 6 = _ from e6, show g 7 = _ from e7, show g 8 = _ from e8, show g 9 = _ from e9, show g 10 = _ from e10, show g 11 = _ from e11, show g 12 = _ from e12, show g 13 = _ from e13, show g 14 = _ from e14, show g 15 = _ from e15, show g 16 = _ from e16, show g 17 = _ from e17, show g 18 = _ from e18, show g 19 = _ from e19, show g 20 = _ from e20]
    rfl
  have h3 : den ⟨w, [], []⟩ (.agg (((List.range 21).map g).map SV.d)) v := h2
  rw [e] at h3
  exact h3
theorem in_case {v : Value} {w : World} (h : InArg Try.prog w 43 v) : ∃ (x y p q d1 d2 d3 m1 m2 m3 k t ix u v' : Int),
    (In64 x ∧ In64 y ∧ In64 p ∧ In64 q ∧ In64 d1 ∧ In64 d2 ∧ In64 d3 ∧ In64 m1 ∧ In64 m2 ∧ In64 m3 ∧ In64 t) ∧
    den ⟨w, [], []⟩ (.agg [I64 x, I64 y, I64 p, I64 q, I64 d1, I64 d2, I64 d3, I64 m1, I64 m2, I64 m3, U8 k, I64 t, I64 ix, I64 u, I64 v']) v := by
  obtain ⟨g, h1, h2⟩ := in_agg (ss := [.int .i64, .int .i64, .int .i64, .int .i64, .int .i64, .int .i64, .int .i64, .int .i64, .int .i64, .int .i64, .int .u8, .int .i64, .int .i64, .int .i64, .int .i64]) (by kernel_rfl) (by kernel_rfl) h
  obtain ⟨⟨x0, e0, q0⟩, ⟨x1, e1, q1⟩, ⟨x2, e2, q2⟩, ⟨x3, e3, q3⟩, ⟨x4, e4, q4⟩, ⟨x5, e5, q5⟩, ⟨x6, e6, q6⟩, ⟨x7, e7, q7⟩, ⟨x8, e8, q8⟩, ⟨x9, e9, q9⟩, ⟨x10, e10, q10⟩, ⟨x11, e11, q11⟩, ⟨x12, e12, q12⟩, ⟨x13, e13, q13⟩, ⟨x14, e14, q14⟩, _⟩ := h1
  refine ⟨x0, x1, x2, x3, x4, x5, x6, x7, x8, x9, x10, x11, x12, x13, x14, ⟨w64' q0, w64' q1, w64' q2, w64' q3, w64' q4, w64' q5, w64' q6, w64' q7, w64' q8, w64' q9, w64' q11⟩, ?_⟩
  have e : ((List.range 15).map g).map SV.d = [I64 x0, I64 x1, I64 x2, I64 x3, I64 x4, I64 x5, I64 x6, I64 x7, I64 x8, I64 x9, U8 x10, I64 x11, I64 x12, I64 x13, I64 x14] := by
    show [SV.d (g 0), .d (g 1), .d (g 2), .d (g 3), .d (g 4), .d (g 5), .d (g 6), .d (g 7), .d (g 8), .d (g 9), .d (g 10), .d (g 11), .d (g 12), .d (g 13), .d (g 14)] = _
    rw [e0, show g 1 = _ from e1, show g 2 = _ from e2, show g 3 = _ from e3, show g 4 = _ from e4, show g 5 = _ from e5, show g 6 = _ from e6, show g 7 = _ from e7, show g 8 = _ from e8, show g 9 = _ from e9, show g 10 = _ from e10, show g 11 = _ from e11, show g 12 = _ from e12, show g 13 = _ from e13, show g 14 = _ from e14]
  have h3 : den ⟨w, [], []⟩ (.agg (((List.range 15).map g).map SV.d)) v := h2
  rw [e] at h3
  exact h3
/-! ## Pixels -/
theorem sampZ_bd (s : Int) : 1 ≤ sampZ s ∧ sampZ s ≤ 64 := by
  have := tm_bd s (b := 64) (by omega)
  unfold sampZ; split <;> omega
theorem lpixels_ok {a b c d e f s : Int} (ha : In64 a) (hb : In64 b) (hc : In64 c) (hd : In64 d) (he : In64 e) (hf : In64 f) : evFunc Try.prog ΓL3 annL 10 5 3 [V3 a b c, V3 d e f, I64 s] [] yesK := by
  rw [vcLPixels]
  have hs := tm_bd s (b := 64) (by omega)
  rw [w64 (n := s.tmod 64 + 1) (by unfold In64; omega)]
  refine ⟨BR_d (fun h => ⟨(), ?_⟩) fun h => ⟨(), ?_⟩, fun _ => ?_⟩
  · rw [w64 (by unfold In64; omega)]
    have : s.tmod 64 + 1 + 63 = sampZ s := by unfold sampZ; rw [if_pos h]; omega
    and_intros <;> first | rfl | trivial | exact this
  · have : s.tmod 64 + 1 = sampZ s := by unfold sampZ; rw [if_neg h]
    and_intros <;> first | rfl | trivial | exact this
  obtain ⟨s1, s2⟩ := sampZ_bd s
  generalize sampZ s = n at *
  have i1 : inV (min a d) (min b e) (min c f) = true := inV_of (by unfold In64 at *; omega) (by unfold In64 at *; omega) (by unfold In64 at *; omega)
  have i2 : inV (max a d) (max b e) (max c f) = true := inV_of (by unfold In64 at *; omega) (by unfold In64 at *; omega) (by unfold In64 at *; omega)
  have i3 : inI64 n = true := inI64_of (by unfold In64; omega)
  have m1 : ¬ pixZ (max a d) n < pixZ (min a d) n := by have := pixZ_mono n (show min a d ≤ max a d by omega); omega
  have m2 : ¬ pixZ (max b e) n < pixZ (min b e) n := by have := pixZ_mono n (show min b e ≤ max b e by omega); omega
  have m3 : ¬ pixZ (max c f) n < pixZ (min c f) n := by have := pixZ_mono n (show min c f ≤ max c f by omega); omega
  obtain ⟨a1, a2⟩ := clampZ_bd a
  obtain ⟨b1, b2⟩ := clampZ_bd b
  obtain ⟨c1, c2⟩ := clampZ_bd c
  have i4 : inV (clampZ a) (clampZ b) (clampZ c) = true := inV_of (clampZ_in _) (clampZ_in _) (clampZ_in _)
  have x1 := prod64 a1 a2 s1 s2
  have x2 := prod64 b1 b2 s1 s2
  have x3 := prod64 c1 c2 s1 s2
  have k1 : ¬ clampZ a < 0 := by omega
  have k2 : ¬ clampZ b < 0 := by omega
  have k3 : ¬ clampZ c < 0 := by omega
  have k4 : ¬ 4294967296 < clampZ a := by omega
  have k5 : ¬ 4294967296 < clampZ b := by omega
  have k6 : ¬ 4294967296 < clampZ c := by omega
  simp only [forall_eq, forall_const, exists_const, and_self, true_and, and_true, i1, i2, i3, i4, inV_of ha hb hc, m1, m2, m3, clampV, clampZ_id a1 a2, clampZ_id b1 b2, clampZ_id c1 c2, k1, k2, k3, k4, k5, k6, w64 x1, w64 x2, w64 x3, inV_of x1 x2 x3, pix_alike a1 a2 s1 s2, pix_alike b1 b2 s1 s2, pix_alike c1 c2 s1 s2, decide_true, decide_false, Bool.and_true, Bool.not_true, BR_true, BR_false, inI64_of (show In64 1 by unfold In64; omega)]
theorem walk_pixels (v0 v1 v2 : Value) (w : World) (h0 : InArg Try.prog w 23 v0) (h1 : InArg Try.prog w 23 v1) (h2 : InArg Try.prog w 3 v2) :
    Calls Try.prog 3 #[v0, v1, v2] w fun e w' => e = .returned (.bool true) ∧ Below w.heap.size w w' := by
  obtain ⟨a, b, c, ha, hb, hc, d0⟩ := in_vec h0
  obtain ⟨d, e, f, hd, he, hf, d1⟩ := in_vec h1
  obtain ⟨n, hn, d2⟩ := in_int' h2
  exact law_calls ΓL3_ok (lpixels_ok ha hb hc hd he hf) (dens_cons d0 (dens_cons d1 (dens_cons d2 dens_nil)))
/-! ## Draws -/
theorem bounce_two (d n : P3) (a b : Int) : bounceV 2 d n a b = bendV d n := by unfold bounceV; rw [if_pos rfl]
theorem bounce_more {k : Int} (hk : ¬ k = 2) (d n : P3) (a b : Int) : bounceV k d n a b = sideV n a b (unitV (crossV (axisV n) n)) := by unfold bounceV; rw [if_neg hk]
theorem look_none {d : P3} (hd : In3 d) (e : P3) : addV d (scaleV e 0) = d := by
  simp only [addV, scaleV, mul_zero, add_zero hd.1, add_zero hd.2.1, add_zero hd.2.2]
theorem ldraws_ok {a b c d e f g h i p q r k l u v : Int} (ha : In64 a) (hb : In64 b) (hc : In64 c) (hd : In64 d) (he : In64 e) (hf : In64 f) (hg : In64 g) (hh : In64 h) (hi : In64 i) (hp : In64 p) (hq : In64 q) (hr : In64 r) :
    evFunc Try.prog ΓL3 annL 10 5 6 [V3 a b c, V3 d e f, V3 g h i, I64 p, I64 q, I64 r, U8 k, U8 l, I64 u, I64 v] [] yesK := by
  rw [vcLDraws]
  have i0 : inI64 0 = true := by decide
  by_cases hk : k = 2
  · simp only [forall_eq, forall_const, exists_const, and_self, true_and, and_true, i0, inV_of ha hb hc, inV_of hd he hf, inV_of hg hh hi, inI64_of hp, inI64_of hq, inI64_of hr, bounce_two, hk, look_none (d := (a, b, c)) ⟨ha, hb, hc⟩, decide_true, Bool.and_true, Bool.not_true, BR_true, BR_false]
  · by_cases hl : l = 2
    · simp only [forall_eq, forall_const, exists_const, and_self, true_and, and_true, i0, inV_of ha hb hc, inV_of hd he hf, inV_of hg hh hi, inI64_of hp, inI64_of hq, inI64_of hr, bounce_two, hk, hl, look_none (d := (a, b, c)) ⟨ha, hb, hc⟩, decide_true, decide_false, Bool.and_true, Bool.not_true, Bool.not_false, BR_true, BR_false]
    · simp only [forall_eq, forall_const, exists_const, and_self, true_and, and_true, i0, inV_of ha hb hc, inV_of hd he hf, inV_of hg hh hi, inI64_of hp, inI64_of hq, inI64_of hr, bounce_two, bounce_more hk, bounce_more hl, hk, hl, look_none (d := (a, b, c)) ⟨ha, hb, hc⟩, decide_true, decide_false, Bool.and_true, Bool.not_true, Bool.not_false, BR_true, BR_false]
theorem walk_draws (v0 v1 v2 v3 v4 v5 v6 v7 v8 v9 : Value) (w : World) (h0 : InArg Try.prog w 23 v0) (h1 : InArg Try.prog w 23 v1) (h2 : InArg Try.prog w 23 v2) (h3 : InArg Try.prog w 2 v3) (h4 : InArg Try.prog w 2 v4) (h5 : InArg Try.prog w 2 v5)
    (h6 : InArg Try.prog w 39 v6) (h7 : InArg Try.prog w 39 v7) (h8 : InArg Try.prog w 2 v8) (h9 : InArg Try.prog w 2 v9) :
    Calls Try.prog 6 #[v0, v1, v2, v3, v4, v5, v6, v7, v8, v9] w fun e w' => e = .returned (.bool true) ∧ Below w.heap.size w w' := by
  obtain ⟨a, b, c, ha, hb, hc, d0⟩ := in_vec h0
  obtain ⟨d, e, f, hd, he, hf, d1⟩ := in_vec h1
  obtain ⟨g, h, i, hg, hh, hi, d2⟩ := in_vec h2
  obtain ⟨p, hp, d3⟩ := in_i64' h3
  obtain ⟨q, hq, d4⟩ := in_i64' h4
  obtain ⟨r, hr, d5⟩ := in_i64' h5
  obtain ⟨k, d6⟩ := in_kind h6
  obtain ⟨l, d7⟩ := in_kind h7
  obtain ⟨u, _, d8⟩ := in_i64' h8
  obtain ⟨v, _, d9⟩ := in_i64' h9
  exact law_calls ΓL3_ok (ldraws_ok ha hb hc hd he hf hg hh hi hp hq hr) (dens_cons d0 (dens_cons d1 (dens_cons d2 (dens_cons d3 (dens_cons d4 (dens_cons d5 (dens_cons d6 (dens_cons d7 (dens_cons d8 (dens_cons d9 dens_nil))))))))))
/-! ## Seams -/
theorem in_bits (x : Int) : In64 (bits .and .i64 x 4294967295) := by
  have h1 := bits_lo_i64 .and x 4294967295
  have h2 := bits_hi_i64 .and x 4294967295
  unfold In64; omega
theorem next_x {x : Int} (h1 : -1048576 < x) (h2 : x < 1048576) : addZ (ofZ (x + 1)) 0 = addZ (ofZ x) 4294967296 := by
  rw [of_id (by omega) (by omega), of_id (by omega) (by omega)]
  unfold addZ; congr 1; omega
theorem cam_next_x (w h : Int) (eye at' up : P3) (wide : Int) {x : Int} (y dy : Int) (h1 : -1048576 < x) (h2 : x < 1048576) : camV w h eye at' up wide (x + 1) y 0 dy = camV w h eye at' up wide x y 4294967296 dy := by
  unfold camV; rw [next_x h1 h2]
theorem cam_next_y (w h : Int) (eye at' up : P3) (wide x : Int) {y : Int} (dx : Int) (h1 : -1048576 < y) (h2 : y < 1048576) : camV w h eye at' up wide x (y + 1) dx 0 = camV w h eye at' up wide x y dx 4294967296 := by
  unfold camV; rw [next_x h1 h2]
theorem lseams_ok {w h a b c d e f g i j wide x y dx dy s1 s2 s3 s4 s5 s6 : Int} {n1 n2 n3 : Nat} {g1 g2 g3 : Nat → Nat → D} (hw : In64 w) (hh : In64 h) (ha : In64 a) (hb : In64 b) (hc : In64 c) (hd : In64 d) (he : In64 e) (hf : In64 f) (hg : In64 g) (hi : In64 i) (hj : In64 j) (hwide : In64 wide) :
    evFunc Try.prog ΓL3 annL 10 5 4 [.agg [I64 w, I64 h, I64 s1, I64 s2, U64 s3, I64 a, I64 b, I64 c, I64 d, I64 e, I64 f, I64 g, I64 i, I64 j, I64 wide, I64 s4, I64 s5, I64 s6, .d (.list 6 n1 g1), .d (.list 5 n2 g2), .d (.list 5 n3 g3)], I64 x, I64 y, I64 dx, I64 dy] [] yesK := by
  rw [vcLSeams]
  obtain ⟨x1, x2⟩ := tm_bd x (b := 1048576) (by omega)
  obtain ⟨y1, y2⟩ := tm_bd y (b := 1048576) (by omega)
  generalize x.tmod 1048576 = X at *
  generalize y.tmod 1048576 = Y at *
  have hdx := in_bits dx
  have hdy := in_bits dy
  generalize bits .and .i64 dx 4294967295 = DX at *
  generalize bits .and .i64 dy 4294967295 = DY at *
  rw [w64 (n := X + 1) (by unfold In64; omega), w64 (n := Y + 1) (by unfold In64; omega)]
  have j1 : inV (X + 1) Y 0 = true := inV_of (by unfold In64; omega) (by unfold In64; omega) zero_in
  have j2 : inV X Y 4294967296 = true := inV_of (by unfold In64; omega) (by unfold In64; omega) (by unfold In64; omega)
  have j3 : inV X (Y + 1) DX = true := inV_of (by unfold In64; omega) (by unfold In64; omega) hdx
  have j4 : inV X Y DX = true := inV_of (by unfold In64; omega) (by unfold In64; omega) hdx
  have j5 : inI64 4294967296 = true := by decide
  have j6 : inI64 0 = true := by decide
  simp only [forall_eq, inV_of ha hb hc, inV_of hd he hf, inV_of hg hi hj, inV_of hw hh hwide, j1, j2, j3, j4, j5, j6, inI64_of hdy, cam_next_x _ _ _ _ _ _ _ _ x1 x2, cam_next_y _ _ _ _ _ _ _ _ y1 y2, decide_true, Bool.and_true, BR_true]
theorem ltells_ok {w h a b c d e f g i j wide x y p q d1 d2 d3 m1 m2 m3 k t ix u v s1 s2 s3 s4 s5 s6 : Int} {n1 n2 n3 : Nat} {g1 g2 g3 : Nat → Nat → D} (hw : In64 w) (hh : In64 h) (ha : In64 a) (hb : In64 b) (hc : In64 c) (hd : In64 d) (he : In64 e) (hf : In64 f) (hg : In64 g) (hi : In64 i) (hj : In64 j) (hwide : In64 wide)
    (hx : In64 x) (hy : In64 y) (hp : In64 p) (hq : In64 q) (hd1 : In64 d1) (hd2 : In64 d2) (hd3 : In64 d3) (hm1 : In64 m1) (hm2 : In64 m2) (hm3 : In64 m3) (ht : In64 t) :
    evFunc Try.prog ΓL3 annL 10 5 5 [.agg [I64 w, I64 h, I64 s1, I64 s2, U64 s3, I64 a, I64 b, I64 c, I64 d, I64 e, I64 f, I64 g, I64 i, I64 j, I64 wide, I64 s4, I64 s5, I64 s6, .d (.list 6 n1 g1), .d (.list 5 n2 g2), .d (.list 5 n3 g3)], .agg [I64 x, I64 y, I64 p, I64 q, I64 d1, I64 d2, I64 d3, I64 m1, I64 m2, I64 m3, U8 k, I64 t, I64 ix, I64 u, I64 v]] [] yesK := by
  rw [vcLTells]
  simp only [forall_eq, inV_of ha hb hc, inV_of hd he hf, inV_of hg hi hj, inV_of hw hh hwide, inV_of hx hy hp, inV_of hd1 hd2 hd3, inV_of hm1 hm2 hm3, inI64_of hx, inI64_of hp, inI64_of hq, inI64_of ht, decide_true, Bool.and_true, BR_true]
theorem walk_seams (v0 v1 v2 v3 v4 : Value) (w : World) (h0 : InArg Try.prog w 34 v0) (h1 : InArg Try.prog w 3 v1) (h2 : InArg Try.prog w 3 v2) (h3 : InArg Try.prog w 2 v3) (h4 : InArg Try.prog w 2 v4) :
    Calls Try.prog 4 #[v0, v1, v2, v3, v4] w fun e w' => e = .returned (.bool true) ∧ Below w.heap.size w w' := by
  obtain ⟨W, H, s1, s2, s3, a, b, c, d, e, f, g, i, j, wide, s4, s5, s6, n1, n2, n3, g1, g2, g3, ⟨q0, q1, q2, q3, q4, q5, q6, q7, q8, q9, q10, q11⟩, d0⟩ := in_scene h0
  obtain ⟨x, _, e1⟩ := in_int' h1
  obtain ⟨y, _, e2⟩ := in_int' h2
  obtain ⟨dx, _, e3⟩ := in_i64' h3
  obtain ⟨dy, _, e4⟩ := in_i64' h4
  exact law_calls ΓL3_ok (lseams_ok q0 q1 q2 q3 q4 q5 q6 q7 q8 q9 q10 q11) (dens_cons d0 (dens_cons e1 (dens_cons e2 (dens_cons e3 (dens_cons e4 dens_nil)))))
theorem walk_tells (v0 v1 : Value) (w : World) (h0 : InArg Try.prog w 34 v0) (h1 : InArg Try.prog w 43 v1) :
    Calls Try.prog 5 #[v0, v1] w fun e w' => e = .returned (.bool true) ∧ Below w.heap.size w w' := by
  obtain ⟨W, H, s1, s2, s3, a, b, c, d, e, f, g, i, j, wide, s4, s5, s6, n1, n2, n3, g1, g2, g3, ⟨q0, q1, q2, q3, q4, q5, q6, q7, q8, q9, q10, q11⟩, d0⟩ := in_scene h0
  obtain ⟨x, y, p, q, d1, d2, d3, m1, m2, m3, k, t, ix, u, v, ⟨r0, r1, r2, r3, r4, r5, r6, r7, r8, r9, r10⟩, e1⟩ := in_case h1
  exact law_calls ΓL3_ok (ltells_ok q0 q1 q2 q3 q4 q5 q6 q7 q8 q9 q10 q11 r0 r1 r2 r3 r4 r5 r6 r7 r8 r9 r10) (dens_cons d0 (dens_cons e1 dens_nil))
end Go.Proofs.Ytlnpfmglbblmoaa.Fix

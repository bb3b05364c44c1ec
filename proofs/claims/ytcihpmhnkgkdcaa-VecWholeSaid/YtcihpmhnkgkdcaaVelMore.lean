/- Vec: the law of whole numbers returns true. -/
import Derived.Test.YtcihpmhnkgkdcaaVelLaws
import Derived.Test.YtcihpmhnkgkdcaaVelWhole
import Derived.Test.YtcihpmhnkgkdcaaVec3Vc
namespace Go.Proofs.Ytcihpmhnkgkdcaa.Fix
open Go Go.Proofs.Ytcihpmhnkgkdcaa.Sx Go.RowKit
attribute [local irreducible] evFunc

theorem inV_T {M a b c : Int} (hM : M ≤ 2147483647) (h : B3 M a b c) : inV (a * 4294967296) (b * 4294967296) (c * 4294967296) = true := by
  obtain ⟨h1, h2, h3, h4, h5, h6⟩ := h
  exact inV_of (by unfold In64; omega) (by unfold In64; omega) (by unfold In64; omega)
theorem small7_of {a b c : Int} (ha : -128 ≤ a ∧ a < 128) (hb : -128 ≤ b ∧ b < 128) (hc : -128 ≤ c ∧ c < 128) : small7 a b c = true := by
  simp only [small7, decide_eq_true_eq]; exact ⟨ha, hb, hc⟩
theorem vwhole_ok {a b c d e f g h i k : Int} (ha : -128 ≤ a ∧ a < 128) (hb : -128 ≤ b ∧ b < 128) (hc : -128 ≤ c ∧ c < 128) (hd : -128 ≤ d ∧ d < 128) (he : -128 ≤ e ∧ e < 128) (hf : -128 ≤ f ∧ f < 128)
    (hg : -128 ≤ g ∧ g < 128) (hh : -128 ≤ h ∧ h < 128) (hi : -128 ≤ i ∧ i < 128) : evFunc Try.prog ΓVb annV 10 5 6 [.agg [I8 a, I8 b, I8 c], .agg [I8 d, I8 e, I8 f], .agg [I8 g, I8 h, I8 i], I8 k] [] yesK := by
  rw [vcVWhole]
  rw [small7_of ha hb hc, small7_of hd he hf, small7_of hg hh hi]
  clear ha hb hc hd he hf hg hh hi
  have hP : B3 100 (a.tmod 101) (b.tmod 101) (c.tmod 101) := by
    have h1 := tm_bd a (b := 101) (by omega)
    have h2 := tm_bd b (b := 101) (by omega)
    have h3 := tm_bd c (b := 101) (by omega)
    exact ⟨by omega, by omega, by omega, by omega, by omega, by omega⟩
  have hQ : B3 100 (d.tmod 101) (e.tmod 101) (f.tmod 101) := by
    have h1 := tm_bd d (b := 101) (by omega)
    have h2 := tm_bd e (b := 101) (by omega)
    have h3 := tm_bd f (b := 101) (by omega)
    exact ⟨by omega, by omega, by omega, by omega, by omega, by omega⟩
  have hR : B3 100 (g.tmod 101) (h.tmod 101) (i.tmod 101) := by
    have h1 := tm_bd g (b := 101) (by omega)
    have h2 := tm_bd h (b := 101) (by omega)
    have h3 := tm_bd i (b := 101) (by omega)
    exact ⟨by omega, by omega, by omega, by omega, by omega, by omega⟩
  have hk := tm_bd k (b := 101) (by omega)
  rw [w64 (n := k.tmod 101) (by unfold In64; omega), w64 (n := k.tmod 101 * 4294967296) (by unfold In64; omega)]
  generalize a.tmod 101 = A at *
  generalize b.tmod 101 = B at *
  generalize c.tmod 101 = C at *
  generalize d.tmod 101 = D at *
  generalize e.tmod 101 = E at *
  generalize f.tmod 101 = F at *
  generalize g.tmod 101 = G at *
  generalize h.tmod 101 = H at *
  generalize i.tmod 101 = I at *
  generalize k.tmod 101 = K at *
  have iK : inI64 (K * 4294967296) = true := inI64_of (by unfold In64; omega)
  obtain ⟨n1, bn⟩ := cross_T (by omega) hP hQ
  obtain ⟨m1, bm⟩ := cross_T (by omega) hP hR
  obtain ⟨l1, bl⟩ := cross_T (by omega) hQ hR
  obtain ⟨d1, _⟩ := dot_T (by omega) bn hP
  obtain ⟨d2, _⟩ := dot_T (by omega) bn hQ
  obtain ⟨s1, bs⟩ := add_T (by omega) hQ hR
  obtain ⟨d3, _⟩ := dot_T (by omega) hP bs
  obtain ⟨d4, e4⟩ := dot_T (by omega) hP hQ
  obtain ⟨d5, e5⟩ := dot_T (by omega) hP hR
  obtain ⟨c1, bc⟩ := cross_T (by omega) hP bs
  obtain ⟨s2, _⟩ := add_T (by omega) bn bm
  obtain ⟨s3, bt⟩ := add_T (by omega) hP hQ
  obtain ⟨x1, _⟩ := scale_T (N := 100) (k := K) (by omega) bt (by omega) (by omega)
  obtain ⟨x2, bx⟩ := scale_T (N := 100) (k := K) (by omega) hP (by omega) (by omega)
  obtain ⟨x3, by'⟩ := scale_T (N := 100) (k := K) (by omega) hQ (by omega) (by omega)
  obtain ⟨s4, _⟩ := add_T (by omega) bx by'
  obtain ⟨d6, e6⟩ := dot_T (by omega) hP hP
  obtain ⟨d7, e7⟩ := dot_T (by omega) hQ hQ
  obtain ⟨d8, e8⟩ := dot_T (by omega) bn bn
  obtain ⟨d9, _⟩ := dot_T (by omega) hP bl
  obtain ⟨d10, _⟩ := dot_T (by omega) hR bn
  obtain ⟨u1, bu⟩ := sub_T (by omega) hP hQ
  obtain ⟨u2, _⟩ := sub_T (by omega) hQ hP
  have u3 := neg_T (by omega) bu
  rw [id_upright] at d1
  rw [id_upright2] at d2
  rw [id_square] at d8 e8
  rw [id_triple] at d9
  have j1 := inV_T (by omega) hP
  have j2 := inV_T (by omega) hQ
  have j3 := inV_T (by omega) hR
  have j4 := inV_T (by omega) bn
  have j5 := inV_T (by omega) bm
  have j6 := inV_T (by omega) bl
  have j7 := inV_T (by omega) bs
  have j8 := inV_T (by omega) bt
  have j9 := inV_T (by omega) bx
  have j10 := inV_T (by omega) by'
  have j11 := inV_T (by omega) bu
  have q1 : inI64 ((A * A + B * B + C * C) * 4294967296) = true := inI64_of (by unfold In64; omega)
  have q2 : inI64 ((D * D + E * E + F * F) * 4294967296) = true := inI64_of (by unfold In64; omega)
  have q3 : inI64 ((A * D + B * E + C * F) * 4294967296) = true := inI64_of (by unfold In64; omega)
  have r1 : IntKind.i64.wrap ((A * D + B * E + C * F) * 4294967296 + (A * G + B * H + C * I) * 4294967296) = (A * (D + G) + B * (E + H) + C * (F + I)) * 4294967296 := by
    rw [w64 (by unfold In64; omega)]
    simp only [Int.mul_add]; omega
  have q4 : inI64 (((A * A + B * B + C * C) * (D * D + E * E + F * F) - (A * D + B * E + C * F) * (A * D + B * E + C * F)) * 4294967296) = true := inI64_of (by unfold In64; omega)
  have r2 : IntKind.i64.wrap (IntKind.i64.wrap ((A * A + B * B + C * C) * (D * D + E * E + F * F)) - IntKind.i64.wrap ((A * D + B * E + C * F) * (A * D + B * E + C * F))) = (A * A + B * B + C * C) * (D * D + E * E + F * F) - (A * D + B * E + C * F) * (A * D + B * E + C * F) := by
    have o1 := prod_le e6.1 e6.2 e7.1 e7.2
    have o2 := prod_le e4.1 e4.2 e4.1 e4.2
    rw [w64 (n := (A * A + B * B + C * C) * (D * D + E * E + F * F)) (by unfold In64; omega), w64 (n := (A * D + B * E + C * F) * (A * D + B * E + C * F)) (by unfold In64; omega), w64 (by unfold In64; omega)]
  have t1 : B * (F + I) - C * (E + H) = B * F - C * E + (B * I - C * H) := by grind
  have t2 : C * (D + G) - A * (F + I) = C * D - A * F + (C * G - A * I) := by grind
  have t3 : A * (E + H) - B * (D + G) = A * E - B * D + (A * H - B * G) := by grind
  rw [t1, t2, t3] at c1
  rw [Int.add_mul, Int.add_mul, Int.add_mul] at x1
  have v1 : -(A - D) = D - A := by omega
  have v2 : -(B - E) = E - B := by omega
  have v3 : -(C - F) = F - C := by omega
  rw [v1, v2, v3] at u3
  simp only [T3] at *
  clear e4 e5 e6 e7 e8 hk
  simp only [BR_true, forall_eq, forall_const, exists_const, n1, m1, l1, d1, d2, s1, d3, d4, d5, c1, s2, s3, x1, x2, x3, s4, d6, d7, d8, d9, d10, u1, u2, u3, j1, j2, j3, j4, j5, j6, j7, j8, j9, j10, j11, q1, q2, q3, q4, r1, r2, iK, floor_S, Int.zero_mul, decide_true, Bool.not_true, BR_false, Bool.and_true, and_self, and_true]
theorem wf_i8 {n : Int} (h : (Lit.int .i8 n).wf = true) : -128 ≤ n ∧ n < 128 := by
  obtain ⟨h1, h2⟩ := wf_ends h
  have e1 : IntKind.min .i8 = -128 := by decide
  have e2 : IntKind.max .i8 = 127 := by decide
  omega
theorem in_i8' {v : Value} {w : World} (h : InArg Try.prog w 33 v) : ∃ n, (-128 ≤ n ∧ n < 128) ∧ den ⟨w, [], []⟩ (I8 n) v := by
  obtain ⟨n, h1, h2⟩ := in_int (k := .i8) (by kernel_rfl) (by kernel_rfl) h
  exact ⟨n, wf_i8 h1, h2⟩
theorem in_i83 {v : Value} {w : World} (h : InArg Try.prog w 34 v) : ∃ a b c, (-128 ≤ a ∧ a < 128) ∧ (-128 ≤ b ∧ b < 128) ∧ (-128 ≤ c ∧ c < 128) ∧ den ⟨w, [], []⟩ (.agg [I8 a, I8 b, I8 c]) v := by
  obtain ⟨g, h1, h2⟩ := in_agg (ss := [.int .i8, .int .i8, .int .i8]) (by kernel_rfl) (by kernel_rfl) h
  obtain ⟨⟨a, e1, q1⟩, ⟨b, e2, q2⟩, ⟨c, e3, q3⟩, _⟩ := h1
  refine ⟨a, b, c, wf_i8 q1, wf_i8 q2, wf_i8 q3, ?_⟩
  have e : ((List.range [Sh.int .i8, .int .i8, .int .i8].length).map g).map SV.d = [I8 a, I8 b, I8 c] := by
    show [SV.d (g 0), .d (g 1), .d (g 2)] = _
    rw [e1, show g 1 = _ from e2, show g 2 = _ from e3]
  rw [e] at h2
  exact h2
theorem walk_whole (v0 v1 v2 v3 : Value) (w : World) (h0 : InArg Try.prog w 34 v0) (h1 : InArg Try.prog w 34 v1) (h2 : InArg Try.prog w 34 v2) (h3 : InArg Try.prog w 33 v3) :
    Calls Try.prog 6 #[v0, v1, v2, v3] w fun e w' => e = .returned (.bool true) ∧ Below w.heap.size w w' := by
  obtain ⟨a, b, c, ha, hb, hc, d0⟩ := in_i83 h0
  obtain ⟨d, e, f, hd, he, hf, d1⟩ := in_i83 h1
  obtain ⟨g, h, i, hg, hh, hi, d2⟩ := in_i83 h2
  obtain ⟨k, _, d3⟩ := in_i8' h3
  exact law_calls ΓVb_ok (vwhole_ok ha hb hc hd he hf hg hh hi) (dens_cons d0 (dens_cons d1 (dens_cons d2 (dens_cons d3 dens_nil))))
end Go.Proofs.Ytcihpmhnkgkdcaa.Fix

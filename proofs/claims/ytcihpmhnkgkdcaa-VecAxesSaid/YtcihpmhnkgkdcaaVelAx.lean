/- Vec: the law of the axes returns true. -/
import Derived.Test.YtcihpmhnkgkdcaaVelLaws
import Derived.Test.YtcihpmhnkgkdcaaVelAxis
import Derived.Test.YtcihpmhnkgkdcaaVec4Vc
namespace Go.Proofs.Ytcihpmhnkgkdcaa.Fix
open Go Go.Proofs.Ytcihpmhnkgkdcaa.Sx Go.RowKit
attribute [local irreducible] evFunc

theorem BR_nb {b : Bool} {A B : Prop} : BR (!b) A B = BR b B A := by cases b <;> simp [BR]
theorem vaxes_ok {x a b c w : Int} (ha : In64 a) (hb : In64 b) (hc : In64 c) (hw : 0 ≤ w) : evFunc Try.prog ΓVb annV 10 5 7 [I64 x, V3 a b c, .d (.int .u8 w)] [] yesK := by
  rw [vcVAxes]
  have hX := tm_bd x (b := 1099511627776) (by omega)
  generalize x.tmod 1099511627776 = X at *
  obtain ⟨p1, p2, p3⟩ := lowV_bd (a, b, c)
  have ip : inV (lowV (a, b, c)).1 (lowV (a, b, c)).2.1 (lowV (a, b, c)).2.2 = true := inV_of (by unfold In64; omega) (by unfold In64; omega) (by unfold In64; omega)
  have iabc := inV_of ha hb hc
  generalize lowV (a, b, c) = d at *
  obtain ⟨d1, d2, d3⟩ := d
  simp only at p1 p2 p3 ip
  have hw6 : decide (0 ≤ w.tmod 6 ∧ w.tmod 6 < 6) = true := by
    rw [tm hw, decide_eq_true_eq]; omega
  have iX : inI64 X = true := inI64_of (by unfold In64; omega)
  have s1 : mulZ 4294967296 X = X := mulO (by omega) (by omega)
  have s2 : mulZ (-4294967296) X = -X := mulNO (by omega) (by omega)
  have iX1 : inV X 0 0 = true := inV_of (by unfold In64; omega) zero_in zero_in
  have iX2 : inV 0 X 0 = true := inV_of zero_in (by unfold In64; omega) zero_in
  have iX3 : inV 0 0 X = true := inV_of zero_in zero_in (by unfold In64; omega)
  have iY1 : inV (-X) 0 0 = true := inV_of (by unfold In64; omega) zero_in zero_in
  have iY2 : inV 0 (-X) 0 = true := inV_of zero_in (by unfold In64; omega) zero_in
  have iY3 : inV 0 0 (-X) = true := inV_of zero_in zero_in (by unfold In64; omega)
  have o1 : inV 4294967296 0 0 = true := by decide
  have o2 : inV 0 4294967296 0 = true := by decide
  have o3 : inV 0 0 4294967296 = true := by decide
  have o4 : inV (-4294967296) 0 0 = true := by decide
  have o5 : inV 0 (-4294967296) 0 = true := by decide
  have o6 : inV 0 0 (-4294967296) = true := by decide
  have g1 : negZ 4294967296 = -4294967296 := by decide
  have g2 : negZ (-4294967296) = 4294967296 := by decide
  have g3 : negZ 0 = 0 := by decide
  obtain ⟨⟨bx1, bx2⟩, bx3, bx4⟩ := bend_x (a := d1) (b := d2) (c := d3) ⟨p1, p2, p3⟩
  obtain ⟨⟨by1, by2⟩, by3, by4⟩ := bend_y (a := d1) (b := d2) (c := d3) ⟨p1, p2, p3⟩
  obtain ⟨⟨bz1, bz2⟩, bz3, bz4⟩ := bend_z (a := d1) (b := d2) (c := d3) ⟨p1, p2, p3⟩
  obtain ⟨⟨cx1, cx2⟩, cx3, cx4⟩ := bend_x (a := -d1) (b := d2) (c := d3) ⟨by simp only; omega, p2, p3⟩
  obtain ⟨⟨cy1, cy2⟩, cy3, cy4⟩ := bend_y (a := d1) (b := -d2) (c := d3) ⟨p1, by simp only; omega, p3⟩
  obtain ⟨⟨cz1, cz2⟩, cz3, cz4⟩ := bend_z (a := d1) (b := d2) (c := -d3) ⟨p1, p2, by simp only; omega⟩
  have i1 : inV (-d1) d2 d3 = true := inV_of (by unfold In64; omega) (by unfold In64; omega) (by unfold In64; omega)
  have i2 : inV d1 (-d2) d3 = true := inV_of (by unfold In64; omega) (by unfold In64; omega) (by unfold In64; omega)
  have i3 : inV d1 d2 (-d3) = true := inV_of (by unfold In64; omega) (by unfold In64; omega) (by unfold In64; omega)
  have w1 : IntKind.i64.wrap (0 - d1) = -d1 := by rw [w64 (by unfold In64; omega)]; omega
  have w2 : IntKind.i64.wrap (0 - d2) = -d2 := by rw [w64 (by unfold In64; omega)]; omega
  have w3 : IntKind.i64.wrap (0 - d3) = -d3 := by rw [w64 (by unfold In64; omega)]; omega
  have v1 : IntKind.i64.wrap (0 - -d1) = d1 := by rw [w64 (by unfold In64; omega)]; omega
  have v2 : IntKind.i64.wrap (0 - -d2) = d2 := by rw [w64 (by unfold In64; omega)]; omega
  have v3 : IntKind.i64.wrap (0 - -d3) = d3 := by rw [w64 (by unfold In64; omega)]; omega
  have wx : IntKind.i64.wrap (0 - X) = -X := by rw [w64 (by unfold In64; omega)]; omega
  rcases Int.lt_trichotomy X 0 with hlt | heq | hgt
  · obtain ⟨l1, l2, l3⟩ := lenA_bd (X := -X) (by omega) (by omega)
    have l4 : ¬ -X < lenA (-X) := by omega
    have l5 : ¬ lenA (-X) < IntKind.i64.wrap (-X - 65536) := by rw [w64 (by unfold In64; omega)]; omega
    rw [lenA_neg] at l4 l5
    by_cases hm : X.tmod 4294967296 = 0
    · have hm' : -X % 4294967296 = 0 := by
        rw [← Int.tmod_eq_emod_of_nonneg (show 0 ≤ -X by omega), Int.neg_tmod, hm]; rfl
      have hl := lenA_whole (X := -X) (by omega) (by omega) hm'
      obtain ⟨u1, u2, u3, u4, u5, u6⟩ := unit_x (X := -X) (by omega) (by omega) hm'
      rw [lenA_neg] at hl
      rw [hl] at l5
      rw [Int.neg_neg] at u2 u4 u6
      simp only [hw6, ip, iabc, BR_nb, BR_nF, forall_eq, forall_const, exists_const, and_self, true_and, and_true, sg, hlt, if_true, scaleV, negV, s1, s2, mul0, g1, g2, g3, iX, iX1, iX2, iX3, iY1, iY2, iY3, o1, o2, o3, o4, o5, o6, Int.neg_neg, Int.neg_zero, wx, len_x, len_y, len_z, lenA_neg, l4, l5, hl, Int.lt_irrefl, hm, show ¬ X = 0 by omega, u1, u2, u3, u4, u5, u6, bx1, bx2, bx3, bx4, by1, by2, by3, by4, bz1, bz2, bz3, bz4, cx1, cx2, cx3, cx4, cy1, cy2, cy3, cy4, cz1, cz2, cz3, cz4, i1, i2, i3, w1, w2, w3, v1, v2, v3, decide_true, decide_false, Bool.and_true, BR_true, BR_false, not_false_iff, implies_true]
    · simp only [hw6, ip, iabc, BR_nb, BR_nF, forall_eq, forall_const, exists_const, and_self, true_and, and_true, sg, hlt, if_true, scaleV, negV, s1, s2, mul0, g1, g2, g3, iX, iX1, iX2, iX3, iY1, iY2, iY3, o1, o2, o3, o4, o5, o6, Int.neg_neg, Int.neg_zero, wx, len_x, len_y, len_z, lenA_neg, l4, l5, hm, show ¬ X = 0 by omega, bx1, bx2, bx3, bx4, by1, by2, by3, by4, bz1, bz2, bz3, bz4, cx1, cx2, cx3, cx4, cy1, cy2, cy3, cy4, cz1, cz2, cz3, cz4, i1, i2, i3, w1, w2, w3, v1, v2, v3, decide_true, decide_false, Bool.and_true, BR_true, BR_false, not_false_iff, implies_true]
  · subst heq
    simp only [hw6, ip, iabc, BR_nb, BR_nF, forall_eq, forall_const, exists_const, and_self, true_and, and_true, sg, Int.lt_irrefl, if_false, scaleV, negV, mul_zero, mul0, g1, g2, g3, iX, iX1, o1, o2, o3, o4, o5, o6, wx, show Int.tmod 0 4294967296 = 0 by decide, bx1, bx2, bx3, bx4, by1, by2, by3, by4, bz1, bz2, bz3, bz4, cx1, cx2, cx3, cx4, cy1, cy2, cy3, cy4, cz1, cz2, cz3, cz4, i1, i2, i3, w1, w2, w3, v1, v2, v3, decide_true, decide_false, Bool.and_true, BR_true, BR_false, not_false_iff, implies_true, Int.neg_neg]
  · obtain ⟨l1, l2, l3⟩ := lenA_bd (X := X) (by omega) (by omega)
    have l4 : ¬ X < lenA X := by omega
    have l5 : ¬ lenA X < IntKind.i64.wrap (X - 65536) := by rw [w64 (by unfold In64; omega)]; omega
    have hlt : ¬ X < 0 := by omega
    by_cases hm : X.tmod 4294967296 = 0
    · have hm' : X % 4294967296 = 0 := by rw [tm (by omega)] at hm; exact hm
      have hl := lenA_whole (X := X) (by omega) (by omega) hm'
      obtain ⟨u1, u2, u3, u4, u5, u6⟩ := unit_x (X := X) (by omega) (by omega) hm'
      rw [hl] at l5
      simp only [hw6, ip, iabc, BR_nb, BR_nF, forall_eq, forall_const, exists_const, and_self, true_and, and_true, sg, hlt, if_false, scaleV, negV, s1, s2, mul0, g1, g2, g3, iX, iX1, iX2, iX3, iY1, iY2, iY3, o1, o2, o3, o4, o5, o6, Int.neg_neg, Int.neg_zero, wx, len_x, len_y, len_z, lenA_neg, l4, l5, hl, Int.lt_irrefl, hm, show ¬ X = 0 by omega, u1, u2, u3, u4, u5, u6, bx1, bx2, bx3, bx4, by1, by2, by3, by4, bz1, bz2, bz3, bz4, cx1, cx2, cx3, cx4, cy1, cy2, cy3, cy4, cz1, cz2, cz3, cz4, i1, i2, i3, w1, w2, w3, v1, v2, v3, decide_true, decide_false, Bool.and_true, BR_true, BR_false, not_false_iff, implies_true]
    · simp only [hw6, ip, iabc, BR_nb, BR_nF, forall_eq, forall_const, exists_const, and_self, true_and, and_true, sg, hlt, if_false, scaleV, negV, s1, s2, mul0, g1, g2, g3, iX, iX1, iX2, iX3, iY1, iY2, iY3, o1, o2, o3, o4, o5, o6, Int.neg_neg, Int.neg_zero, wx, len_x, len_y, len_z, lenA_neg, l4, l5, hm, show ¬ X = 0 by omega, bx1, bx2, bx3, bx4, by1, by2, by3, by4, bz1, bz2, bz3, bz4, cx1, cx2, cx3, cx4, cy1, cy2, cy3, cy4, cz1, cz2, cz3, cz4, i1, i2, i3, w1, w2, w3, v1, v2, v3, decide_true, decide_false, Bool.and_true, BR_true, BR_false, not_false_iff, implies_true]
theorem wf_u8 {n : Int} (h : (Lit.int .u8 n).wf = true) : 0 ≤ n ∧ n < 256 := by
  obtain ⟨h1, h2⟩ := wf_ends h
  have e1 : IntKind.min .u8 = 0 := by decide
  have e2 : IntKind.max .u8 = 255 := by decide
  omega
theorem in_u8' {v : Value} {w : World} (h : InArg Try.prog w 5 v) : ∃ n, (0 ≤ n ∧ n < 256) ∧ den ⟨w, [], []⟩ (.d (.int .u8 n)) v := by
  obtain ⟨n, h1, h2⟩ := in_int (k := .u8) (by kernel_rfl) (by kernel_rfl) h
  exact ⟨n, wf_u8 h1, h2⟩
theorem walk_axes (v0 v1 v2 : Value) (w : World) (h0 : InArg Try.prog w 2 v0) (h1 : InArg Try.prog w 23 v1) (h2 : InArg Try.prog w 5 v2) :
    Calls Try.prog 7 #[v0, v1, v2] w fun e w' => e = .returned (.bool true) ∧ Below w.heap.size w w' := by
  obtain ⟨x, hx, d0⟩ := in_i64' h0
  obtain ⟨a, b, c, ha, hb, hc, d1⟩ := in_vec h1
  obtain ⟨n, hn, d2⟩ := in_u8' h2
  exact law_calls ΓVb_ok (vaxes_ok ha hb hc hn.1) (dens_cons d0 (dens_cons d1 (dens_cons d2 dens_nil)))
end Go.Proofs.Ytcihpmhnkgkdcaa.Fix

/- Vec: the laws return true: numbers, tells, turns. -/
import Derived.Test.YtcihpmhnkgkdcaaVecFun1
import Derived.Test.YtcihpmhnkgkdcaaVec2Vc
import Derived.Test.YtcihpmhnkgkdcaaFixFacts
import Derived.Test.YtcihpmhnkgkdcaaVelFacts
import Derived.Test.YtcihpmhnkgkdcaaSxOpen
import Derived.Test.YtcihpmhnkgkdcaaSxLaw
import Derived.Below
import Derived.KernelRfl
namespace Go.Proofs.Ytcihpmhnkgkdcaa.Fix
open Go Go.Proofs.Ytcihpmhnkgkdcaa.Sx Go.RowKit
attribute [local irreducible] evFunc

theorem BR_t {b : Bool} {A B : Prop} (h : b = true) (a : A) : BR b A B := by rw [h]; exact Eq.mpr BR_true a
theorem BR_f {b : Bool} {A B : Prop} (h : b = false) (a : B) : BR b A B := by rw [h]; exact Eq.mpr BR_false a
theorem of_okV {a b c : Int} (h : small31 a b c = true) {K : Out → Prop} (hK : K (.val (Vp (a * 4294967296, b * 4294967296, c * 4294967296)))) : EvV ΓV2 15 [I64 a, I64 b, I64 c] K := by
  unfold EvV
  rw [vcVOf]
  simp only [small31, decide_eq_true_eq] at h
  rw [w64 (n := a * 4294967296) (by unfold In64; omega), w64 (n := b * 4294967296) (by unfold In64; omega), w64 (n := c * 4294967296) (by unfold In64; omega)]
  exact ⟨⟨trivial, trivial, trivial, trivial⟩, hK⟩
theorem low_okV {a b c : Int} {K : Out → Prop} (hK : K (.val (Vp (lowV (a, b, c))))) : EvV ΓV2 30 [V3 a b c] K := by
  unfold EvV
  rw [vcVLow]
  exact ⟨⟨trivial, trivial, trivial, trivial⟩, hK⟩
theorem floor_okV {a : Int} {K : Out → Prop} (hK : K (.val (I64 (floorZ a)))) : EvV ΓV2 32 [I64 a] K := by
  unfold EvV
  rw [vcVFloor, fd (by omega)]
  exact ⟨trivial, hK⟩
theorem ΓVa_ok : GammaOK Try.prog ΓVa := by
  intro f s h
  unfold ΓVa at h
  split at h
  · cases h
    refine ⟨pureSpec_ok (nl := none) (evFunc_sound ΓV2_ok noAnn 10 5) fun xs K h => ?_, pureSpec_calm fun xs => ?_⟩
    · split at h
      · obtain ⟨h1, h2⟩ := req h
        exact of_okV h1 (h2 _ rfl _ rfl _ rfl)
      · exact h.elim
    · repeat' (first | exact kd_false | exact kd_ans3 _ | refine kd_br ?_ ?_ | split)
  · cases h; exact v1_ok ΓV2_ok fun a b c _ _ _ K h => low_okV h
  · cases h
    refine ⟨pureSpec_ok (nl := none) (evFunc_sound ΓV2_ok noAnn 10 5) fun xs K h => ?_, fn1_calm _⟩
    split at h
    · obtain ⟨h1, h2⟩ := req h
      exact floor_okV (h2 _ rfl)
    · exact h.elim
  · exact ΓV2_ok _ _ h
theorem whole_okV {a b c : Int} (h : small7 a b c = true) {K : Out → Prop} (hK : K (.val (Vp (a.tmod 101 * 4294967296, b.tmod 101 * 4294967296, c.tmod 101 * 4294967296)))) : EvV ΓVa 31 [.agg [I8 a, I8 b, I8 c]] K := by
  unfold EvV
  rw [vcVWhol]
  have h1 := tm_bd a (b := 101) (by omega)
  have h2 := tm_bd b (b := 101) (by omega)
  have h3 := tm_bd c (b := 101) (by omega)
  rw [w64 (n := a.tmod 101) (by unfold In64; omega), w64 (n := b.tmod 101) (by unfold In64; omega), w64 (n := c.tmod 101) (by unfold In64; omega)]
  have e : small31 (a.tmod 101) (b.tmod 101) (c.tmod 101) = true := by simp only [small31, decide_eq_true_eq]; omega
  simp only [e, BR_true, forall_eq, true_and]
  exact hK
theorem awake_okV {K : Out → Prop} (h : K (.val (Bo true))) : EvV ΓVa 18 [] K := by
  unfold EvV
  rw [vcVAwake]
  repeat' (first | exact h | rintro _ rfl | exact ⟨trivial, h⟩ | refine BR_t (by decide +kernel) ?_ | refine BR_f (by decide +kernel) ?_)
theorem ΓVb_ok : GammaOK Try.prog ΓVb := by
  intro f s h
  unfold ΓVb at h
  split at h
  · cases h
    refine ⟨pureSpec_ok (nl := none) (evFunc_sound ΓVa_ok noAnn 10 5) fun xs K h => ?_, pureSpec_calm fun xs => ?_⟩
    · split at h
      · exact awake_okV h
      · exact h.elim
    · repeat' (first | exact kd_ret _ | exact kd_false | split)
  · cases h
    refine ⟨pureSpec_ok (nl := none) (evFunc_sound ΓVa_ok noAnn 10 5) fun xs K h => ?_, pureSpec_calm fun xs => ?_⟩
    · split at h
      · obtain ⟨h1, h2⟩ := req h
        exact whole_okV h1 (h2 _ rfl _ rfl _ rfl)
      · exact h.elim
    · repeat' (first | exact kd_false | exact kd_ans3 _ | refine kd_br ?_ ?_ | split)
  · exact ΓVa_ok _ _ h

theorem in_i64' {v : Value} {w : World} (h : InArg Try.prog w 2 v) : ∃ n, In64 n ∧ den ⟨w, [], []⟩ (I64 n) v := by
  obtain ⟨n, h1, h2⟩ := in_int (k := .i64) (by kernel_rfl) (by kernel_rfl) h
  exact ⟨n, by have := wf_i64' h1; unfold In64; omega, h2⟩
theorem in_vec {v : Value} {w : World} (h : InArg Try.prog w 23 v) : ∃ a b c, In64 a ∧ In64 b ∧ In64 c ∧ den ⟨w, [], []⟩ (V3 a b c) v := by
  obtain ⟨g, h1, h2⟩ := in_agg (ss := [.int .i64, .int .i64, .int .i64]) (by kernel_rfl) (by kernel_rfl) h
  obtain ⟨⟨a, e1, q1⟩, ⟨b, e2, q2⟩, ⟨c, e3, q3⟩, _⟩ := h1
  have k1 := wf_i64' q1
  have k2 := wf_i64' q2
  have k3 := wf_i64' q3
  refine ⟨a, b, c, by unfold In64; omega, by unfold In64; omega, by unfold In64; omega, ?_⟩
  have e : ((List.range [Sh.int .i64, .int .i64, .int .i64].length).map g).map SV.d = [I64 a, I64 b, I64 c] := by
    show [SV.d (g 0), .d (g 1), .d (g 2)] = _
    rw [e1, show g 1 = _ from e2, show g 2 = _ from e3]
  rw [e] at h2
  exact h2
theorem vnumbers_ok : evFunc Try.prog ΓVb noAnn 10 5 3 [] [] yesK := by
  rw [vcVNumbers]
  repeat' (first | trivial | rintro _ rfl | refine BR_t (by decide +kernel) ?_ | refine BR_f (by decide +kernel) ?_)
theorem walk_numbers (w : World) : Calls Try.prog 3 #[] w fun e w' => e = .returned (.bool true) ∧ Below w.heap.size w w' :=
  law_calls ΓVb_ok vnumbers_ok dens_nil
theorem vtells_ok {a b c d e f s : Int} (ha : In64 a) (hb : In64 b) (hc : In64 c) (hd : In64 d) (he : In64 e) (hf : In64 f) (hs : In64 s) : evFunc Try.prog ΓVb noAnn 10 5 4 [V3 a b c, V3 d e f, I64 s] [] yesK := by
  rw [vcVTells]
  simp only [forall_eq, inV_of ha hb hc, inV_of hd he hf, inI64_of hs, decide_true, Bool.and_true, BR_true]
theorem walk_tells (v0 v1 v2 : Value) (w : World) (h0 : InArg Try.prog w 23 v0) (h1 : InArg Try.prog w 23 v1) (h2 : InArg Try.prog w 2 v2) :
    Calls Try.prog 4 #[v0, v1, v2] w fun e w' => e = .returned (.bool true) ∧ Below w.heap.size w w' := by
  obtain ⟨a, b, c, ha, hb, hc, d0⟩ := in_vec h0
  obtain ⟨d, e, f, hd, he, hf, d1⟩ := in_vec h1
  obtain ⟨s, hs, d2⟩ := in_i64' h2
  exact law_calls ΓVb_ok (vtells_ok ha hb hc hd he hf hs) (dens_cons d0 (dens_cons d1 (dens_cons d2 dens_nil)))
theorem vturns_ok {a b c d e f : Int} (ha : In64 a) (hb : In64 b) (hc : In64 c) (hd : In64 d) (he : In64 e) (hf : In64 f) : evFunc Try.prog ΓVb annV 10 5 5 [V3 a b c, V3 d e f] [] yesK := by
  rw [vcVTurns]
  have hl := lenV_nonneg (a, b, c)
  have hl' : ¬ lenV (a, b, c) < 0 := by omega
  simp only [forall_eq, forall_const, exists_const, and_self, and_true, true_and, inV_of ha hb hc, inV_of hd he hf, addV_comm (d, e, f) (a, b, c), mulV_comm (d, e, f) (a, b, c), dotV_comm (d, e, f) (a, b, c), subV_self, decide_true, Bool.and_true, Bool.not_true, BR_true, BR_false, hl', decide_false]
  obtain ⟨p1, p2, p3⟩ := lowV_bd (a, b, c)
  obtain ⟨q1, q2, q3⟩ := lowV_bd (d, e, f)
  have ip : inV (lowV (a, b, c)).1 (lowV (a, b, c)).2.1 (lowV (a, b, c)).2.2 = true := inV_of (by unfold In64; omega) (by unfold In64; omega) (by unfold In64; omega)
  have iq : inV (lowV (d, e, f)).1 (lowV (d, e, f)).2.1 (lowV (d, e, f)).2.2 = true := inV_of (by unfold In64; omega) (by unfold In64; omega) (by unfold In64; omega)
  generalize lowV (a, b, c) = p at *
  generalize lowV (d, e, f) = q at *
  simp only [ip, iq, BR_true, Prod.eta]
  have ic := inV_of3 (crossV_in q p)
  have is := inV_of3 (subV_in p q)
  have f1 : negV (crossV q p) = crossV p q := cross_neg ⟨p1, p2, p3⟩ ⟨q1, q2, q3⟩
  have f2 : crossV p p = (0, 0, 0) := cross_self p
  have f3 : addV (subV p q) q = p := sub_addV ⟨p1, p2, p3⟩ ⟨q1, q2, q3⟩
  have f4 : scaleV p 4294967296 = p := scale_one ⟨p1, p2, p3⟩
  have f5 : scaleV p 0 = (0, 0, 0) := scale_zero p
  simp only [ic, is, f1, f2, f3, f4, f5, BR_true, BR_false, decide_true, Bool.and_true, Bool.not_true, and_self]
theorem walk_turns (v0 v1 : Value) (w : World) (h0 : InArg Try.prog w 23 v0) (h1 : InArg Try.prog w 23 v1) :
    Calls Try.prog 5 #[v0, v1] w fun e w' => e = .returned (.bool true) ∧ Below w.heap.size w w' := by
  obtain ⟨a, b, c, ha, hb, hc, d0⟩ := in_vec h0
  obtain ⟨d, e, f, hd, he, hf, d1⟩ := in_vec h1
  exact law_calls ΓVb_ok (vturns_ok ha hb hc hd he hf) (dens_cons d0 (dens_cons d1 dens_nil))
end Go.Proofs.Ytcihpmhnkgkdcaa.Fix

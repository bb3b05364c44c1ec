/- Light: the functions do what is said of them. -/
import Derived.Test.YtlnpfmglbblmoaaLit0Vc
import Derived.Test.YtlnpfmglbblmoaaLit1Vc
import Derived.Test.YtlnpfmglbblmoaaLit2Vc
import Derived.Test.YtlnpfmglbblmoaaVecFun1
namespace Go.Proofs.Ytlnpfmglbblmoaa.Fix
open Go Go.Proofs.Ytlnpfmglbblmoaa.Sx
attribute [local irreducible] evFunc

theorem cosZ_in (a : Int) : In64 (cosZ a) := sinZ_in _
theorem max1_in {a : Int} (h : In64 a) : In64 (max a 1) := by unfold In64 at *; omega
theorem wu8 {n : Int} (h : 0 ≤ n ∧ n ≤ 255) : IntKind.u8.wrap n = n := by rw [IntKind.wrap_u8']; omega
theorem axisV_y {d e f : Int} (h : 2147483648 < d ∨ d < -2147483648) : axisV (d, e, f) = (0, 4294967296, 0) := by
  unfold axisV
  split
  · rfl
  · rename_i hh; exact absurd h hh
theorem axisV_n {d e f : Int} (h1 : ¬ 2147483648 < d) (h2 : ¬ d < -2147483648) : axisV (d, e, f) = (4294967296, 0, 0) := by
  unfold axisV
  split
  · rename_i hh; exact (hh.elim h1 h2).elim
  · rfl
theorem lclamp1_ok {a : Int} {K : Out → Prop} (h : K (.val (I64 (clampZ a)))) : EvV ΓV2 26 [I64 a] K := by
  unfold EvV
  rw [vcLClamp1]
  exact ⟨trivial, h⟩
theorem lpix1_ok {a s : Int} {ty : TypeId} (ha : In64 a) (hs : In64 s) {K : Out → Prop} (h : K (.val (I64 (divZ a s)))) : evFunc Try.prog ΓV2 noAnn 10 5 20 [I64 a, .ptr 0 0] [.fix ty [I64 s]] (capK [.fix ty [I64 s]] K) := by
  rw [vcLPix1]
  simp only [true_and, and_true, forall_eq, inI64_of ha, inI64_of hs, BR_true]
  exact h
theorem lpix2_ok {a : Int} (ha : In64 a) {K : Out → Prop} (h : K (.val (I64 (byteZ a)))) : EvV ΓV2 22 [I64 a] K := by
  unfold EvV
  rw [vcLPix2]
  simp only [true_and, forall_eq, inI64_of ha, inI64_of (mulZ_in _ _), inI64_of (addZ_in _ _), BR_true]
  exact h
theorem lrclamp1_ok {a : Int} {K : Out → Prop} (h : K (.val (I64 (clampZ a)))) : EvV ΓV2 50 [I64 a] K := by
  unfold EvV
  rw [vcLRClamp1]
  unfold clampZ at h
  refine BR_d (fun e => ⟨trivial, ?_⟩) fun e => BR_d (fun e2 => ⟨trivial, ?_⟩) fun e2 => ⟨trivial, ?_⟩
  · rw [show max 0 (min a 4294967296) = 0 by omega] at h; exact h
  · rw [show max 0 (min a 4294967296) = 4294967296 by omega] at h; exact h
  · rw [show max 0 (min a 4294967296) = a by omega] at h; exact h
theorem lradd_ok {a b c d e f : Int} (ha : In64 a) (hb : In64 b) (hc : In64 c) (hd : In64 d) (he : In64 e) (hf : In64 f) {K : Out → Prop} (h : K (.val (Vp (addV (a, b, c) (d, e, f))))) : EvV ΓV2 40 [V3 a b c, V3 d e f] K := by
  unfold EvV
  rw [vcLRadd]
  simp only [true_and, and_true, forall_eq, inI64_of ha, inI64_of hb, inI64_of hc, inI64_of hd, inI64_of he, inI64_of hf, BR_true]
  exact h
theorem lrscale_ok {a b c d : Int} (ha : In64 a) (hb : In64 b) (hc : In64 c) (hd : In64 d) {K : Out → Prop} (h : K (.val (Vp (scaleV (a, b, c) d)))) : EvV ΓV2 41 [V3 a b c, I64 d] K := by
  unfold EvV
  rw [vcLRscale]
  simp only [true_and, and_true, forall_eq, inI64_of ha, inI64_of hb, inI64_of hc, inI64_of hd, BR_true]
  exact h
theorem cap1_ok {f : FuncId} {F : Int → Int → Int} (H : ∀ a s ty, In64 a → In64 s → ∀ K, K (.val (I64 (F a s))) → evFunc Try.prog ΓV2 noAnn 10 5 f [I64 a, .ptr 0 0] [.fix ty [I64 s]] (capK [.fix ty [I64 s]] K)) : SpecOK Try.prog f (cap1 F) ∧ SpecCalm (cap1 F) := by
  refine ⟨capSpec_ok (evFunc_sound ΓV2_ok noAnn 10 5) fun xs obs K h => ?_, capSpec_calm fun xs obs => ?_⟩
  · split at h
    · obtain ⟨h1, h2⟩ := req h
      obtain ⟨h2, h3⟩ := req h2
      exact H _ _ _ (of_inI64 h1) (of_inI64 h2) K (h3 _ rfl)
    · exact h.elim
  · repeat' (first | exact kd_ret _ | exact kd_false | refine kd_br ?_ ?_ | refine kd_all (E := fun n K => K (.val (I64 n))) ?_ | split)
theorem fn1_okV {Γ : FuncId → Option Sx.Spec} (hΓ : GammaOK Try.prog Γ) {f : FuncId} {F : Int → Int} (H : ∀ a, In64 a → ∀ K, K (.val (I64 (F a))) → EvV Γ f [I64 a] K) : SpecOK Try.prog f (fn1 F) ∧ SpecCalm (fn1 F) := by
  refine ⟨pureSpec_ok (nl := none) (evFunc_sound hΓ noAnn 10 5) fun xs K h => ?_, fn1_calm F⟩
  split at h
  · obtain ⟨h1, h2⟩ := req h
    exact H _ (of_inI64 h1) K (h2 _ rfl)
  · exact h.elim
theorem ΓL0_ok : GammaOK Try.prog ΓL0 := by
  intro f s h
  unfold ΓL0 at h
  split at h
  · cases h
  · cases h; exact fn1_okV ΓV2_ok fun a _ K h => lclamp1_ok h -- light.Clamp$1
  · cases h; exact cap1_ok fun a s ty ha hs K h => lpix1_ok ha hs h -- light.Pixel$1
  · cases h; exact fn1_okV ΓV2_ok fun a ha K h => lpix2_ok ha h -- light.Pixel$2
  · cases h; exact fn1_okV ΓV2_ok fun a _ K h => lrclamp1_ok h -- lightwellref21.clamp
  · cases h; exact vv_ok ΓV2_ok fun a b c d e g ha hb hc hd he hg K h => lradd_ok ha hb hc hd he hg h -- lightwellref21.add
  · cases h; exact vs_ok ΓV2_ok fun a b c s ha hb hc hs K h => lrscale_ok ha hb hc hs h -- lightwellref21.scale
  · exact ΓV2_ok _ _ h
theorem lclamp_ok {a b c : Int} (ha : In64 a) (hb : In64 b) (hc : In64 c) {K : Out → Prop} (h : K (.val (Vp (clampV (a, b, c))))) : EvV ΓL0 8 [V3 a b c] K := by
  unfold EvV
  rw [vcLClamp]
  simp only [true_and, and_true, forall_eq, inI64_of ha, inI64_of hb, inI64_of hc, inV_of ha hb hc, BR_true]
  exact h
theorem lbounce_ok {k a b c d e f p q : Int} (ha : In64 a) (hb : In64 b) (hc : In64 c) (hd : In64 d) (he : In64 e) (hf : In64 f) (hp : In64 p) (hq : In64 q) {K : Out → Prop} (h : K (.val (Vp (bounceV k (a, b, c) (d, e, f) p q)))) : EvV ΓL0 12 [U8 k, V3 a b c, V3 d e f, I64 p, I64 q] K := by
  unfold EvV
  rw [vcLBounce]
  simp only [forall_eq, true_and, and_true, and_self, BR_true, inV_of3 (addV_in _ _), inV_of3 (subV_in _ _), inV_of3 (scaleV_in _ _), inV_of3 (crossV_in _ _), inV_of3 (unitV_in _), inV_of3 (bendV_in _ _), inI64_of (addZ_in _ _), inI64_of (subZ_in _ _), inI64_of (mulZ_in _ _), inI64_of (divZ_in _ _), inI64_of (ofZ_in _), inI64_of (sinZ_in _), inI64_of (cosZ_in _), Prod.eta, inI64_of hp, inI64_of hq, inV_of ha hb hc, inV_of hd he hf, inI64_of (sqrtZ_in hq).1, inI64_of (sqrtZ_in (subZ_in _ _)).1]
  refine BR_d (fun e0 => ?_) fun e0 => BR_d (fun e1 => ?_) fun e1 => BR_d (fun e2 => ?_) fun e2 => ?_
  · unfold bounceV at h; rw [if_pos e0] at h; exact h
  · unfold bounceV at h; rw [if_neg e0, axisV_y (Or.inl e1), sideV] at h; with_reducible exact h
  · unfold bounceV at h; rw [if_neg e0, axisV_y (Or.inr e2), sideV] at h; with_reducible exact h
  · unfold bounceV at h; rw [if_neg e0, axisV_n e1 e2, sideV] at h; with_reducible exact h
theorem llook_ok {a b c d e f t i u v x y z : Int} (ha : In64 a) (hb : In64 b) (hc : In64 c) (hd : In64 d) (he : In64 e) (hf : In64 f) (ht : In64 t) {K : Out → Prop}
    (h : K (.val (.agg [I64 u, I64 v, I64 (addV (a, b, c) (scaleV (d, e, f) t)).1, I64 (addV (a, b, c) (scaleV (d, e, f) t)).2.1, I64 (addV (a, b, c) (scaleV (d, e, f) t)).2.2, I64 x, I64 y, I64 z]))) :
    EvV ΓL0 14 [.agg [I64 a, I64 b, I64 c, I64 d, I64 e, I64 f], .agg [I64 t, I64 i, I64 u, I64 v], V3 x y z] K := by
  unfold EvV
  rw [vcLLook]
  simp only [forall_eq, true_and, and_true, and_self, BR_true, inV_of3 (addV_in _ _), inV_of3 (subV_in _ _), inV_of3 (scaleV_in _ _), inV_of3 (crossV_in _ _), inV_of3 (unitV_in _), inV_of3 (bendV_in _ _), inI64_of (addZ_in _ _), inI64_of (subZ_in _ _), inI64_of (mulZ_in _ _), inI64_of (divZ_in _ _), inI64_of (ofZ_in _), inI64_of (sinZ_in _), inI64_of (cosZ_in _), Prod.eta, inI64_of ht, inV_of ha hb hc, inV_of hd he hf]
  exact h
theorem lcamera_ok {w h a b c d e f g i j wide x y dx dy s1 s2 s3 s4 s5 s6 : Int} {n1 n2 n3 : Nat} {g1 g2 g3 : Nat → Nat → D} (hw : In64 w) (hh : In64 h) (ha : In64 a) (hb : In64 b) (hc : In64 c) (hd : In64 d) (he : In64 e) (hf : In64 f) (hg : In64 g) (hi : In64 i) (hj : In64 j) (hwide : In64 wide)
    (hx : In64 x) (hy : In64 y) (hdx : In64 dx) (hdy : In64 dy) {K : Out → Prop}
    (hK : K (.val (.agg [I64 a, I64 b, I64 c, I64 (camV w h (a, b, c) (d, e, f) (g, i, j) wide x y dx dy).1, I64 (camV w h (a, b, c) (d, e, f) (g, i, j) wide x y dx dy).2.1, I64 (camV w h (a, b, c) (d, e, f) (g, i, j) wide x y dx dy).2.2]))) :
    EvV ΓL0 10 [.agg [I64 w, I64 h, I64 s1, I64 s2, U64 s3, I64 a, I64 b, I64 c, I64 d, I64 e, I64 f, I64 g, I64 i, I64 j, I64 wide, I64 s4, I64 s5, I64 s6, .d (.list 6 n1 g1), .d (.list 5 n2 g2), .d (.list 5 n3 g3)], I64 x, I64 y, I64 dx, I64 dy] K := by
  unfold EvV
  rw [vcLCamera]
  simp only [forall_eq, true_and, and_true, and_self, BR_true, inV_of3 (addV_in _ _), inV_of3 (subV_in _ _), inV_of3 (scaleV_in _ _), inV_of3 (crossV_in _ _), inV_of3 (unitV_in _), inV_of3 (bendV_in _ _), inI64_of (addZ_in _ _), inI64_of (subZ_in _ _), inI64_of (mulZ_in _ _), inI64_of (divZ_in _ _), inI64_of (ofZ_in _), inI64_of (sinZ_in _), inI64_of (cosZ_in _), Prod.eta, inI64_of (max1_in hw), inI64_of (max1_in hh), inI64_of ha, inI64_of hb, inI64_of hc, inI64_of hd, inI64_of he, inI64_of hf, inI64_of hx, inI64_of hy, inI64_of hdx, inI64_of hdy, inI64_of hwide, inV_of ha hb hc, inV_of hd he hf, inV_of hg hi hj, inV_of (subZ_in _ _) (subZ_in _ _) (subZ_in _ _)]
  exact hK
theorem lrclamp_ok {a b c : Int} (ha : In64 a) (hb : In64 b) (hc : In64 c) {K : Out → Prop} (h : K (.val (Vp (clampV (a, b, c))))) : EvV ΓL0 16 [V3 a b c] K := by
  unfold EvV
  rw [vcLRClamp]
  simp only [true_and, and_true, forall_eq, inI64_of ha, inI64_of hb, inI64_of hc, inV_of ha hb hc, BR_true]
  exact h
theorem lrbounce_ok {k a b c d e f p q : Int} (ha : In64 a) (hb : In64 b) (hc : In64 c) (hd : In64 d) (he : In64 e) (hf : In64 f) (hp : In64 p) (hq : In64 q) {K : Out → Prop} (h : K (.val (Vp (bounceV k (a, b, c) (d, e, f) p q)))) : EvV ΓL0 13 [U8 k, V3 a b c, V3 d e f, I64 p, I64 q] K := by
  unfold EvV
  rw [vcLRBounce]
  simp only [forall_eq, true_and, and_true, and_self, BR_true, inV_of3 (addV_in _ _), inV_of3 (subV_in _ _), inV_of3 (scaleV_in _ _), inV_of3 (crossV_in _ _), inV_of3 (unitV_in _), inV_of3 (bendV_in _ _), inI64_of (addZ_in _ _), inI64_of (subZ_in _ _), inI64_of (mulZ_in _ _), inI64_of (divZ_in _ _), inI64_of (ofZ_in _), inI64_of (sinZ_in _), inI64_of (cosZ_in _), Prod.eta, inI64_of hp, inI64_of hq, inV_of ha hb hc, inV_of hd he hf, inI64_of (sqrtZ_in hq).1, inI64_of (sqrtZ_in (subZ_in _ _)).1]
  refine BR_d (fun e0 => ?_) fun e0 => BR_d (fun e1 => ?_) fun e1 => BR_d (fun e2 => ?_) fun e2 => ?_
  · unfold bounceV at h; rw [if_pos e0] at h; exact h
  · unfold bounceV at h; rw [if_neg e0, axisV_y (Or.inl e1), sideV] at h; with_reducible exact h
  · unfold bounceV at h; rw [if_neg e0, axisV_y (Or.inr e2), sideV] at h; with_reducible exact h
  · unfold bounceV at h; rw [if_neg e0, axisV_n e1 e2, sideV] at h; with_reducible exact h
theorem lrlook_ok {a b c d e f t i u v x y z : Int} (ha : In64 a) (hb : In64 b) (hc : In64 c) (hd : In64 d) (he : In64 e) (hf : In64 f) (ht : In64 t) {K : Out → Prop}
    (h : K (.val (.agg [I64 u, I64 v, I64 (addV (a, b, c) (scaleV (d, e, f) t)).1, I64 (addV (a, b, c) (scaleV (d, e, f) t)).2.1, I64 (addV (a, b, c) (scaleV (d, e, f) t)).2.2, I64 x, I64 y, I64 z]))) :
    EvV ΓL0 15 [.agg [I64 a, I64 b, I64 c, I64 d, I64 e, I64 f], .agg [I64 t, I64 i, I64 u, I64 v], V3 x y z] K := by
  unfold EvV
  rw [vcLRLook]
  simp only [forall_eq, true_and, and_true, and_self, BR_true, inV_of3 (addV_in _ _), inV_of3 (subV_in _ _), inV_of3 (scaleV_in _ _), inV_of3 (crossV_in _ _), inV_of3 (unitV_in _), inV_of3 (bendV_in _ _), inI64_of (addZ_in _ _), inI64_of (subZ_in _ _), inI64_of (mulZ_in _ _), inI64_of (divZ_in _ _), inI64_of (ofZ_in _), inI64_of (sinZ_in _), inI64_of (cosZ_in _), Prod.eta, inI64_of ht, inV_of ha hb hc, inV_of hd he hf]
  exact h
theorem lrcamera_ok {w h a b c d e f g i j wide x y dx dy s1 s2 s3 s4 s5 s6 : Int} {n1 n2 n3 : Nat} {g1 g2 g3 : Nat → Nat → D} (hw : In64 w) (hh : In64 h) (ha : In64 a) (hb : In64 b) (hc : In64 c) (hd : In64 d) (he : In64 e) (hf : In64 f) (hg : In64 g) (hi : In64 i) (hj : In64 j) (hwide : In64 wide)
    (hx : In64 x) (hy : In64 y) (hdx : In64 dx) (hdy : In64 dy) {K : Out → Prop}
    (hK : K (.val (.agg [I64 a, I64 b, I64 c, I64 (camV w h (a, b, c) (d, e, f) (g, i, j) wide x y dx dy).1, I64 (camV w h (a, b, c) (d, e, f) (g, i, j) wide x y dx dy).2.1, I64 (camV w h (a, b, c) (d, e, f) (g, i, j) wide x y dx dy).2.2]))) :
    EvV ΓL0 11 [.agg [I64 w, I64 h, I64 s1, I64 s2, U64 s3, I64 a, I64 b, I64 c, I64 d, I64 e, I64 f, I64 g, I64 i, I64 j, I64 wide, I64 s4, I64 s5, I64 s6, .d (.list 6 n1 g1), .d (.list 5 n2 g2), .d (.list 5 n3 g3)], I64 x, I64 y, I64 dx, I64 dy] K := by
  unfold EvV
  rw [vcLRCamera]
  simp only [forall_eq, true_and, and_true, and_self, BR_true, inV_of3 (addV_in _ _), inV_of3 (subV_in _ _), inV_of3 (scaleV_in _ _), inV_of3 (crossV_in _ _), inV_of3 (unitV_in _), inV_of3 (bendV_in _ _), inI64_of (addZ_in _ _), inI64_of (subZ_in _ _), inI64_of (mulZ_in _ _), inI64_of (divZ_in _ _), inI64_of (ofZ_in _), inI64_of (sinZ_in _), inI64_of (cosZ_in _), Prod.eta, inI64_of (max1_in hw), inI64_of (max1_in hh), inI64_of ha, inI64_of hb, inI64_of hc, inI64_of hd, inI64_of he, inI64_of hf, inI64_of hx, inI64_of hy, inI64_of hdx, inI64_of hdy, inI64_of hwide, inV_of ha hb hc, inV_of hd he hf, inV_of hg hi hj, inV_of (subZ_in _ _) (subZ_in _ _) (subZ_in _ _)]
  exact hK
theorem v1_okL {Γ : FuncId → Option Sx.Spec} (hΓ : GammaOK Try.prog Γ) {f : FuncId} {F : P3 → P3} (H : ∀ a b c, In64 a → In64 b → In64 c → ∀ K, K (.val (Vp (F (a, b, c)))) → EvV Γ f [V3 a b c] K) : SpecOK Try.prog f (v1 F) ∧ SpecCalm (v1 F) := v1_ok hΓ H
theorem bounce_spec {f : FuncId} (H : ∀ k a b c d e g p q, In64 a → In64 b → In64 c → In64 d → In64 e → In64 g → In64 p → In64 q → ∀ K, K (.val (Vp (bounceV k (a, b, c) (d, e, g) p q))) → EvV ΓL0 f [U8 k, V3 a b c, V3 d e g, I64 p, I64 q] K) : SpecOK Try.prog f bounceSpec ∧ SpecCalm bounceSpec := by
  refine ⟨pureSpec_ok (nl := none) (evFunc_sound ΓL0_ok noAnn 10 5) fun xs K h => ?_, pureSpec_calm fun xs => ?_⟩
  · split at h
    · obtain ⟨h1, h2⟩ := req h
      obtain ⟨h2, h3⟩ := req h2
      obtain ⟨h3, h4⟩ := req h3
      obtain ⟨h4, h5⟩ := req h4
      obtain ⟨a1, a2, a3⟩ := of_inV h1
      obtain ⟨b1, b2, b3⟩ := of_inV h2
      exact H _ _ _ _ _ _ _ _ _ a1 a2 a3 b1 b2 b3 (of_inI64 h3) (of_inI64 h4) K (h5 _ rfl _ rfl _ rfl)
    · exact h.elim
  · repeat' (first | exact kd_false | exact kd_ans3 _ | refine kd_br ?_ ?_ | split)
theorem kd_look (u v : Int) (p n : P3) : KD (ansLook u v p n) := by
  unfold ansLook
  refine kd_all (E := fun x K => ∀ y : Int, y = p.2.1 → ∀ z : Int, z = p.2.2 → K (.val (.agg [I64 u, I64 v, I64 x, I64 y, I64 z, I64 n.1, I64 n.2.1, I64 n.2.2]))) ?_
  refine kd_all (E := fun y K => ∀ z : Int, z = p.2.2 → K (.val (.agg [I64 u, I64 v, I64 p.1, I64 y, I64 z, I64 n.1, I64 n.2.1, I64 n.2.2]))) ?_
  exact kd_all (E := fun z K => K (.val (.agg [I64 u, I64 v, I64 p.1, I64 p.2.1, I64 z, I64 n.1, I64 n.2.1, I64 n.2.2]))) (kd_ret _)
theorem kd_ray (u p : P3) : KD (ansRay u p) := by
  unfold ansRay
  refine kd_all (E := fun x K => ∀ y : Int, y = p.2.1 → ∀ z : Int, z = p.2.2 → K (.val (.agg [I64 u.1, I64 u.2.1, I64 u.2.2, I64 x, I64 y, I64 z]))) ?_
  refine kd_all (E := fun y K => ∀ z : Int, z = p.2.2 → K (.val (.agg [I64 u.1, I64 u.2.1, I64 u.2.2, I64 p.1, I64 y, I64 z]))) ?_
  exact kd_all (E := fun z K => K (.val (.agg [I64 u.1, I64 u.2.1, I64 u.2.2, I64 p.1, I64 p.2.1, I64 z]))) (kd_ret _)
theorem look_spec {f : FuncId} (H : ∀ a b c d e g t i u v x y z, In64 a → In64 b → In64 c → In64 d → In64 e → In64 g → In64 t → ∀ K, K (.val (.agg [I64 u, I64 v, I64 (addV (a, b, c) (scaleV (d, e, g) t)).1, I64 (addV (a, b, c) (scaleV (d, e, g) t)).2.1, I64 (addV (a, b, c) (scaleV (d, e, g) t)).2.2, I64 x, I64 y, I64 z])) →
    EvV ΓL0 f [.agg [I64 a, I64 b, I64 c, I64 d, I64 e, I64 g], .agg [I64 t, I64 i, I64 u, I64 v], V3 x y z] K) : SpecOK Try.prog f lookSpec ∧ SpecCalm lookSpec := by
  refine ⟨pureSpec_ok (nl := none) (evFunc_sound ΓL0_ok noAnn 10 5) fun xs K h => ?_, pureSpec_calm fun xs => ?_⟩
  · split at h
    · obtain ⟨h1, h2⟩ := req h
      obtain ⟨h2, h3⟩ := req h2
      obtain ⟨h3, h4⟩ := req h3
      obtain ⟨a1, a2, a3⟩ := of_inV h1
      obtain ⟨b1, b2, b3⟩ := of_inV h2
      exact H _ _ _ _ _ _ _ _ _ _ _ _ _ a1 a2 a3 b1 b2 b3 (of_inI64 h3) K (h4 _ rfl _ rfl _ rfl)
    · exact h.elim
  · repeat' (first | exact kd_false | exact kd_look _ _ _ _ | refine kd_br ?_ ?_ | split)
theorem cam_spec {f : FuncId} (H : ∀ w h a b c d e g i j k wide x y dx dy s1 s2 s3 s4 s5 s6 n1 n2 n3 g1 g2 g3, In64 w → In64 h → In64 a → In64 b → In64 c → In64 d → In64 e → In64 g → In64 i → In64 j → In64 k → In64 wide → In64 x → In64 y → In64 dx → In64 dy → ∀ K,
    K (.val (.agg [I64 a, I64 b, I64 c, I64 (camV w h (a, b, c) (d, e, g) (i, j, k) wide x y dx dy).1, I64 (camV w h (a, b, c) (d, e, g) (i, j, k) wide x y dx dy).2.1, I64 (camV w h (a, b, c) (d, e, g) (i, j, k) wide x y dx dy).2.2])) →
    EvV ΓL0 f [.agg [I64 w, I64 h, I64 s1, I64 s2, U64 s3, I64 a, I64 b, I64 c, I64 d, I64 e, I64 g, I64 i, I64 j, I64 k, I64 wide, I64 s4, I64 s5, I64 s6, .d (.list 6 n1 g1), .d (.list 5 n2 g2), .d (.list 5 n3 g3)], I64 x, I64 y, I64 dx, I64 dy] K) : SpecOK Try.prog f camSpec ∧ SpecCalm camSpec := by
  refine ⟨pureSpec_ok (nl := none) (evFunc_sound ΓL0_ok noAnn 10 5) fun xs K h => ?_, pureSpec_calm fun xs => ?_⟩
  · split at h
    · obtain ⟨h1, h2⟩ := req h
      obtain ⟨h2, h3⟩ := req h2
      obtain ⟨h3, h4⟩ := req h3
      obtain ⟨h4, h5⟩ := req h4
      obtain ⟨h5, h6⟩ := req h5
      obtain ⟨h6, h7⟩ := req h6
      obtain ⟨a1, a2, a3⟩ := of_inV h1
      obtain ⟨b1, b2, b3⟩ := of_inV h2
      obtain ⟨c1, c2, c3⟩ := of_inV h3
      obtain ⟨d1, d2, d3⟩ := of_inV h4
      obtain ⟨e1, e2, e3⟩ := of_inV h5
      exact H _ _ _ _ _ _ _ _ _ _ _ _ _ _ _ _ _ _ _ _ _ _ _ _ _ _ _ _ d1 d2 a1 a2 a3 b1 b2 b3 c1 c2 c3 d3 e1 e2 e3 (of_inI64 h6) K (h7 _ rfl _ rfl _ rfl)
    · exact h.elim
  · repeat' (first | exact kd_false | exact kd_ray _ _ | refine kd_br ?_ ?_ | split)
theorem ΓL1_ok : GammaOK Try.prog ΓL1 := by
  intro f s h
  unfold ΓL1 at h
  split at h
  · cases h
  · cases h; exact v1_ok ΓL0_ok fun a b c ha hb hc K h => lclamp_ok ha hb hc h -- light.Clamp
  · cases h; exact v1_ok ΓL0_ok fun a b c ha hb hc K h => lrclamp_ok ha hb hc h -- lightwellref21.Clamp
  · cases h; exact bounce_spec fun _ _ _ _ _ _ _ _ _ h1 h2 h3 h4 h5 h6 h7 h8 K h => lbounce_ok h1 h2 h3 h4 h5 h6 h7 h8 h -- light.Bounce
  · cases h; exact bounce_spec fun _ _ _ _ _ _ _ _ _ h1 h2 h3 h4 h5 h6 h7 h8 K h => lrbounce_ok h1 h2 h3 h4 h5 h6 h7 h8 h -- lightwellref21.Bounce
  · cases h; exact look_spec fun _ _ _ _ _ _ _ _ _ _ _ _ _ h1 h2 h3 h4 h5 h6 h7 K h => llook_ok h1 h2 h3 h4 h5 h6 h7 h -- light.Look
  · cases h; exact look_spec fun _ _ _ _ _ _ _ _ _ _ _ _ _ h1 h2 h3 h4 h5 h6 h7 K h => lrlook_ok h1 h2 h3 h4 h5 h6 h7 h -- lightwellref21.Look
  · cases h; exact cam_spec fun _ _ _ _ _ _ _ _ _ _ _ _ _ _ _ _ _ _ _ _ _ _ _ _ _ _ _ _ h1 h2 h3 h4 h5 h6 h7 h8 h9 h10 h11 h12 h13 h14 h15 h16 K h => lcamera_ok h1 h2 h3 h4 h5 h6 h7 h8 h9 h10 h11 h12 h13 h14 h15 h16 h -- light.Camera
  · cases h; exact cam_spec fun _ _ _ _ _ _ _ _ _ _ _ _ _ _ _ _ _ _ _ _ _ _ _ _ _ _ _ _ h1 h2 h3 h4 h5 h6 h7 h8 h9 h10 h11 h12 h13 h14 h15 h16 K h => lrcamera_ok h1 h2 h3 h4 h5 h6 h7 h8 h9 h10 h11 h12 h13 h14 h15 h16 h -- lightwellref21.Camera
  · exact ΓL0_ok _ _ h
theorem lpixel_ok {a b c n : Int} (ha : In64 a) (hb : In64 b) (hc : In64 c) (hn : In64 n) {K : Out → Prop} (h : K (.val (.agg [U8 (pixZ a n), U8 (pixZ b n), U8 (pixZ c n), U8 255]))) : EvV ΓL1 7 [V3 a b c, I64 n] K := by
  unfold EvV
  rw [vcLPixel]
  simp only [forall_eq, true_and, and_true, and_self, BR_true, inV_of3 (addV_in _ _), inV_of3 (subV_in _ _), inV_of3 (scaleV_in _ _), inV_of3 (crossV_in _ _), inV_of3 (unitV_in _), inV_of3 (bendV_in _ _), inI64_of (addZ_in _ _), inI64_of (subZ_in _ _), inI64_of (mulZ_in _ _), inI64_of (divZ_in _ _), inI64_of (ofZ_in _), inI64_of (sinZ_in _), inI64_of (cosZ_in _), Prod.eta, inI64_of (max1_in hn), inI64_of ha, inI64_of hb, inI64_of hc, inV_of (divZ_in _ _) (divZ_in _ _) (divZ_in _ _), clampV, inI64_of (clampZ_in _)]
  have w1 := wu8 (pixZ_bd a n)
  have w2 := wu8 (pixZ_bd b n)
  have w3 := wu8 (pixZ_bd c n)
  rw [← w1, ← w2, ← w3] at h
  exact h
theorem lrpixel_ok {a b c n : Int} (ha : In64 a) (hb : In64 b) (hc : In64 c) (hn : In64 n) {K : Out → Prop} (h : K (.val (.agg [U8 (pixZ a n), U8 (pixZ b n), U8 (pixZ c n), U8 255]))) : EvV ΓL1 17 [V3 a b c, I64 n] K := by
  unfold EvV
  rw [vcLRPixel]
  simp only [forall_eq, true_and, and_true, and_self, BR_true, inV_of3 (addV_in _ _), inV_of3 (subV_in _ _), inV_of3 (scaleV_in _ _), inV_of3 (crossV_in _ _), inV_of3 (unitV_in _), inV_of3 (bendV_in _ _), inI64_of (addZ_in _ _), inI64_of (subZ_in _ _), inI64_of (mulZ_in _ _), inI64_of (divZ_in _ _), inI64_of (ofZ_in _), inI64_of (sinZ_in _), inI64_of (cosZ_in _), Prod.eta, inI64_of (max1_in hn), inI64_of ha, inI64_of hb, inI64_of hc, inV_of (divZ_in _ _) (divZ_in _ _) (divZ_in _ _), clampV, inI64_of (clampZ_in _)]
  have w1 := wu8 (pixZ_bd a n)
  have w2 := wu8 (pixZ_bd b n)
  have w3 := wu8 (pixZ_bd c n)
  rw [← w1, ← w2, ← w3] at h
  exact h
theorem kd_pix (a b c n : Int) : KD (fun K => ∀ x : Int, x = pixZ a n → ∀ y : Int, y = pixZ b n → ∀ z : Int, z = pixZ c n → K (.val (.agg [U8 x, U8 y, U8 z, U8 255]))) := by
  refine kd_all (E := fun x K => ∀ y : Int, y = pixZ b n → ∀ z : Int, z = pixZ c n → K (.val (.agg [U8 x, U8 y, U8 z, U8 255]))) ?_
  refine kd_all (E := fun y K => ∀ z : Int, z = pixZ c n → K (.val (.agg [U8 _, U8 y, U8 z, U8 255]))) ?_
  exact kd_all (E := fun z K => K (.val (.agg [U8 _, U8 _, U8 z, U8 255]))) (kd_ret _)
theorem pix_spec {f : FuncId} (H : ∀ a b c n, In64 a → In64 b → In64 c → In64 n → ∀ K, K (.val (.agg [U8 (pixZ a n), U8 (pixZ b n), U8 (pixZ c n), U8 255])) → EvV ΓL1 f [V3 a b c, I64 n] K) : SpecOK Try.prog f pixSpec ∧ SpecCalm pixSpec := by
  refine ⟨pureSpec_ok (nl := none) (evFunc_sound ΓL1_ok noAnn 10 5) fun xs K h => ?_, pureSpec_calm fun xs => ?_⟩
  · split at h
    · obtain ⟨h1, h2⟩ := req h
      obtain ⟨h2, h3⟩ := req h2
      obtain ⟨a1, a2, a3⟩ := of_inV h1
      exact H _ _ _ _ a1 a2 a3 (of_inI64 h2) K (h3 _ rfl _ rfl _ rfl)
    · exact h.elim
  · repeat' (first | exact kd_false | exact kd_pix _ _ _ _ | refine kd_br ?_ ?_ | split)
theorem ΓL2_ok : GammaOK Try.prog ΓL2 := by
  intro f s h
  unfold ΓL2 at h
  split at h
  · cases h
  · cases h; exact pix_spec fun _ _ _ _ h1 h2 h3 h4 K h => lpixel_ok h1 h2 h3 h4 h -- light.Pixel
  · cases h; exact pix_spec fun _ _ _ _ h1 h2 h3 h4 K h => lrpixel_ok h1 h2 h3 h4 h -- lightwellref21.Pixel
  · exact ΓL1_ok _ _ h
end Go.Proofs.Ytlnpfmglbblmoaa.Fix

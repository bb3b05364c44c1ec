/- Hit: the laws return true. -/
import Derived.Test.YtcclekhekdibjaaHilFun
import Derived.Test.YtcclekhekdibjaaHil1Vc
import Derived.Test.YtcclekhekdibjaaHil2Vc
import Derived.Test.YtcclekhekdibjaaSxOpen
import Derived.Test.YtcclekhekdibjaaSxLaw
import Derived.Laws.Closers25b
import Derived.Below
import Derived.KernelRfl
namespace Go.Proofs.Ytcclekhekdibjaa.Fix
open Go Go.Proofs.Ytcclekhekdibjaa.Sx Go.RowKit
attribute [local irreducible] evFunc

theorem BR_self {b : Bool} : BR b (true = b) (false = b) = True := by cases b <;> simp [BR]
theorem BR_nb {b : Bool} {A B : Prop} : BR (!b) A B = BR b B A := by cases b <;> simp [BR]
theorem BR_same {b : Bool} {A : Prop} : BR b A A = A := by cases b <;> simp [BR]
theorem tm_bd (a : Int) {b : Int} (hb : 0 < b) : -b < a.tmod b ∧ a.tmod b < b := by
  rcases Int.le_total 0 a with h | h
  · rw [Int.tmod_eq_emod_of_nonneg h]
    have := Int.emod_lt_of_pos a hb
    have := Int.emod_nonneg a (show b ≠ 0 by omega)
    omega
  · have e : a.tmod b = -((-a) % b) := by rw [← Int.tmod_eq_emod_of_nonneg (show 0 ≤ -a by omega), Int.neg_tmod, Int.neg_neg]
    rw [e]
    have := Int.emod_lt_of_pos (-a) hb
    have := Int.emod_nonneg (-a) (show b ≠ 0 by omega)
    omega
theorem near_okH {a b c : Int} {K : Out → Prop} (hK : K (.val (Vp (near44 (a, b, c))))) : EvV ΓH1 26 [V3 a b c] K := by
  unfold EvV
  rw [vcHNear]
  exact ⟨⟨trivial, trivial, trivial, trivial⟩, hK⟩
theorem plus_okH {a b c d e f : Int} (h1 : small46 a b c = true) (h2 : small46 d e f = true) {K : Out → Prop} (hK : K (.val (Vp (plusV (a, b, c) (d, e, f))))) : EvV ΓH1 28 [V3 a b c, V3 d e f] K := by
  unfold EvV
  rw [vcHPlus]
  simp only [small46, decide_eq_true_eq] at h1 h2
  rw [w64 (n := a + d) (by unfold In64; omega), w64 (n := b + e) (by unfold In64; omega), w64 (n := c + f) (by unfold In64; omega)]
  exact ⟨⟨trivial, trivial, trivial, trivial⟩, hK⟩
theorem around_okH {l m n p q r a b c : Int} {K : Out → Prop} (hK : K (.val (Ray (min l a) (min m b) (min n c) (max p a) (max q b) (max r c)))) : EvV ΓH1 22 [Ray l m n p q r, V3 a b c] K := by
  unfold EvV
  rw [vcHAround]
  exact ⟨⟨trivial, trivial, trivial, trivial, trivial, trivial, trivial⟩, hK⟩
theorem at_okH {x l h : Int} {K : Out → Prop} (hK : K (.val (I64 (max l (min x h))))) : EvV ΓH1 27 [I64 x, I64 l, I64 h] K := by
  unfold EvV
  rw [vcHAt]
  exact ⟨trivial, hK⟩
theorem ΓHa_ok : GammaOK Try.prog ΓHa := by
  intro f s h
  unfold ΓHa at h
  split at h
  · cases h
    refine ⟨pureSpec_ok (nl := none) (evFunc_sound ΓGc_ok noAnn 10 9) fun xs K h => ?_, pureSpec_calm fun xs => ?_⟩
    · split at h
      · exact awake_okH h
      · exact h.elim
    · repeat' (first | exact kd_ret _ | exact kd_false | split)
  · cases h; exact v1_ok ΓH1_ok fun a b c _ _ _ K h => near_okH h
  · cases h
    refine ⟨pureSpec_ok (nl := none) (evFunc_sound ΓH1_ok noAnn 10 5) fun xs K h => ?_, pureSpec_calm fun xs => ?_⟩
    · split at h
      · obtain ⟨h1, h2⟩ := req h
        obtain ⟨h2, h3⟩ := req h2
        exact plus_okH h1 h2 (h3 _ rfl _ rfl _ rfl)
      · exact h.elim
    · repeat' (first | exact kd_false | exact kd_ans3 _ | refine kd_br ?_ ?_ | split)
  · cases h
    refine ⟨pureSpec_ok (nl := none) (evFunc_sound ΓH1_ok noAnn 10 5) fun xs K h => ?_, pureSpec_calm fun xs => ?_⟩
    · split at h
      · exact around_okH h
      · exact h.elim
    · repeat' (first | exact kd_ret _ | exact kd_false | split)
  · cases h
    refine ⟨pureSpec_ok (nl := none) (evFunc_sound ΓH1_ok noAnn 10 5) fun xs K h => ?_, pureSpec_calm fun xs => ?_⟩
    · split at h
      · exact at_okH (h _ rfl)
      · exact h.elim
    · repeat' (first | exact kd_ret _ | exact kd_false | refine kd_all (E := fun n K => K (.val (I64 n))) ?_ | split)
  · exact ΓH1_ok _ _ h
/-! ## What is handed in -/
theorem w64' {n : Int} (h : (Lit.int .i64 n).wf = true) : In64 n := by have := wf_i64' h; unfold In64; omega
theorem in_vec {v : Value} {w : World} (h : InArg Try.prog w 23 v) : ∃ a b c, In64 a ∧ In64 b ∧ In64 c ∧ den ⟨w, [], []⟩ (V3 a b c) v := by
  obtain ⟨g, h1, h2⟩ := in_agg (ss := [.int .i64, .int .i64, .int .i64]) (by kernel_rfl) (by kernel_rfl) h
  obtain ⟨⟨a, e1, q1⟩, ⟨b, e2, q2⟩, ⟨c, e3, q3⟩, _⟩ := h1
  refine ⟨a, b, c, w64' q1, w64' q2, w64' q3, ?_⟩
  have e : ((List.range 3).map g).map SV.d = [I64 a, I64 b, I64 c] := by
    show [SV.d (g 0), .d (g 1), .d (g 2)] = _
    rw [e1, show g 1 = _ from e2, show g 2 = _ from e3]
  have h3 : den ⟨w, [], []⟩ (.agg (((List.range 3).map g).map SV.d)) v := h2
  rw [e] at h3
  exact h3
theorem in_ray {v : Value} {w : World} {t : TypeId} (hs : shapes Try.prog 8 t = some [.int .i64, .int .i64, .int .i64, .int .i64, .int .i64, .int .i64]) (ha : aggOf Try.prog t = some true) (h : InArg Try.prog w t v) : ∃ a b c d e f, In64 a ∧ In64 b ∧ In64 c ∧ In64 d ∧ In64 e ∧ In64 f ∧ den ⟨w, [], []⟩ (Ray a b c d e f) v := by
  obtain ⟨g, h1, h2⟩ := in_agg hs ha h
  obtain ⟨⟨x0, e0, q0⟩, ⟨x1, e1, q1⟩, ⟨x2, e2, q2⟩, ⟨x3, e3, q3⟩, ⟨x4, e4, q4⟩, ⟨x5, e5, q5⟩, _⟩ := h1
  refine ⟨x0, x1, x2, x3, x4, x5, w64' q0, w64' q1, w64' q2, w64' q3, w64' q4, w64' q5, ?_⟩
  have e : ((List.range 6).map g).map SV.d = [I64 x0, I64 x1, I64 x2, I64 x3, I64 x4, I64 x5] := by
    show [SV.d (g 0), .d (g 1), .d (g 2), .d (g 3), .d (g 4), .d (g 5)] = _
    rw [e0, show g 1 = _ from e1, show g 2 = _ from e2, show g 3 = _ from e3, show g 4 = _ from e4, show g 5 = _ from e5]
  have h3 : den ⟨w, [], []⟩ (.agg (((List.range 6).map g).map SV.d)) v := h2
  rw [e] at h3
  exact h3
theorem in_ball {v : Value} {w : World} (h : InArg Try.prog w 39 v) : ∃ a b c r, In64 a ∧ In64 b ∧ In64 c ∧ In64 r ∧ den ⟨w, [], []⟩ (.agg [I64 a, I64 b, I64 c, I64 r]) v := by
  obtain ⟨g, h1, h2⟩ := in_agg (ss := [.int .i64, .int .i64, .int .i64, .int .i64]) (by kernel_rfl) (by kernel_rfl) h
  obtain ⟨⟨x0, e0, q0⟩, ⟨x1, e1, q1⟩, ⟨x2, e2, q2⟩, ⟨x3, e3, q3⟩, _⟩ := h1
  refine ⟨x0, x1, x2, x3, w64' q0, w64' q1, w64' q2, w64' q3, ?_⟩
  have e : ((List.range 4).map g).map SV.d = [I64 x0, I64 x1, I64 x2, I64 x3] := by
    show [SV.d (g 0), .d (g 1), .d (g 2), .d (g 3)] = _
    rw [e0, show g 1 = _ from e1, show g 2 = _ from e2, show g 3 = _ from e3]
  have h3 : den ⟨w, [], []⟩ (.agg (((List.range 4).map g).map SV.d)) v := h2
  rw [e] at h3
  exact h3
theorem in_vec3 {v : Value} {w : World} (h : InArg Try.prog w 61 v) : ∃ a b c d e f g h k, (In64 a ∧ In64 b ∧ In64 c ∧ In64 d ∧ In64 e ∧ In64 f ∧ In64 g ∧ In64 h ∧ In64 k) ∧ den ⟨w, [], []⟩ (.agg [I64 a, I64 b, I64 c, I64 d, I64 e, I64 f, I64 g, I64 h, I64 k]) v := by
  obtain ⟨g, h1, h2⟩ := in_agg (ss := [.int .i64, .int .i64, .int .i64, .int .i64, .int .i64, .int .i64, .int .i64, .int .i64, .int .i64]) (by kernel_rfl) (by kernel_rfl) h
  obtain ⟨⟨x0, e0, q0⟩, ⟨x1, e1, q1⟩, ⟨x2, e2, q2⟩, ⟨x3, e3, q3⟩, ⟨x4, e4, q4⟩, ⟨x5, e5, q5⟩, ⟨x6, e6, q6⟩, ⟨x7, e7, q7⟩, ⟨x8, e8, q8⟩, _⟩ := h1
  refine ⟨x0, x1, x2, x3, x4, x5, x6, x7, x8, ⟨w64' q0, w64' q1, w64' q2, w64' q3, w64' q4, w64' q5, w64' q6, w64' q7, w64' q8⟩, ?_⟩
  have e : ((List.range 9).map g).map SV.d = [I64 x0, I64 x1, I64 x2, I64 x3, I64 x4, I64 x5, I64 x6, I64 x7, I64 x8] := by
    show [SV.d (g 0), .d (g 1), .d (g 2), .d (g 3), .d (g 4), .d (g 5), .d (g 6), .d (g 7), .d (g 8)] = _
    rw [e0, show g 1 = _ from e1, show g 2 = _ from e2, show g 3 = _ from e3, show g 4 = _ from e4, show g 5 = _ from e5, show g 6 = _ from e6, show g 7 = _ from e7, show g 8 = _ from e8]
  have h3 : den ⟨w, [], []⟩ (.agg (((List.range 9).map g).map SV.d)) v := h2
  rw [e] at h3
  exact h3
/-! ## Meets -/
theorem hmeets_ok {a b c d e f l m n p q r x1 x2 x3 y1 y2 y3 z1 z2 z3 c1 c2 c3 cr : Int} (ha : In64 a) (hb : In64 b) (hc : In64 c) (hd : In64 d) (he : In64 e) (hf : In64 f) (hl : In64 l) (hm : In64 m) (hn : In64 n) (hp : In64 p) (hq : In64 q) (hr : In64 r)
    (hx1 : In64 x1) (hx2 : In64 x2) (hx3 : In64 x3) (hy1 : In64 y1) (hy2 : In64 y2) (hy3 : In64 y3) (hz1 : In64 z1) (hz2 : In64 z2) (hz3 : In64 z3) (hc1 : In64 c1) (hc2 : In64 c2) (hc3 : In64 c3) (hcr : In64 cr) :
    evFunc Try.prog ΓHa annHl 10 5 4 [Ray a b c d e f, Ray l m n p q r, V3 x1 x2 x3, V3 y1 y2 y3, V3 z1 z2 z3, .agg [I64 c1, I64 c2, I64 c3, I64 cr]] [] yesK := by
  rw [vcHMeets]
  simp only [forall_eq, forall_const, exists_const, and_self, true_and, and_true, inV_of ha hb hc, inV_of hd he hf, inV_of hl hm hn, inV_of hp hq hr, inV_of hx1 hx2 hx3, inV_of hy1 hy2 hy3, inV_of hz1 hz2 hz3, inV_of hc1 hc2 hc3, inI64_of hcr, BR_true, BR_self, decide_true, Bool.and_true]
  generalize boxOk (a, b, c) (d, e, f) (l, m, n) (p, q, r) = k1
  generalize triOk (a, b, c) (d, e, f) (x1, x2, x3) (y1, y2, y3) (z1, z2, z3) = k2
  generalize ballOk (a, b, c) (d, e, f) (c1, c2, c3) cr = k3
  cases k1 <;> cases k2 <;> cases k3 <;> simp only [BR_true, BR_false, BEq.rfl, beq_self_eq_true]
theorem walk_meets (v0 v1 v2 v3 v4 v5 : Value) (w : World) (h0 : InArg Try.prog w 25 v0) (h1 : InArg Try.prog w 29 v1) (h2 : InArg Try.prog w 23 v2) (h3 : InArg Try.prog w 23 v3) (h4 : InArg Try.prog w 23 v4) (h5 : InArg Try.prog w 39 v5) :
    Calls Try.prog 4 #[v0, v1, v2, v3, v4, v5] w fun e w' => e = .returned (.bool true) ∧ Below w.heap.size w w' := by
  obtain ⟨a, b, c, d, e, f, ha, hb, hc, hd, he, hf, d0⟩ := in_ray (by kernel_rfl) (by kernel_rfl) h0
  obtain ⟨l, m, n, p, q, r, hl, hm, hn, hp, hq, hr, d1⟩ := in_ray (by kernel_rfl) (by kernel_rfl) h1
  obtain ⟨x1, x2, x3, hx1, hx2, hx3, d2⟩ := in_vec h2
  obtain ⟨y1, y2, y3, hy1, hy2, hy3, d3⟩ := in_vec h3
  obtain ⟨z1, z2, z3, hz1, hz2, hz3, d4⟩ := in_vec h4
  obtain ⟨c1, c2, c3, cr, hc1, hc2, hc3, hcr, d5⟩ := in_ball h5
  exact law_calls ΓHa_ok (hmeets_ok ha hb hc hd he hf hl hm hn hp hq hr hx1 hx2 hx3 hy1 hy2 hy3 hz1 hz2 hz3 hc1 hc2 hc3 hcr) (dens_cons d0 (dens_cons d1 (dens_cons d2 (dens_cons d3 (dens_cons d4 (dens_cons d5 dens_nil))))))
/-! ## Around -/
theorem haround_ok {a b c d e f l m n p q r x y z : Int} (ha : In64 a) (hb : In64 b) (hc : In64 c) (hd : In64 d) (he : In64 e) (hf : In64 f) (hl : In64 l) (hm : In64 m) (hn : In64 n) (hp : In64 p) (hq : In64 q) (hr : In64 r) (hx : In64 x) (hy : In64 y) (hz : In64 z) :
    evFunc Try.prog ΓHa annHl 10 5 5 [Ray a b c d e f, Ray l m n p q r, V3 x y z] [] yesK := by
  rw [vcHAroundLaw]
  have j1 : inV (min l x) (min m y) (min n z) = true := inV_of (by unfold In64 at *; omega) (by unfold In64 at *; omega) (by unfold In64 at *; omega)
  have j2 : inV (max p x) (max q y) (max r z) = true := inV_of (by unfold In64 at *; omega) (by unfold In64 at *; omega) (by unfold In64 at *; omega)
  have n1 : ¬ boxT (a, b, c) (d, e, f) (l, m, n) (p, q, r) < 0 := by have := boxT_nonneg (a, b, c) (d, e, f) (l, m, n) (p, q, r); omega
  have n2 : ¬ boxT (a, b, c) (d, e, f) (min l x, min m y, min n z) (max p x, max q y, max r z) < 0 := by have := boxT_nonneg (a, b, c) (d, e, f) (min l x, min m y, min n z) (max p x, max q y, max r z); omega
  have hk : boxOk (a, b, c) (d, e, f) (l, m, n) (p, q, r) = true → boxOk (a, b, c) (d, e, f) (min l x, min m y, min n z) (max p x, max q y, max r z) = true ∧ boxT (a, b, c) (d, e, f) (min l x, min m y, min n z) (max p x, max q y, max r z) ≤ boxT (a, b, c) (d, e, f) (l, m, n) (p, q, r) :=
    fun h => box_around ⟨⟨by simp only; omega, by simp only; omega⟩, ⟨by simp only; omega, by simp only; omega⟩, ⟨by simp only; omega, by simp only; omega⟩⟩ h
  simp only [forall_eq, forall_const, exists_const, and_self, true_and, and_true, inV_of ha hb hc, inV_of hd he hf, inV_of hl hm hn, inV_of hp hq hr, inV_of hx hy hz, j1, j2, BR_true, BR_false, BR_self, n1, n2, decide_false, decide_true]
  generalize boxOk (a, b, c) (d, e, f) (l, m, n) (p, q, r) = k1 at *
  generalize boxOk (a, b, c) (d, e, f) (min l x, min m y, min n z) (max p x, max q y, max r z) = k2 at *
  generalize boxT (a, b, c) (d, e, f) (l, m, n) (p, q, r) = t1 at *
  generalize boxT (a, b, c) (d, e, f) (min l x, min m y, min n z) (max p x, max q y, max r z) = t2 at *
  cases k1 with
  | true =>
    obtain ⟨rfl, h2⟩ := hk rfl
    simp only [BR_true, BR_false, show ¬ t1 < t2 by omega, decide_false, Bool.not_true, and_self]
  | false =>
    cases k2 <;> simp only [BR_true, BR_false, Bool.not_true, Bool.not_false, and_self]
theorem walk_around (v0 v1 v2 : Value) (w : World) (h0 : InArg Try.prog w 25 v0) (h1 : InArg Try.prog w 29 v1) (h2 : InArg Try.prog w 23 v2) :
    Calls Try.prog 5 #[v0, v1, v2] w fun e w' => e = .returned (.bool true) ∧ Below w.heap.size w w' := by
  obtain ⟨a, b, c, d, e, f, ha, hb, hc, hd, he, hf, d0⟩ := in_ray (by kernel_rfl) (by kernel_rfl) h0
  obtain ⟨l, m, n, p, q, r, hl, hm, hn, hp, hq, hr, d1⟩ := in_ray (by kernel_rfl) (by kernel_rfl) h1
  obtain ⟨x, y, z, hx, hy, hz, d2⟩ := in_vec h2
  exact law_calls ΓHa_ok (haround_ok ha hb hc hd he hf hl hm hn hp hq hr hx hy hz) (dens_cons d0 (dens_cons d1 (dens_cons d2 dens_nil)))
/-! ## Inside -/
def Low44' (p : P3) : Prop := (-17592186044416 < p.1 ∧ p.1 < 17592186044416) ∧ (-17592186044416 < p.2.1 ∧ p.2.1 < 17592186044416) ∧ (-17592186044416 < p.2.2 ∧ p.2.2 < 17592186044416)
theorem near44_bd (p : P3) : Low44' (near44 p) := ⟨tm_bd _ (by omega), tm_bd _ (by omega), tm_bd _ (by omega)⟩
theorem nearZ_0 (o lo hi near : Int) : nearZ o 0 lo hi near = near := by unfold nearZ; rw [if_pos rfl]
theorem farZ_0 (o lo hi far : Int) : farZ o 0 lo hi far = far := by unfold farZ; rw [if_pos rfl]
theorem box_off {o2 o3 : Int} {lo hi : P3} (h1 : -17592186044416 < hi.1) (h2 : hi.1 < 17592186044416) : boxOk (hi.1 + 1, o2, o3) (4294967296, 0, 0) lo hi = false := by
  have f : far3 (hi.1 + 1, o2, o3) (4294967296, 0, 0) lo hi = -1 := by
    unfold far3
    simp only [farZ_0]
    unfold farZ
    rw [if_neg (by omega), if_neg (by omega)]
    have e : subZ hi.1 (hi.1 + 1) = -1 := by unfold subZ sat; omega
    rw [e, div_one (by unfold In64; omega)]
    decide
  have n : 0 ≤ near3 (hi.1 + 1, o2, o3) (4294967296, 0, 0) lo hi := by
    unfold near3
    simp only [nearZ_0]
    exact nearZ_ge _ _ _ _ 0
  unfold boxOk
  rw [f]
  generalize near3 (hi.1 + 1, o2, o3) (4294967296, 0, 0) lo hi = x at *
  simp only [show ¬ x ≤ -1 by omega, decide_false, Bool.and_false]
theorem box_off2 {o2 o3 : Int} {lo hi : P3} : boxOk (hi.1 + 1, o2, o3) (0, 4294967296, 0) lo hi = false := by
  have k : ok3 (hi.1 + 1, o2, o3) (0, 4294967296, 0) lo hi = false := by
    have e : okZ (hi.1 + 1) 0 lo.1 hi.1 true = false := by
      unfold okZ; rw [if_pos rfl]
      simp only [show ¬ hi.1 + 1 ≤ hi.1 by omega, decide_false, Bool.and_false]
    unfold ok3
    simp only [e, okZ_false]
  unfold boxOk
  rw [k, Bool.false_and]
theorem boxT_false {o d lo hi : P3} (h : boxOk o d lo hi = false) : boxT o d lo hi = 0 := by
  unfold boxT; rw [h]; rfl
theorem hinside_ok {a b c d e f l m n p q r : Int} (ha : In64 a) (hb : In64 b) (hc : In64 c) (hd : In64 d) (he : In64 e) (hf : In64 f) (hl : In64 l) (hm : In64 m) (hn : In64 n) (hp : In64 p) (hq : In64 q) (hr : In64 r) :
    evFunc Try.prog ΓHa annHl 10 5 7 [V3 a b c, V3 d e f, V3 l m n, V3 p q r] [] yesK := by
  rw [vcHInside]
  simp only [forall_eq, inV_of ha hb hc, inV_of hd he hf, inV_of hl hm hn, inV_of hp hq hr, BR_true]
  obtain ⟨u1, u2, u3⟩ := near44_bd (a, b, c)
  obtain ⟨v1, v2, v3⟩ := near44_bd (d, e, f)
  obtain ⟨w1, w2, w3⟩ := near44_bd (l, m, n)
  generalize near44 (a, b, c) = L at *
  generalize near44 (d, e, f) = H at *
  generalize near44 (l, m, n) = P at *
  obtain ⟨L1, L2, L3⟩ := L
  obtain ⟨H1, H2, H3⟩ := H
  obtain ⟨P1, P2, P3'⟩ := P
  simp only at u1 u2 u3 v1 v2 v3 w1 w2 w3 ⊢
  have ins := box_inside (o := (max (min L1 H1) (min P1 (max L1 H1)), max (min L2 H2) (min P2 (max L2 H2)), max (min L3 H3) (min P3' (max L3 H3)))) (d := (p, q, r)) (lo := (min L1 H1, min L2 H2, min L3 H3)) (hi := (max L1 H1, max L2 H2, max L3 H3)) ⟨⟨by simp only; omega, by simp only; omega⟩, ⟨by simp only; omega, by simp only; omega⟩, ⟨by simp only; omega, by simp only; omega⟩⟩
  have off1 := box_off (o2 := max (min L2 H2) (min P2 (max L2 H2))) (o3 := max (min L3 H3) (min P3' (max L3 H3))) (lo := (min L1 H1, min L2 H2, min L3 H3)) (hi := (max L1 H1, max L2 H2, max L3 H3)) (by simp only; omega) (by simp only; omega)
  have off2 := box_off2 (o2 := max (min L2 H2) (min P2 (max L2 H2))) (o3 := max (min L3 H3) (min P3' (max L3 H3))) (lo := (min L1 H1, min L2 H2, min L3 H3)) (hi := (max L1 H1, max L2 H2, max L3 H3))
  have t1 := boxT_false off1
  have t2 := boxT_false off2
  simp only at off1 off2 t1 t2
  have hw : IntKind.i64.wrap (max L1 H1 + 1) = max L1 H1 + 1 := w64 (by unfold In64; omega)
  have j1 : inV (min L1 H1) (min L2 H2) (min L3 H3) = true := inV_of (by unfold In64; omega) (by unfold In64; omega) (by unfold In64; omega)
  have j2 : inV (max L1 H1) (max L2 H2) (max L3 H3) = true := inV_of (by unfold In64; omega) (by unfold In64; omega) (by unfold In64; omega)
  have j3 : inV (max (min L1 H1) (min P1 (max L1 H1))) (max (min L2 H2) (min P2 (max L2 H2))) (max (min L3 H3) (min P3' (max L3 H3))) = true := inV_of (by unfold In64; omega) (by unfold In64; omega) (by unfold In64; omega)
  have j4 : inV (max L1 H1 + 1) (max (min L2 H2) (min P2 (max L2 H2))) (max (min L3 H3) (min P3' (max L3 H3))) = true := inV_of (by unfold In64; omega) (by unfold In64; omega) (by unfold In64; omega)
  have j5 : inV 4294967296 0 0 = true := by decide
  have j6 : inV 0 4294967296 0 = true := by decide
  simp only [forall_eq, forall_const, exists_const, and_self, true_and, and_true, hw, j1, j2, j3, j4, j5, j6, inV_of hp hq hr, ins.1, ins.2, off1, off2, t1, t2, BR_true, BR_false, BR_nb, BR_self, decide_true, Bool.not_true, Bool.not_false]
theorem walk_inside (v0 v1 v2 v3 : Value) (w : World) (h0 : InArg Try.prog w 23 v0) (h1 : InArg Try.prog w 23 v1) (h2 : InArg Try.prog w 23 v2) (h3 : InArg Try.prog w 23 v3) :
    Calls Try.prog 7 #[v0, v1, v2, v3] w fun e w' => e = .returned (.bool true) ∧ Below w.heap.size w w' := by
  obtain ⟨a, b, c, ha, hb, hc, d0⟩ := in_vec h0
  obtain ⟨d, e, f, hd, he, hf, d1⟩ := in_vec h1
  obtain ⟨l, m, n, hl, hm, hn, d2⟩ := in_vec h2
  obtain ⟨p, q, r, hp, hq, hr, d3⟩ := in_vec h3
  exact law_calls ΓHa_ok (hinside_ok ha hb hc hd he hf hl hm hn hp hq hr) (dens_cons d0 (dens_cons d1 (dens_cons d2 (dens_cons d3 dens_nil))))
/-! ## Moves -/
theorem tri_moved (o d a b c s : P3) : triOk (plusV o s) d (plusV a s) (plusV b s) (plusV c s) = triOk o d a b c ∧ triT (plusV o s) d (plusV a s) (plusV b s) (plusV c s) = triT o d a b c ∧ triU (plusV o s) d (plusV a s) (plusV b s) (plusV c s) = triU o d a b c ∧ triV (plusV o s) d (plusV a s) (plusV b s) (plusV c s) = triV o d a b c := by
  have hN : triN d (plusV a s) (plusV b s) (plusV c s) = triN d a b c := by simp only [triN, subV_moved]
  have hT : triT (plusV o s) d (plusV a s) (plusV b s) (plusV c s) = triT o d a b c := by simp only [triT, triN, subV_moved]
  have hU : triU (plusV o s) d (plusV a s) (plusV b s) (plusV c s) = triU o d a b c := by simp only [triU, triN, subV_moved]
  have hV : triV (plusV o s) d (plusV a s) (plusV b s) (plusV c s) = triV o d a b c := by simp only [triV, triN, subV_moved]
  exact ⟨by unfold triOk; rw [hN, hT, hU, hV], hT, hU, hV⟩
theorem ball_moved (o d c s : P3) (r : Int) : ballOk (plusV o s) d (plusV c s) r = ballOk o d c r ∧ ballX (plusV o s) d (plusV c s) r = ballX o d c r ∧ ballY (plusV o s) d (plusV c s) r = ballY o d c r := by
  have hW : ballW (plusV o s) d (plusV c s) r = ballW o d c r := by simp only [ballW, ballH, subV_moved]
  exact ⟨by unfold ballOk; rw [hW], by simp only [ballX, ballW, ballH, subV_moved], by simp only [ballY, ballW, ballH, subV_moved]⟩
theorem in3_low {p : P3} (h : Low44' p) : inV p.1 p.2.1 p.2.2 = true ∧ small46 p.1 p.2.1 p.2.2 = true := by
  obtain ⟨u1, u2, u3⟩ := h
  exact ⟨inV_of (by unfold In64; omega) (by unfold In64; omega) (by unfold In64; omega), by simp only [small46, decide_eq_true_eq]; omega⟩
theorem in3_plus {p q : P3} (h : Low44' p) (g : Low44' q) : inV (plusV p q).1 (plusV p q).2.1 (plusV p q).2.2 = true := by
  obtain ⟨u1, u2, u3⟩ := h
  obtain ⟨v1, v2, v3⟩ := g
  exact inV_of (by simp only [plusV]; unfold In64; omega) (by simp only [plusV]; unfold In64; omega) (by simp only [plusV]; unfold In64; omega)
theorem hmoves_ok {a b c d e f l m n p q r x1 x2 x3 y1 y2 y3 z1 z2 z3 c1 c2 c3 cr u v w : Int} (ha : In64 a) (hb : In64 b) (hc : In64 c) (hd : In64 d) (he : In64 e) (hf : In64 f) (hl : In64 l) (hm : In64 m) (hn : In64 n) (hp : In64 p) (hq : In64 q) (hr : In64 r)
    (hx1 : In64 x1) (hx2 : In64 x2) (hx3 : In64 x3) (hy1 : In64 y1) (hy2 : In64 y2) (hy3 : In64 y3) (hz1 : In64 z1) (hz2 : In64 z2) (hz3 : In64 z3) (hc1 : In64 c1) (hc2 : In64 c2) (hc3 : In64 c3) (hu : In64 u) (hv : In64 v) (hw : In64 w) :
    evFunc Try.prog ΓHa annHl 10 5 8 [Ray a b c d e f, Ray l m n p q r, .agg [I64 x1, I64 x2, I64 x3, I64 y1, I64 y2, I64 y3, I64 z1, I64 z2, I64 z3], .agg [I64 c1, I64 c2, I64 c3, I64 cr], V3 u v w] [] yesK := by
  rw [vcHMoves]
  have hR : inI64 (IntKind.i64.wrap (1 + bits .and .i64 cr 17592186044415)) = true := by
    have h := wrap_within .i64 (1 + bits .and .i64 cr 17592186044415)
    have e1 : IntKind.min .i64 = -9223372036854775808 := by decide
    have e2 : IntKind.max .i64 = 9223372036854775807 := by decide
    exact inI64_of (by unfold In64; omega)
  generalize IntKind.i64.wrap (1 + bits .and .i64 cr 17592186044415) = R at *
  simp only [forall_eq, inV_of ha hb hc, inV_of hd he hf, inV_of hl hm hn, inV_of hp hq hr, inV_of hx1 hx2 hx3, inV_of hy1 hy2 hy3, inV_of hz1 hz2 hz3, inV_of hc1 hc2 hc3, inV_of hu hv hw, BR_true, Prod.eta]
  have bO := near44_bd (a, b, c)
  have bL := near44_bd (l, m, n)
  have bH := near44_bd (p, q, r)
  have bX := near44_bd (x1, x2, x3)
  have bY := near44_bd (y1, y2, y3)
  have bZ := near44_bd (z1, z2, z3)
  have bC := near44_bd (c1, c2, c3)
  have bS := near44_bd (u, v, w)
  generalize near44 (a, b, c) = O at *
  generalize near44 (l, m, n) = L at *
  generalize near44 (p, q, r) = H at *
  generalize near44 (x1, x2, x3) = X at *
  generalize near44 (y1, y2, y3) = Y at *
  generalize near44 (z1, z2, z3) = Z at *
  generalize near44 (c1, c2, c3) = C at *
  generalize near44 (u, v, w) = S at *
  obtain ⟨b1, b2⟩ := box_moved O (d, e, f) L H S
  obtain ⟨t1, t2, t3, t4⟩ := tri_moved O (d, e, f) X Y Z S
  obtain ⟨k1, k2, k3⟩ := ball_moved O (d, e, f) C S R
  simp only [forall_eq, forall_const, exists_const, and_self, true_and, and_true, Prod.eta, (in3_low bO).1, (in3_low bO).2, (in3_low bL).1, (in3_low bL).2, (in3_low bH).1, (in3_low bH).2, (in3_low bX).1, (in3_low bX).2, (in3_low bY).1, (in3_low bY).2, (in3_low bZ).1, (in3_low bZ).2, (in3_low bC).1, (in3_low bC).2, (in3_low bS).1, (in3_low bS).2,
    in3_plus bO bS, in3_plus bL bS, in3_plus bH bS, in3_plus bX bS, in3_plus bY bS, in3_plus bZ bS, in3_plus bC bS, hR, inV_of hd he hf, b1, b2, t1, t2, t3, t4, k1, k2, k3, BR_true, BR_self, decide_true, Bool.and_true]
  generalize boxOk O (d, e, f) L H = m1
  generalize triOk O (d, e, f) X Y Z = m2
  generalize ballOk O (d, e, f) C R = m3
  cases m1 <;> cases m2 <;> cases m3 <;> simp only [BR_true, BR_false, BEq.rfl, beq_self_eq_true]
theorem in_i64_any {v : Value} {w : World} (h : InArg Try.prog w 2 v) : ∃ n, In64 n ∧ den ⟨w, [], []⟩ (I64 n) v := by
  obtain ⟨n, h1, h2⟩ := in_int (k := .i64) (by kernel_rfl) (by kernel_rfl) h
  exact ⟨n, w64' h1, h2⟩
theorem walk_moves (v0 v1 v2 v3 v4 : Value) (w : World) (h0 : InArg Try.prog w 25 v0) (h1 : InArg Try.prog w 29 v1) (h2 : InArg Try.prog w 61 v2) (h3 : InArg Try.prog w 39 v3) (h4 : InArg Try.prog w 23 v4) :
    Calls Try.prog 8 #[v0, v1, v2, v3, v4] w fun e w' => e = .returned (.bool true) ∧ Below w.heap.size w w' := by
  obtain ⟨a, b, c, d, e, f, ha, hb, hc, hd, he, hf, d0⟩ := in_ray (by kernel_rfl) (by kernel_rfl) h0
  obtain ⟨l, m, n, p, q, r, hl, hm, hn, hp, hq, hr, d1⟩ := in_ray (by kernel_rfl) (by kernel_rfl) h1
  obtain ⟨x1, x2, x3, y1, y2, y3, z1, z2, z3, ⟨hx1, hx2, hx3, hy1, hy2, hy3, hz1, hz2, hz3⟩, d2⟩ := in_vec3 h2
  obtain ⟨c1, c2, c3, cr, hc1, hc2, hc3, hcr, d3⟩ := in_ball h3
  obtain ⟨x, y, z, hx, hy, hz, d4⟩ := in_vec h4
  exact law_calls ΓHa_ok (hmoves_ok ha hb hc hd he hf hl hm hn hp hq hr hx1 hx2 hx3 hy1 hy2 hy3 hz1 hz2 hz3 hc1 hc2 hc3 hx hy hz) (dens_cons d0 (dens_cons d1 (dens_cons d2 (dens_cons d3 (dens_cons d4 dens_nil)))))
end Go.Proofs.Ytcclekhekdibjaa.Fix

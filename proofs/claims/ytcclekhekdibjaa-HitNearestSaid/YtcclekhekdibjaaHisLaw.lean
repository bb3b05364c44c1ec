/- Hit: the law of the nearest shape returns true. -/
import Derived.Test.YtcclekhekdibjaaHisScan
import Derived.Test.YtcclekhekdibjaaHisLaw0
import Derived.Test.YtcclekhekdibjaaHis2Vc
import Derived.Test.YtcclekhekdibjaaHilFun
import Derived.Test.YtcclekhekdibjaaSxOpen
import Derived.Test.YtcclekhekdibjaaSxLaw
import Derived.Below
import Derived.KernelRfl
namespace Go.Proofs.Ytcclekhekdibjaa.Fix
open Go Go.Proofs.Ytcclekhekdibjaa.Sx Go.RowKit
attribute [local irreducible] evFunc

theorem ΓSa_ok : GammaOK Try.prog ΓSa := by
  intro f s h
  unfold ΓSa at h
  split at h
  · cases h
    refine ⟨pureSpec_ok (nl := none) (evFunc_sound ΓGc_ok noAnn 10 9) fun xs K h => ?_, pureSpec_calm fun xs => ?_⟩
    · split at h
      · exact awake_okH h
      · exact h.elim
    · repeat' (first | exact kd_ret _ | exact kd_false | split)
  · exact ΓS2_ok _ _ h
theorem nearest_ok {np nt nb : Nat} {p t b : Nat → Nat → Int} {x1 x2 x3 x4 x5 x6 l more : Int} (hp : ∀ i, i < np → ∀ j, j < 3 → In64 (p i j)) (ht : ∀ i, i < nt → ∀ j, j < 3 → In64 (t i j)) (hb : ∀ i, i < nb → ∀ j, j < 4 → In64 (b i j))
    (h1 : In64 x1) (h2 : In64 x2) (h3 : In64 x3) (h4 : In64 x4) (h5 : In64 x5) (h6 : In64 x6) :
    evFunc Try.prog ΓSa annN 10 9 6 [.agg [NL 3 np p, NL 3 nt t, NL 4 nb b], Ray x1 x2 x3 x4 x5 x6, I64 l, I64 more] [] yesK := by
  rw [vcHNearest]
  intro _
  refine BR_d (fun _ => fun _ => BR_d (fun c2 => fun _ => BR_d (fun c3 => ?_) fun _ => trivial) fun _ => trivial) fun _ => trivial
  have hM : okM np nt nb (fun i j => .int .i64 (p i j)) (fun i j => .int .i64 (t i j)) (fun i j => .int .i64 (b i j)) := ⟨fun i hi j hj => ⟨rfl, hp i hi j hj⟩, fun i hi j hj => ⟨rfl, ht i hi j hj⟩, fun i hi j hj => ⟨rfl, hb i hi j hj⟩, by omega, by omega⟩
  refine ⟨hM, ?_⟩
  have best : ∀ r, r = scanK (fun i => shapeR np nt nb (fun i j => .int .i64 (p i j)) (fun i j => .int .i64 (t i j)) (fun i j => .int .i64 (b i j)) (x1, x2, x3) (x4, x5, x6) l i) (nt + nb) → Best (fun i => shapeR np nt nb (fun i j => .int .i64 (p i j)) (fun i j => .int .i64 (t i j)) (fun i j => .int .i64 (b i j)) (x1, x2, x3) (x4, x5, x6) l i) (nt + nb) r := fun r hr => by rw [hr]; exact scan_best _ _
  have far : ∀ r, r = scanK (fun i => shapeR np nt nb (fun i j => .int .i64 (p i j)) (fun i j => .int .i64 (t i j)) (fun i j => .int .i64 (b i j)) (x1, x2, x3) (x4, x5, x6) (max l more) i) (nt + nb) → Best (fun i => shapeR np nt nb (fun i j => .int .i64 (p i j)) (fun i j => .int .i64 (t i j)) (fun i j => .int .i64 (b i j)) (x1, x2, x3) (x4, x5, x6) (max l more) i) (nt + nb) r := fun r hr => by rw [hr]; exact scan_best _ _
  have hit := fun i => @shape_hit np nt nb (fun i j => .int .i64 (p i j)) (fun i j => .int .i64 (t i j)) (fun i j => .int .i64 (b i j)) (x1, x2, x3) (x4, x5, x6) l i
  have grow := fun i => @shape_more np nt nb (fun i j => .int .i64 (p i j)) (fun i j => .int .i64 (t i j)) (fun i j => .int .i64 (b i j)) (x1, x2, x3) (x4, x5, x6) l (max l more) i (by omega)
  have hin := fun i => mbox_in hM i
  rw [w64 (n := (nt : Int) + (nb : Int)) (by unfold In64; omega)]
  refine Eq.mpr (by rw [inV_of h1 h2 h3, BR_true]) (Eq.mpr (by rw [inV_of h4 h5 h6, BR_true]) ?_)
  intro r hr
  have B := best r hr
  clear best hr
  refine ⟨⟨⟨0, by omega⟩, by simp only [true_and, and_true, implies_true, and_self]; rfl⟩, fun ⟨k, hk⟩ => BR_d (fun hlt => ⟨⟨hM, ?_⟩, fun _ => ⟨⟨hM, ?_⟩, fun _ => ⟨?_, fun _ => ?_⟩⟩⟩) fun hge => ⟨hM, ?_⟩⟩
  · simp only [inV_of h1 h2 h3, inV_of h4 h5 h6, BR_true]
    intro s hs
    subst hs
    exact BR_b (fun e => ⟨(), by simp only [e, true_and, and_true, implies_true, and_self]⟩) fun e => ⟨(), by simp only [e, true_and, and_true, implies_true, and_self]⟩
  · intro l1 hl1 l2 hl2
    subst hl1 hl2
    simp only [inV_of h1 h2 h3, inV_of h4 h5 h6, inV_of3 (hin _).1, inV_of3 (hin _).2, BR_true, Prod.eta]
    intro t1 ht1 ok hok
    subst ht1 hok
    exact BR_b (fun e => ⟨(), by simp only [e, true_and, and_true, implies_true, and_self]⟩) fun e => ⟨(), by simp only [e, true_and, and_true, implies_true, and_self]⟩
  · have hk' := hit k
    cases hs : (shapeR np nt nb (fun i j => .int .i64 (p i j)) (fun i j => .int .i64 (t i j)) (fun i j => .int .i64 (b i j)) (x1, x2, x3) (x4, x5, x6) l k).1 with
    | true =>
      obtain ⟨q1, q2, q3⟩ := hk' hs
      have n1 : ¬ (shapeR np nt nb (fun i j => .int .i64 (p i j)) (fun i j => .int .i64 (t i j)) (fun i j => .int .i64 (b i j)) (x1, x2, x3) (x4, x5, x6) l k).2.1 < boxT (x1, x2, x3) (x4, x5, x6) (mbLo np nt nb (fun i j => .int .i64 (p i j)) (fun i j => .int .i64 (t i j)) (fun i j => .int .i64 (b i j)) k) (mbHi np nt nb (fun i j => .int .i64 (p i j)) (fun i j => .int .i64 (t i j)) (fun i j => .int .i64 (b i j)) k) := by omega
      have n2 : ¬ (shapeR np nt nb (fun i j => .int .i64 (p i j)) (fun i j => .int .i64 (t i j)) (fun i j => .int .i64 (b i j)) (x1, x2, x3) (x4, x5, x6) l k).2.1 < l := by omega
      simp only [hs, q1, n1, n2, idx, if_true, decide_true, decide_false, BR_true, BR_false, true_and, and_true, implies_true, and_self, exists_const]
    | false =>
      have n1 : ¬ ((-1 : Int) = (k : Int)) := by omega
      simp only [hs, n1, idx, Bool.false_eq_true, if_false, decide_false, BR_true, BR_false, true_and, and_true, implies_true, and_self, exists_const]
  · have hk1 : k + 1 ≤ nt + nb := by simp only at hlt; omega
    have hw : IntKind.i64.wrap ((k : Int) + 1) = ((k + 1 : Nat) : Int) := by rw [w64 (by unfold In64; omega)]; omega
    have hkk : k < nt + nb := by omega
    have all := B.all k hkk
    simp only [hw]
    cases hs : (shapeR np nt nb (fun i j => .int .i64 (p i j)) (fun i j => .int .i64 (t i j)) (fun i j => .int .i64 (b i j)) (x1, x2, x3) (x4, x5, x6) l k).1 with
    | true =>
      obtain ⟨q1, q2, q3⟩ := all hs
      refine Eq.mpr BR_true (BR_n (by omega) (BR_n (by omega) (BR_d (fun e1 => BR_n (by have := q3 e1; omega) (BR_d (fun e2 => ?_) fun e2 => ?_)) fun e1 => BR_d (fun e2 => ?_) fun e2 => ?_)))
      · have hr : r = hitOf (shapeR np nt nb (fun i j => .int .i64 (p i j)) (fun i j => .int .i64 (t i j)) (fun i j => .int .i64 (b i j)) (x1, x2, x3) (x4, x5, x6) l k) k := by
          rcases B.one with h | ⟨_, _, _, h⟩
          · omega
          · rw [← e2] at h; exact h
        have r1 : (shapeR np nt nb (fun i j => .int .i64 (p i j)) (fun i j => .int .i64 (t i j)) (fun i j => .int .i64 (b i j)) (x1, x2, x3) (x4, x5, x6) l k).2.1 = r.1 := by rw [hr]; rfl
        have r2 : idx (shapeR np nt nb (fun i j => .int .i64 (p i j)) (fun i j => .int .i64 (t i j)) (fun i j => .int .i64 (b i j)) (x1, x2, x3) (x4, x5, x6) l k) k = r.2.1 := by rw [hr]; rfl
        have r3 : (shapeR np nt nb (fun i j => .int .i64 (p i j)) (fun i j => .int .i64 (t i j)) (fun i j => .int .i64 (b i j)) (x1, x2, x3) (x4, x5, x6) l k).2.2.1 = r.2.2.1 := by rw [hr]; rfl
        have r4 : (shapeR np nt nb (fun i j => .int .i64 (p i j)) (fun i j => .int .i64 (t i j)) (fun i j => .int .i64 (b i j)) (x1, x2, x3) (x4, x5, x6) l k).2.2.2 = r.2.2.2 := by rw [hr]; rfl
        clear hr
        rw [r1, r2, r3, r4]
        refine Eq.mpr (by simp only [decide_true, Bool.and_true, Bool.not_true, BR_false]; rfl) ?_
        exact ⟨⟨k + 1, hk1⟩, by simp only; omega, by simp only [true_and, and_true, implies_true, and_self]⟩
      · exact ⟨⟨k + 1, hk1⟩, by simp only; omega, by simp only [true_and, and_true, implies_true, and_self]⟩
      · exfalso
        rcases B.one with h | ⟨_, _, _, h⟩
        · omega
        · rw [← e2] at h
          have h' := congrArg Prod.fst h
          simp only [hitOf] at h'
          omega
      · exact ⟨⟨k + 1, hk1⟩, by simp only; omega, by simp only [true_and, and_true, implies_true, and_self]⟩
    | false =>
      refine Eq.mpr BR_false (BR_n (fun e2 => ?_) ?_)
      · rcases B.one with h | ⟨_, _, h, _⟩
        · omega
        · rw [← e2] at h
          simp only [hs] at h
          cases h
      · exact ⟨⟨k + 1, hk1⟩, by simp only; omega, by simp only [true_and, and_true, implies_true, and_self]⟩
  · simp only [inV_of h1 h2 h3, inV_of h4 h5 h6, BR_true]
    intro r1 hr1
    have F := far r1 hr1
    have hlt : r.2.1 < (nt : Int) + (nb : Int) := by
      rcases B.one with h | ⟨_, h, _⟩ <;> omega
    have hge1 : -1 ≤ r.2.1 := by
      rcases B.one with h | ⟨h, _⟩ <;> omega
    refine BR_d (fun _ => BR_y hlt (BR_y hge1 trivial)) fun e => ?_
    rcases F.one with h | ⟨g1, g2, g3, g4⟩
    · omega
    · obtain ⟨q1, q2⟩ := grow _ g3
      have hn : ((r1.2.1.toNat : Nat) : Int) = r1.2.1 := by omega
      have all := B.all r1.2.1.toNat (by omega)
      rw [hn] at all
      obtain ⟨a1, a2, _⟩ := all q1
      have h' := congrArg Prod.fst g4
      simp only [hitOf] at h' a2 q2
      exact BR_y a1 (BR_y (by omega) (BR_y hlt (BR_y hge1 trivial)))
/-! ## What is handed in -/
theorem wfI {n : Int} (h : (Lit.int .i64 n).wf = true) : In64 n := by have := wf_i64' h; unfold In64; omega
theorem okL3 {n : Nat} {g : Nat → Nat → D} (h : ∀ i, i < n → fitsAll [.int .i64, .int .i64, .int .i64] (g i)) : okL 3 n g := by
  intro i hi j hj
  obtain ⟨⟨a, e0, q0⟩, ⟨b, e1, q1⟩, ⟨c, e2, q2⟩, _⟩ := h i hi
  rcases j with _ | _ | _ | j
  · rw [e0]; exact ⟨rfl, wfI q0⟩
  · rw [show g i 1 = _ from e1]; exact ⟨rfl, wfI q1⟩
  · rw [show g i 2 = _ from e2]; exact ⟨rfl, wfI q2⟩
  · omega
theorem okL4 {n : Nat} {g : Nat → Nat → D} (h : ∀ i, i < n → fitsAll [.int .i64, .int .i64, .int .i64, .int .i64] (g i)) : okL 4 n g := by
  intro i hi j hj
  obtain ⟨⟨a, e0, q0⟩, ⟨b, e1, q1⟩, ⟨c, e2, q2⟩, ⟨d, e3, q3⟩, _⟩ := h i hi
  rcases j with _ | _ | _ | _ | j
  · rw [e0]; exact ⟨rfl, wfI q0⟩
  · rw [show g i 1 = _ from e1]; exact ⟨rfl, wfI q1⟩
  · rw [show g i 2 = _ from e2]; exact ⟨rfl, wfI q2⟩
  · rw [show g i 3 = _ from e3]; exact ⟨rfl, wfI q3⟩
  · omega
theorem in_mesh {v : Value} {w : World} (h : InArg Try.prog w 44 v) : ∃ (np nt nb : Nat) (p t b : Nat → Nat → Int), ((∀ i, i < np → ∀ j, j < 3 → In64 (p i j)) ∧ (∀ i, i < nt → ∀ j, j < 3 → In64 (t i j)) ∧ (∀ i, i < nb → ∀ j, j < 4 → In64 (b i j))) ∧
    den ⟨w, [], []⟩ (.agg [NL 3 np p, NL 3 nt t, NL 4 nb b]) v := by
  obtain ⟨g, h1, h2⟩ := in_agg (ss := [.list [.int .i64, .int .i64, .int .i64], .list [.int .i64, .int .i64, .int .i64], .list [.int .i64, .int .i64, .int .i64, .int .i64]]) (by kernel_rfl) (by kernel_rfl) h
  obtain ⟨⟨np, gp, e0, _, f0⟩, ⟨nt, gt, e1, _, f1⟩, ⟨nb, gb, e2, _, f2⟩, _⟩ := h1
  have k0 := okL3 f0
  have k1 := okL3 f1
  have k2 := okL4 f2
  have e : ((List.range 3).map g).map SV.d = [.d (.list 3 np gp), .d (.list 3 nt gt), .d (.list 4 nb gb)] := by
    show [SV.d (g 0), .d (g 1), .d (g 2)] = _
    rw [e0, show g 1 = _ from e1, show g 2 = _ from e2]
    rfl
  have h3 : den ⟨w, [], []⟩ (.agg (((List.range 3).map g).map SV.d)) v := h2
  rw [e] at h3
  exact ⟨np, nt, nb, fun i j => dI (gp i j), fun i j => dI (gt i j), fun i j => dI (gb i j), ⟨fun i hi j hj => (k0 i hi j hj).2, fun i hi j hj => (k1 i hi j hj).2, fun i hi j hj => (k2 i hi j hj).2⟩,
    dens_agg (fun vs => dens_head (fun v => den_nums k0) (fun vs => dens_head (fun v => den_nums k1) (fun vs => dens_head (fun v => den_nums k2) fun vs h => h))) h3⟩
theorem in_rayN {v : Value} {w : World} (h : InArg Try.prog w 25 v) : ∃ a b c d e f, In64 a ∧ In64 b ∧ In64 c ∧ In64 d ∧ In64 e ∧ In64 f ∧ den ⟨w, [], []⟩ (Ray a b c d e f) v := by
  obtain ⟨g, h1, h2⟩ := in_agg (ss := [.int .i64, .int .i64, .int .i64, .int .i64, .int .i64, .int .i64]) (by kernel_rfl) (by kernel_rfl) h
  obtain ⟨⟨x0, e0, q0⟩, ⟨x1, e1, q1⟩, ⟨x2, e2, q2⟩, ⟨x3, e3, q3⟩, ⟨x4, e4, q4⟩, ⟨x5, e5, q5⟩, _⟩ := h1
  refine ⟨x0, x1, x2, x3, x4, x5, wfI q0, wfI q1, wfI q2, wfI q3, wfI q4, wfI q5, ?_⟩
  have e : ((List.range 6).map g).map SV.d = [I64 x0, I64 x1, I64 x2, I64 x3, I64 x4, I64 x5] := by
    show [SV.d (g 0), .d (g 1), .d (g 2), .d (g 3), .d (g 4), .d (g 5)] = _
    rw [e0, show g 1 = _ from e1, show g 2 = _ from e2, show g 3 = _ from e3, show g 4 = _ from e4, show g 5 = _ from e5]
  have h3 : den ⟨w, [], []⟩ (.agg (((List.range 6).map g).map SV.d)) v := h2
  rw [e] at h3
  exact h3
theorem in_i64N {v : Value} {w : World} (h : InArg Try.prog w 2 v) : ∃ n, den ⟨w, [], []⟩ (I64 n) v := by
  obtain ⟨n, h1, h2⟩ := in_int (k := .i64) (by kernel_rfl) (by kernel_rfl) h
  exact ⟨n, h2⟩
theorem walk_nearest (v0 v1 v2 v3 : Value) (w : World) (h0 : InArg Try.prog w 44 v0) (h1 : InArg Try.prog w 25 v1) (h2 : InArg Try.prog w 2 v2) (h3 : InArg Try.prog w 2 v3) :
    Calls Try.prog 6 #[v0, v1, v2, v3] w fun e w' => e = .returned (.bool true) ∧ Below w.heap.size w w' := by
  obtain ⟨np, nt, nb, p, t, b, ⟨k0, k1, k2⟩, d0⟩ := in_mesh h0
  obtain ⟨x1, x2, x3, x4, x5, x6, q1, q2, q3, q4, q5, q6, d1⟩ := in_rayN h1
  obtain ⟨l, d2⟩ := in_i64N h2
  obtain ⟨m, d3⟩ := in_i64N h3
  exact law_calls ΓSa_ok (nearest_ok k0 k1 k2 q1 q2 q3 q4 q5 q6) (dens_cons d0 (dens_cons d1 (dens_cons d2 (dens_cons d3 dens_nil))))
end Go.Proofs.Ytcclekhekdibjaa.Fix

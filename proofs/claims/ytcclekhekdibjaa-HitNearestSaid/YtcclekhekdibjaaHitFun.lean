/- Hit: boxes, triangles, balls: the functions do what is said of them. -/
import Derived.Test.YtcclekhekdibjaaHit0Vc
import Derived.Test.YtcclekhekdibjaaVecFun1
namespace Go.Proofs.Ytcclekhekdibjaa.Fix
open Go Go.Proofs.Ytcclekhekdibjaa.Sx
attribute [local irreducible] evFunc

abbrev EvH (Γ : FuncId → Option Sx.Spec) (f : FuncId) (xs : List SV) (K : Out → Prop) : Prop := evFunc Try.prog Γ annH 10 5 f xs [] (inK none K)
theorem hbox_ok {a b c d e f l m n p q r : Int} (ha : In64 a) (hb : In64 b) (hc : In64 c) (hd : In64 d) (he : In64 e) (hf : In64 f) (hl : In64 l) (hm : In64 m) (hn : In64 n) (hp : In64 p) (hq : In64 q) (hr : In64 r)
    {K : Out → Prop} (h : K (.val (.tuple [I64 (boxT (a, b, c) (d, e, f) (l, m, n) (p, q, r)), Bo (boxOk (a, b, c) (d, e, f) (l, m, n) (p, q, r))]))) : EvH ΓV2 11 [Ray a b c d e f, Ray l m n p q r] K := by
  unfold EvH
  rw [vcHBox]
  simp only [forall_eq, forall_const, exists_const, and_self, true_and, and_true, inI64_of ha, inI64_of hb, inI64_of hc, inI64_of hd, inI64_of he, inI64_of hf, inI64_of hl, inI64_of hm, inI64_of hn, inI64_of hp, inI64_of hq, inI64_of hr, inI64_of (subZ_in _ _), inI64_of (divZ_in _ _), BR_true]
  have near_eq : near3 (a, b, c) (d, e, f) (l, m, n) (p, q, r) = nearZ c f n r (nearZ b e m q (nearZ a d l p 0)) := rfl
  have far_eq : far3 (a, b, c) (d, e, f) (l, m, n) (p, q, r) = farZ c f n r (farZ b e m q (farZ a d l p 9223372036854775807)) := rfl
  have ok_eq : ok3 (a, b, c) (d, e, f) (l, m, n) (p, q, r) = okZ c f n r (okZ b e m q (okZ a d l p true)) := rfl
  rw [boxT, boxOk, near_eq, far_eq, ok_eq] at h
  refine ⟨?_, ?_, ?_, ?_⟩
  · clear h near_eq far_eq ok_eq
    repeat' (first | refine BR_d (fun _ => ?_) (fun _ => ?_) | refine BR_b (fun _ => ?_) (fun _ => ?_))
    all_goals (try simp_all [nearZ, farZ, okZ])
    all_goals first | omega | (refine ⟨fun _ => ?_, fun _ => ?_⟩ <;> omega)
  · clear h near_eq far_eq ok_eq
    generalize nearZ a d l p 0 = u1 at *
    generalize farZ a d l p 9223372036854775807 = u2 at *
    generalize okZ a d l p true = u3 at *
    repeat' (first | refine BR_d (fun _ => ?_) (fun _ => ?_) | refine BR_b (fun _ => ?_) (fun _ => ?_))
    all_goals (try simp_all [nearZ, farZ, okZ])
    all_goals first | omega | (refine ⟨fun _ => ?_, fun _ => ?_⟩ <;> omega)
  · clear h near_eq far_eq ok_eq
    generalize nearZ b e m q (nearZ a d l p 0) = u1 at *
    generalize farZ b e m q (farZ a d l p 9223372036854775807) = u2 at *
    generalize okZ b e m q (okZ a d l p true) = u3 at *
    repeat' (first | refine BR_d (fun _ => ?_) (fun _ => ?_) | refine BR_b (fun _ => ?_) (fun _ => ?_))
    all_goals (try simp_all [nearZ, farZ, okZ])
    all_goals first | omega | (refine ⟨fun _ => ?_, fun _ => ?_⟩ <;> omega)
  · generalize nearZ c f n r (nearZ b e m q (nearZ a d l p 0)) = u1 at *
    generalize farZ c f n r (farZ b e m q (farZ a d l p 9223372036854775807)) = u2 at *
    generalize okZ c f n r (okZ b e m q (okZ a d l p true)) = u3 at *
    refine BR_b (fun h3 => BR_d (fun hlt => ?_) fun hlt => ?_) fun h3 => ?_
    · simp only [h3, show ¬ u1 ≤ u2 by omega, decide_false, Bool.and_false, Bool.false_eq_true, if_false] at h; exact h
    · simp only [h3, show u1 ≤ u2 by omega, decide_true, Bool.and_true, if_true] at h; exact h
    · simp only [h3, Bool.false_and, Bool.false_eq_true, if_false] at h; exact h
theorem okZ_false (o d lo hi : Int) : okZ o d lo hi false = false := by
  unfold okZ; split <;> rfl
theorem rstep {o d lo hi near far : Int} {P : Prop} (hout : okZ o d lo hi true = false → P) :
    BR (decide (d = 0))
      (BR (decide (o < lo)) P (BR (decide (hi < o)) P (okZ o d lo hi true = true ∧ near = nearZ o d lo hi near ∧ far = farZ o d lo hi far)))
      (BR (decide (d < 0))
        (BR (decide (near < divZ (subZ hi o) d))
          (BR (decide (divZ (subZ lo o) d < far))
            (okZ o d lo hi true = true ∧ divZ (subZ hi o) d = nearZ o d lo hi near ∧ divZ (subZ lo o) d = farZ o d lo hi far)
            (okZ o d lo hi true = true ∧ divZ (subZ hi o) d = nearZ o d lo hi near ∧ far = farZ o d lo hi far))
          (BR (decide (divZ (subZ lo o) d < far))
            (okZ o d lo hi true = true ∧ near = nearZ o d lo hi near ∧ divZ (subZ lo o) d = farZ o d lo hi far)
            (okZ o d lo hi true = true ∧ near = nearZ o d lo hi near ∧ far = farZ o d lo hi far)))
        (BR (decide (near < divZ (subZ lo o) d))
          (BR (decide (divZ (subZ hi o) d < far))
            (okZ o d lo hi true = true ∧ divZ (subZ lo o) d = nearZ o d lo hi near ∧ divZ (subZ hi o) d = farZ o d lo hi far)
            (okZ o d lo hi true = true ∧ divZ (subZ lo o) d = nearZ o d lo hi near ∧ far = farZ o d lo hi far))
          (BR (decide (divZ (subZ hi o) d < far))
            (okZ o d lo hi true = true ∧ near = nearZ o d lo hi near ∧ divZ (subZ hi o) d = farZ o d lo hi far)
            (okZ o d lo hi true = true ∧ near = nearZ o d lo hi near ∧ far = farZ o d lo hi far)))) := by
  refine BR_d (fun e => BR_d (fun h1 => hout ?_) fun h1 => BR_d (fun h2 => hout ?_) fun h2 => ?_) fun e => ?_
  · unfold okZ; rw [if_pos e]; simp [show ¬ lo ≤ o by omega]
  · unfold okZ; rw [if_pos e]; simp [show ¬ o ≤ hi by omega]
  · unfold okZ nearZ farZ; simp only [if_pos e]; simp [show lo ≤ o by omega, show o ≤ hi by omega]
  · unfold okZ nearZ farZ
    simp only [if_neg e]
    generalize divZ (subZ hi o) d = x
    generalize divZ (subZ lo o) d = y
    refine BR_d (fun h => ?_) fun h => ?_
    · simp only [if_pos h, true_and]
      refine BR_d (fun h1 => BR_d (fun h2 => ?_) fun h2 => ?_) fun h1 => BR_d (fun h2 => ?_) fun h2 => ?_ <;> omega
    · simp only [if_neg h, true_and]
      refine BR_d (fun h1 => BR_d (fun h2 => ?_) fun h2 => ?_) fun h1 => BR_d (fun h2 => ?_) fun h2 => ?_ <;> omega
theorem hrbox_ok {a b c d e f l m n p q r : Int} (ha : In64 a) (hb : In64 b) (hc : In64 c) (hd : In64 d) (he : In64 e) (hf : In64 f) (hl : In64 l) (hm : In64 m) (hn : In64 n) (hp : In64 p) (hq : In64 q) (hr : In64 r)
    {K : Out → Prop} (h : K (.val (.tuple [I64 (boxT (a, b, c) (d, e, f) (l, m, n) (p, q, r)), Bo (boxOk (a, b, c) (d, e, f) (l, m, n) (p, q, r))]))) : EvH ΓV2 19 [Ray a b c d e f, Ray l m n p q r] K := by
  unfold EvH
  rw [vcHRBox]
  simp only [forall_eq, forall_const, exists_const, and_self, true_and, and_true, inI64_of ha, inI64_of hb, inI64_of hc, inI64_of hd, inI64_of he, inI64_of hf, inI64_of hl, inI64_of hm, inI64_of hn, inI64_of hp, inI64_of hq, inI64_of hr, inI64_of (subZ_in _ _), inI64_of (divZ_in _ _), BR_true, Subtype.forall, Subtype.exists, exists_prop]
  have near_eq : near3 (a, b, c) (d, e, f) (l, m, n) (p, q, r) = nearZ c f n r (nearZ b e m q (nearZ a d l p 0)) := rfl
  have far_eq : far3 (a, b, c) (d, e, f) (l, m, n) (p, q, r) = farZ c f n r (farZ b e m q (farZ a d l p 9223372036854775807)) := rfl
  have ok_eq : ok3 (a, b, c) (d, e, f) (l, m, n) (p, q, r) = okZ c f n r (okZ b e m q (okZ a d l p true)) := rfl
  rw [boxT, boxOk, near_eq, far_eq, ok_eq] at h
  refine ⟨rstep fun h1 => ?_, fun h1 => ⟨rstep fun h2 => ?_, fun h2 => ⟨rstep fun h3 => ?_, fun h3 => ?_⟩⟩⟩
  · simp only [h1, okZ_false, Bool.false_and, Bool.false_eq_true, if_false] at h; exact h
  · simp only [h1, h2, okZ_false, Bool.false_and, Bool.false_eq_true, if_false] at h; exact h
  · simp only [h1, h2, h3, Bool.false_and, Bool.false_eq_true, if_false] at h; exact h
  · simp only [h1, h2, h3] at h
    generalize nearZ c f n r (nearZ b e m q (nearZ a d l p 0)) = u1 at *
    generalize farZ c f n r (farZ b e m q (farZ a d l p 9223372036854775807)) = u2 at *
    refine BR_d (fun hlt => ?_) fun hlt => ?_
    · simp only [show ¬ u1 ≤ u2 by omega, decide_false, Bool.and_false, Bool.false_eq_true, if_false] at h; exact h
    · simp only [show u1 ≤ u2 by omega, decide_true, Bool.and_true, if_true] at h; exact h
theorem htri_ok {a b c d e f l m n p q r x y z : Int} (ha : In64 a) (hb : In64 b) (hc : In64 c) (hd : In64 d) (he : In64 e) (hf : In64 f) (hl : In64 l) (hm : In64 m) (hn : In64 n) (hp : In64 p) (hq : In64 q) (hr : In64 r) (hx : In64 x) (hy : In64 y) (hz : In64 z) {K : Out → Prop}
    (h : ∀ ok : Bool, ok = triOk (a, b, c) (d, e, f) (l, m, n) (p, q, r) (x, y, z) → ∀ t : Int, t = ifOk ok (triT (a, b, c) (d, e, f) (l, m, n) (p, q, r) (x, y, z)) → ∀ u : Int, u = ifOk ok (triU (a, b, c) (d, e, f) (l, m, n) (p, q, r) (x, y, z)) → ∀ v : Int, v = ifOk ok (triV (a, b, c) (d, e, f) (l, m, n) (p, q, r) (x, y, z)) →
        K (.val (.tuple [.agg [I64 t, I64 0, I64 u, I64 v], Bo ok]))) : EvH ΓV2 12 [Ray a b c d e f, V3 l m n, V3 p q r, V3 x y z] K := by
  unfold EvH
  rw [vcHTri]
  have eN : dotV (subV (p, q, r) (l, m, n)) (crossV (d, e, f) (subV (x, y, z) (l, m, n))) = triN (d, e, f) (l, m, n) (p, q, r) (x, y, z) := rfl
  have eU : divZ (dotV (subV (a, b, c) (l, m, n)) (crossV (d, e, f) (subV (x, y, z) (l, m, n)))) (triN (d, e, f) (l, m, n) (p, q, r) (x, y, z)) = triU (a, b, c) (d, e, f) (l, m, n) (p, q, r) (x, y, z) := rfl
  have eV : divZ (dotV (d, e, f) (crossV (subV (a, b, c) (l, m, n)) (subV (p, q, r) (l, m, n)))) (triN (d, e, f) (l, m, n) (p, q, r) (x, y, z)) = triV (a, b, c) (d, e, f) (l, m, n) (p, q, r) (x, y, z) := rfl
  have eT : divZ (dotV (subV (x, y, z) (l, m, n)) (crossV (subV (a, b, c) (l, m, n)) (subV (p, q, r) (l, m, n)))) (triN (d, e, f) (l, m, n) (p, q, r) (x, y, z)) = triT (a, b, c) (d, e, f) (l, m, n) (p, q, r) (x, y, z) := rfl
  have iN : In64 (triN (d, e, f) (l, m, n) (p, q, r) (x, y, z)) := dotV_in _ _
  have iU : In64 (triU (a, b, c) (d, e, f) (l, m, n) (p, q, r) (x, y, z)) := divZ_in _ _
  have iV : In64 (triV (a, b, c) (d, e, f) (l, m, n) (p, q, r) (x, y, z)) := divZ_in _ _
  simp only [forall_eq, true_and, and_true, and_self, BR_true, inV_of3 (addV_in _ _), inV_of3 (subV_in _ _), inV_of3 (scaleV_in _ _), inV_of3 (crossV_in _ _), inV_of3 (unitV_in _), inV_of3 (bendV_in _ _), inI64_of (addZ_in _ _), inI64_of (subZ_in _ _), inI64_of (mulZ_in _ _), inI64_of (divZ_in _ _), inI64_of (negZ_in _), inI64_of (dotV_in _ _), inI64_of (sqrtZ_in (subZ_in _ _)).1, Prod.eta, inV_of ha hb hc, inV_of hd he hf, inV_of hl hm hn, inV_of hp hq hr, inV_of hx hy hz, eN, inI64_of iN, eU, inI64_of iU, eV, inI64_of iV, eT]
  have hok := h _ rfl _ rfl _ rfl _ rfl
  clear h
  have hdef : triOk (a, b, c) (d, e, f) (l, m, n) (p, q, r) (x, y, z) = (!decide (triN (d, e, f) (l, m, n) (p, q, r) (x, y, z) = 0) && (decide (0 ≤ triU (a, b, c) (d, e, f) (l, m, n) (p, q, r) (x, y, z)) && (decide (triU (a, b, c) (d, e, f) (l, m, n) (p, q, r) (x, y, z) ≤ 4294967296) && (decide (0 ≤ triV (a, b, c) (d, e, f) (l, m, n) (p, q, r) (x, y, z)) && (decide (addZ (triU (a, b, c) (d, e, f) (l, m, n) (p, q, r) (x, y, z)) (triV (a, b, c) (d, e, f) (l, m, n) (p, q, r) (x, y, z)) ≤ 4294967296) && decide (0 ≤ triT (a, b, c) (d, e, f) (l, m, n) (p, q, r) (x, y, z))))))) := by
    unfold triOk; congr
  generalize triOk (a, b, c) (d, e, f) (l, m, n) (p, q, r) (x, y, z) = ok at *
  generalize triN (d, e, f) (l, m, n) (p, q, r) (x, y, z) = N at *
  generalize triU (a, b, c) (d, e, f) (l, m, n) (p, q, r) (x, y, z) = U at *
  generalize triV (a, b, c) (d, e, f) (l, m, n) (p, q, r) (x, y, z) = V at *
  generalize triT (a, b, c) (d, e, f) (l, m, n) (p, q, r) (x, y, z) = T at *
  generalize addZ U V = UV at *
  have no : ok = false → K (.val (.tuple [.agg [I64 0, I64 0, I64 0, I64 0], Bo false])) := fun e => by rw [e] at hok; exact hok
  have yes : ok = true → K (.val (.tuple [.agg [I64 T, I64 0, I64 U, I64 V], Bo true])) := fun e => by rw [e] at hok; exact hok
  simp only [BR_dec]
  have hf' : ¬ (¬ N = 0 ∧ 0 ≤ U ∧ U ≤ 4294967296 ∧ 0 ≤ V ∧ UV ≤ 4294967296 ∧ 0 ≤ T) → ok = false := fun hh => by
    rw [hdef, ← Bool.not_eq_true]
    simpa only [Bool.and_eq_true, Bool.not_eq_true', decide_eq_true_eq, decide_eq_false_iff_not] using hh
  have ht' : (¬ N = 0 ∧ 0 ≤ U ∧ U ≤ 4294967296 ∧ 0 ≤ V ∧ UV ≤ 4294967296 ∧ 0 ≤ T) → ok = true := fun hh => by
    rw [hdef]
    simpa only [Bool.and_eq_true, Bool.not_eq_true', decide_eq_true_eq, decide_eq_false_iff_not] using hh
  refine ⟨fun h1 => no (hf' (by omega)), fun h1 => ⟨fun h2 => no (hf' (by omega)), fun h2 => ⟨fun h3 => no (hf' (by omega)), fun h3 => ?_⟩⟩⟩
  refine ⟨fun h4 => no (hf' (by omega)), fun h4 => ⟨fun h5 => no (hf' (by omega)), fun h5 => ⟨fun h6 => no (hf' (by omega)), fun h6 => yes (ht' (by omega))⟩⟩⟩
theorem hball_ok {a b c d e f l m n r : Int} (ha : In64 a) (hb : In64 b) (hc : In64 c) (hd : In64 d) (he : In64 e) (hf : In64 f) (hl : In64 l) (hm : In64 m) (hn : In64 n) (hr : In64 r) {K : Out → Prop}
    (h : ∀ ok : Bool, ok = ballOk (a, b, c) (d, e, f) (l, m, n) r → ∀ x : Int, x = ifOk ok (ballX (a, b, c) (d, e, f) (l, m, n) r) → ∀ y : Int, y = ifOk ok (ballY (a, b, c) (d, e, f) (l, m, n) r) → K (.val (.tuple [I64 x, I64 y, Bo ok]))) :
    EvH ΓV2 13 [Ray a b c d e f, .agg [I64 l, I64 m, I64 n, I64 r]] K := by
  unfold EvH
  rw [vcHBall]
  have eH : dotV (subV (a, b, c) (l, m, n)) (d, e, f) = ballH (a, b, c) (d, e, f) (l, m, n) := rfl
  have eW : subZ (mulZ (ballH (a, b, c) (d, e, f) (l, m, n)) (ballH (a, b, c) (d, e, f) (l, m, n))) (mulZ (dotV (d, e, f) (d, e, f)) (subZ (dotV (subV (a, b, c) (l, m, n)) (subV (a, b, c) (l, m, n))) (mulZ r r))) = ballW (a, b, c) (d, e, f) (l, m, n) r := rfl
  have eX : divZ (subZ (negZ (ballH (a, b, c) (d, e, f) (l, m, n))) (sqrtZ (ballW (a, b, c) (d, e, f) (l, m, n) r))) (dotV (d, e, f) (d, e, f)) = ballX (a, b, c) (d, e, f) (l, m, n) r := rfl
  have eY : divZ (addZ (negZ (ballH (a, b, c) (d, e, f) (l, m, n))) (sqrtZ (ballW (a, b, c) (d, e, f) (l, m, n) r))) (dotV (d, e, f) (d, e, f)) = ballY (a, b, c) (d, e, f) (l, m, n) r := rfl
  have iH : In64 (ballH (a, b, c) (d, e, f) (l, m, n)) := dotV_in _ _
  have iW : In64 (ballW (a, b, c) (d, e, f) (l, m, n) r) := subZ_in _ _
  simp only [forall_eq, true_and, and_true, and_self, BR_true, inV_of3 (addV_in _ _), inV_of3 (subV_in _ _), inV_of3 (scaleV_in _ _), inV_of3 (crossV_in _ _), inV_of3 (unitV_in _), inV_of3 (bendV_in _ _), inI64_of (addZ_in _ _), inI64_of (subZ_in _ _), inI64_of (mulZ_in _ _), inI64_of (divZ_in _ _), inI64_of (negZ_in _), inI64_of (dotV_in _ _), inI64_of (sqrtZ_in (subZ_in _ _)).1, Prod.eta, inV_of ha hb hc, inV_of hd he hf, inV_of hl hm hn, inI64_of hr, eH, inI64_of iH, eW, inI64_of iW, inI64_of (sqrtZ_in iW).1, eX, eY]
  have hok := h _ rfl _ rfl _ rfl
  clear h
  have hdef : ballOk (a, b, c) (d, e, f) (l, m, n) r = (!decide (dotV (d, e, f) (d, e, f) = 0) && decide (0 ≤ ballW (a, b, c) (d, e, f) (l, m, n) r)) := by
    unfold ballOk; congr
  generalize ballOk (a, b, c) (d, e, f) (l, m, n) r = ok at *
  generalize ballW (a, b, c) (d, e, f) (l, m, n) r = W at *
  generalize dotV (d, e, f) (d, e, f) = A at *
  generalize ballX (a, b, c) (d, e, f) (l, m, n) r = X at *
  generalize ballY (a, b, c) (d, e, f) (l, m, n) r = Y at *
  have no : ok = false → K (.val (.tuple [I64 0, I64 0, Bo false])) := fun e => by rw [e] at hok; exact hok
  have yes : ok = true → K (.val (.tuple [I64 X, I64 Y, Bo true])) := fun e => by rw [e] at hok; exact hok
  simp only [BR_dec]
  have hf' : ¬ (¬ A = 0 ∧ 0 ≤ W) → ok = false := fun hh => by
    rw [hdef, ← Bool.not_eq_true]
    simpa only [Bool.and_eq_true, Bool.not_eq_true', decide_eq_true_eq, decide_eq_false_iff_not] using hh
  have ht' : (¬ A = 0 ∧ 0 ≤ W) → ok = true := fun hh => by
    rw [hdef]
    simpa only [Bool.and_eq_true, Bool.not_eq_true', decide_eq_true_eq, decide_eq_false_iff_not] using hh
  exact ⟨fun h1 => no (hf' (by omega)), fun h1 => ⟨fun h2 => no (hf' (by omega)), fun h2 => yes (ht' (by omega))⟩⟩
theorem hrtri_ok {a b c d e f l m n p q r x y z : Int} (ha : In64 a) (hb : In64 b) (hc : In64 c) (hd : In64 d) (he : In64 e) (hf : In64 f) (hl : In64 l) (hm : In64 m) (hn : In64 n) (hp : In64 p) (hq : In64 q) (hr : In64 r) (hx : In64 x) (hy : In64 y) (hz : In64 z) {K : Out → Prop}
    (h : ∀ ok : Bool, ok = triOk (a, b, c) (d, e, f) (l, m, n) (p, q, r) (x, y, z) → ∀ t : Int, t = ifOk ok (triT (a, b, c) (d, e, f) (l, m, n) (p, q, r) (x, y, z)) → ∀ u : Int, u = ifOk ok (triU (a, b, c) (d, e, f) (l, m, n) (p, q, r) (x, y, z)) → ∀ v : Int, v = ifOk ok (triV (a, b, c) (d, e, f) (l, m, n) (p, q, r) (x, y, z)) →
        K (.val (.tuple [.agg [I64 t, I64 0, I64 u, I64 v], Bo ok]))) : EvH ΓV2 20 [Ray a b c d e f, V3 l m n, V3 p q r, V3 x y z] K := by
  unfold EvH
  rw [vcHRTri]
  have eN : dotV (subV (p, q, r) (l, m, n)) (crossV (d, e, f) (subV (x, y, z) (l, m, n))) = triN (d, e, f) (l, m, n) (p, q, r) (x, y, z) := rfl
  have eU : divZ (dotV (subV (a, b, c) (l, m, n)) (crossV (d, e, f) (subV (x, y, z) (l, m, n)))) (triN (d, e, f) (l, m, n) (p, q, r) (x, y, z)) = triU (a, b, c) (d, e, f) (l, m, n) (p, q, r) (x, y, z) := rfl
  have eV : divZ (dotV (d, e, f) (crossV (subV (a, b, c) (l, m, n)) (subV (p, q, r) (l, m, n)))) (triN (d, e, f) (l, m, n) (p, q, r) (x, y, z)) = triV (a, b, c) (d, e, f) (l, m, n) (p, q, r) (x, y, z) := rfl
  have eT : divZ (dotV (subV (x, y, z) (l, m, n)) (crossV (subV (a, b, c) (l, m, n)) (subV (p, q, r) (l, m, n)))) (triN (d, e, f) (l, m, n) (p, q, r) (x, y, z)) = triT (a, b, c) (d, e, f) (l, m, n) (p, q, r) (x, y, z) := rfl
  have iN : In64 (triN (d, e, f) (l, m, n) (p, q, r) (x, y, z)) := dotV_in _ _
  have iU : In64 (triU (a, b, c) (d, e, f) (l, m, n) (p, q, r) (x, y, z)) := divZ_in _ _
  have iV : In64 (triV (a, b, c) (d, e, f) (l, m, n) (p, q, r) (x, y, z)) := divZ_in _ _
  simp only [forall_eq, true_and, and_true, and_self, BR_true, inV_of3 (addV_in _ _), inV_of3 (subV_in _ _), inV_of3 (scaleV_in _ _), inV_of3 (crossV_in _ _), inV_of3 (unitV_in _), inV_of3 (bendV_in _ _), inI64_of (addZ_in _ _), inI64_of (subZ_in _ _), inI64_of (mulZ_in _ _), inI64_of (divZ_in _ _), inI64_of (negZ_in _), inI64_of (dotV_in _ _), inI64_of (sqrtZ_in (subZ_in _ _)).1, Prod.eta, inV_of ha hb hc, inV_of hd he hf, inV_of hl hm hn, inV_of hp hq hr, inV_of hx hy hz, eN, inI64_of iN, eU, inI64_of iU, eV, inI64_of iV, eT]
  have hok := h _ rfl _ rfl _ rfl _ rfl
  clear h
  have hdef : triOk (a, b, c) (d, e, f) (l, m, n) (p, q, r) (x, y, z) = (!decide (triN (d, e, f) (l, m, n) (p, q, r) (x, y, z) = 0) && (decide (0 ≤ triU (a, b, c) (d, e, f) (l, m, n) (p, q, r) (x, y, z)) && (decide (triU (a, b, c) (d, e, f) (l, m, n) (p, q, r) (x, y, z) ≤ 4294967296) && (decide (0 ≤ triV (a, b, c) (d, e, f) (l, m, n) (p, q, r) (x, y, z)) && (decide (addZ (triU (a, b, c) (d, e, f) (l, m, n) (p, q, r) (x, y, z)) (triV (a, b, c) (d, e, f) (l, m, n) (p, q, r) (x, y, z)) ≤ 4294967296) && decide (0 ≤ triT (a, b, c) (d, e, f) (l, m, n) (p, q, r) (x, y, z))))))) := by
    unfold triOk; congr
  generalize triOk (a, b, c) (d, e, f) (l, m, n) (p, q, r) (x, y, z) = ok at *
  generalize triN (d, e, f) (l, m, n) (p, q, r) (x, y, z) = N at *
  generalize triU (a, b, c) (d, e, f) (l, m, n) (p, q, r) (x, y, z) = U at *
  generalize triV (a, b, c) (d, e, f) (l, m, n) (p, q, r) (x, y, z) = V at *
  generalize triT (a, b, c) (d, e, f) (l, m, n) (p, q, r) (x, y, z) = T at *
  generalize addZ U V = UV at *
  have no : ok = false → K (.val (.tuple [.agg [I64 0, I64 0, I64 0, I64 0], Bo false])) := fun e => by rw [e] at hok; exact hok
  have yes : ok = true → K (.val (.tuple [.agg [I64 T, I64 0, I64 U, I64 V], Bo true])) := fun e => by rw [e] at hok; exact hok
  simp only [BR_dec]
  have hf' : ¬ (¬ N = 0 ∧ 0 ≤ U ∧ U ≤ 4294967296 ∧ 0 ≤ V ∧ UV ≤ 4294967296 ∧ 0 ≤ T) → ok = false := fun hh => by
    rw [hdef, ← Bool.not_eq_true]
    simpa only [Bool.and_eq_true, Bool.not_eq_true', decide_eq_true_eq, decide_eq_false_iff_not] using hh
  have ht' : (¬ N = 0 ∧ 0 ≤ U ∧ U ≤ 4294967296 ∧ 0 ≤ V ∧ UV ≤ 4294967296 ∧ 0 ≤ T) → ok = true := fun hh => by
    rw [hdef]
    simpa only [Bool.and_eq_true, Bool.not_eq_true', decide_eq_true_eq, decide_eq_false_iff_not] using hh
  refine ⟨fun h1 => no (hf' (by omega)), fun h1 => ⟨fun h2 => no (hf' (by omega)), fun h2 => ⟨fun h3 => no (hf' (by omega)), fun h3 => ?_⟩⟩⟩
  refine ⟨fun h4 => no (hf' (by omega)), fun h4 => ⟨fun h5 => no (hf' (by omega)), fun h5 => ⟨fun h6 => no (hf' (by omega)), fun h6 => yes (ht' (by omega))⟩⟩⟩
theorem hrball_ok {a b c d e f l m n r : Int} (ha : In64 a) (hb : In64 b) (hc : In64 c) (hd : In64 d) (he : In64 e) (hf : In64 f) (hl : In64 l) (hm : In64 m) (hn : In64 n) (hr : In64 r) {K : Out → Prop}
    (h : ∀ ok : Bool, ok = ballOk (a, b, c) (d, e, f) (l, m, n) r → ∀ x : Int, x = ifOk ok (ballX (a, b, c) (d, e, f) (l, m, n) r) → ∀ y : Int, y = ifOk ok (ballY (a, b, c) (d, e, f) (l, m, n) r) → K (.val (.tuple [I64 x, I64 y, Bo ok]))) :
    EvH ΓV2 21 [Ray a b c d e f, .agg [I64 l, I64 m, I64 n, I64 r]] K := by
  unfold EvH
  rw [vcHRBall]
  have eH : dotV (subV (a, b, c) (l, m, n)) (d, e, f) = ballH (a, b, c) (d, e, f) (l, m, n) := rfl
  have eW : subZ (mulZ (ballH (a, b, c) (d, e, f) (l, m, n)) (ballH (a, b, c) (d, e, f) (l, m, n))) (mulZ (dotV (d, e, f) (d, e, f)) (subZ (dotV (subV (a, b, c) (l, m, n)) (subV (a, b, c) (l, m, n))) (mulZ r r))) = ballW (a, b, c) (d, e, f) (l, m, n) r := rfl
  have eX : divZ (subZ (negZ (ballH (a, b, c) (d, e, f) (l, m, n))) (sqrtZ (ballW (a, b, c) (d, e, f) (l, m, n) r))) (dotV (d, e, f) (d, e, f)) = ballX (a, b, c) (d, e, f) (l, m, n) r := rfl
  have eY : divZ (addZ (negZ (ballH (a, b, c) (d, e, f) (l, m, n))) (sqrtZ (ballW (a, b, c) (d, e, f) (l, m, n) r))) (dotV (d, e, f) (d, e, f)) = ballY (a, b, c) (d, e, f) (l, m, n) r := rfl
  have iH : In64 (ballH (a, b, c) (d, e, f) (l, m, n)) := dotV_in _ _
  have iW : In64 (ballW (a, b, c) (d, e, f) (l, m, n) r) := subZ_in _ _
  simp only [forall_eq, true_and, and_true, and_self, BR_true, inV_of3 (addV_in _ _), inV_of3 (subV_in _ _), inV_of3 (scaleV_in _ _), inV_of3 (crossV_in _ _), inV_of3 (unitV_in _), inV_of3 (bendV_in _ _), inI64_of (addZ_in _ _), inI64_of (subZ_in _ _), inI64_of (mulZ_in _ _), inI64_of (divZ_in _ _), inI64_of (negZ_in _), inI64_of (dotV_in _ _), inI64_of (sqrtZ_in (subZ_in _ _)).1, Prod.eta, inV_of ha hb hc, inV_of hd he hf, inV_of hl hm hn, inI64_of hr, eH, inI64_of iH, eW, inI64_of iW, inI64_of (sqrtZ_in iW).1, eX, eY]
  have hok := h _ rfl _ rfl _ rfl
  clear h
  have hdef : ballOk (a, b, c) (d, e, f) (l, m, n) r = (!decide (dotV (d, e, f) (d, e, f) = 0) && decide (0 ≤ ballW (a, b, c) (d, e, f) (l, m, n) r)) := by
    unfold ballOk; congr
  generalize ballOk (a, b, c) (d, e, f) (l, m, n) r = ok at *
  generalize ballW (a, b, c) (d, e, f) (l, m, n) r = W at *
  generalize dotV (d, e, f) (d, e, f) = A at *
  generalize ballX (a, b, c) (d, e, f) (l, m, n) r = X at *
  generalize ballY (a, b, c) (d, e, f) (l, m, n) r = Y at *
  have no : ok = false → K (.val (.tuple [I64 0, I64 0, Bo false])) := fun e => by rw [e] at hok; exact hok
  have yes : ok = true → K (.val (.tuple [I64 X, I64 Y, Bo true])) := fun e => by rw [e] at hok; exact hok
  simp only [BR_dec]
  have hf' : ¬ (¬ A = 0 ∧ 0 ≤ W) → ok = false := fun hh => by
    rw [hdef, ← Bool.not_eq_true]
    simpa only [Bool.and_eq_true, Bool.not_eq_true', decide_eq_true_eq, decide_eq_false_iff_not] using hh
  have ht' : (¬ A = 0 ∧ 0 ≤ W) → ok = true := fun hh => by
    rw [hdef]
    simpa only [Bool.and_eq_true, Bool.not_eq_true', decide_eq_true_eq, decide_eq_false_iff_not] using hh
  exact ⟨fun h1 => no (hf' (by omega)), fun h1 => ⟨fun h2 => no (hf' (by omega)), fun h2 => yes (ht' (by omega))⟩⟩
end Go.Proofs.Ytcclekhekdibjaa.Fix

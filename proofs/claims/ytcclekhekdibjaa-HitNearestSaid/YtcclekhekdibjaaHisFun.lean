/- Hit: shapes: the function does what is said of it. -/
import Derived.Test.YtcclekhekdibjaaHisDefs
import Derived.Test.YtcclekhekdibjaaHis0Vc
import Derived.Test.YtcclekhekdibjaaHitSpec
import Derived.Test.YtcclekhekdibjaaMshFun
namespace Go.Proofs.Ytcclekhekdibjaa.Fix
open Go Go.Proofs.Ytcclekhekdibjaa.Sx
attribute [local irreducible] evFunc

theorem pt_in {n sz : Nat} {g : Nat → Nat → D} (h : okL sz n g) (hs : 3 ≤ sz) {i : Nat} (hi : i < n) : In3 (pt g i) := ⟨(h i hi 0 (by omega)).2, (h i hi 1 (by omega)).2, (h i hi 2 (by omega)).2⟩
theorem lo3_in {a b c : P3} (ha : In3 a) (hb : In3 b) (hc : In3 c) : In3 (lo3 a b c) := by
  obtain ⟨a1, a2, a3⟩ := ha
  obtain ⟨b1, b2, b3⟩ := hb
  obtain ⟨c1, c2, c3⟩ := hc
  unfold In64 at *
  exact ⟨by unfold In64 lo3; simp only; omega, by unfold In64 lo3; simp only; omega, by unfold In64 lo3; simp only; omega⟩
theorem hi3_in {a b c : P3} (ha : In3 a) (hb : In3 b) (hc : In3 c) : In3 (hi3 a b c) := by
  obtain ⟨a1, a2, a3⟩ := ha
  obtain ⟨b1, b2, b3⟩ := hb
  obtain ⟨c1, c2, c3⟩ := hc
  unfold In64 at *
  exact ⟨by unfold In64 hi3; simp only; omega, by unfold In64 hi3; simp only; omega, by unfold In64 hi3; simp only; omega⟩
theorem zero3_in : In3 (0, 0, 0) := ⟨zero_in, zero_in, zero_in⟩
theorem mbox_in {np nt nb : Nat} {gp gt gb : Nat → Nat → D} (h : okM np nt nb gp gt gb) (i : Int) : In3 (mbLo np nt nb gp gt gb i) ∧ In3 (mbHi np nt nb gp gt gb i) := by
  unfold mbLo mbHi mboxV
  split
  · exact ⟨zero3_in, zero3_in⟩
  · split
    · exact ⟨⟨subZ_in _ _, subZ_in _ _, subZ_in _ _⟩, ⟨addZ_in _ _, addZ_in _ _, addZ_in _ _⟩⟩
    · split
      · rename_i ht
        have e : ∀ k, pt gt k = (dI (gt k 0), dI (gt k 1), dI (gt k 2)) := fun _ => rfl
        simp only [thereB, e, Bool.and_eq_true, decide_eq_true_eq] at ht
        obtain ⟨⟨a1, a2⟩, ⟨b1, b2⟩, c1, c2⟩ := ht
        have p1 := pt_in h.1 (by omega) (show (dI (gt i.toNat 0)).toNat < np by omega)
        have p2 := pt_in h.1 (by omega) (show (dI (gt i.toNat 1)).toNat < np by omega)
        have p3 := pt_in h.1 (by omega) (show (dI (gt i.toNat 2)).toNat < np by omega)
        exact ⟨lo3_in p1 p2 p3, hi3_in p1 p2 p3⟩
      · exact ⟨zero3_in, zero3_in⟩
theorem shape_ok {np nt nb : Nat} {p t b : Nat → Nat → Int} {i x1 x2 x3 x4 x5 x6 l : Int} (hnt : nt ≤ 4294967296) (hnb : nb ≤ 4294967296) (hp : ∀ i, i < np → ∀ j, j < 3 → In64 (p i j)) (ht : ∀ i, i < nt → ∀ j, j < 3 → In64 (t i j)) (hb : ∀ i, i < nb → ∀ j, j < 4 → In64 (b i j))
    (h1 : In64 x1) (h2 : In64 x2) (h3 : In64 x3) (h4 : In64 x4) (h5 : In64 x5) (h6 : In64 x6) {K : Out → Prop}
    (h : ∀ s : Sh4, s = shapeR np nt nb (fun i j => .int .i64 (p i j)) (fun i j => .int .i64 (t i j)) (fun i j => .int .i64 (b i j)) (x1, x2, x3) (x4, x5, x6) l i → K (.val (.tuple [.agg [I64 s.2.1, I64 (idx s i), I64 s.2.2.1, I64 s.2.2.2], Bo s.1]))) :
    EvM ΓS0 16 [.agg [NL 3 np p, NL 3 nt t, NL 4 nb b], I64 i, Ray x1 x2 x3 x4 x5 x6, I64 l] K := by
  unfold EvM
  rw [vcHShape]
  rw [w64 (n := (nt : Int) + (nb : Int)) (by unfold In64; omega)]
  have hM : okM np nt nb (fun i j => .int .i64 (p i j)) (fun i j => .int .i64 (t i j)) (fun i j => .int .i64 (b i j)) := ⟨fun i hi j hj => ⟨rfl, hp i hi j hj⟩, fun i hi j hj => ⟨rfl, ht i hi j hj⟩, fun i hi j hj => ⟨rfl, hb i hi j hj⟩, hnt, hnb⟩
  have hin := mbox_in hM i
  have hG : ∀ s, shapeR np nt nb (fun i j => .int .i64 (p i j)) (fun i j => .int .i64 (t i j)) (fun i j => .int .i64 (b i j)) (x1, x2, x3) (x4, x5, x6) l i = s → s = shapeR np nt nb (fun i j => .int .i64 (p i j)) (fun i j => .int .i64 (t i j)) (fun i j => .int .i64 (b i j)) (x1, x2, x3) (x4, x5, x6) l i := fun s e => e.symm
  have none : shapeR np nt nb (fun i j => .int .i64 (p i j)) (fun i j => .int .i64 (t i j)) (fun i j => .int .i64 (b i j)) (x1, x2, x3) (x4, x5, x6) l i = (false, 0, 0, 0) → K (.val (.tuple [.agg [I64 0, I64 (-1), I64 0, I64 0], Bo false])) := fun e => h _ e.symm
  have yes : ∀ T U V, shapeR np nt nb (fun i j => .int .i64 (p i j)) (fun i j => .int .i64 (t i j)) (fun i j => .int .i64 (b i j)) (x1, x2, x3) (x4, x5, x6) l i = (true, T, U, V) → K (.val (.tuple [.agg [I64 T, I64 i, I64 U, I64 V], Bo true])) := fun T U V e => h _ e.symm
  clear h hG
  simp only [true_and, forall_eq]
  refine BR_d (fun e => none (by unfold shapeR; rw [if_pos (Or.inl e)])) fun e => BR_d (fun e2 => none (by unfold shapeR; rw [if_pos (Or.inr e2)])) fun e2 => ⟨hM, ?_⟩
  have he : ¬ (i < 0 ∨ (nt : Int) + (nb : Int) ≤ i) := fun hh => hh.elim e e2
  simp only [inV_of h1 h2 h3, inV_of h4 h5 h6, inV_of3 hin.1, inV_of3 hin.2, BR_true, Prod.eta]
  refine BR_b (fun hk => ?_) fun hk => none (by unfold shapeR; rw [if_neg he, if_neg (by rw [hk]; decide)])
  intro _
  refine BR_d (fun e3 => ?_) fun e3 => ?_
  · rw [w64 (n := i - (nt : Int)) (by unfold In64; omega)]
    have hi : (i - (nt : Int)).toNat < nb := by omega
    refine BR_y ⟨by omega, by omega⟩ ?_
    have eG : shapeR np nt nb (fun i j => .int .i64 (p i j)) (fun i j => .int .i64 (t i j)) (fun i j => .int .i64 (b i j)) (x1, x2, x3) (x4, x5, x6) l i = ballR (boxT (x1, x2, x3) (x4, x5, x6) (mbLo np nt nb (fun i j => .int .i64 (p i j)) (fun i j => .int .i64 (t i j)) (fun i j => .int .i64 (b i j)) i) (mbHi np nt nb (fun i j => .int .i64 (p i j)) (fun i j => .int .i64 (t i j)) (fun i j => .int .i64 (b i j)) i)) l
      (ballOk (x1, x2, x3) (x4, x5, x6) (b (i - nt).toNat 0, b (i - nt).toNat 1, b (i - nt).toNat 2) (b (i - nt).toNat 3)) (ballX (x1, x2, x3) (x4, x5, x6) (b (i - nt).toNat 0, b (i - nt).toNat 1, b (i - nt).toNat 2) (b (i - nt).toNat 3)) (ballY (x1, x2, x3) (x4, x5, x6) (b (i - nt).toNat 0, b (i - nt).toNat 1, b (i - nt).toNat 2) (b (i - nt).toNat 3)) := by
      unfold shapeR; rw [if_neg he, if_pos hk, if_pos e3]; rfl
    rw [eG] at none
    have yes' := fun T U V (e : _ = (true, T, U, V)) => yes T U V (eG.trans e)
    clear yes eG
    simp only [inV_of (hb _ hi 0 (by omega)) (hb _ hi 1 (by omega)) (hb _ hi 2 (by omega)), inI64_of (hb _ hi 3 (by omega)), BR_true]
    generalize boxT (x1, x2, x3) (x4, x5, x6) (mbLo np nt nb (fun i j => .int .i64 (p i j)) (fun i j => .int .i64 (t i j)) (fun i j => .int .i64 (b i j)) i) (mbHi np nt nb (fun i j => .int .i64 (p i j)) (fun i j => .int .i64 (t i j)) (fun i j => .int .i64 (b i j)) i) = near at *
    generalize ballOk (x1, x2, x3) (x4, x5, x6) (b (i - nt).toNat 0, b (i - nt).toNat 1, b (i - nt).toNat 2) (b (i - nt).toNat 3) = ok at *
    generalize ballX (x1, x2, x3) (x4, x5, x6) (b (i - nt).toNat 0, b (i - nt).toNat 1, b (i - nt).toNat 2) (b (i - nt).toNat 3) = X at *
    generalize ballY (x1, x2, x3) (x4, x5, x6) (b (i - nt).toNat 0, b (i - nt).toNat 1, b (i - nt).toNat 2) (b (i - nt).toNat 3) = Y at *
    cases ok with
    | false => exact Eq.mpr BR_false (none (by unfold ballR; rw [if_neg (by simp), if_neg (by simp)]))
    | true =>
      simp only [BR_true, ifOk, if_true]
      have ypart : ¬ (0 ≤ X ∧ l ≤ max X near) → BR (decide (0 ≤ Y)) (BR (decide (l ≤ max Y near)) (K (.val (.tuple [.agg [I64 (max Y near), I64 i, I64 0, I64 0], Bo true]))) (K (.val (.tuple [.agg [I64 0, I64 (-1), I64 0, I64 0], Bo false])))) (K (.val (.tuple [.agg [I64 0, I64 (-1), I64 0, I64 0], Bo false]))) := fun hx => by
        have hx' : ¬ (true = true ∧ 0 ≤ X ∧ l ≤ max X near) := fun hh => hx hh.2
        refine BR_d (fun a1 => BR_d (fun a2 => yes' _ _ _ (by unfold ballR; rw [if_neg hx', if_pos ⟨rfl, a1, a2⟩])) fun a2 => none (by unfold ballR; rw [if_neg hx', if_neg (fun hh => a2 hh.2.2)])) fun a1 => none (by unfold ballR; rw [if_neg hx', if_neg (fun hh => a1 hh.2.1)])
      refine BR_d (fun a1 => BR_d (fun a2 => yes' _ _ _ (by unfold ballR; rw [if_pos ⟨rfl, a1, a2⟩])) fun a2 => ypart fun hh => a2 hh.2) fun a1 => ypart fun hh => a1 hh.1
  · have hi : i.toNat < nt := by omega
    refine BR_y ⟨by omega, by omega⟩ ?_
    have ept : pt (fun i j => D.int .i64 (t i j)) i.toNat = (t i.toNat 0, t i.toNat 1, t i.toNat 2) := rfl
    have off : ¬ (((0 ≤ t i.toNat 0 ∧ t i.toNat 0 < (np : Int)) ∧ (0 ≤ t i.toNat 1 ∧ t i.toNat 1 < (np : Int)) ∧ (0 ≤ t i.toNat 2 ∧ t i.toNat 2 < (np : Int)))) → K (.val (.tuple [.agg [I64 0, I64 (-1), I64 0, I64 0], Bo false])) := fun hh => none (by
      unfold shapeR
      rw [if_neg he, if_pos hk, if_neg e3, ept, if_neg]
      simpa only [thereB, Bool.and_eq_true, decide_eq_true_eq] using hh)
    refine BR_d (fun c1 => off (by omega)) fun c1 => fun _ => BR_d (fun c2 => off (by omega)) fun c2 => BR_y ⟨by omega, by omega⟩ (BR_d (fun c3 => off (by omega)) fun c3 => fun _ => BR_d (fun c4 => off (by omega)) fun c4 => BR_y ⟨by omega, by omega⟩ (BR_d (fun c5 => off (by omega)) fun c5 => fun _ => BR_d (fun c6 => off (by omega)) fun c6 => BR_y ⟨by omega, by omega⟩ ?_))
    have q0 : (t i.toNat 0).toNat < np := by omega
    have q1 : (t i.toNat 1).toNat < np := by omega
    have q2 : (t i.toNat 2).toNat < np := by omega
    have hth : thereB np (t i.toNat 0, t i.toNat 1, t i.toNat 2) = true := by
      simp only [thereB, Bool.and_eq_true, decide_eq_true_eq]; omega
    have eG : shapeR np nt nb (fun i j => .int .i64 (p i j)) (fun i j => .int .i64 (t i j)) (fun i j => .int .i64 (b i j)) (x1, x2, x3) (x4, x5, x6) l i = triR (boxT (x1, x2, x3) (x4, x5, x6) (mbLo np nt nb (fun i j => .int .i64 (p i j)) (fun i j => .int .i64 (t i j)) (fun i j => .int .i64 (b i j)) i) (mbHi np nt nb (fun i j => .int .i64 (p i j)) (fun i j => .int .i64 (t i j)) (fun i j => .int .i64 (b i j)) i)) l
      (triOk (x1, x2, x3) (x4, x5, x6) (p (t i.toNat 0).toNat 0, p (t i.toNat 0).toNat 1, p (t i.toNat 0).toNat 2) (p (t i.toNat 1).toNat 0, p (t i.toNat 1).toNat 1, p (t i.toNat 1).toNat 2) (p (t i.toNat 2).toNat 0, p (t i.toNat 2).toNat 1, p (t i.toNat 2).toNat 2))
      (triT (x1, x2, x3) (x4, x5, x6) (p (t i.toNat 0).toNat 0, p (t i.toNat 0).toNat 1, p (t i.toNat 0).toNat 2) (p (t i.toNat 1).toNat 0, p (t i.toNat 1).toNat 1, p (t i.toNat 1).toNat 2) (p (t i.toNat 2).toNat 0, p (t i.toNat 2).toNat 1, p (t i.toNat 2).toNat 2))
      (triU (x1, x2, x3) (x4, x5, x6) (p (t i.toNat 0).toNat 0, p (t i.toNat 0).toNat 1, p (t i.toNat 0).toNat 2) (p (t i.toNat 1).toNat 0, p (t i.toNat 1).toNat 1, p (t i.toNat 1).toNat 2) (p (t i.toNat 2).toNat 0, p (t i.toNat 2).toNat 1, p (t i.toNat 2).toNat 2))
      (triV (x1, x2, x3) (x4, x5, x6) (p (t i.toNat 0).toNat 0, p (t i.toNat 0).toNat 1, p (t i.toNat 0).toNat 2) (p (t i.toNat 1).toNat 0, p (t i.toNat 1).toNat 1, p (t i.toNat 1).toNat 2) (p (t i.toNat 2).toNat 0, p (t i.toNat 2).toNat 1, p (t i.toNat 2).toNat 2)) := by
      unfold shapeR; rw [if_neg he, if_pos hk, if_neg e3, ept, if_pos hth]; rfl
    rw [eG] at none
    have yes' := fun T U V (e : _ = (true, T, U, V)) => yes T U V (eG.trans e)
    clear yes eG off
    simp only [inV_of (hp _ q0 0 (by omega)) (hp _ q0 1 (by omega)) (hp _ q0 2 (by omega)), inV_of (hp _ q1 0 (by omega)) (hp _ q1 1 (by omega)) (hp _ q1 2 (by omega)), inV_of (hp _ q2 0 (by omega)) (hp _ q2 1 (by omega)) (hp _ q2 2 (by omega)), BR_true]
    generalize boxT (x1, x2, x3) (x4, x5, x6) (mbLo np nt nb (fun i j => .int .i64 (p i j)) (fun i j => .int .i64 (t i j)) (fun i j => .int .i64 (b i j)) i) (mbHi np nt nb (fun i j => .int .i64 (p i j)) (fun i j => .int .i64 (t i j)) (fun i j => .int .i64 (b i j)) i) = near at *
    generalize triOk (x1, x2, x3) (x4, x5, x6) (p (t i.toNat 0).toNat 0, p (t i.toNat 0).toNat 1, p (t i.toNat 0).toNat 2) (p (t i.toNat 1).toNat 0, p (t i.toNat 1).toNat 1, p (t i.toNat 1).toNat 2) (p (t i.toNat 2).toNat 0, p (t i.toNat 2).toNat 1, p (t i.toNat 2).toNat 2) = ok at *
    generalize triT (x1, x2, x3) (x4, x5, x6) (p (t i.toNat 0).toNat 0, p (t i.toNat 0).toNat 1, p (t i.toNat 0).toNat 2) (p (t i.toNat 1).toNat 0, p (t i.toNat 1).toNat 1, p (t i.toNat 1).toNat 2) (p (t i.toNat 2).toNat 0, p (t i.toNat 2).toNat 1, p (t i.toNat 2).toNat 2) = T at *
    generalize triU (x1, x2, x3) (x4, x5, x6) (p (t i.toNat 0).toNat 0, p (t i.toNat 0).toNat 1, p (t i.toNat 0).toNat 2) (p (t i.toNat 1).toNat 0, p (t i.toNat 1).toNat 1, p (t i.toNat 1).toNat 2) (p (t i.toNat 2).toNat 0, p (t i.toNat 2).toNat 1, p (t i.toNat 2).toNat 2) = U at *
    generalize triV (x1, x2, x3) (x4, x5, x6) (p (t i.toNat 0).toNat 0, p (t i.toNat 0).toNat 1, p (t i.toNat 0).toNat 2) (p (t i.toNat 1).toNat 0, p (t i.toNat 1).toNat 1, p (t i.toNat 1).toNat 2) (p (t i.toNat 2).toNat 0, p (t i.toNat 2).toNat 1, p (t i.toNat 2).toNat 2) = V at *
    cases ok with
    | false => exact Eq.mpr BR_false (none (by unfold triR; rw [if_neg (by simp)]))
    | true =>
      simp only [BR_true, ifOk, if_true]
      exact BR_d (fun a1 => none (by unfold triR; rw [if_neg (fun hh => by have := hh.2; omega)])) fun a1 => yes' _ _ _ (by unfold triR; rw [if_pos ⟨rfl, by omega⟩])
end Go.Proofs.Ytcclekhekdibjaa.Fix

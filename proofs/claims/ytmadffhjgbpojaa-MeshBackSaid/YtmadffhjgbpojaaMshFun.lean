/- Mesh: points that are there, boxes of shapes. -/
import Derived.Test.YtmadffhjgbpojaaMsh0Vc
import Derived.Test.YtmadffhjgbpojaaMsh1Vc
import Derived.Test.YtmadffhjgbpojaaMsh2Vc
import Derived.Test.YtmadffhjgbpojaaGrdFun
import Derived.Test.YtmadffhjgbpojaaSxCap
namespace Go.Proofs.Ytmadffhjgbpojaa.Fix
open Go Go.Proofs.Ytmadffhjgbpojaa.Sx
attribute [local irreducible] evFunc

abbrev EvM (Γ : FuncId → Option Sx.Spec) (f : FuncId) (xs : List SV) (K : Out → Prop) : Prop := evFunc Try.prog Γ noAnn 10 9 f xs [] (inK none K)
theorem there_ok {p t b : Nat} {g1 g2 g3 : Nat → Nat → D} {x y z : Int} {K : Out → Prop} (h : K (.val (Bo (thereB p (x, y, z))))) : EvM ΓG 26 [.agg [.d (.list 3 p g1), .d (.list 3 t g2), .d (.list 4 b g3)], V3 x y z] K := by
  unfold EvM
  rw [vcMThere]
  intro _
  unfold thereB at h
  simp only [true_and]
  refine BR_d (fun h1 => fun _ => BR_d (fun h2 => BR_d (fun h3 => fun _ => BR_d (fun h4 => BR_d (fun h5 => fun _ => BR_d (fun h6 => ?_) fun h6 => ?_) fun h5 => ?_) fun h4 => ?_) fun h3 => ?_) fun h2 => ?_) fun h1 => ?_
  all_goals simp only [*, decide_true, decide_false, Bool.and_true, Bool.true_and, Bool.and_false, Bool.false_and] at h; exact h
theorem mnear_ok {x y z : Int} {K : Out → Prop} (h : K (.val (Bo (nearB (x, y, z))))) : EvM ΓG 23 [V3 x y z] K := by
  unfold EvM
  rw [vcMNear]
  intro _
  unfold nearB at h
  simp only [true_and]
  refine BR_d (fun h1 => BR_d (fun h2 => BR_d (fun h3 => BR_d (fun h4 => BR_d (fun h5 => BR_d (fun h6 => ?_) fun h6 => ?_) fun h5 => ?_) fun h4 => ?_) fun h3 => ?_) fun h2 => ?_) fun h1 => ?_
  all_goals simp only [*, decide_true, decide_false, Bool.and_true, Bool.true_and, Bool.and_false, Bool.false_and] at h; exact h
theorem mbox_ok {np nt nb : Nat} {p t b : Nat → Nat → Int} {i : Int} (hnt : nt ≤ 4294967296) (hnb : nb ≤ 4294967296) (hb : ∀ i, i < nb → ∀ j, j < 4 → In64 (b i j)) {K : Out → Prop}
    (h : K (.val (.agg [I64 (mboxV np nt nb (fun i j => .int .i64 (p i j)) (fun i j => .int .i64 (t i j)) (fun i j => .int .i64 (b i j)) i).1.1, I64 (mboxV np nt nb (fun i j => .int .i64 (p i j)) (fun i j => .int .i64 (t i j)) (fun i j => .int .i64 (b i j)) i).1.2.1, I64 (mboxV np nt nb (fun i j => .int .i64 (p i j)) (fun i j => .int .i64 (t i j)) (fun i j => .int .i64 (b i j)) i).1.2.2,
      I64 (mboxV np nt nb (fun i j => .int .i64 (p i j)) (fun i j => .int .i64 (t i j)) (fun i j => .int .i64 (b i j)) i).2.1, I64 (mboxV np nt nb (fun i j => .int .i64 (p i j)) (fun i j => .int .i64 (t i j)) (fun i j => .int .i64 (b i j)) i).2.2.1, I64 (mboxV np nt nb (fun i j => .int .i64 (p i j)) (fun i j => .int .i64 (t i j)) (fun i j => .int .i64 (b i j)) i).2.2.2]))) :
    EvM ΓM0 12 [.agg [NL 3 np p, NL 3 nt t, NL 4 nb b], I64 i] K := by
  unfold EvM
  rw [vcMBox]
  intro _
  rw [w64 (n := (nt : Int) + (nb : Int)) (by unfold In64; omega)]
  simp only [true_and]
  refine BR_d (fun e => ?_) fun e => BR_d (fun e2 => ?_) fun e2 => BR_d (fun e3 => ?_) fun e3 => ?_
  · rw [mboxV, if_pos (Or.inl e)] at h; exact h
  · rw [mboxV, if_pos (Or.inr e2)] at h; exact h
  · rw [mboxV, if_neg (fun hh => hh.elim e e2), if_pos e3] at h
    rw [w64 (n := i - (nt : Int)) (by unfold In64; omega)]
    have hk : (i - (nt : Int)).toNat < nb := by omega
    refine BR_y ⟨by omega, by omega⟩ ?_
    simp only [inI64_of (hb _ hk 0 (by omega)), inI64_of (hb _ hk 1 (by omega)), inI64_of (hb _ hk 2 (by omega)), inI64_of (hb _ hk 3 (by omega)), BR_true]
    exact h
  · rw [mboxV, if_neg (fun hh => hh.elim e e2), if_neg e3] at h
    refine BR_y ⟨by omega, by omega⟩ ?_
    have hpt : pt (fun i j => D.int .i64 (t i j)) i.toNat = (t i.toNat 0, t i.toNat 1, t i.toNat 2) := rfl
    rw [hpt] at h
    refine BR_b (fun ht => ?_) fun ht => ?_
    · rw [if_pos ht] at h
      have ht' := ht
      simp only [thereB, Bool.and_eq_true, decide_eq_true_eq] at ht'
      obtain ⟨a1, a2, a3⟩ := ht'
      exact BR_y ⟨by omega, by omega⟩ (BR_y a1 (BR_y a2 (BR_y a3 h)))
    · rw [if_neg (by rw [ht]; decide)] at h; exact h
theorem ΓM0_ok : GammaOK Try.prog ΓM0 := by
  intro f s h
  unfold ΓM0 at h
  split at h
  · cases h
  · cases h -- mesh.Count
    refine ⟨pureSpec_ok (nl := none) (evFunc_sound ΓG_ok noAnn 10 9) fun xs K h => ?_, pureSpec_calm fun xs => ?_⟩
    · split at h
      · rw [vcMCount]
        exact fun _ _ => ⟨trivial, h⟩
      · exact h.elim
    · repeat' (first | exact kd_ret _ | exact kd_false | refine kd_br ?_ ?_ | split)
  · cases h -- mesh.there
    refine ⟨pureSpec_ok (nl := none) (evFunc_sound ΓG_ok noAnn 10 9) fun xs K h => ?_, pureSpec_calm fun xs => ?_⟩
    · split at h
      · exact there_ok h
      · exact h.elim
    · repeat' (first | exact kd_ret _ | exact kd_false | refine kd_br ?_ ?_ | split)
  · cases h -- mesh.near
    refine ⟨pureSpec_ok (nl := none) (evFunc_sound ΓG_ok noAnn 10 9) fun xs K h => ?_, pureSpec_calm fun xs => ?_⟩
    · split at h
      · exact mnear_ok h
      · exact h.elim
    · repeat' (first | exact kd_ret _ | exact kd_false | refine kd_br ?_ ?_ | split)
  · exact ΓG_ok _ _ h
/-- Rows of numbers, in their own form. -/
theorem den_nums {c : Cx} {sz n : Nat} {g : Nat → Nat → D} {v : Value} (h : okL sz n g) (hd : den c (.d (.list sz n g)) v) : den c (NL sz n fun i j => dI (g i j)) v :=
  den_list (fun i hi j hj => (h i hi j hj).1) hd
theorem dens_mesh {c : Cx} {np nt nb : Nat} {gp gt gb : Nat → Nat → D} {v : Value} (h : okM np nt nb gp gt gb) (hd : den c (.agg [.d (.list 3 np gp), .d (.list 3 nt gt), .d (.list 4 nb gb)]) v) :
    den c (.agg [NL 3 np fun i j => dI (gp i j), NL 3 nt fun i j => dI (gt i j), NL 4 nb fun i j => dI (gb i j)]) v :=
  dens_agg (fun vs => dens_head (fun v => den_nums h.1) (fun vs => dens_head (fun v => den_nums h.2.1) (fun vs => dens_head (fun v => den_nums h.2.2.1) fun vs h => h))) hd
theorem ΓM1_ok : GammaOK Try.prog ΓM1 := by
  intro f s h
  unfold ΓM1 at h
  split at h
  · cases h
  · cases h -- mesh.Box
    refine ⟨pureSpec_ok (nl := none) (evN_sound (evFunc_sound ΓM0_ok noAnn 10 9)) fun xs K h => ?_, pureSpec_calm fun xs => ?_⟩
    · split at h
      · rename_i np gp nt gt nb gb i
        obtain ⟨hm, h⟩ := h
        refine ⟨[.agg [NL 3 np fun i j => dI (gp i j), NL 3 nt fun i j => dI (gt i j), NL 4 nb fun i j => dI (gb i j)], I64 i], fun c vs hd => dens_head (fun v => dens_mesh hm) (fun vs h => h) hd, ?_⟩
        exact mbox_ok hm.2.2.2.1 hm.2.2.2.2 (fun i hi j hj => (hm.2.2.1 i hi j hj).2) h
      · exact h.elim
    · repeat' (first | exact kd_ret _ | exact kd_false | refine kd_and ?_ | split)
  · exact ΓM0_ok _ _ h
end Go.Proofs.Ytmadffhjgbpojaa.Fix

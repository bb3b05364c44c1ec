/- Hit: the chapter's examples; what the laws' own functions do. -/
import Derived.Test.YtcclekhekdibjaaHilDefs
import Derived.Test.YtcclekhekdibjaaHil3Vc
import Derived.Test.YtcclekhekdibjaaHitSpec
import Derived.Test.YtcclekhekdibjaaGrdFun
import Derived.Test.YtcclekhekdibjaaSxCap
namespace Go.Proofs.Ytcclekhekdibjaa.Fix
open Go Go.Proofs.Ytcclekhekdibjaa.Sx
attribute [local irreducible] evFunc

abbrev EvG (Γ : FuncId → Option Sx.Spec) (f : FuncId) (xs : List SV) (K : Out → Prop) : Prop := evFunc Try.prog Γ noAnn 10 9 f xs [] (inK none K)
theorem of_okH {a b c : Int} (h : small31 a b c = true) {K : Out → Prop} (hK : K (.val (V3 (a * 4294967296) (b * 4294967296) (c * 4294967296)))) : EvG ΓG 10 [I64 a, I64 b, I64 c] K := by
  unfold EvG
  rw [vcHOf]
  simp only [small31, decide_eq_true_eq] at h
  rw [w64 (n := a * 4294967296) (by unfold In64; omega), w64 (n := b * 4294967296) (by unfold In64; omega), w64 (n := c * 4294967296) (by unfold In64; omega)]
  exact ⟨⟨trivial, trivial, trivial, trivial⟩, hK⟩
theorem from_okH {a b c : Int} (h : small31 a b c = true) {K : Out → Prop} (hK : K (.val (Ray (a * 4294967296) (b * 4294967296) (c * 4294967296) 0 0 4294967296))) : EvG ΓG 9 [I64 a, I64 b, I64 c] K := by
  unfold EvG
  rw [vcHFrom]
  simp only [small31, decide_eq_true_eq] at h
  rw [w64 (n := a * 4294967296) (by unfold In64; omega), w64 (n := b * 4294967296) (by unfold In64; omega), w64 (n := c * 4294967296) (by unfold In64; omega)]
  exact ⟨⟨trivial, trivial, trivial, trivial, trivial, trivial, trivial⟩, hK⟩
theorem ΓGa_ok : GammaOK Try.prog ΓGa := by
  intro f s h
  unfold ΓGa at h
  split at h
  · cases h
    refine ⟨pureSpec_ok (nl := none) (evFunc_sound ΓG_ok noAnn 10 9) fun xs K h => ?_, pureSpec_calm fun xs => ?_⟩
    · split at h
      · obtain ⟨h1, h2⟩ := req h
        exact of_okH h1 h2
      · exact h.elim
    · repeat' (first | exact kd_ret _ | exact kd_false | refine kd_br ?_ ?_ | split)
  · cases h
    refine ⟨pureSpec_ok (nl := none) (evFunc_sound ΓG_ok noAnn 10 9) fun xs K h => ?_, pureSpec_calm fun xs => ?_⟩
    · split at h
      · obtain ⟨h1, h2⟩ := req h
        exact from_okH h1 h2
      · exact h.elim
    · repeat' (first | exact kd_ret _ | exact kd_false | refine kd_br ?_ ?_ | split)
  · cases h
    refine ⟨pureSpec_ok (nl := none) (evFunc_sound ΓG_ok noAnn 10 9) fun xs K h => ?_, pureSpec_calm fun xs => ?_⟩
    · split at h
      · rw [vcHCount]
        exact fun _ _ => ⟨trivial, h⟩
      · exact h.elim
    · repeat' (first | exact kd_ret _ | exact kd_false | refine kd_br ?_ ?_ | split)
  · cases h
    refine ⟨pure_mono (ΓH1_ok _ _ (rfl : ΓH1 11 = some boxSpec)).1 fun xs K hb => ?_, pureSpec_calm fun xs => ?_⟩
    · split at hb
      · exact BR_imp (fun hb => BR_imp (fun hb => BR_imp (fun hb => BR_imp (fun h _ e1 _ e2 => by rw [e1, e2]; exact h) hb) hb) hb) hb
      · exact hb.elim
    · repeat' (first | exact kd_ret _ | exact kd_false | refine kd_br ?_ ?_ | split)
  · cases h
    refine ⟨pure_mono (ΓH1_ok _ _ (rfl : ΓH1 12 = some triSpec)).1 fun xs K hb => ?_, pureSpec_calm fun xs => ?_⟩
    · split at hb
      · exact BR_imp (fun hb => BR_imp (fun hb => BR_imp (fun hb => BR_imp (fun hb => BR_imp (fun h _ e1 _ e2 _ e3 _ e4 => by rw [e2, e3, e4, e1]; exact h) hb) hb) hb) hb) hb
      · exact hb.elim
    · repeat' (first | exact kd_ret _ | exact kd_false | refine kd_br ?_ ?_ | split)
  · cases h
    refine ⟨pure_mono (ΓH1_ok _ _ (rfl : ΓH1 13 = some ballSpec)).1 fun xs K hb => ?_, pureSpec_calm fun xs => ?_⟩
    · split at hb
      · exact BR_imp (fun hb => BR_imp (fun hb => BR_imp (fun hb => BR_imp (fun h _ e1 _ e2 _ e3 => by rw [e2, e3, e1]; exact h) hb) hb) hb) hb
      · exact hb.elim
    · repeat' (first | exact kd_ret _ | exact kd_false | refine kd_br ?_ ?_ | split)
  · exact ΓG_ok _ _ h
theorem ball_form {g1 g2 g : Nat → Nat → D} (h : isBall g) : ∀ c v, den c (.agg [.d (.list 3 0 g1), .d (.list 3 0 g2), .d (.list 4 1 g)]) v → den c ballMesh v := by
  intro c v hd
  refine dens_agg (fun vs => dens_head (fun v => den_list fun i hi => absurd hi (Nat.not_lt_zero _)) (fun vs => dens_head (fun v => den_list fun i hi => absurd hi (Nat.not_lt_zero _)) (fun vs => dens_head (fun v => den_list fun i hi j hj => ?_) fun vs h => h))) hd
  obtain ⟨h0, h1, h2, h3⟩ := h
  obtain rfl : i = 0 := by omega
  rcases j with _ | _ | _ | _ | j
  · exact h0
  · exact h1
  · exact h2
  · exact h3
  · omega
theorem ΓGb_ok : GammaOK Try.prog ΓGb := by
  intro f s h
  unfold ΓGb at h
  split at h
  · cases h
    refine ⟨pureSpec_ok (nl := none) (evN_sound (evFunc_sound ΓGa_ok noAnn 10 9)) fun xs K h => ?_, pureSpec_calm fun xs => ?_⟩
    · split at h
      · refine ⟨[ballMesh, I64 0], fun c vs hd => dens_head (ball_form h.1 c) (fun vs h => h) hd, ?_⟩
        rw [vcHMBoxB]
        exact fun _ => ⟨⟨trivial, trivial, trivial, trivial, trivial, trivial, trivial⟩, h.2⟩
      · exact h.elim
    · repeat' (first | exact kd_ret _ | exact kd_false | refine kd_and ?_ | split)
  · exact ΓGa_ok _ _ h
theorem ΓGc_ok : GammaOK Try.prog ΓGc := by
  intro f s h
  unfold ΓGc at h
  split at h
  · cases h
    refine ⟨pureSpec_ok (nl := none) (evN_sound (evFunc_sound ΓGb_ok noAnn 10 9)) fun xs K h => ?_, pureSpec_calm fun xs => ?_⟩
    · split at h
      · obtain ⟨⟨hb, rfl, rfl, rfl, rfl, rfl, rfl, rfl⟩, h⟩ := h
        refine ⟨[ballMesh, I64 0, rayB, I64 21474836480], fun c vs hd => dens_head (ball_form hb c) (fun vs h => h) hd, ?_⟩
        rw [vcHShapeB]
        exact ⟨⟨rfl, rfl, rfl, rfl⟩, fun _ => ⟨⟨⟨trivial, trivial, trivial, trivial, trivial⟩, trivial, trivial⟩, h⟩⟩
      · exact h.elim
    · repeat' (first | exact kd_ret _ | exact kd_false | refine kd_and ?_ | split)
  · cases h
    refine ⟨pureSpec_ok (nl := none) (evN_sound (evFunc_sound ΓGb_ok noAnn 10 9)) fun xs K h => ?_, pureSpec_calm fun xs => ?_⟩
    · split at h
      · obtain ⟨⟨hb, rfl, rfl, rfl, rfl, rfl, rfl, rfl⟩, h⟩ := h
        refine ⟨[ballMesh, rayB, I64 0], fun c vs hd => dens_head (ball_form hb c) (fun vs h => h) hd, ?_⟩
        rw [vcHScanB]
        exact ⟨⟨rfl, rfl, rfl, rfl⟩, fun _ => ⟨⟨trivial, trivial, trivial, trivial, trivial⟩, h⟩⟩
      · exact h.elim
    · repeat' (first | exact kd_ret _ | exact kd_false | refine kd_and ?_ | split)
  · cases h
    refine ⟨pureSpec_ok (nl := none) (evN_sound (evFunc_sound ΓGb_ok noAnn 10 9)) fun xs K h => ?_, pureSpec_calm fun xs => ?_⟩
    · split at h
      · obtain ⟨⟨hb, rfl, rfl, rfl, rfl, rfl, rfl, rfl, rfl, rfl, rfl⟩, h⟩ := h
        refine ⟨[ballMesh, .agg [I64 17179869184, I64 0, I64 0, I64 0], rayB], fun c vs hd => dens_head (ball_form hb c) (fun vs h => h) hd, ?_⟩
        rw [vcHNormalB]
        exact fun _ => ⟨⟨trivial, trivial, trivial, trivial⟩, h⟩
      · exact h.elim
    · repeat' (first | exact kd_ret _ | exact kd_false | refine kd_and ?_ | split)
  · cases h
    refine ⟨pureSpec_okF (ak := .agg [.list 3, .list 3, .list 4]) (evFunc_sound ΓGb_ok noAnn 10 9) fun xs K h => ?_, pureSpec_calm fun xs => ?_⟩
    · split at h
      · rw [vcHBallF]
        refine ⟨⟨trivial, trivial, fun i hi j hj => ?_, trivial⟩, ?_⟩
        · obtain rfl : i = 0 := by omega
          rcases j with _ | _ | _ | _ | j
          · rfl
          · rfl
          · rfl
          · rfl
          · omega
        · exact h
      · exact h.elim
    · repeat' (first | exact kd_ret _ | exact kd_false | refine kd_and ?_ | split)
  · exact ΓGb_ok _ _ h
theorem awake_okH {K : Out → Prop} (h : K (.val (Bo true))) : EvG ΓGc 18 [] K := by
  unfold EvG
  rw [vcHAwake]
  simp only [and_self, true_and]
  exact h
end Go.Proofs.Ytcclekhekdibjaa.Fix

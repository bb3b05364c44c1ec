/- Ground: those hold, too. -/
import Derived.Test.YtmadffhjgbpojaaGrdDefs
import Derived.Test.YtmadffhjgbpojaaVecFun1
namespace Go.Proofs.Ytmadffhjgbpojaa.Fix
open Go Go.Proofs.Ytmadffhjgbpojaa.Sx
attribute [local irreducible] evFunc

theorem pure_mono {f : FuncId} {ks : List AK} {b b' : List SV → (Out → Prop) → Prop} (h : SpecOK Try.prog f (pureSpec ks b)) (hm : ∀ xs K, b' xs K → b xs K) : SpecOK Try.prog f (pureSpec ks b') := by
  intro pl args hp k hk
  refine h pl args hp k ?_
  dsimp only [pureSpec] at hk ⊢
  split
  · rename_i hok
    rw [if_pos hok] at hk
    exact hm _ _ hk
  · rename_i hok
    rw [if_neg hok] at hk
    exact hk
theorem BR_imp {b : Bool} {A A' : Prop} (h : A → A') (hb : BR b A False) : BR b A' False := by
  obtain ⟨h1, h2⟩ := req hb
  rw [h1]; exact Eq.mpr BR_true (h h2)
theorem fn1g_ok {f : FuncId} {F : Int → Int} (h : SpecOK Try.prog f (fn1 F)) : SpecOK Try.prog f (fn1g F) ∧ SpecCalm (fn1g F) := by
  refine ⟨pure_mono h fun xs K hb => ?_, pureSpec_calm fun xs => ?_⟩
  · split at hb
    · exact BR_imp (fun h _ e => by rw [e]; exact h) hb
    · exact hb.elim
  · repeat' (first | exact kd_ret _ | exact kd_false | refine kd_br ?_ ?_ | split)
theorem fn2g_ok {f : FuncId} {F : Int → Int → Int} (h : SpecOK Try.prog f (fn2 F)) : SpecOK Try.prog f (fn2g F) ∧ SpecCalm (fn2g F) := by
  refine ⟨pure_mono h fun xs K hb => ?_, pureSpec_calm fun xs => ?_⟩
  · split at hb
    · exact BR_imp (fun hb => BR_imp (fun h _ e => by rw [e]; exact h) hb) hb
    · exact hb.elim
  · repeat' (first | exact kd_ret _ | exact kd_false | refine kd_br ?_ ?_ | split)
theorem vvg_ok {f : FuncId} {F : P3 → P3 → P3} (h : SpecOK Try.prog f (vv F)) : SpecOK Try.prog f (vvg F) ∧ SpecCalm (vvg F) := by
  refine ⟨pure_mono h fun xs K hb => ?_, pureSpec_calm fun xs => ?_⟩
  · split at hb
    · exact BR_imp (fun hb => BR_imp (fun h _ e1 _ e2 _ e3 => by rw [e1, e2, e3]; exact h) hb) hb
    · exact hb.elim
  · repeat' (first | exact kd_ret _ | exact kd_false | refine kd_br ?_ ?_ | split)
theorem v1g_ok {f : FuncId} {F : P3 → P3} (h : SpecOK Try.prog f (v1 F)) : SpecOK Try.prog f (v1g F) ∧ SpecCalm (v1g F) := by
  refine ⟨pure_mono h fun xs K hb => ?_, pureSpec_calm fun xs => ?_⟩
  · split at hb
    · exact BR_imp (fun h _ e1 _ e2 _ e3 => by rw [e1, e2, e3]; exact h) hb
    · exact hb.elim
  · repeat' (first | exact kd_ret _ | exact kd_false | refine kd_br ?_ ?_ | split)
theorem vsg_ok {f : FuncId} {F : P3 → Int → P3} (h : SpecOK Try.prog f (vs F)) : SpecOK Try.prog f (vsg F) ∧ SpecCalm (vsg F) := by
  refine ⟨pure_mono h fun xs K hb => ?_, pureSpec_calm fun xs => ?_⟩
  · split at hb
    · exact BR_imp (fun hb => BR_imp (fun h _ e1 _ e2 _ e3 => by rw [e1, e2, e3]; exact h) hb) hb
    · exact hb.elim
  · repeat' (first | exact kd_ret _ | exact kd_false | refine kd_br ?_ ?_ | split)
theorem vvng_ok {f : FuncId} {F : P3 → P3 → Int} (h : SpecOK Try.prog f (vvn F)) : SpecOK Try.prog f (vvng F) ∧ SpecCalm (vvng F) := by
  refine ⟨pure_mono h fun xs K hb => ?_, pureSpec_calm fun xs => ?_⟩
  · split at hb
    · exact BR_imp (fun hb => BR_imp (fun h _ e => by rw [e]; exact h) hb) hb
    · exact hb.elim
  · repeat' (first | exact kd_ret _ | exact kd_false | refine kd_br ?_ ?_ | split)
theorem vng_ok {f : FuncId} {F : P3 → Int} (h : SpecOK Try.prog f (vn F)) : SpecOK Try.prog f (vng F) ∧ SpecCalm (vng F) := by
  refine ⟨pure_mono h fun xs K hb => ?_, pureSpec_calm fun xs => ?_⟩
  · split at hb
    · exact BR_imp (fun h _ e => by rw [e]; exact h) hb
    · exact hb.elim
  · repeat' (first | exact kd_ret _ | exact kd_false | refine kd_br ?_ ?_ | split)
theorem ΓG_ok : GammaOK Try.prog ΓG := by
  intro f s h
  unfold ΓG at h
  split at h
  · cases h
  · cases h; exact fn2g_ok (ΓV2_ok _ _ rfl).1 -- fix.Add
  · cases h; exact fn2g_ok (ΓV2_ok _ _ rfl).1 -- fix.Sub
  · cases h
end Go.Proofs.Ytmadffhjgbpojaa.Fix

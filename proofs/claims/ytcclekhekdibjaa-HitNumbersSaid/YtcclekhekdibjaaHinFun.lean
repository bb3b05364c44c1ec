/- Hit: the law of the fixed examples returns true. -/
import Derived.Test.YtcclekhekdibjaaHinDefs
import Derived.Test.YtcclekhekdibjaaHil4Vc
import Derived.Test.YtcclekhekdibjaaHil5Vc
import Derived.Test.YtcclekhekdibjaaHilFun
import Derived.Test.YtcclekhekdibjaaMshFun
import Derived.Test.YtcclekhekdibjaaSxLaw
import Derived.Below
import Derived.KernelRfl
namespace Go.Proofs.Ytcclekhekdibjaa.Fix
open Go Go.Proofs.Ytcclekhekdibjaa.Sx Go.RowKit
attribute [local irreducible] evFunc

theorem all_range {n : Nat} {f : Nat → Bool} (h : (List.range n).all f = true) : ∀ i, i < n → f i = true := fun i hi => List.all_eq_true.1 h i (List.mem_range.2 hi)
theorem okC_of {d : D} (h : okC d = true) : d = .int .i64 (dI d) ∧ In64 (dI d) := by
  unfold okC at h
  split at h
  · exact ⟨rfl, of_inI64 h⟩
  · cases h
theorem okLb_of {sz n : Nat} {g : Nat → Nat → D} (h : okLb sz n g = true) : okL sz n g := fun i hi j hj => okC_of (all_range (all_range h i hi) j hj)
theorem okMb_of {np nt nb : Nat} {gp gt gb : Nat → Nat → D} (h : okMb np nt nb gp gt gb = true) : okM np nt nb gp gt gb := by
  simp only [okMb, Bool.and_eq_true, Nat.ble_eq] at h
  obtain ⟨h1, h2, h3, h4, h5⟩ := h
  exact ⟨okLb_of h1, okLb_of h2, okLb_of h3, h4, h5⟩
theorem numsB_of {sz n : Nat} {g : Nat → Nat → D} {l : List Int} (h : numsB sz n g l = true) : ∀ i, i < n → ∀ j, j < sz → g i j = .int .i64 (l.getD (i * sz + j) 0) := fun i hi j hj => by
  have h := all_range (all_range h i hi) j hj
  split at h
  · rename_i x e
    rw [e, of_decide_eq_true h]
  · cases h
theorem dens_twins {gp gt gb : Nat → Nat → D} (h : twinsB gp gt gb = true) : ∀ c v, den c (.agg [.d (.list 3 3 gp), .d (.list 3 3 gt), .d (.list 4 1 gb)]) v → den c twins v := by
  simp only [twinsB, Bool.and_eq_true] at h
  obtain ⟨h1, h2, h3⟩ := h
  exact fun c v hd => dens_agg (fun vs => dens_head (fun v => den_list (numsB_of h1)) (fun vs => dens_head (fun v => den_list (numsB_of h2)) (fun vs => dens_head (fun v => den_list (numsB_of h3)) fun vs h => h))) hd
theorem ΓGd_ok : GammaOK Try.prog ΓGd := by
  intro f s h
  unfold ΓGd at h
  split at h
  · cases h; exact ΓM0_ok _ _ (rfl : ΓM0 53 = some thereSpec)
  · cases h
    refine ⟨pure_mono (ΓM1_ok _ _ (rfl : ΓM1 25 = some mboxSpec)).1 fun xs K hb => ?_, pureSpec_calm fun xs => ?_⟩
    · split at hb
      · obtain ⟨h1, h2⟩ := req hb
        exact ⟨okMb_of h1, h2⟩
      · exact hb.elim
    · repeat' (first | exact kd_ret _ | exact kd_false | refine kd_br ?_ ?_ | split)
  · cases h
    refine ⟨pureSpec_ok (nl := none) (evFunc_sound ΓGc_ok noAnn 10 9) fun xs K h => ?_, pureSpec_calm fun xs => ?_⟩
    · split at h
      · exact awake_okH h
      · exact h.elim
    · repeat' (first | exact kd_ret _ | exact kd_false | split)
  · exact ΓGa_ok _ _ h
theorem ΓGe_ok : GammaOK Try.prog ΓGe := by
  intro f s h
  unfold ΓGe at h
  split at h
  · cases h
    refine ⟨pureSpec_ok (nl := none) (evN_sound (evFunc_sound ΓGd_ok noAnn 10 9)) fun xs K h => ?_, pureSpec_calm fun xs => ?_⟩
    · split at h
      · obtain ⟨h1, h2⟩ := req h
        simp only [Bool.and_eq_true, decide_eq_true_eq, Prod.mk.injEq] at h1
        obtain ⟨ht, rfl, rfl, rfl, rfl, rfl, rfl⟩ := h1
        split at h2
        · rename_i e; subst e
          refine ⟨[twins, rayB, I64 0], fun c vs hd => dens_head (dens_twins ht c) (fun vs h => h) hd, ?_⟩
          rw [vcHScanT1]
          intros
          exact ⟨⟨trivial, trivial, trivial, trivial, trivial⟩, h2⟩
        · split at h2
          · rename_i e; subst e
            refine ⟨[twins, rayB, I64 21474836481], fun c vs hd => dens_head (dens_twins ht c) (fun vs h => h) hd, ?_⟩
            rw [vcHScanT2]
            intros
            exact ⟨⟨trivial, trivial, trivial, trivial, trivial⟩, h2⟩
          · exact h2.elim
      · refine ⟨_, fun c vs hd => hd, ?_⟩
        rw [vcHScanE]
        exact ⟨⟨trivial, trivial, trivial, trivial, trivial⟩, h⟩
      · exact h.elim
    · repeat' (first | exact kd_ret _ | exact kd_false | refine kd_br ?_ ?_ | refine kd_ite ?_ ?_ | split)
  · cases h
    refine ⟨pureSpec_ok (nl := none) (evN_sound (evFunc_sound ΓGd_ok noAnn 10 9)) fun xs K h => ?_, pureSpec_calm fun xs => ?_⟩
    · split at h
      · obtain ⟨ht, h2⟩ := req h
        split at h2
        · rename_i e
          simp only [List.cons.injEq, and_true] at e
          obtain ⟨rfl, rfl, rfl, rfl, rfl, rfl, rfl, rfl, rfl, rfl⟩ := e
          refine ⟨[twins, .agg [I64 21474836480, I64 0, I64 1073741824, I64 2147483648], rayB], fun c vs hd => dens_head (dens_twins ht c) (fun vs h => h) hd, ?_⟩
          rw [vcHNormalT1]
          intros
          exact ⟨⟨trivial, trivial, trivial, trivial⟩, h2⟩
        · split at h2
          · rename_i e
            simp only [List.cons.injEq, and_true] at e
            obtain ⟨rfl, rfl, rfl, rfl, rfl, rfl, rfl, rfl, rfl, rfl⟩ := e
            refine ⟨[twins, .agg [I64 21474836480, I64 0, I64 1073741824, I64 2147483648], Ray 0 0 0 0 0 (-4294967296)], fun c vs hd => dens_head (dens_twins ht c) (fun vs h => h) hd, ?_⟩
            rw [vcHNormalT2]
            intros
            exact ⟨⟨trivial, trivial, trivial, trivial⟩, h2⟩
          · split at h2
            · rename_i e
              simp only [List.cons.injEq, and_true] at e
              obtain ⟨rfl, rfl, rfl, rfl, rfl, rfl, rfl, rfl, rfl, rfl⟩ := e
              refine ⟨[twins, .agg [I64 0, I64 2, I64 0, I64 0], rayB], fun c vs hd => dens_head (dens_twins ht c) (fun vs h => h) hd, ?_⟩
              rw [vcHNormalT3]
              intros
              exact ⟨⟨trivial, trivial, trivial, trivial⟩, h2⟩
            · split at h2
              · rename_i e
                simp only [List.cons.injEq, and_true] at e
                obtain ⟨rfl, rfl, rfl, rfl, rfl, rfl, rfl, rfl, rfl, rfl⟩ := e
                refine ⟨[twins, .agg [I64 0, I64 9, I64 0, I64 0], rayB], fun c vs hd => dens_head (dens_twins ht c) (fun vs h => h) hd, ?_⟩
                rw [vcHNormalT4]
                intros
                exact ⟨⟨trivial, trivial, trivial, trivial⟩, h2⟩
              · split at h2
                · rename_i e
                  simp only [List.cons.injEq, and_true] at e
                  obtain ⟨rfl, rfl, rfl, rfl, rfl, rfl, rfl, rfl, rfl, rfl⟩ := e
                  refine ⟨[twins, .agg [I64 0, I64 (-1), I64 0, I64 0], rayB], fun c vs hd => dens_head (dens_twins ht c) (fun vs h => h) hd, ?_⟩
                  rw [vcHNormalT5]
                  intros
                  exact ⟨⟨trivial, trivial, trivial, trivial⟩, h2⟩
                · exact h2.elim
      · exact h.elim
    · repeat' (first | exact kd_ret _ | exact kd_false | refine kd_br ?_ ?_ | refine kd_ite ?_ ?_ | split)
  · exact ΓGd_ok _ _ h
theorem hnumbers_ok : evFunc Try.prog ΓGe noAnn 10 9 3 [] [] yesK := by
  rw [vcHNumbers]
  trivial
theorem walk_numbers (w : World) : Calls Try.prog 3 #[] w fun e w' => e = .returned (.bool true) ∧ Below w.heap.size w w' :=
  law_calls ΓGe_ok hnumbers_ok dens_nil
end Go.Proofs.Ytcclekhekdibjaa.Fix

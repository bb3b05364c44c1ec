/- Sx: operations, regions, code and functions do what the evaluator says. -/
import Derived.Test.YtfnncoegcabdhaaSxOps5
namespace Go.Proofs.Ytfnncoegcabdhaa.Sx
open Go
section
variable {P : Program}

/-- What is known of a call, when it is made. -/
def CallSound (P : Program) (callK : CallK) : Prop :=
  ∀ (f : FuncId) (args : List SV) (hp : List Ob) (k : SV → List Ob → Prop), callK f args hp k → ∀ (c1 : Cx) (w : World) (ρ : List Loc) (vs : List Value), Mem c1 ⟨w, hp, ρ⟩ → dens ⟨w, hp, ρ⟩ args vs →
    Calls P f ⟨vs⟩ w fun e w' => ∃ v r hp' ρ', e = .returned v ∧ k r hp' ∧ den ⟨w', hp', ρ'⟩ r v ∧ Mem ⟨w, hp, ρ⟩ ⟨w', hp', ρ'⟩ ∧ Ext ⟨w, hp, ρ⟩ ⟨w', hp', ρ'⟩

inductive OpDone (P : Program) (c0 c : Cx) (k : SV → List Ob → Prop) : Result Next → Prop
  | value (v : Value) (w' : World) (r : SV) (hp' : List Ob) (ρ' : List Loc) (hk : k r hp') (hd : den ⟨w', hp', ρ'⟩ r v) (hm : Mem c0 ⟨w', hp', ρ'⟩) (he : Ext c ⟨w', hp', ρ'⟩) : OpDone P c0 c k (.ok (.value v) w')
  | skip (w' : World) (hp' : List Ob) (ρ' : List Loc) (hk : k .undef hp') (hm : Mem c0 ⟨w', hp', ρ'⟩) (he : Ext c ⟨w', hp', ρ'⟩) : OpDone P c0 c k (.ok .skip w')
  | enter (g : FuncId) (vs : List Value) (h : Calls P g ⟨vs⟩ c.w fun e w' => ∃ v r hp' ρ', e = .returned v ∧ k r hp' ∧ den ⟨w', hp', ρ'⟩ r v ∧ Mem c0 ⟨w', hp', ρ'⟩ ∧ Ext c ⟨w', hp', ρ'⟩) : OpDone P c0 c k (.ok (.enter g ⟨vs⟩) c.w)
theorem OpDone.of_made {c0 c : Cx} {k : SV → List Ob → Prop} {e : Sem Value} (h : Made P c0 c k e) : OpDone P c0 c k ((do pure (.value (← e)) : Sem Next).run P c.w) := by
  obtain ⟨v, w', r, hp', ρ', h1, h2, h3, h4, h5⟩ := h
  have : (do pure (.value (← e)) : Sem Next).run P c.w = .ok (.value v) w' := by simp [h1]
  rw [this]
  exact .value v w' r hp' ρ' h2 h3 h4 h5
theorem OpDone.of_pure {c0 c : Cx} (hm : Mem c0 c) {k : SV → List Ob → Prop} {e : Sem Value} (h : ∃ u r, e.run P c.w = .ok u c.w ∧ k r c.hp ∧ den c r u) : OpDone P c0 c k ((do pure (.value (← e)) : Sem Next).run P c.w) :=
  .of_made (.of_pure hm h)
theorem callFunc_run {g : FuncId} (h : callable P g = true) (args : Array Value) (w : World) : (callFunc g args).run P w = .ok (.enter g args) w := by
  unfold callable at h
  split at h
  · rename_i fn hfn
    simp only [Bool.and_eq_true, Bool.not_eq_true', Option.isSome_iff_exists] at h
    obtain ⟨h1, b, h2⟩ := h
    simp only [callFunc, Sem.run_bind, run_program, Result.andThen_ok, hfn, h1, Bool.false_eq_true, if_false, h2, Option.isNone_some, Sem.run_pure]
  · cases h
theorem denO_map {c : Cx} {tm : List SV} {a : Act} (h : dens c tm a.tmps.toList) (x : Option Operand) : denO c (x.map (opd tm)) (x.map a.eval) := by
  cases x with
  | none => trivial
  | some x => exact den_opd h x
theorem dens_parts {c : Cx} {tm : List SV} {a : Act} (h : dens c tm a.tmps.toList) (ps : List (Nat × Operand)) :
    (ps.map fun p => (p.1, opd tm p.2)).map (·.1) = (ps.map fun p => (p.1, a.eval p.2)).map (·.1) ∧ dens c ((ps.map fun p => (p.1, opd tm p.2)).map (·.2)) ((ps.map fun p => (p.1, a.eval p.2)).map (·.2)) := by
  refine ⟨by simp, ?_⟩
  have := dens_opds h (ps.map (·.2))
  simpa [List.map_map, Function.comp_def] using this
theorem evBuiltin_sound {c0 c : Cx} (hm : Mem c0 c) {pl : Option Nat} {b : Builtin} {types : Array TypeId} {ty : TypeId} {consts : Array Bool} {args : List SV} {vs : List Value} {k : SV → List Ob → Prop}
    (h : evBuiltin P pl c.hp b types.toList args k) (hd : dens c args vs) : OpDone P c0 c k ((builtin b types ty consts ⟨vs⟩).run P c.w) := by
  obtain ⟨types⟩ := types
  unfold evBuiltin at h
  split at h
  · rename_i t x heq
    simp only at heq; subst heq
    unfold dens at hd
    obtain ⟨v, us, rfl, h1, h2⟩ := hd
    unfold dens at h2; subst h2
    exact .of_pure hm (evLen_sound (ty := ty) hm h h1)
  · rename_i t t' s x heq
    simp only at heq; subst heq
    unfold dens at hd
    obtain ⟨v, us, rfl, h1, h2⟩ := hd
    unfold dens at h2
    obtain ⟨v', us', rfl, h3, h4⟩ := h2
    unfold dens at h4; subst h4
    split at h
    · rename_i ht
      exact .of_made (evAppend_sound (ty := ty) hm h (ht.imp Eq.symm id) h1 h3)
    · exact h.elim
  · unfold evMinMax at h
    split at h
    · rename_i kk a rest
      unfold dens at hd
      obtain ⟨v, us, rfl, h1, h2⟩ := hd
      obtain rfl := den_int h1
      exact .of_pure hm (by
        obtain ⟨u, r, e1, e2, e3⟩ := evMinGo_sound h h2
        exact ⟨u, r, by simpa [Builtin.min_] using e1, e2, e3⟩)
    · exact h.elim
  · unfold evMinMax at h
    split at h
    · rename_i kk a rest
      unfold dens at hd
      obtain ⟨v, us, rfl, h1, h2⟩ := hd
      obtain rfl := den_int h1
      exact .of_pure hm (by
        obtain ⟨u, r, e1, e2, e3⟩ := evMaxGo_sound h h2
        exact ⟨u, r, by simpa [Builtin.max_] using e1, e2, e3⟩)
    · exact h.elim
  · exact h.elim
theorem evOp_sound {callK : CallK} (hcall : CallSound P callK) {c0 c : Cx} (hm : Mem c0 c) {pl : Option Nat} {tm : List SV} {a : Act} (ht : dens c tm a.tmps.toList) {o : Oper} {k : SV → List Ob → Prop}
    (h : evOp P callK pl tm c.hp o.op k) : OpDone P c0 c k ((execOp a.eval o).run P c.w) := by
  obtain ⟨dst, op, ty, pos, after, guard⟩ := o
  cases op <;> simp only [evOp] at h
  case move x => exact .value _ _ _ _ c.ρ h (den_opd ht x) hm (Ext.refl c)
  case assign x => exact .value _ _ _ _ c.ρ h (den_opd ht x) hm (Ext.refl c)
  case pick x y z =>
    split at h
    · rename_i b hb
      have hx := den_opd ht x
      rw [hb] at hx
      have hx := den_bool hx
      rw [BR_iff] at h
      cases b with
      | true =>
        have : (execOp a.eval ⟨dst, .pick x y z, ty, pos, after, guard⟩).run P c.w = .ok (.value (a.eval y)) c.w := by simp [execOp, hx, asBool]
        rw [this]
        exact .value _ _ _ _ c.ρ (h.1 rfl) (den_opd ht y) hm (Ext.refl c)
      | false =>
        have : (execOp a.eval ⟨dst, .pick x y z, ty, pos, after, guard⟩).run P c.w = .ok (.value (a.eval z)) c.w := by simp [execOp, hx, asBool]
        rw [this]
        exact .value _ _ _ _ c.ρ (h.2 rfl) (den_opd ht z) hm (Ext.refl c)
    · exact h.elim
  case alloc t =>
    split at h
    · rename_i ob hob
      split at h
      · rename_i hpl; exact .of_made (evAlloc_sound hm hpl hob h)
      · exact h.elim
    · exact h.elim
  case box t x =>
    split at h
    · rename_i n g hx
      split at h
      · rename_i hpl
        have := den_opd ht x
        rw [hx] at this
        exact .of_made (evBoxF_sound hm hpl this h)
      · exact h.elim
    · split at h
      · rename_i hpl
        exact .of_made (evBox_sound hm hpl.1 (den_opd ht x) hpl.2 h)
      · exact h.elim
  case build t parts =>
    obtain ⟨p1, p2⟩ := dens_parts ht parts.toList
    have := evBuild_sound h p1 p2
    refine .of_pure hm ?_
    obtain ⟨u, r, e1, e2, e3⟩ := this
    refine ⟨u, r, ?_, e2, e3⟩
    rw [← e1]
    congr 2
    apply Array.ext'; simp
  case buildSlice t len parts =>
    obtain ⟨p1, p2⟩ := dens_parts ht parts.toList
    have := evBuildSlice_sound hm h p1 p2
    have e : (parts.map fun (p : Nat × Operand) => (p.1, a.eval p.2)) = (parts.toList.map fun p => (p.1, a.eval p.2)).toArray := by apply Array.ext'; simp
    rw [← e] at this
    exact .of_made this
  case load t x => exact .of_pure hm (evLoad_sound hm h (den_opd ht x))
  case store t x y =>
    obtain ⟨w', hp', h1, h2, h3, h4⟩ := evStore_sound hm h (den_opd ht x) (den_opd ht y)
    have : (execOp a.eval ⟨dst, .store t x y, ty, pos, after, guard⟩).run P c.w = .ok .skip w' := by simp [execOp, h1]
    rw [this]
    exact .skip w' hp' c.ρ h2 h3 h4
  case nilCheck x =>
    have hx := den_opd ht x
    have key : ∀ (s : SV), opd tm x = s → k s c.hp → (match a.eval x with | .pointer (some _) => true | .func (.func _) _ _ => true | _ => false) = true → OpDone P c0 c k ((execOp a.eval ⟨dst, .nilCheck x, ty, pos, after, guard⟩).run P c.w) := by
      intro s hs hk hv
      have : (execOp a.eval ⟨dst, .nilCheck x, ty, pos, after, guard⟩).run P c.w = .ok (.value (a.eval x)) c.w := by
        unfold execOp
        simp only
        generalize a.eval x = v at hv
        cases v with
        | pointer p => cases p with | none => cases hv | some p => rfl
        | func fn f cs => cases fn <;> first | rfl | cases hv
        | _ => cases hv
      rw [this]
      exact .value _ _ s _ c.ρ hk (hs ▸ hx) hm (Ext.refl c)
    split at h
    · rename_i j off hs
      refine key _ hs h ?_
      rw [hs] at hx; unfold den at hx; obtain ⟨b, _, e⟩ := hx; rw [e]
    · rename_i j i hs
      refine key _ hs h ?_
      rw [hs] at hx; unfold den at hx; obtain ⟨_, b, _, e⟩ := hx; rw [e]
    · rename_i j v i off hs
      refine key _ hs h ?_
      rw [hs] at hx; unfold den at hx; obtain ⟨_, ⟨b, e⟩, _⟩ := hx; rw [e]
    · rename_i l i hs
      refine key _ hs h ?_
      rw [hs] at hx; unfold den at hx; obtain ⟨b, o, e, _⟩ := hx; rw [e]
    · rename_i sz g off hs
      refine key _ hs h ?_
      rw [hs] at hx; unfold den at hx; obtain ⟨b, o, e, _⟩ := hx; rw [e]
    · rename_i f cs hs
      refine key _ hs h ?_
      rw [hs] at hx; unfold den at hx; obtain ⟨vs, e, _⟩ := hx; rw [e]
    · exact h.elim
  case binOp op t x y t' => exact .of_pure hm (evBin_sound h (den_opd ht x) (den_opd ht y))
  case unOp op t x => exact .of_pure hm (evUn_sound h (den_opd ht x))
  case convert s d x => exact .of_made (evConvert_sound hm h (den_opd ht x))
  case makeFunc fn first caps =>
    split at h
    · rename_i f hf
      have hfirst : first = #[] := by apply Array.ext'; simpa using hf
      subst hfirst
      refine .value _ _ _ _ c.ρ h ?_ hm (Ext.refl c)
      unfold den
      exact ⟨caps.toList.map a.eval, by simp; apply Array.ext'; simp, dens_opds ht _⟩
    · exact h.elim
  case makeSlice t l c' => exact .of_made (evMakeSlice_sound hm h (den_opd ht l) (den_opd ht c'))
  case slice t x lo hi mx =>
    cases mx with
    | none => exact .of_pure hm (evSlice_sound hm h (den_opd ht x) (denO_map ht lo) (denO_map ht hi))
    | some m => exact h.elim
  case fieldAddr t x f => exact .of_pure hm (evFieldAddr_sound h (den_opd ht x))
  case field t x f => exact .of_pure hm (evField_sound h (den_opd ht x))
  case indexAddr t x i => exact .of_pure hm (evIndexAddr_sound hm h (den_opd ht x) (den_opd ht i))
  case index t x i => exact .of_pure hm (evIndex_sound h (den_opd ht x) (den_opd ht i))
  case extract x i =>
    have hx := den_opd ht x
    split at h
    · rename_i xs hxs
      split at h
      · rename_i v hv
        rw [hxs] at hx
        unfold den at hx
        obtain ⟨vs, e, hd⟩ := hx
        obtain ⟨u, hu, hd'⟩ := dens_get hd i v hv
        exact .of_pure hm ⟨u, v, by simp [Instr.extract, e, hu], h, hd'⟩
      · exact h.elim
    · exact h.elim
  case call c' =>
    obtain ⟨callee, args, argTypes⟩ := c'
    have hargs : args.map a.eval = ⟨args.toList.map a.eval⟩ := by apply Array.ext'; simp
    cases callee with
    | builtin b =>
      simp only at h
      have := evBuiltin_sound (ty := ty) (consts := args.map fun | .const _ => true | _ => false) hm h (dens_opds ht args.toList)
      have e : (execOp a.eval ⟨dst, .call ⟨.builtin b, args, argTypes⟩, ty, pos, after, guard⟩).run P c.w = (builtin b argTypes ty (args.map fun | .const _ => true | _ => false) ⟨args.toList.map a.eval⟩).run P c.w := by
        simp only [execOp, resolve, Sem.run_bind, Sem.run_pure, Result.andThen_ok, invoke, hargs]
        rfl
      rw [e]; exact this
    | value f =>
      simp only at h
      split at h
      · rename_i g caps hf
        split at h
        · rename_i hc
          have hx := den_opd ht f
          rw [hf] at hx
          unfold den at hx
          obtain ⟨cs, e, hd⟩ := hx
          have hall := dens_append (dens_opds ht args.toList) hd
          have hcs := hcall g _ c.hp k h c0 c.w c.ρ _ hm hall
          have e2 : (execOp a.eval ⟨dst, .call ⟨.value f, args, argTypes⟩, ty, pos, after, guard⟩).run P c.w = .ok (.enter g ⟨args.toList.map a.eval ++ cs⟩) c.w := by
            have e3 : (args.map a.eval) ++ (⟨cs⟩ : Array Value) = ⟨args.toList.map a.eval ++ cs⟩ := by apply Array.ext'; simp
            simp only [execOp, resolve, e, Deferred.ofValue, Sem.run_bind, Sem.run_pure, Result.andThen_ok, invoke]
            rw [show (#[] : Array Value) ++ args.map a.eval = args.map a.eval from by simp, e3]
            exact callFunc_run hc _ _
          rw [e2]
          refine .enter g _ (hcs.mono ?_)
          rintro e w' ⟨v, r, hp', ρ', q1, q2, q3, q4, q5⟩
          exact ⟨v, r, hp', ρ', q1, q2, q3, hm.trans q4, q5⟩
        · exact h.elim
      · exact h.elim
    | invoke r m => exact h.elim
  all_goals exact h.elim

end
end Go.Proofs.Ytfnncoegcabdhaa.Sx

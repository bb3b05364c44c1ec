/- Sx: operations, regions, code and functions do what the evaluator says. -/
import Derived.Test.YtmadffhjgbpojaaSxOps5
import Derived.Laws.StructEq
import Derived.ChangeKeysEq
import Derived.Laws.Externs
namespace Go.Proofs.Ytmadffhjgbpojaa.Sx
open Go
section
variable {P : Program}

/-- What is known of a call, when it is made. -/
def CallSound (P : Program) (callK : CallK) : Prop :=
  ∀ (f : FuncId) (args : List SV) (hp : List Ob) (k : SV → List Ob → Prop), callK f args hp k → ∀ (c1 : Cx) (w : World) (ρ : List Loc) (vs : List Value), Mem c1 ⟨w, hp, ρ⟩ → dens ⟨w, hp, ρ⟩ args vs →
    Calls P f ⟨vs⟩ w fun e w' => ∃ v r hp' ρ', e = .returned v ∧ k r hp' ∧ den ⟨w', hp', ρ'⟩ r v ∧ Mem ⟨w, hp, ρ⟩ ⟨w', hp', ρ'⟩ ∧ Ext ⟨w, hp, ρ⟩ ⟨w', hp', ρ'⟩

inductive OpDone (P : Program) (c0 c : Cx) (k : SV → List Ob → Prop) : Result Next → Prop
  | value (v : Value) (w' : World) (r : SV) (hp' : List Ob) (ρ' : List Loc) (hk : k r hp') (hd : den ⟨w', hp', ρ'⟩ r v) (hm : Mem c0 ⟨w', hp', ρ'⟩) (he : Ext c ⟨w', hp', ρ'⟩) : OpDone P c0 c k (.ok (.value v) w')
  | skip (w' : World) (hp' : List Ob) (ρ' : List Loc) (hk : k .undef hp') (hm : Mem c0 ⟨w', hp', ρ'⟩) (he : Ext c ⟨w', hp', ρ'⟩) : OpDone P c0 c k (.ok .skip w')
  | enter (g : FuncId) (vs : List Value) (h : Calls P g ⟨vs⟩ c.w fun e w' => ∃ v r hp' ρ', e = .returned v ∧ k r hp' ∧ den ⟨w', hp', ρ'⟩ r v ∧ Mem c0 ⟨w', hp', ρ'⟩ ∧ Ext c ⟨w', hp', ρ'⟩) : OpDone P c0 c k (.ok (.enter g ⟨vs⟩) c.w)
theorem OpDone.of_made {c0 c : Cx} {k : SV → List Ob → Prop} {e : Sem Value} (h : Made P c0 c k e) : OpDone P c0 c k ((do pure (.value (← e)) : Sem Next).run P c.w) := by
  obtain ⟨v, w', r, hp', ρ', h1, h2, h3, h4, h5⟩ := h
  have : (do pure (.value (← e)) : Sem Next).run P c.w = .ok (.value v) w' := by simp [h1]
  rw [this]
  exact .value v w' r hp' ρ' h2 h3 h4 h5
theorem OpDone.of_pure {c0 c : Cx} (hm : Mem c0 c) {k : SV → List Ob → Prop} {e : Sem Value} (h : ∃ u r, e.run P c.w = .ok u c.w ∧ k r c.hp ∧ den c r u) : OpDone P c0 c k ((do pure (.value (← e)) : Sem Next).run P c.w) :=
  .of_made (.of_pure hm h)
theorem callFunc_run {g : FuncId} (h : callable P g = true) (args : Array Value) (w : World) : (callFunc g args).run P w = .ok (.enter g args) w := by
  unfold callable at h
  split at h
  · rename_i fn hfn
    simp only [Bool.and_eq_true, Bool.not_eq_true', Option.isSome_iff_exists] at h
    obtain ⟨h1, b, h2⟩ := h
    simp only [callFunc, Sem.run_bind, run_program, Result.andThen_ok, hfn, h1, Bool.false_eq_true, if_false, h2, Option.isNone_some, Sem.run_pure]
  · cases h
theorem denO_map {c : Cx} {tm : List SV} {a : Act} (h : dens c tm a.tmps.toList) (x : Option Operand) : denO c (x.map (opd tm)) (x.map a.eval) := by
  cases x with
  | none => trivial
  | some x => exact den_opd h x
theorem dens_parts {c : Cx} {tm : List SV} {a : Act} (h : dens c tm a.tmps.toList) (ps : List (Nat × Operand)) :
    (ps.map fun p => (p.1, opd tm p.2)).map (·.1) = (ps.map fun p => (p.1, a.eval p.2)).map (·.1) ∧ dens c ((ps.map fun p => (p.1, opd tm p.2)).map (·.2)) ((ps.map fun p => (p.1, a.eval p.2)).map (·.2)) := by
  refine ⟨by simp, ?_⟩
  have := dens_opds h (ps.map (·.2))
  simpa [List.map_map, Function.comp_def] using this
theorem evBuiltin_sound {c0 c : Cx} (hm : Mem c0 c) {pl : Option Nat} {b : Builtin} {types : Array TypeId} {ty : TypeId} {consts : Array Bool} {args : List SV} {vs : List Value} {k : SV → List Ob → Prop}
    (h : evBuiltin P pl c.hp b types.toList args k) (hd : dens c args vs) : OpDone P c0 c k ((builtin b types ty consts ⟨vs⟩).run P c.w) := by
  obtain ⟨types⟩ := types
  unfold evBuiltin at h
  split at h
  · rename_i t x heq
    simp only at heq; subst heq
    unfold dens at hd
    obtain ⟨v, us, rfl, h1, h2⟩ := hd
    unfold dens at h2; subst h2
    exact .of_pure hm (evLen_sound (ty := ty) hm h h1)
  · rename_i t t' s x heq
    simp only at heq; subst heq
    unfold dens at hd
    obtain ⟨v, us, rfl, h1, h2⟩ := hd
    unfold dens at h2
    obtain ⟨v', us', rfl, h3, h4⟩ := h2
    unfold dens at h4; subst h4
    split at h
    · rename_i ht
      exact .of_made (evAppend_sound (ty := ty) hm h (ht.imp Eq.symm id) h1 h3)
    · exact h.elim
  · unfold evMinMax at h
    split at h
    · rename_i kk a rest
      unfold dens at hd
      obtain ⟨v, us, rfl, h1, h2⟩ := hd
      obtain rfl := den_int h1
      exact .of_pure hm (by
        obtain ⟨u, r, e1, e2, e3⟩ := evMinGo_sound h h2
        exact ⟨u, r, by simpa [Builtin.min_] using e1, e2, e3⟩)
    · exact h.elim
  · unfold evMinMax at h
    split at h
    · rename_i kk a rest
      unfold dens at hd
      obtain ⟨v, us, rfl, h1, h2⟩ := hd
      obtain rfl := den_int h1
      exact .of_pure hm (by
        obtain ⟨u, r, e1, e2, e3⟩ := evMaxGo_sound h h2
        exact ⟨u, r, by simpa [Builtin.max_] using e1, e2, e3⟩)
    · exact h.elim
  · exact h.elim
/-! ## Equality of whole values -/
theorem partOf_sound {c : Cx} {t : TypeId} {xs : List SV} {vs : List Value} {off : Nat} {r : SV} (h : partOf P t xs off = some r) (hx : dens c xs vs) :
    ∃ u, (part t ⟨vs⟩ off).run P c.w = .ok u c.w ∧ den c r u := by
  have hp : evPart P t xs off (fun r' => r' = r) := by
    unfold partOf at h
    unfold evPart
    split at h
    · split at h
      · rename_i hle
        cases h
        simp only [*, if_true]
      · cases h
    · simp only [*]
    · cases h
  obtain ⟨u, r', h1, rfl, h3⟩ := evPart_sound hp hx
  exact ⟨u, h1, h3⟩
theorem eqParts_some {f : SV → SV → Option Bool} {x y : Option SV} {rest : Option Bool} {r : Bool} (h : eqParts f x y rest = some r) : ∃ a b p q, x = some a ∧ y = some b ∧ f a b = some p ∧ rest = some q ∧ r = (p && q) := by
  unfold eqParts at h
  split at h
  · rename_i a b
    cases hf : f a b with
    | none => rw [hf] at h; cases h
    | some p =>
      rw [hf] at h
      cases rest with
      | none => cases h
      | some q =>
        cases h
        exact ⟨_, _, p, q, rfl, rfl, hf, rfl, rfl⟩
  · cases h
def EqOK (P : Program) (c : Cx) (n : Nat) (t : TypeId) (f : SV → SV → Option Bool) : Prop := ∀ x y r u v, f x y = some r → den c x u → den c y v → (Op.equalIn n t u v).run P c.w = .ok r c.w
theorem eqFlds_sound {c : Cx} {n : Nat} {f : TypeId → SV → SV → Option Bool} (hf : ∀ t, EqOK P c n t (f t)) {xs ys : List SV} {us vs : List Value} (hx : dens c xs us) (hy : dens c ys vs) : ∀ (fs : List Field) (r : Bool), eqFlds P f xs ys fs = some r →
    (Op.eqFields n ⟨us⟩ ⟨vs⟩ fs).run P c.w = .ok r c.w
  | [], r, h => by
    unfold eqFlds at h; cases h
    simp [Op.eqFields]
  | fd :: fs, r, h => by
    unfold eqFlds at h
    unfold Op.eqFields
    split at h
    · rename_i hn
      rw [if_neg (by simpa using hn)]
      exact eqFlds_sound hf hx hy fs r h
    · rename_i hn
      obtain ⟨a, b, p, q, h1, h2, h3, h4, rfl⟩ := eqParts_some h
      obtain ⟨u1, e1, d1⟩ := partOf_sound h1 hx
      obtain ⟨u2, e2, d2⟩ := partOf_sound h2 hy
      have e3 := hf fd.type a b p u1 u2 h3 d1 d2
      rw [if_pos hn]
      simp only [Sem.run_bind, e1, e2, e3, Result.andThen_ok]
      have ih := eqFlds_sound hf hx hy fs q h4
      cases p with
      | false => simp
      | true => simpa using ih
theorem eqElems_sound {c : Cx} {n : Nat} {e : TypeId} {f : SV → SV → Option Bool} (hf : EqOK P c n e f) {xs ys : List SV} {us vs : List Value} (hx : dens c xs us) (hy : dens c ys vs) : ∀ (is : List Nat) (r : Bool), eqElems P f e xs ys is = some r →
    (Op.eqItems n e (P.cellsOf e) ⟨us⟩ ⟨vs⟩ is).run P c.w = .ok r c.w
  | [], r, h => by
    unfold eqElems at h; cases h
    simp [Op.eqItems]
  | i :: is, r, h => by
    unfold eqElems at h
    unfold Op.eqItems
    obtain ⟨a, b, p, q, h1, h2, h3, h4, rfl⟩ := eqParts_some h
    obtain ⟨u1, e1, d1⟩ := partOf_sound h1 hx
    obtain ⟨u2, e2, d2⟩ := partOf_sound h2 hy
    have e3 := hf a b p u1 u2 h3 d1 d2
    unfold szOf at e1 e2
    simp only [Sem.run_bind, e1, e2, e3, Result.andThen_ok]
    have ih := eqElems_sound hf hx hy is q h4
    cases p with
    | false => simp
    | true => simpa using ih
theorem fieldsOf_eq {t : TypeId} {fs : Array Field} (h : P.underlying t = some (.struct fs)) : P.fieldsOf t = fs := by
  unfold Program.fieldsOf; rw [h]
theorem eqSV_sound {c : Cx} (n : Nat) : ∀ (d : Nat) (t : TypeId), EqOK P c (d + n) t (eqSV P d t)
  | 0, t => fun x y r u v h _ _ => by unfold eqSV at h; cases h
  | d + 1, t => fun x y r u v h hx hy => by
    have ih := fun t => eqSV_sound (c := c) n d t
    rw [show d + 1 + n = (d + n) + 1 by omega]
    unfold eqSV at h
    split at h
    · rename_i hu
      obtain rfl := den_int hx; obtain rfl := den_int hy
      split at h
      · rename_i hk
        subst hk
        cases h
        rw [run_equalIn_int c.w (d + n) t _ _ _ _ hu]
        rfl
      · cases h
    · rename_i hu
      obtain rfl := den_bool hx; obtain rfl := den_bool hy
      cases h
      exact equalIn_bool hu (d + n) _ _ c.w
    · rename_i hu
      obtain ⟨rfl, _⟩ := den_str hx; obtain ⟨rfl, _⟩ := den_str hy
      cases h
      rw [run_equalIn_string c.w (d + n) t _ _ hu, toList_mk, toList_mk]
    · rename_i fs xs ys hu
      unfold den at hx hy
      obtain ⟨us, rfl, hx⟩ := hx
      obtain ⟨vs, rfl, hy⟩ := hy
      split at h
      · cases h
      · rename_i hst
        have hst : P.stoodInHeld t = false := by simpa using hst
        have e := fieldsOf_eq hu
        rw [run_equalIn_struct c.w (d + n) t ⟨us⟩ ⟨vs⟩ (by rw [e]; exact hu) hst, e]
        exact eqFlds_sound ih hx hy fs.toList r h
    · rename_i len e xs ys hu
      unfold den at hx hy
      obtain ⟨us, rfl, hx⟩ := hx
      obtain ⟨vs, rfl, hy⟩ := hy
      split at h
      · rename_i hi
        obtain ⟨i, hi⟩ := Option.isSome_iff_exists.1 hi
        rw [run_equalIn_array c.w (d + n) ⟨us⟩ ⟨vs⟩ hu hi]
        exact eqElems_sound (ih e) hx hy _ r h
      · cases h
    · cases h
theorem nilB_sound {c : Cx} {x : SV} {v : Value} {b : Bool} (h : nilB x = some b) (hx : den c x v) : ∃ o, v = .pointer o ∧ o.isNone = b := by
  cases x <;> simp only [nilB] at h <;> first | (cases h; done) | skip
  case nilp => cases h; unfold den at hx; exact ⟨_, hx, rfl⟩
  case ptr => cases h; unfold den at hx; obtain ⟨b, _, rfl⟩ := hx; exact ⟨_, rfl, rfl⟩
  case aptr => cases h; unfold den at hx; obtain ⟨_, b, _, rfl⟩ := hx; exact ⟨_, rfl, rfl⟩
  case rptr => cases h; unfold den at hx; obtain ⟨_, ⟨a, rfl⟩, _⟩ := hx; exact ⟨_, rfl, rfl⟩
  case bptr => cases h; unfold den at hx; obtain ⟨b, o, rfl, _⟩ := hx; exact ⟨_, rfl, rfl⟩
  case eptr => cases h; unfold den at hx; obtain ⟨b, o, rfl, _⟩ := hx; exact ⟨_, rfl, rfl⟩
theorem eqPtr_sound {c : Cx} {t : TypeId} {x y : SV} {u v : Value} {r : Bool} (h : eqPtr P t x y = some r) (hx : den c x u) (hy : den c y v) (n : Nat) : (Op.equalIn (n + 1) t u v).run P c.w = .ok r c.w := by
  unfold eqPtr at h
  split at h
  · rename_i hu
    obtain ⟨o, rfl, rfl⟩ := nilB_sound h hy
    unfold den at hx
    subst hx
    simp [Op.equalIn, run_underlying hu]
  · rename_i hu _
    obtain ⟨o, rfl, rfl⟩ := nilB_sound h hx
    unfold den at hy
    subst hy
    cases o <;> simp [Op.equalIn, run_underlying hu]
  · cases h
theorem eqGuard_ptr {op : BinOp} {t : TypeId} {X Y : Operand} {x y : Option Addr} (w : World) : (eqGuard op t X Y (.pointer x) (.pointer y)).run P w = .ok () w := by
  unfold eqGuard; cases op <;> simp
theorem binOp_equal {op : BinOp} {t : TypeId} {u v : Value} {r : Option Bool} {b : Bool} {k : SV → Prop} {c : Cx} {X Y : Operand} (hg : ∀ op, (eqGuard op t X Y u v).run P c.w = .ok () c.w) (hr : r = some b) (he : (Op.equalIn 10000 t u v).run P c.w = .ok b c.w)
    (h1 : binOp .eql t u v = (do let b ← Op.equal t u v; pure (.bool b) : Sem Value)) (h2 : binOp .neq t u v = (do let b ← Op.equal t u v; pure (.bool (!b)) : Sem Value)) (h : evEq op r k) :
    ∃ u' r', (do eqGuard op t X Y u v; binOp op t u v : Sem Value).run P c.w = .ok u' c.w ∧ k r' ∧ den c r' u' := by
  subst hr
  unfold evEq at h
  split at h
  · rename_i hb; cases hb
    refine ⟨_, _, ?_, h, bool_den c _⟩
    simp only [Sem.run_bind, hg, Result.andThen_ok, h1, Op.equal, Op.maxDepth, he, Sem.run_pure]
  · rename_i hb; cases hb
    refine ⟨_, _, ?_, h, bool_den c _⟩
    simp only [Sem.run_bind, hg, Result.andThen_ok, h2, Op.equal, Op.maxDepth, he, Sem.run_pure]
  · exact h.elim
theorem evBinA_sound {c : Cx} {t : TypeId} {op : BinOp} {x y : SV} {k : SV → Prop} {X Y : Operand} {vx vy : Value} (h : evBinA P t op x y k) (hx : den c x vx) (hy : den c y vy) :
    ∃ u r, (do eqGuard op t X Y vx vy; binOp op t vx vy : Sem Value).run P c.w = .ok u c.w ∧ k r ∧ den c r u := by
  unfold evBinA at h
  split at h
  · rename_i xs ys
    split at h
    · rename_i hm
      cases hr : eqSV P 16 t (.agg xs) (.agg ys) with
      | none =>
        rw [hr] at h
        unfold evEq at h
        cases op <;> exact h.elim
      | some b =>
        have he := eqSV_sound (c := c) 9984 16 t _ _ b _ _ hr hx hy
        unfold den at hx hy
        obtain ⟨us, rfl, _⟩ := hx
        obtain ⟨vs, rfl, _⟩ := hy
        exact binOp_equal (fun op => run_eqGuard_agg c.w op t X Y _ _ hm) hr he (by simp [binOp]) (by simp [binOp]) h
    · exact h.elim
  · split at h
    · cases hr : eqPtr P t x y with
      | none =>
        rw [hr] at h
        unfold evEq at h
        cases op <;> exact h.elim
      | some b =>
        have he := eqPtr_sound hr hx hy 9999
        have hv : (∃ o, vx = .pointer o) ∧ (∃ o, vy = .pointer o) := by
          unfold eqPtr at hr
          split at hr
          · obtain ⟨o, rfl, _⟩ := nilB_sound hr hy
            unfold den at hx
            exact ⟨⟨_, hx⟩, ⟨_, rfl⟩⟩
          · obtain ⟨o, rfl, _⟩ := nilB_sound hr hx
            unfold den at hy
            exact ⟨⟨_, rfl⟩, ⟨_, hy⟩⟩
          · cases hr
        obtain ⟨⟨o, rfl⟩, ⟨o', rfl⟩⟩ := hv
        exact binOp_equal (fun op => eqGuard_ptr c.w) hr he (by simp [binOp]) (by simp [binOp]) h
    · exact evBin_sound h hx hy
theorem find_add64 (fn : Func) (h : fn.name = "math/bits.Add64") : Extern.find fn = some add64Entry := by
  unfold Extern.find
  rw [h]
  kernel_rfl
theorem findNext_add64 (fn : Func) (h : fn.name = "math/bits.Add64") (h2 : fn.origin = "") : Extern.findNext fn = none := by
  unfold Extern.findNext
  rw [h, h2]
  kernel_rfl
theorem evExt_sound {g : FuncId} {c : Cx} {args : List SV} {vs : List Value} {k : SV → Prop} (h : evExt P g args k) (hd : dens c args vs) : ∃ u r, (callFunc g ⟨vs⟩).run P c.w = .ok (.value u) c.w ∧ k r ∧ den c r u := by
  unfold evExt at h
  split at h
  · rename_i x y z
    split at h
    · rename_i hx
      obtain ⟨⟨h1, h2, h3, h4⟩, hk⟩ := BR_req h
      unfold isExt at hx
      split at hx
      · rename_i fn hfn
        simp only [Bool.and_eq_true, Bool.not_eq_true', beq_iff_eq] at hx
        obtain ⟨q1, q2, q3, q4⟩ := hx
        unfold dens at hd
        obtain ⟨u1, us1, rfl, d1, hd⟩ := hd
        unfold dens at hd
        obtain ⟨u2, us2, rfl, d2, hd⟩ := hd
        unfold dens at hd
        obtain ⟨u3, us3, rfl, d3, hd⟩ := hd
        unfold dens at hd
        subst hd
        obtain rfl := den_int d1; obtain rfl := den_int d2; obtain rfl := den_int d3
        refine ⟨.tuple #[.int .u64 ((x + y + z) % 18446744073709551616), .int .u64 ((x + y + z) / 18446744073709551616)], _, ?_, hk, ?_⟩
        · rw [run_callFunc_extern hfn q1 q2 (findNext_add64 fn q3 q4) (find_add64 fn q3), run_add64 x y z h1 h2 h3 h4]
          rfl
        · unfold den
          exact ⟨_, rfl, dens_cons (int_den _ _ _) (dens_cons (int_den _ _ _) dens_nil)⟩
      · cases hx
    · exact h.elim
  · exact h.elim
theorem evOp_sound {callK : CallK} (hcall : CallSound P callK) {c0 c : Cx} (hm : Mem c0 c) {pl : Option Nat} {tm : List SV} {a : Act} (ht : dens c tm a.tmps.toList) {o : Oper} {k : SV → List Ob → Prop}
    (h : evOp P callK pl tm c.hp o.op k) : OpDone P c0 c k ((execOp a.eval o).run P c.w) := by
  obtain ⟨dst, op, ty, pos, after, guard⟩ := o
  cases op <;> simp only [evOp] at h
  case move x => exact .value _ _ _ _ c.ρ h (den_opd ht x) hm (Ext.refl c)
  case assign x => exact .value _ _ _ _ c.ρ h (den_opd ht x) hm (Ext.refl c)
  case pick x y z =>
    split at h
    · rename_i b hb
      have hx := den_opd ht x
      rw [hb] at hx
      have hx := den_bool hx
      rw [BR_iff] at h
      cases b with
      | true =>
        have : (execOp a.eval ⟨dst, .pick x y z, ty, pos, after, guard⟩).run P c.w = .ok (.value (a.eval y)) c.w := by simp [execOp, hx, asBool]
        rw [this]
        exact .value _ _ _ _ c.ρ (h.1 rfl) (den_opd ht y) hm (Ext.refl c)
      | false =>
        have : (execOp a.eval ⟨dst, .pick x y z, ty, pos, after, guard⟩).run P c.w = .ok (.value (a.eval z)) c.w := by simp [execOp, hx, asBool]
        rw [this]
        exact .value _ _ _ _ c.ρ (h.2 rfl) (den_opd ht z) hm (Ext.refl c)
    · exact h.elim
  case alloc t =>
    split at h
    · rename_i ob hob
      split at h
      · rename_i hpl; exact .of_made (evAlloc_sound hm hpl hob h)
      · exact h.elim
    · exact h.elim
  case box t x =>
    split at h
    · rename_i n g hx
      split at h
      · rename_i hpl
        have := den_opd ht x
        rw [hx] at this
        exact .of_made (evBoxF_sound hm hpl this h)
      · exact h.elim
    · split at h
      · rename_i hpl
        exact .of_made (evBox_sound hm hpl.1 (den_opd ht x) hpl.2 h)
      · exact h.elim
  case build t parts =>
    obtain ⟨p1, p2⟩ := dens_parts ht parts.toList
    have := evBuild_sound h p1 p2
    refine .of_pure hm ?_
    obtain ⟨u, r, e1, e2, e3⟩ := this
    refine ⟨u, r, ?_, e2, e3⟩
    rw [← e1]
    congr 2
    apply Array.ext'; simp
  case buildSlice t len parts =>
    obtain ⟨p1, p2⟩ := dens_parts ht parts.toList
    have h : frzPartsK c.hp (parts.toList.map fun p => (p.1, opd tm p.2)) fun ps hp => evBuildSlice P pl hp t len ps k := h
    obtain ⟨ps', hp', ρ', k1, q1, d1, m1, e1⟩ := frzPartsK_sound hm h p2
    have := Made.ext (c := c) (c' := ⟨c.w, hp', ρ'⟩) rfl e1 (evBuildSlice_sound m1 k1 (q1.trans p1) d1)
    have e : (parts.map fun (p : Nat × Operand) => (p.1, a.eval p.2)) = (parts.toList.map fun p => (p.1, a.eval p.2)).toArray := by apply Array.ext'; simp
    rw [← e] at this
    exact .of_made this
  case load t x => exact .of_pure hm (evLoad_sound hm h (den_opd ht x))
  case store t x y =>
    obtain ⟨w', hp', h1, h2, h3, h4⟩ := evStore_sound hm h (den_opd ht x) (den_opd ht y)
    have : (execOp a.eval ⟨dst, .store t x y, ty, pos, after, guard⟩).run P c.w = .ok .skip w' := by simp [execOp, h1]
    rw [this]
    exact .skip w' hp' c.ρ h2 h3 h4
  case nilCheck x =>
    have hx := den_opd ht x
    have key : ∀ (s : SV), opd tm x = s → k s c.hp → (match a.eval x with | .pointer (some _) => true | .func (.func _) _ _ => true | _ => false) = true → OpDone P c0 c k ((execOp a.eval ⟨dst, .nilCheck x, ty, pos, after, guard⟩).run P c.w) := by
      intro s hs hk hv
      have : (execOp a.eval ⟨dst, .nilCheck x, ty, pos, after, guard⟩).run P c.w = .ok (.value (a.eval x)) c.w := by
        unfold execOp
        simp only
        generalize a.eval x = v at hv
        cases v with
        | pointer p => cases p with | none => cases hv | some p => rfl
        | func fn f cs => cases fn <;> first | rfl | cases hv
        | _ => cases hv
      rw [this]
      exact .value _ _ s _ c.ρ hk (hs ▸ hx) hm (Ext.refl c)
    split at h
    · rename_i j off hs
      refine key _ hs h ?_
      rw [hs] at hx; unfold den at hx; obtain ⟨b, _, e⟩ := hx; rw [e]
    · rename_i j i hs
      refine key _ hs h ?_
      rw [hs] at hx; unfold den at hx; obtain ⟨_, b, _, e⟩ := hx; rw [e]
    · rename_i j v i off hs
      refine key _ hs h ?_
      rw [hs] at hx; unfold den at hx; obtain ⟨_, ⟨b, e⟩, _⟩ := hx; rw [e]
    · rename_i l i hs
      refine key _ hs h ?_
      rw [hs] at hx; unfold den at hx; obtain ⟨b, o, e, _⟩ := hx; rw [e]
    · rename_i sz g off hs
      refine key _ hs h ?_
      rw [hs] at hx; unfold den at hx; obtain ⟨b, o, e, _⟩ := hx; rw [e]
    · rename_i f cs hs
      refine key _ hs h ?_
      rw [hs] at hx; unfold den at hx; obtain ⟨vs, e, _⟩ := hx; rw [e]
    · exact h.elim
  case binOp op t x y t' => exact .of_pure hm (evBinA_sound h (den_opd ht x) (den_opd ht y))
  case unOp op t x => exact .of_pure hm (evUn_sound h (den_opd ht x))
  case convert s d x => exact .of_made (evConvert_sound hm h (den_opd ht x))
  case makeFunc fn first caps =>
    split at h
    · rename_i f hf
      have hfirst : first = #[] := by apply Array.ext'; simpa using hf
      subst hfirst
      refine .value _ _ _ _ c.ρ h ?_ hm (Ext.refl c)
      unfold den
      exact ⟨caps.toList.map a.eval, by simp; apply Array.ext'; simp, dens_opds ht _⟩
    · exact h.elim
  case makeSlice t l c' => exact .of_made (evMakeSlice_sound hm h (den_opd ht l) (den_opd ht c'))
  case slice t x lo hi mx =>
    cases mx with
    | none =>
      have hx := den_opd ht x
      have h : (match opd tm x with
        | .ptr j off => evSliceA P c.hp t j off (lo.map (opd tm)) (hi.map (opd tm)) k
        | y => evSlice P c.hp t y (lo.map (opd tm)) (hi.map (opd tm)) (fun v => k v c.hp)) := h
      revert hx h
      generalize opd tm x = y
      intro hx h
      cases y with
      | ptr j off => exact .of_made (evSliceA_sound hm h hx (denO_map ht lo) (denO_map ht hi))
      | _ => exact .of_pure hm (evSlice_sound hm h hx (denO_map ht lo) (denO_map ht hi))
    | some m => exact h.elim
  case fieldAddr t x f => exact .of_pure hm (evFieldAddr_sound h (den_opd ht x))
  case field t x f => exact .of_pure hm (evField_sound h (den_opd ht x))
  case indexAddr t x i => exact .of_pure hm (evIndexAddr_sound hm h (den_opd ht x) (den_opd ht i))
  case index t x i => exact .of_pure hm (evIndex_sound h (den_opd ht x) (den_opd ht i))
  case extract x i =>
    have hx := den_opd ht x
    split at h
    · rename_i xs hxs
      split at h
      · rename_i v hv
        rw [hxs] at hx
        unfold den at hx
        obtain ⟨vs, e, hd⟩ := hx
        obtain ⟨u, hu, hd'⟩ := dens_get hd i v hv
        exact .of_pure hm ⟨u, v, by simp [Instr.extract, e, hu], h, hd'⟩
      · exact h.elim
    · exact h.elim
  case call c' =>
    obtain ⟨callee, args, argTypes⟩ := c'
    have hargs : args.map a.eval = ⟨args.toList.map a.eval⟩ := by apply Array.ext'; simp
    cases callee with
    | builtin b =>
      simp only at h
      have := evBuiltin_sound (ty := ty) (consts := args.map fun | .const _ => true | _ => false) hm h (dens_opds ht args.toList)
      have e : (execOp a.eval ⟨dst, .call ⟨.builtin b, args, argTypes⟩, ty, pos, after, guard⟩).run P c.w = (builtin b argTypes ty (args.map fun | .const _ => true | _ => false) ⟨args.toList.map a.eval⟩).run P c.w := by
        simp only [execOp, resolve, Sem.run_bind, Sem.run_pure, Result.andThen_ok, invoke, hargs]
        rfl
      rw [e]; exact this
    | value f =>
      simp only at h
      split at h
      · rename_i g caps hf
        split at h
        · rename_i hc
          have hx := den_opd ht f
          rw [hf] at hx
          unfold den at hx
          obtain ⟨cs, e, hd⟩ := hx
          have hall := dens_append (dens_opds ht args.toList) hd
          have hcs := hcall g _ c.hp k h c0 c.w c.ρ _ hm hall
          have e2 : (execOp a.eval ⟨dst, .call ⟨.value f, args, argTypes⟩, ty, pos, after, guard⟩).run P c.w = .ok (.enter g ⟨args.toList.map a.eval ++ cs⟩) c.w := by
            have e3 : (args.map a.eval) ++ (⟨cs⟩ : Array Value) = ⟨args.toList.map a.eval ++ cs⟩ := by apply Array.ext'; simp
            simp only [execOp, resolve, e, Deferred.ofValue, Sem.run_bind, Sem.run_pure, Result.andThen_ok, invoke]
            rw [show (#[] : Array Value) ++ args.map a.eval = args.map a.eval from by simp, e3]
            exact callFunc_run hc _ _
          rw [e2]
          refine .enter g _ (hcs.mono ?_)
          rintro e w' ⟨v, r, hp', ρ', q1, q2, q3, q4, q5⟩
          exact ⟨v, r, hp', ρ', q1, q2, q3, hm.trans q4, q5⟩
        · have hx := den_opd ht f
          rw [hf] at hx
          unfold den at hx
          obtain ⟨cs, e, hd⟩ := hx
          have hall := dens_append (dens_opds ht args.toList) hd
          obtain ⟨u, r, q1, q2, q3⟩ := evExt_sound h hall
          have e2 : (execOp a.eval ⟨dst, .call ⟨.value f, args, argTypes⟩, ty, pos, after, guard⟩).run P c.w = .ok (.value u) c.w := by
            have e3 : (args.map a.eval) ++ (⟨cs⟩ : Array Value) = ⟨args.toList.map a.eval ++ cs⟩ := by apply Array.ext'; simp
            simp only [execOp, resolve, e, Deferred.ofValue, Sem.run_bind, Sem.run_pure, Result.andThen_ok, invoke]
            rw [show (#[] : Array Value) ++ args.map a.eval = args.map a.eval from by simp, e3]
            exact q1
          rw [e2]
          exact .value _ _ r c.hp c.ρ q2 q3 hm (Ext.refl c)
      · exact h.elim
    | invoke r m => exact h.elim
  all_goals exact h.elim

end
end Go.Proofs.Ytmadffhjgbpojaa.Sx

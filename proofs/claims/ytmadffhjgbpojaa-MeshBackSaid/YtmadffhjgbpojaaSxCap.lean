/- Sx: functions that read some variables (what a closure has of its makers), known by what they answer. -/
import Derived.Test.YtmadffhjgbpojaaSxSpec
namespace Go.Proofs.Ytmadffhjgbpojaa.Sx
open Go
variable {P : Program}

theorem closedB_closed {x : SV} (h : closedB x = true) : closedSV x := by
  cases x with
  | d y => cases y <;> first | trivial | cases h
  | nils | nilp | nili | nilf | nilm => trivial
  | _ => cases h
theorem closedBs {xs : List SV} (h : xs.all closedB = true) : closedSVs xs := by
  induction xs with
  | nil => trivial
  | cons x xs ih =>
    simp only [List.all_cons, Bool.and_eq_true] at h
    exact ⟨closedB_closed h.1, ih h.2⟩
theorem sameObs_get : ∀ {obs hp : List Ob}, sameObs obs hp → ∀ (i : Nat) (o : Ob), obs[i]? = some o → hp[i]? = some o
  | [], _, _, i, o, h => by simp at h
  | .fix ty cells :: obs, .fix ty' cells' :: hp, h, i, o, ho => by
    obtain ⟨⟨h1, h2⟩, h3⟩ := h
    cases i with
    | zero => simp at ho ⊢; rw [← ho, h1, h2]
    | succ i => simp at ho ⊢; exact sameObs_get h3 i o ho
  | .fix .. :: _, [], h, _, _, _ | .fix .. :: _, .arr .. :: _, h, _, _, _ | .fix .. :: _, .row .. :: _, h, _, _, _ | .fix .. :: _, .gone :: _, h, _, _, _ | .fix .. :: _, .hole :: _, h, _, _, _ | .fix .. :: _, .frzn :: _, h, _, _, _ | .fix .. :: _, .ro .. :: _, h, _, _, _ | .fix .. :: _, .ban :: _, h, _, _, _ => h.elim
  | .arr .. :: _, _, h, _, _, _ | .row .. :: _, _, h, _, _, _ | .gone :: _, _, h, _, _, _ | .hole :: _, _, h, _, _, _ | .frzn :: _, _, h, _, _, _ | .ro .. :: _, _, h, _, _, _ | .ban :: _, _, h, _, _, _ => by simp [sameObs] at h
structure CapOf (hp : List Ob) (js : List Nat) (obs : List Ob) : Prop where
  len : obs.length = js.length
  get : ∀ (i j : Nat), js[i]? = some j → ∃ ty cells, hp[j]? = some (.fix ty cells) ∧ obs[i]? = some (.fix ty cells) ∧ closedSVs cells
theorem capSplit_of {hp : List Ob} : ∀ {args : List SV} {m : Nat} {xs : List SV} {js : List Nat} {obs : List Ob}, capSplit hp m args = some (xs, js, obs) →
    CapOf hp js obs ∧ ∀ (w : World) (ρ : List Loc) (vs : List Value), dens ⟨w, hp, ρ⟩ args vs → ∀ (hpX : List Ob) (ρX : List Loc), (∀ i j, js[i]? = some j → ρX[m + i]? = ρ[j]?) → dens ⟨w, hpX, ρX⟩ xs vs
  | [], m, xs, js, obs, h => by
    simp only [capSplit, Option.some.injEq, Prod.mk.injEq] at h
    obtain ⟨rfl, rfl, rfl⟩ := h
    exact ⟨⟨rfl, fun i j e => by simp at e⟩, fun w ρ vs hd hpX ρX _ => by unfold dens at hd ⊢; exact hd⟩
  | a :: args, m, xs, js, obs, h => by
    have other : ∀ (h : (if closedB a = true then match capSplit hp m args with | some (ys, js, obs) => some (a :: ys, js, obs) | none => none else none) = some (xs, js, obs)), CapOf hp js obs ∧ ∀ (w : World) (ρ : List Loc) (vs : List Value), dens ⟨w, hp, ρ⟩ (a :: args) vs → ∀ (hpX : List Ob) (ρX : List Loc), (∀ i j, js[i]? = some j → ρX[m + i]? = ρ[j]?) → dens ⟨w, hpX, ρX⟩ xs vs := fun h => by
      split at h
      · rename_i hc
        split at h
        · rename_i ys js' obs' e
          simp only [Option.some.injEq, Prod.mk.injEq] at h
          obtain ⟨rfl, rfl, rfl⟩ := h
          obtain ⟨q1, q2⟩ := capSplit_of e
          refine ⟨q1, fun w ρ vs hd hpX ρX hx => ?_⟩
          unfold dens at hd
          obtain ⟨u, us, rfl, h1, h2⟩ := hd
          exact dens_cons (closed_den _ _ (closedB_closed hc) h1) (q2 w ρ us h2 hpX ρX hx)
        · cases h
      · cases h
    cases a with
    | ptr j off =>
      unfold capSplit at h
      split at h
      · rename_i ty cells hj
        split at h
        · rename_i hc
          split at h
          · rename_i ys js' obs' e
            simp only [Option.some.injEq, Prod.mk.injEq] at h
            obtain ⟨rfl, rfl, rfl⟩ := h
            obtain ⟨q1, q2⟩ := capSplit_of e
            refine ⟨⟨by simp [q1.len], fun i j' hi => ?_⟩, fun w ρ vs hd hpX ρX hx => ?_⟩
            · cases i with
              | zero => simp at hi; subst hi; exact ⟨ty, cells, hj, rfl, closedBs hc⟩
              | succ i => simp at hi ⊢; exact q1.get i j' hi
            · unfold dens at hd
              obtain ⟨u, us, rfl, h1, h2⟩ := hd
              refine dens_cons ?_ (q2 w ρ us h2 hpX ρX fun i j' hi => ?_)
              · unfold den at h1 ⊢
                obtain ⟨b, hb, rfl⟩ := h1
                have := hx 0 j rfl
                rw [Nat.add_zero] at this
                exact ⟨b, (congrArg (·.bind Loc.ptrAt) this).trans hb, rfl⟩
              · have := hx (i + 1) j' (by simpa using hi)
                rw [← this]; congr 1; omega
          · cases h
        · cases h
      · cases h
    | _ => exact other (by simp only [capSplit] at h; exact h)
theorem nodupB_get : ∀ {js : List Nat}, nodupB js = true → ∀ (i k j : Nat), js[i]? = some j → js[k]? = some j → i = k
  | [], _, i, k, j, h, _ => by simp at h
  | x :: xs, h, i, k, j, hi, hk => by
    simp only [nodupB, Bool.and_eq_true, Bool.not_eq_true'] at h
    have hx : ∀ n, xs[n]? = some x → False := fun n hn => by
      have : xs.elem x = true := List.elem_eq_true_of_mem (List.mem_of_getElem? hn)
      rw [h.1] at this; cases this
    cases i with
    | zero =>
      cases k with
      | zero => rfl
      | succ k => simp at hi hk; subst hi; exact (hx k hk).elim
    | succ i =>
      cases k with
      | zero => simp at hi hk; subst hk; exact (hx i hi).elim
      | succ k => simp at hi hk; rw [nodupB_get h.2 i k j hi hk]
theorem capSpec_ok {ev : CallK} (hev : CallSound P ev) {f : FuncId} {body : List SV → List Ob → (Out → Prop) → Prop}
    (H : ∀ xs obs K, body xs obs K → ev f xs obs (capK obs K)) : SpecOK P f (capSpec body) := by
  intro pl args hp k h c1 w ρ vs hm hd
  dsimp only [capSpec] at h
  split at h
  · rename_i xs js obs he
    split at h
    · rename_i hnd
      obtain ⟨cap, hden⟩ := capSplit_of he
      have hρ : ∀ i j, js[i]? = some j → (js.map fun j => ρ.getD j .none)[i]? = ρ[j]? := fun i j hi => by
        obtain ⟨ty, cells, hj, _⟩ := cap.get i j hi
        have hl : j < ρ.length := by
          have h1 := (List.getElem?_eq_some_iff.1 hj).1
          have h2 : ρ.length = hp.length := hm.len
          omega
        rw [List.getElem?_map, hi, List.getElem?_eq_getElem hl]
        simp [List.getD_eq_getElem?_getD, List.getElem?_eq_getElem hl]
      generalize hρs : js.map (fun j => ρ.getD j .none) = ρs at hρ
      have hlen : ρs.length = js.length := by rw [← hρs]; simp
      have hidx : ∀ i loc, ρs[i]? = some loc → ∃ j, js[i]? = some j ∧ ρ[j]? = some loc := fun i loc hi => by
        have hil : i < js.length := by rw [← hlen]; exact (List.getElem?_eq_some_iff.1 hi).1
        exact ⟨js[i], List.getElem?_eq_getElem hil, by rw [← hρ i _ (List.getElem?_eq_getElem hil)]; exact hi⟩
      have hfoot : ∀ b, b ∈ foot ρs → b ∈ foot ρ := fun b hb => by
        obtain ⟨i, loc, hi, hf⟩ := mem_foot.1 hb
        obtain ⟨j, _, hj⟩ := hidx i loc hi
        exact mem_foot.2 ⟨j, loc, hj, hf⟩
      have hnb : ∀ b, b ∉ bans ρs := fun b hb => by
        obtain ⟨i, F, hi, _⟩ := mem_bans.1 hb
        obtain ⟨j, hj, hjl⟩ := hidx i _ hi
        obtain ⟨ty, cells, h1, _⟩ := cap.get i j hj
        obtain ⟨b', _, _, e, _⟩ := hm.obs j _ _ h1 hjl
        cases e
      have hm0 : Mem ⟨w, obs, ρs⟩ ⟨w, obs, ρs⟩ := by
        refine ⟨by show ρs.length = obs.length; rw [hlen, cap.len], fun i ob loc hi hl => ?_, fun i i' loc loc' b hi hi' hf hf' => ?_, fun b hb => ⟨(hm.bnd b (hfoot b hb)).1, .inl hb⟩, Fr.refl _ _, fun b hb => (hnb b hb).elim⟩
        · obtain ⟨j, hj, hjl⟩ := hidx i loc hl
          obtain ⟨ty, cells, h1, h2, h3⟩ := cap.get i j hj
          have hi : obs[i]? = some ob := hi
          rw [h2] at hi
          cases hi
          obtain ⟨b, cs, fr, q1, q2, q3, q4, q5⟩ := hm.obs j _ loc h1 hjl
          exact ⟨b, cs, fr, q1, q2, q3, closeds_den _ _ h3 q4, q5⟩
        · obtain ⟨j, hj, hjl⟩ := hidx i loc hi
          obtain ⟨j', hj', hjl'⟩ := hidx i' loc' hi'
          have := hm.nodup j j' loc loc' b hjl hjl' hf hf'
          subst this
          exact nodupB_get hnd i i' j hj hj'
      refine (hev f xs obs _ (H _ _ _ h) ⟨w, obs, ρs⟩ w ρs vs hm0 (hden w ρ vs hd obs ρs fun i j hi => by rw [Nat.zero_add]; exact hρ i j hi)).mono ?_
      rintro e w' ⟨v, r, hp', ρ', rfl, ⟨hcl, hsame, hk⟩, hdr, hmem, hext⟩
      have hfr : Fr (foot ρs) w w' := hmem.fr
      refine ⟨v, r, hp, ρ, rfl, hk, closed_den _ _ hcl hdr, ⟨hm.len, fun j ob loc hj hl => ?_, hm.nodup, fun b hb => ⟨Nat.lt_of_lt_of_le (hm.bnd b hb).1 hfr.size, .inl hb⟩, ⟨hfr.os, hfr.tape, hfr.output, hfr.size, fun b hb hF => hfr.block b hb fun h => hF (hfoot b h)⟩, fun b hb => ⟨Nat.lt_of_lt_of_le (hm.dis b hb).1 hfr.size, (hm.dis b hb).2⟩⟩, ?_⟩
      · have hext' : Ext ⟨w, hp, ρ⟩ ⟨w', hp, ρ⟩ := ⟨fun b hb => ⟨⟨Nat.lt_of_lt_of_le hb.1 hfr.size, hb.2⟩, hfr.block b hb.1 fun h => hb.2 (occ_foot (hfoot b h))⟩, Nat.le_refl _, fun _ _ h => h, fun _ _ _ g h => ⟨g, h⟩, fun _ _ h => h, fun _ v t r _ _ h => ⟨v, t, r, h, Nat.le_refl _, fun _ => ⟨rfl, rfl, rfl⟩⟩, fun _ _ h => h⟩
        by_cases hin : ∃ i : Nat, js[i]? = some j
        · obtain ⟨i, hi⟩ := hin
          obtain ⟨ty, cells, h1, h2, h3⟩ := cap.get i j hi
          have hj : hp[j]? = some ob := hj
          have hl : ρ[j]? = some loc := hl
          rw [h1] at hj
          cases hj
          obtain ⟨b, cs, fr, q1, q2, q3, q4, q5⟩ := hm.obs j _ loc h1 hl
          subst q1
          have hloc0 := hext.blk i b (by show (ρs[i]?).bind Loc.ptrAt = _; rw [hρ i j hi, hl]; rfl)
          have hloc' := fix_blk hmem (sameObs_get hsame i _ h2) hloc0
          obtain ⟨b', cs', fr', g1, g2, g3, g4, g5⟩ := hmem.obs i _ _ (sameObs_get hsame i _ h2) hloc'
          cases g1
          exact ⟨b, cs', fr', rfl, g2, g3, closeds_den _ _ h3 g4, q5⟩
        · refine obRel_ext hext' (fun b hb => hfr.block b (hm.bnd b (mem_foot.2 ⟨j, loc, hl, hb⟩)).1 fun hF => hin ?_) (hm.obs j ob loc hj hl)
          obtain ⟨i, loc', hi, hf⟩ := mem_foot.1 hF
          obtain ⟨j', hj', hjl'⟩ := hidx i loc' hi
          have := hm.nodup j j' loc loc' b hl hjl' hb hf
          subst this
          exact ⟨i, hj'⟩
      · exact ⟨fun b hb => ⟨⟨Nat.lt_of_lt_of_le hb.1 hfr.size, hb.2⟩, hfr.block b hb.1 fun h => hb.2 (occ_foot (hfoot b h))⟩, Nat.le_refl _, fun _ _ h => h, fun _ _ _ g h => ⟨g, h⟩, fun _ _ h => h, fun _ v t r _ _ h => ⟨v, t, r, h, Nat.le_refl _, fun _ => ⟨rfl, rfl, rfl⟩⟩, fun _ _ h => h⟩
    · exact h.elim
  · exact h.elim
theorem capSplit_agree {refs : List Nat} {hp hp2 : List Ob} (h : Agree refs hp hp2) : ∀ {args : List SV} {m : Nat}, (∀ x ∈ args, ∀ j ∈ refsV x, j ∈ refs) → capSplit hp2 m args = capSplit hp m args
  | [], m, _ => by simp only [capSplit]
  | a :: args, m, hr => by
    have ih := fun m => capSplit_agree h (args := args) (m := m) fun x hx => hr x (List.mem_cons_of_mem _ hx)
    cases a with
    | ptr j off =>
      have hj := h j (hr (.ptr j off) (by simp) j (by simp [refsV]))
      simp only [capSplit, hj, ih]
    | _ => simp only [capSplit, ih]
theorem capSpec_calm {body : List SV → List Ob → (Out → Prop) → Prop} (hb : ∀ xs obs, KD (body xs obs)) : SpecCalm (capSpec body) := by
  intro π args hp refs wr hπ hargs _
  obtain ⟨h1, h2⟩ := hπ 0 (by omega)
  rw [Nat.add_zero] at h1 h2
  refine Calm.at (E := fun hp k => Spec.ev (_ : Sx.Spec) (some π) args hp k) ?_ hp
  refine calm_frame fun hp => ⟨fun hp' k => match capSplit hp 0 args with
    | some (xs, js, obs) => if nodupB js = true then body xs obs (valK hp' k) else False
    | none => False, ?_, fun hp2 hag k => ?_⟩
  · cases capSplit hp 0 args with
    | none => exact calm_false
    | some p =>
      obtain ⟨xs, js, obs⟩ := p
      refine calm_ite ?_ calm_false
      intro hp' k hE
      obtain ⟨o, ho, hk⟩ := hb _ _ _ hE
      cases o with
      | val r => exact ⟨r, [], ⟨fun _ _ e => (by cases e), fun hp2 k2 _ hk2 => hk (valK hp2 k2) hk2⟩, ho⟩
      | row e c => exact ho.elim
  · dsimp only [capSpec]
    rw [capSplit_agree hag hargs]
    rfl
/-- What is handed in may be taken in another form. -/
def evN (ev : CallK) : CallK := fun f xs hp k => ∃ ys : List SV, (∀ c vs, dens c xs vs → dens c ys vs) ∧ ev f ys hp k
theorem evN_sound {ev : CallK} (h : CallSound P ev) : CallSound P (evN ev) := by
  rintro f xs hp k ⟨ys, hc, hk⟩ c1 w ρ vs hm hd
  exact h f ys hp k hk c1 w ρ vs hm (hc _ _ hd)
theorem den_list {c : Cx} {sz n : Nat} {g h : Nat → Nat → D} {v : Value} (he : ∀ i, i < n → ∀ j, j < sz → g i j = h i j) (hr : den c (.d (.list sz n g)) v) : den c (.d (.list sz n h)) v := by
  unfold den at hr ⊢
  obtain ⟨A, cap, rfl, h1, h2, h3⟩ := hr
  refine ⟨A, cap, rfl, h1, h2, fun hp => ?_⟩
  obtain ⟨b, o, hA, hb, hc⟩ := h3 hp
  refine ⟨b, o, hA, hb, fun i hi j hj => ?_⟩
  obtain ⟨u, hu, hr⟩ := hc i hi j hj
  exact ⟨u, hu, by rw [← he i hi j hj]; exact hr⟩
theorem dens_agg {c : Cx} {xs ys : List SV} {v : Value} (h : ∀ vs, dens c xs vs → dens c ys vs) (hd : den c (.agg xs) v) : den c (.agg ys) v := by
  unfold den at hd ⊢
  obtain ⟨vs, rfl, hv⟩ := hd
  exact ⟨vs, rfl, h vs hv⟩
theorem dens_head {c : Cx} {x y : SV} {xs ys : List SV} {vs : List Value} (h1 : ∀ v, den c x v → den c y v) (h2 : ∀ vs, dens c xs vs → dens c ys vs) (hd : dens c (x :: xs) vs) : dens c (y :: ys) vs := by
  unfold dens at hd ⊢
  obtain ⟨u, us, rfl, q1, q2⟩ := hd
  exact ⟨u, us, rfl, h1 u q1, h2 us q2⟩
end Go.Proofs.Ytmadffhjgbpojaa.Sx

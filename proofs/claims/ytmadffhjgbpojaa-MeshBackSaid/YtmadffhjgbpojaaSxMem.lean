/- Sx: functions that work on a part of memory. -/
import Derived.Test.YtmadffhjgbpojaaSxCap
namespace Go.Proofs.Ytmadffhjgbpojaa.Sx
open Go
section
variable {P : Program}

/-! ## Other numbers -/
structure Ren (Q : D → Prop) (σ : Nat → Option Nat) (τ : Nat → Nat → Option Nat) (c c2 : Cx) : Prop where
  w : c2.w = c.w
  rep : ∀ d v, Q d → d.rep c.w c.ok v → d.rep c2.w c2.ok v
  at_ : ∀ j i, σ j = some i → ∃ o, c.hp[j]? = some o ∧ c2.hp[i]? = some (mapO σ τ j o) ∧ c2.ρ[i]? = c.ρ[j]?
  ver : ∀ (j v0 : Nat) (t : TypeId) (r : RC), c.hp[j]? = some (.row v0 t r) → ∀ ver ver', τ j ver = some ver' → ver ≤ v0 → ver' ≤ (τ j v0).getD 0 ∧ (ver' = (τ j v0).getD 0 → ver = v0)
theorem mapO_row {σ : Nat → Option Nat} {τ : Nat → Nat → Option Nat} {j : Nat} {o : Ob} {v : Nat} {t : TypeId} {r : RC} (h : mapO σ τ j o = .row v t r) : ∃ v0, o = .row v0 t r ∧ v = (τ j v0).getD 0 := by
  cases o <;> simp only [mapO] at h <;> first | (cases h; exact ⟨_, rfl, rfl⟩) | cases h
theorem mapO_hole {σ : Nat → Option Nat} {τ : Nat → Nat → Option Nat} {j : Nat} {o : Ob} (h : mapO σ τ j o = .hole) : o = .hole := by
  cases o <;> simp only [mapO] at h <;> first | rfl | exact h | cases h
mutual
theorem den_ren {Q : D → Prop} {σ : Nat → Option Nat} {τ : Nat → Nat → Option Nat} {c c2 : Cx} (h : Ren Q σ τ c c2) : ∀ (x : SV) (v : Value), allD Q x → den c x v → den c2 (mapV σ τ x) v
  | .d x, v, hq, hd => by unfold allD at hq; simp only [mapV]; unfold den at hd ⊢; exact h.rep _ _ hq hd
  | .undef, v, _, hd => by simp only [mapV]; unfold den at hd ⊢; exact hd
  | .dead, v, _, hd => by simp only [mapV]; unfold den; trivial
  | .nils, v, _, hd => by simp only [mapV]; unfold den at hd ⊢; exact hd
  | .nilp, v, _, hd => by simp only [mapV]; unfold den at hd ⊢; exact hd
  | .nili, v, _, hd => by simp only [mapV]; unfold den at hd ⊢; exact hd
  | .nilf, v, _, hd => by simp only [mapV]; unfold den at hd ⊢; exact hd
  | .nilm, v, _, hd => by simp only [mapV]; unfold den at hd ⊢; exact hd
  | .bptr .., v, _, hd => by simp only [mapV]; unfold den; trivial
  | .eptr .., v, _, hd => by simp only [mapV]; unfold den; trivial
  | .view j ver lo hi, v, _, hd => by
    simp only [mapV]
    cases e : σ j with
    | none => simp only []; unfold den; trivial
    | some i =>
      cases e' : τ j ver with
      | none => simp only []; unfold den; trivial
      | some ver' =>
        simp only []
        obtain ⟨o, h1, h2, h3⟩ := h.at_ j i e
        unfold den at hd ⊢
        obtain ⟨⟨hl, hnh⟩, hs, hr⟩ := hd
        refine ⟨⟨(List.getElem?_eq_some_iff.1 h2).1, fun e2 => hnh ?_⟩, hs, fun v0 t r hj => ?_⟩
        · rw [h2] at e2
          rw [h1, mapO_hole (Option.some.inj e2)]
        · rw [h2] at hj
          obtain ⟨v1, rfl, rfl⟩ := mapO_row (Option.some.inj hj)
          obtain ⟨a1, a2⟩ := hr v1 t r h1
          obtain ⟨g1, g2⟩ := h.ver j v1 t r h1 ver ver' e' a1
          refine ⟨g1, fun hv => ?_⟩
          obtain ⟨b1, b2, A, cap, b3, b4⟩ := a2 (g2 hv)
          exact ⟨b1, b2, A, cap, h3.trans b3, b4⟩
  | .ptr j off, v, _, hd => by
    simp only [mapV]
    cases e : σ j with
    | none => simp only []; unfold den; trivial
    | some i =>
      simp only []
      obtain ⟨o, h1, h2, h3⟩ := h.at_ j i e
      unfold den at hd ⊢
      obtain ⟨b, hb, rfl⟩ := hd
      exact ⟨b, by rw [h3]; exact hb, rfl⟩
  | .aptr j m, v, _, hd => by
    simp only [mapV]
    cases e : σ j with
    | none => simp only []; unfold den; trivial
    | some i =>
      simp only []
      obtain ⟨o, h1, h2, h3⟩ := h.at_ j i e
      unfold den at hd ⊢
      obtain ⟨⟨t, n, g, hj, hm⟩, b, hb, rfl⟩ := hd
      rw [h1] at hj
      cases hj
      exact ⟨⟨t, n, g, h2, hm⟩, b, by rw [h3]; exact hb, rfl⟩
  | .rptr j ver m off, v, _, hd => by
    simp only [mapV]
    cases e : σ j with
    | none => simp only []; unfold den; trivial
    | some i =>
      cases e' : τ j ver with
      | none => simp only []; unfold den; trivial
      | some ver' =>
        simp only []
        obtain ⟨o, h1, h2, h3⟩ := h.at_ j i e
        unfold den at hd ⊢
        obtain ⟨⟨hl, hnh⟩, hs, hr⟩ := hd
        refine ⟨⟨(List.getElem?_eq_some_iff.1 h2).1, fun e2 => hnh ?_⟩, hs, fun v0 t r hj => ?_⟩
        · rw [h2] at e2
          rw [h1, mapO_hole (Option.some.inj e2)]
        · rw [h2] at hj
          obtain ⟨v1, rfl, rfl⟩ := mapO_row (Option.some.inj hj)
          obtain ⟨a1, a2⟩ := hr v1 t r h1
          obtain ⟨g1, g2⟩ := h.ver j v1 t r h1 ver ver' e' a1
          refine ⟨g1, fun hv => ?_⟩
          obtain ⟨b1, b, o, cap, b3, b4⟩ := a2 (g2 hv)
          exact ⟨b1, b, o, cap, h3.trans b3, b4⟩
  | .clo f caps, v, hq, hd => by
    unfold allD at hq
    simp only [mapV]
    unfold den at hd ⊢
    obtain ⟨vs, rfl, hv⟩ := hd
    exact ⟨vs, rfl, dens_ren h caps vs hq hv⟩
  | .agg xs, v, hq, hd => by
    unfold allD at hq
    simp only [mapV]
    unfold den at hd ⊢
    obtain ⟨vs, rfl, hv⟩ := hd
    exact ⟨vs, rfl, dens_ren h xs vs hq hv⟩
  | .aggf n get, v, hq, hd => by
    unfold allD at hq
    simp only [mapV]
    unfold den at hd ⊢
    obtain ⟨vs, rfl, hl, hv⟩ := hd
    refine ⟨vs, rfl, hl, fun i hi => ?_⟩
    obtain ⟨u, hu, hr⟩ := hv i hi
    exact ⟨u, hu, h.rep _ _ (hq i hi) hr⟩
  | .tuple xs, v, hq, hd => by
    unfold allD at hq
    simp only [mapV]
    unfold den at hd ⊢
    obtain ⟨vs, rfl, hv⟩ := hd
    exact ⟨vs, rfl, dens_ren h xs vs hq hv⟩
theorem dens_ren {Q : D → Prop} {σ : Nat → Option Nat} {τ : Nat → Nat → Option Nat} {c c2 : Cx} (h : Ren Q σ τ c c2) : ∀ (xs : List SV) (vs : List Value), allDs Q xs → dens c xs vs → dens c2 (mapVs σ τ xs) vs
  | [], vs, _, hd => by simp only [mapVs]; unfold dens at hd ⊢; exact hd
  | x :: xs, vs, hq, hd => by
    unfold allDs at hq
    unfold dens at hd
    obtain ⟨u, us, rfl, h1, h2⟩ := hd
    simp only [mapVs]
    exact dens_cons (den_ren h x u hq.1 h1) (dens_ren h xs us hq.2 h2)
end
theorem obRel_ren {Q : D → Prop} {σ : Nat → Option Nat} {τ : Nat → Nat → Option Nat} {c c2 : Cx} (h : Ren Q σ τ c c2) (hcl : ∀ n d, Q (.int n d)) {j : Nat} {o : Ob} {loc : Loc} (hor : ∀ t cells, o ≠ Ob.ro t cells) (hq : allO Q o)
    (hst : ∀ t cells, mapO σ τ j o = .fix t cells → ∀ z ∈ cells, storable z = true) (hr : obRel c o loc) : obRel c2 (mapO σ τ j o) loc := by
  cases o with
  | fix t cells =>
    obtain ⟨b, cs, fr, rfl, h1, h2, h3, h4⟩ := hr
    exact ⟨b, cs, fr, rfl, by rw [h.w]; exact h1, h2, dens_ren h _ _ hq h3, hst _ _ rfl⟩
  | arr t n g =>
    obtain ⟨b, cs, fr, rfl, h1, h2, h3, h4⟩ := hr
    refine ⟨b, cs, fr, rfl, by rw [h.w]; exact h1, h2, h3, fun i hi => ?_⟩
    obtain ⟨u, hu, hr⟩ := h4 i hi
    exact ⟨u, hu, h.rep _ _ (hq i hi) hr⟩
  | row v t r =>
    obtain ⟨A, cap, rfl, h1, h2, h3, h4, h5⟩ := hr
    refine ⟨A, cap, rfl, h1, h2, h3, h4, fun b o hA => ?_⟩
    obtain ⟨cs, fr, q1, q2, q3, q4⟩ := h5 b o hA
    refine ⟨cs, fr, by rw [h.w]; exact q1, q2, q3, fun i hi j hj => ?_⟩
    obtain ⟨u, hu, hr⟩ := q4 i hi j hj
    refine ⟨u, hu, h.rep _ _ ?_ hr⟩
    cases r with
    | bytes l => exact hcl _ _
    | list sz n g => exact hq i hi j hj
  | gone => exact hr
  | hole => exact hr
  | frzn => exact hr
  | ban => exact hr
  | ro t cells => exact absurd rfl (hor _ _)
mutual
theorem allD_true : ∀ x : SV, allD (fun _ => True) x
  | .d x => by unfold allD; trivial
  | .aggf n g => by unfold allD; exact fun _ _ => trivial
  | .clo _ caps => by unfold allD; exact allDs_true caps
  | .agg xs => by unfold allD; exact allDs_true xs
  | .tuple xs => by unfold allD; exact allDs_true xs
  | .undef | .dead | .nils | .nilp | .nili | .nilf | .nilm | .view .. | .ptr .. | .aptr .. | .rptr .. | .bptr .. | .eptr .. => by unfold allD; trivial
theorem allDs_true : ∀ xs : List SV, allDs (fun _ => True) xs
  | [] => by unfold allDs; trivial
  | x :: xs => by unfold allDs; exact ⟨allD_true x, allDs_true xs⟩
end
theorem allO_true : ∀ o : Ob, allO (fun _ => True) o
  | .fix _ cells => allDs_true cells
  | .arr .. => fun _ _ => trivial
  | .row _ _ (.list ..) => fun _ _ _ _ => trivial
  | .row _ _ (.bytes _) => trivial
  | .gone | .hole | .frzn | .ban | .ro .. => trivial
theorem allOs_get {Q : D → Prop} : ∀ {hp : List Ob}, allOs Q hp → ∀ (i : Nat) (o : Ob), hp[i]? = some o → allO Q o
  | [], _, i, o, h => by simp at h
  | a :: hp, hq, i, o, h => by
    unfold allOs at hq
    cases i with
    | zero => simp at h; subst h; exact hq.1
    | succ i => exact allOs_get hq.2 i o (by simpa using h)

/-! ## Positions -/
theorem idxJ_get : ∀ {js : List Nat} {j m i : Nat}, idxJ js j m = some i → m ≤ i ∧ js[i - m]? = some j
  | [], _, _, _, h => by simp [idxJ] at h
  | x :: xs, j, m, i, h => by
    unfold idxJ at h
    cases hb : Nat.beq x j with
    | true =>
      rw [hb] at h
      simp only [cond_true, Option.some.injEq] at h
      subst h
      have := Nat.eq_of_beq_eq_true hb
      subst this
      exact ⟨Nat.le_refl _, by simp⟩
    | false =>
      rw [hb] at h
      simp only [cond_false] at h
      obtain ⟨h1, h2⟩ := idxJ_get h
      refine ⟨by omega, ?_⟩
      rw [show i - m = (i - (m + 1)) + 1 by omega]
      exact h2
theorem idxJ_some : ∀ {js : List Nat} {j m : Nat}, j ∈ js → ∃ i, idxJ js j m = some i
  | [], _, _, h => by cases h
  | x :: xs, j, m, h => by
    unfold idxJ
    cases hb : Nat.beq x j with
    | true => exact ⟨m, rfl⟩
    | false =>
      rcases List.mem_cons.1 h with rfl | h
      · rw [Nat.beq_refl] at hb; cases hb
      · exact idxJ_some (m := m + 1) h
theorem grabOk_get {hp : List Ob} : ∀ {js : List Nat}, grabOk hp js = true → ∀ (i j : Nat), js[i]? = some j → grabOb hp[j]? = true
  | [], _, i, j, h => by simp at h
  | x :: js, hg, i, j, h => by
    simp only [grabOk, Bool.and_eq_true] at hg
    cases i with
    | zero => simp at h; subst h; exact hg.1
    | succ i => exact grabOk_get hg.2 i j (by simpa using h)
theorem gcOk_get {hp : List Ob} : ∀ {js : List Nat}, gcOk hp js = true → ∀ (i j : Nat), js[i]? = some j → gcOb hp[j]? = true
  | [], _, i, j, h => by simp at h
  | x :: js, hg, i, j, h => by
    simp only [gcOk, Bool.and_eq_true] at hg
    cases i with
    | zero => simp at h; subst h; exact hg.1
    | succ i => exact gcOk_get hg.2 i j (by simpa using h)
theorem headIs_get : ∀ {n m : Nat} {js : List Nat}, headIs n m js = true → ∀ i, i < n → js[i]? = some (m + i)
  | 0, _, _, _, i, h => by omega
  | n + 1, m, j :: js, hh, i, h => by
    simp only [headIs, Bool.and_eq_true] at hh
    cases i with
    | zero => simp; exact (Nat.eq_of_beq_eq_true hh.1).symm
    | succ i =>
      simp only [List.getElem?_cons_succ]
      rw [headIs_get hh.2 i (by omega)]
      congr 1; omega
  | n + 1, m, [], hh, i, h => by simp [headIs] at hh

/-! ## Parts of the objects' places -/
def subRho (ρ : List Loc) (js : List Nat) : List Loc := js.map fun j => ρ.getD j .none
theorem subRho_get {ρ : List Loc} {js : List Nat} (hin : ∀ i j : Nat, js[i]? = some j → j < ρ.length) : (∀ i j : Nat, js[i]? = some j → (subRho ρ js)[i]? = ρ[j]?) ∧ ∀ (i : Nat) (loc : Loc), (subRho ρ js)[i]? = some loc → ∃ j : Nat, js[i]? = some j ∧ ρ[j]? = some loc := by
  have h1 : ∀ i j : Nat, js[i]? = some j → (subRho ρ js)[i]? = ρ[j]? := fun i j hi => by
    have hl := hin i j hi
    unfold subRho
    rw [List.getElem?_map, hi, List.getElem?_eq_getElem hl]
    simp [List.getD_eq_getElem?_getD, List.getElem?_eq_getElem hl]
  refine ⟨h1, fun i loc hi => ?_⟩
  have hil : i < js.length := by
    have := (List.getElem?_eq_some_iff.1 hi).1
    simpa [subRho] using this
  exact ⟨js[i], List.getElem?_eq_getElem hil, by rw [← h1 i _ (List.getElem?_eq_getElem hil)]; exact hi⟩

/-! ## What nobody names any more goes -/
theorem gc_mem {c0 : Cx} {w : World} {hp : List Ob} {ρ : List Loc} {js : List Nat} (hm : Mem c0 ⟨w, hp, ρ⟩) (he : Ext c0 ⟨w, hp, ρ⟩) (hc0 : c0.ρ.length = c0.hp.length)
    (hv0 : ∀ (j v : Nat) (t : TypeId) (r : RC), c0.hp[j]? = some (.row v t r) → v = 0) (hnd : nodupB js = true) (hg : gcOk hp js = true) (hst : hdStorable (gcObs hp c0.hp.length js) = true) (hh : headIs c0.hp.length 0 js = true) :
    Mem c0 ⟨w, gcObs hp c0.hp.length js, subRho ρ js⟩ ∧ Ext c0 ⟨w, gcObs hp c0.hp.length js, subRho ρ js⟩ ∧ ∀ x v, den ⟨w, hp, ρ⟩ x v → den ⟨w, gcObs hp c0.hp.length js, subRho ρ js⟩ (mapV (fun j => idxJ js j 0) (gcT hp c0.hp.length) x) v := by
  have hlen : ρ.length = hp.length := hm.len
  have hob : ∀ i j : Nat, js[i]? = some j → ∃ o, hp[j]? = some o ∧ (∀ t cells, o ≠ Ob.ro t cells) ∧ (gcObs hp c0.hp.length js)[i]? = some (mapO (fun j => idxJ js j 0) (gcT hp c0.hp.length) j o) := fun i j hi => by
    have := gcOk_get hg i j hi
    cases e : hp[j]? with
    | none => rw [e] at this; cases this
    | some o =>
      rw [e] at this
      refine ⟨o, rfl, fun t cells e2 => (by subst e2; cases this), ?_⟩
      unfold gcObs
      rw [List.getElem?_map, hi]
      simp [List.getD_eq_getElem?_getD, e]
  have hin : ∀ i j : Nat, js[i]? = some j → j < ρ.length := fun i j hi => by
    obtain ⟨o, h1, _⟩ := hob i j hi
    rw [hlen]; exact (List.getElem?_eq_some_iff.1 h1).1
  obtain ⟨hr1, hr2⟩ := subRho_get hin
  have hjl : c0.hp.length ≤ js.length := by
    rcases Nat.lt_or_ge js.length c0.hp.length with h | h
    · have := headIs_get hh js.length h
      rw [List.getElem?_eq_none (Nat.le_refl _)] at this; cases this
    · exact h
  have hhd : ∀ i, i < c0.hp.length → js[i]? = some i := fun i hi => by rw [headIs_get hh i hi, Nat.zero_add]
  have hfoot : ∀ b, b ∈ foot (subRho ρ js) → b ∈ foot ρ := fun b hb => by
    obtain ⟨i, loc, hi, hf⟩ := mem_foot.1 hb
    obtain ⟨j, _, hj⟩ := hr2 i loc hi
    exact mem_foot.2 ⟨j, loc, hj, hf⟩
  have hbans : ∀ b, b ∈ bans (subRho ρ js) → b ∈ bans ρ := fun b hb => by
    obtain ⟨i, F, hi, hf⟩ := mem_bans.1 hb
    obtain ⟨j, _, hj⟩ := hr2 i _ hi
    exact mem_bans.2 ⟨j, F, hj, hf⟩
  have hocc : ∀ b, b ∈ occ (subRho ρ js) → b ∈ occ ρ := fun b hb => by
    rcases mem_occ.1 hb with h | h
    · exact occ_foot (hfoot b h)
    · exact mem_occ.2 (.inr (hbans b h))
  have R : Ren (fun _ => True) (fun j => idxJ js j 0) (gcT hp c0.hp.length) ⟨w, hp, ρ⟩ ⟨w, gcObs hp c0.hp.length js, subRho ρ js⟩ := by
    refine ⟨rfl, fun d v _ hd => rep_mono (fun b hb => ⟨⟨hb.1, fun h => hb.2 (hocc b h)⟩, rfl⟩) d v hd, fun j i hi => ?_, fun j v0 t r hj ver ver' he hle => by
      have hj : hp[j]? = some (.row v0 t r) := hj
      unfold gcT at he ⊢
      rw [hj] at he ⊢
      simp only at he ⊢
      cases hb : Nat.beq v0 ver with
      | false => rw [hb] at he; cases he
      | true =>
        rw [hb] at he
        have := Nat.eq_of_beq_eq_true hb
        subst this
        simp only [cond_true, Option.some.injEq] at he
        rw [hb]
        simp only [cond_true, Option.getD_some]
        exact ⟨by omega, fun _ => trivial⟩⟩
    obtain ⟨_, h1⟩ := idxJ_get hi
    rw [Nat.sub_zero] at h1
    obtain ⟨o, h2, _, h3⟩ := hob i j h1
    exact ⟨o, h2, h3, hr1 i j h1⟩
  refine ⟨⟨by show (subRho ρ js).length = (gcObs hp c0.hp.length js).length; simp [subRho, gcObs], fun i o loc hi hl => ?_, fun i i' loc loc' b hi hi' hf hf' => ?_, fun b hb => hm.bnd b (hfoot b hb), hm.fr, fun b hb => ⟨(hm.dis b (hbans b hb)).1, fun h => (hm.dis b (hbans b hb)).2 (hfoot b h)⟩⟩, ⟨fun b hb => ?_, by show _ ≤ (gcObs hp c0.hp.length js).length; simpa [gcObs] using hjl, fun j b hj => ?_, fun j t n g hj => ?_, fun j hjl2 hj => ?_, fun j v' t' r' hjl2 hne hj => ?_, fun j F hj => ?_⟩, fun x v hd => den_ren R x v (allD_true x) hd⟩
  · obtain ⟨j, hj, hjl2⟩ := hr2 i loc hl
    obtain ⟨o', h1, h2, h3⟩ := hob i j hj
    have hi : (gcObs hp c0.hp.length js)[i]? = some o := hi
    rw [h3] at hi
    cases hi
    exact obRel_ren R (fun _ _ => trivial) h2 (allO_true _) (fun t cells e => hdStorable_get hst i t cells (by rw [h3, e])) (hm.obs j o' loc h1 hjl2)
  · obtain ⟨j, hj, hjl2⟩ := hr2 i loc hi
    obtain ⟨j', hj', hjl2'⟩ := hr2 i' loc' hi'
    have := hm.nodup j j' loc loc' b hjl2 hjl2' hf hf'
    subst this
    exact nodupB_get hnd i i' j hj hj'
  · obtain ⟨h1, h2⟩ := he.ok b hb
    exact ⟨⟨h1.1, fun h => h1.2 (hocc b h)⟩, h2⟩
  · have h1 := he.blk j b hj
    have hjl2 : j < c0.hp.length := by
      rw [← hc0]
      rcases Nat.lt_or_ge j c0.ρ.length with h | h
      · exact h
      · rw [List.getElem?_eq_none h] at hj; cases hj
    show ((subRho ρ js)[j]?).bind Loc.ptrAt = some b
    rw [hr1 j j (hhd j hjl2)]; exact h1
  · obtain ⟨g', h1⟩ := he.arr j t n g hj
    have hjl2 : j < c0.hp.length := (List.getElem?_eq_some_iff.1 hj).1
    obtain ⟨o, h2, _, h3⟩ := hob j j (hhd j hjl2)
    have h1 : hp[j]? = some (.arr t n g') := h1
    rw [h1] at h2
    cases h2
    exact ⟨g', h3⟩
  · obtain ⟨o, h2, _, h3⟩ := hob j j (hhd j hjl2)
    have hj : (gcObs hp c0.hp.length js)[j]? = some .hole := hj
    rw [h3] at hj
    have := mapO_hole (Option.some.inj hj)
    subst this
    exact he.hole j hjl2 h2
  · obtain ⟨o, h2, _, h3⟩ := hob j j (hhd j hjl2)
    have hj : (gcObs hp c0.hp.length js)[j]? = some (.row v' t' r') := hj
    rw [h3] at hj
    obtain ⟨v0, rfl, e0⟩ := mapO_row (Option.some.inj hj)
    obtain ⟨v, t, r, q1, q2, q3⟩ := he.row j v0 t' r' hjl2 hne h2
    have hvz := hv0 j v t r q1
    subst hvz
    have e1 : v' = bif Nat.blt j c0.hp.length && Nat.blt 0 v0 then 1 else 0 := by
      rw [e0]
      unfold gcT
      rw [h2]
      simp only [Nat.beq_refl, cond_true, Option.getD_some]
    refine ⟨0, t, r, q1, Nat.zero_le _, fun e => ?_⟩
    have hv : 0 = v0 := by
      rcases Nat.eq_zero_or_pos v0 with g | g
      · exact g.symm
      · have g1 : Nat.blt j c0.hp.length = true := by rw [Nat.blt_eq]; exact hjl2
        have g2 : Nat.blt 0 v0 = true := by rw [Nat.blt_eq]; exact g
        rw [g1, g2] at e1
        rw [← e] at e1
        cases e1
    obtain ⟨p1, p2, p3⟩ := q3 hv
    exact ⟨(hr1 j j (hhd j hjl2)).trans p1, p2, p3⟩
  · have h1 := he.ban j F hj
    have hjl2 : j < c0.hp.length := by rw [← hc0]; exact (List.getElem?_eq_some_iff.1 hj).1
    exact (hr1 j j (hhd j hjl2)).trans h1

/-! ## The part -/
theorem grabOb_some {o : Option Ob} (h : grabOb o = true) : ∃ x, o = some x ∧ x ≠ .hole ∧ x ≠ .ban ∧ ∀ t cells, x ≠ Ob.ro t cells := by
  unfold grabOb at h
  split at h
  all_goals first | exact ⟨_, rfl, by simp, by simp, by simp⟩ | cases h
theorem notban_loc {c : Cx} {o : Ob} {loc : Loc} (h : obRel c o loc) (hn : o ≠ .ban) : loc.bans = [] := by
  cases o with
  | fix => obtain ⟨b, _, _, rfl, _⟩ := h; rfl
  | arr => obtain ⟨b, _, _, rfl, _⟩ := h; rfl
  | row => obtain ⟨A, cap, rfl, _⟩ := h; rfl
  | gone => cases h; rfl
  | hole => cases h; rfl
  | frzn => obtain ⟨b, rfl⟩ := h; rfl
  | ro => obtain ⟨b, _, _, rfl, _⟩ := h; rfl
  | ban => exact absurd rfl hn
structure PartOf (w : World) (hp : List Ob) (ρ : List Loc) (js : List Nat) : Prop where
  len : ρ.length = hp.length
  nd : nodupB js = true
  ob : ∀ i j : Nat, js[i]? = some j → ∃ o loc, hp[j]? = some o ∧ ρ[j]? = some loc ∧ o ≠ .hole ∧ o ≠ .ban ∧ (∀ t cells, o ≠ Ob.ro t cells) ∧ loc.bans = [] ∧ (obsOf hp js)[i + 1]? = some (mapO (subJ js) (subT hp) j o) ∧ (subRho ρ js)[i]? = some loc
  back : ∀ (i : Nat) (loc : Loc), (subRho ρ js)[i]? = some loc → ∃ j : Nat, js[i]? = some j ∧ ρ[j]? = some loc
theorem part_of {c1 : Cx} {w : World} {hp : List Ob} {ρ : List Loc} {js : List Nat} (hm : Mem c1 ⟨w, hp, ρ⟩) (hnd : nodupB js = true) (hg : grabOk hp js = true) : PartOf w hp ρ js := by
  have hlen : ρ.length = hp.length := hm.len
  have hob0 : ∀ i j : Nat, js[i]? = some j → ∃ o, hp[j]? = some o ∧ o ≠ .hole ∧ o ≠ .ban ∧ ∀ t cells, o ≠ Ob.ro t cells := fun i j hi => grabOb_some (grabOk_get hg i j hi)
  have hin : ∀ i j : Nat, js[i]? = some j → j < ρ.length := fun i j hi => by
    obtain ⟨o, h1, _⟩ := hob0 i j hi
    rw [hlen]; exact (List.getElem?_eq_some_iff.1 h1).1
  obtain ⟨hr1, hr2⟩ := subRho_get hin
  refine ⟨hlen, hnd, fun i j hi => ?_, hr2⟩
  obtain ⟨o, h1, h2, h3, h4⟩ := hob0 i j hi
  have hl : ρ[j]? = some (ρ[j]'(hin i j hi)) := List.getElem?_eq_getElem _
  refine ⟨o, _, h1, hl, h2, h3, h4, notban_loc (hm.obs j o _ h1 hl) h3, ?_, (hr1 i j hi).trans hl⟩
  unfold obsOf
  rw [List.getElem?_cons_succ, List.getElem?_map, hi]
  simp [List.getD_eq_getElem?_getD, h1]
theorem PartOf.foot_sub {w : World} {hp : List Ob} {ρ : List Loc} {js : List Nat} (h : PartOf w hp ρ js) {b : Nat} (hb : b ∈ foot (subRho ρ js)) : b ∈ foot ρ := by
  obtain ⟨i, loc, hi, hf⟩ := mem_foot.1 hb
  obtain ⟨j, _, hj⟩ := h.back i loc hi
  exact mem_foot.2 ⟨j, loc, hj, hf⟩
theorem PartOf.nobans {w : World} {hp : List Ob} {ρ : List Loc} {js : List Nat} (h : PartOf w hp ρ js) {b : Nat} (hb : b ∈ bans (subRho ρ js)) : False := by
  obtain ⟨i, F, hi, hf⟩ := mem_bans.1 hb
  obtain ⟨j, hj, hl⟩ := h.back i _ hi
  obtain ⟨o, loc, _, h2, _, _, _, h6, _⟩ := h.ob i j hj
  rw [hl] at h2
  cases h2
  simp only [Loc.bans] at h6
  subst h6; cases hf
theorem foot_ban {F : List Nat} {ρ : List Loc} : foot (.ban F :: ρ) = foot ρ := rfl
theorem bans_ban {F : List Nat} {ρ : List Loc} : bans (.ban F :: ρ) = F ++ bans ρ := rfl
theorem sub_mem {c1 : Cx} {w : World} {hp : List Ob} {ρ : List Loc} {js : List Nat} (hm : Mem c1 ⟨w, hp, ρ⟩) (h : PartOf w hp ρ js) (hst : hdStorable (obsOf hp js) = true) {F : List Nat} (hF1 : ∀ b ∈ F, b ∉ foot (subRho ρ js)) (hF2 : ∀ b ∈ F, b ∈ occ ρ) :
    Mem ⟨w, obsOf hp js, .ban F :: subRho ρ js⟩ ⟨w, obsOf hp js, .ban F :: subRho ρ js⟩ ∧ Ren (fun _ => True) (subJ js) (subT hp) ⟨w, hp, ρ⟩ ⟨w, obsOf hp js, .ban F :: subRho ρ js⟩ := by
  have hocc : ∀ b, b ∈ occ (.ban F :: subRho ρ js) → b ∈ occ ρ := fun b hb => by
    rcases mem_occ.1 hb with hb | hb
    · rw [foot_ban] at hb; exact occ_foot (h.foot_sub hb)
    · rw [bans_ban] at hb
      rcases List.mem_append.1 hb with hb | hb
      · exact hF2 b hb
      · exact (h.nobans hb).elim
  have hlt : ∀ b, b ∈ occ ρ → b < w.heap.size := fun b hb => by
    rcases mem_occ.1 hb with hb | hb
    · exact (hm.bnd b hb).1
    · exact (hm.dis b hb).1
  have R : Ren (fun _ => True) (subJ js) (subT hp) ⟨w, hp, ρ⟩ ⟨w, obsOf hp js, .ban F :: subRho ρ js⟩ := by
    refine ⟨rfl, fun d v _ hd => rep_mono (fun b hb => ⟨⟨hb.1, fun h => hb.2 (hocc b h)⟩, rfl⟩) d v hd, fun j i hi => ?_, fun j v0 t r hj ver ver' he hle => by
      have hj : hp[j]? = some (.row v0 t r) := hj
      unfold subT at he ⊢
      rw [hj] at he ⊢
      simp only at he ⊢
      cases hb : Nat.beq v0 ver with
      | false => rw [hb] at he; cases he
      | true =>
        rw [hb] at he
        simp only [cond_true, Option.some.injEq] at he
        subst he
        exact ⟨Nat.zero_le _, fun _ => (Nat.eq_of_beq_eq_true hb).symm⟩⟩
    obtain ⟨h1, h2⟩ := idxJ_get hi
    obtain ⟨o, loc, g1, g2, _, _, _, _, g7, g8⟩ := h.ob (i - 1) j h2
    rw [Nat.sub_add_cancel h1] at g7
    refine ⟨o, g1, g7, ?_⟩
    show (Loc.ban F :: subRho ρ js)[i]? = ρ[j]?
    rw [show i = (i - 1) + 1 by omega, List.getElem?_cons_succ, g8, g2]
  refine ⟨⟨by show (Loc.ban F :: subRho ρ js).length = (obsOf hp js).length; simp [subRho, obsOf], fun i o loc hi hl => ?_, fun i i' loc loc' b hi hi' hf hf' => ?_, fun b hb => ?_, Fr.refl _ _, fun b hb => ?_⟩, R⟩
  · cases i with
    | zero =>
      have hi : (some Ob.ban) = some o := hi
      have hl : (some (Loc.ban F)) = some loc := hl
      cases hi; cases hl
      exact ⟨F, rfl⟩
    | succ i =>
      have hl : (subRho ρ js)[i]? = some loc := by simpa using hl
      obtain ⟨j, hj, hjl⟩ := h.back i loc hl
      obtain ⟨o', loc', g1, g2, g3, g4, g5, _, g7, g8⟩ := h.ob i j hj
      have hi : (obsOf hp js)[i + 1]? = some o := hi
      rw [g7] at hi
      cases hi
      exact obRel_ren R (fun _ _ => trivial) g5 (allO_true _) (fun t cells e => hdStorable_get hst (i + 1) t cells (by rw [g7, e])) (hm.obs j o' loc g1 hjl)
  · cases i with
    | zero => have hi : (some (Loc.ban F)) = some loc := hi; cases hi; cases hf
    | succ i =>
      cases i' with
      | zero => have hi' : (some (Loc.ban F)) = some loc' := hi'; cases hi'; cases hf'
      | succ i' =>
        obtain ⟨j, hj, hjl⟩ := h.back i loc (by simpa using hi)
        obtain ⟨j', hj', hjl'⟩ := h.back i' loc' (by simpa using hi')
        have := hm.nodup j j' loc loc' b hjl hjl' hf hf'
        subst this
        rw [nodupB_get h.nd i i' j hj hj']
  · exact ⟨hlt b (hocc b (occ_foot hb)), .inl hb⟩
  · refine ⟨hlt b (hocc b (mem_occ.2 (.inr hb))), fun hf => ?_⟩
    rw [show bans (⟨w, obsOf hp js, .ban F :: subRho ρ js⟩ : Cx).ρ = F ++ bans (subRho ρ js) from rfl] at hb
    rcases List.mem_append.1 hb with hb | hb
    · exact hF1 b hb hf
    · exact h.nobans hb

/-! ## What is handed in -/
mutual
theorem argOk_den2 {c c2 : Cx} (hw : c2.w = c.w) (hok : ∀ b, c.ok b → c2.ok b) : ∀ (x : SV) (v : Value), argOk x = true → den c x v → den c2 x v
  | .d d, v, _, h => by unfold den at h ⊢; exact rep_mono (fun b hb => ⟨hok b hb, by rw [hw]⟩) d v h
  | .nils, v, _, h => by unfold den at h ⊢; exact h
  | .nilp, v, _, h => by unfold den at h ⊢; exact h
  | .nili, v, _, h => by unfold den at h ⊢; exact h
  | .nilf, v, _, h => by unfold den at h ⊢; exact h
  | .nilm, v, _, h => by unfold den at h ⊢; exact h
  | .undef, v, _, h => by unfold den at h ⊢; exact h
  | .aggf n g, v, hc, h => by
    unfold den at h ⊢
    obtain ⟨cs, e, h1, h2⟩ := h
    refine ⟨cs, e, h1, fun i hi => ?_⟩
    obtain ⟨u, q1, q2⟩ := h2 i hi
    exact ⟨u, q1, rep_mono (fun b hb => ⟨hok b hb, by rw [hw]⟩) _ u q2⟩
  | .agg xs, v, hc, h => by
    unfold argOk at hc
    unfold den at h ⊢
    obtain ⟨cs, e, h1⟩ := h
    exact ⟨cs, e, argsOk_den2 hw hok xs _ hc h1⟩
  | .tuple xs, v, hc, h => by
    unfold argOk at hc
    unfold den at h ⊢
    obtain ⟨cs, e, h1⟩ := h
    exact ⟨cs, e, argsOk_den2 hw hok xs _ hc h1⟩
  | .dead, _, hc, _ | .view .., _, hc, _ | .ptr .., _, hc, _ | .aptr .., _, hc, _ | .rptr .., _, hc, _ | .bptr .., _, hc, _ | .eptr .., _, hc, _ | .clo .., _, hc, _ => by unfold argOk at hc; cases hc
theorem argsOk_den2 {c c2 : Cx} (hw : c2.w = c.w) (hok : ∀ b, c.ok b → c2.ok b) : ∀ (xs : List SV) (vs : List Value), argsOk xs = true → dens c xs vs → dens c2 xs vs
  | [], vs, _, h => by unfold dens at h ⊢; exact h
  | x :: xs, vs, hc, h => by
    unfold argsOk at hc
    simp only [Bool.and_eq_true] at hc
    unfold dens at h ⊢
    obtain ⟨u, us, e, h1, h2⟩ := h
    exact ⟨u, us, e, argOk_den2 hw hok x u hc.1 h1, argsOk_den2 hw hok xs us hc.2 h2⟩
end
/-- The rows that a value names are data for another context. -/
def FreeIn (c c2 : Cx) (x : SV) : Prop := ∀ j ∈ refsV x, ∀ (loc : Loc) (b : Nat), c.ρ[j]? = some loc → loc.foot = some b → c2.ok b
theorem argD_den2 {c0 c c2 : Cx} (hm : Mem c0 c) (hw : c2.w = c.w) (hok : ∀ b, c.ok b → c2.ok b) {a : AK} {x : SV} {v : Value} (hf : FreeIn c c2 x) (hx : argOk (argD c.hp a x) = true) (h : den c x v) : den c2 (argD c.hp a x) v := by
  unfold argD at hx ⊢
  split
  · have hv : v = .slice none 0 0 := by unfold den at h; exact h
    cases a with
    | bytes => unfold nilD den; exact ⟨none, 0, hv, by simp, by unfold maxLen; omega, fun hp => absurd hp (by simp)⟩
    | list sz => unfold nilD den; exact ⟨none, 0, hv, by simp, by unfold maxLen; omega, fun hp => absurd hp (by simp)⟩
    | _ => unfold nilD den; exact hv
  · rename_i j ver lo hi
    cases hr : rowAt c.hp j ver with
    | none => simp only []; unfold den; trivial
    | some r =>
      simp only []
      unfold den
      exact row_rep2 hm hw hok hr h (hf j (by simp [refsV]))
  · rename_i y
    exact nilDD_den (argOk_den2 hw hok (.d y) v rfl h)
  · rename_i hn1 hn2 hn3
    split at hx
    · exact absurd rfl hn1
    · exact absurd rfl (hn2 _ _ _ _)
    · exact absurd rfl (hn3 _)
    · exact argOk_den2 hw hok _ _ hx h
theorem FreeIn.head {c c2 : Cx} {x : SV} {xs : List SV} (h : ∀ j ∈ refsVs (x :: xs), ∀ (loc : Loc) (b : Nat), c.ρ[j]? = some loc → loc.foot = some b → c2.ok b) : FreeIn c c2 x ∧ ∀ j ∈ refsVs xs, ∀ (loc : Loc) (b : Nat), c.ρ[j]? = some loc → loc.foot = some b → c2.ok b := by
  unfold refsVs at h
  exact ⟨fun j hj => h j (List.mem_append_left _ hj), fun j hj => h j (List.mem_append_right _ hj)⟩
theorem argsD_den2 {c0 c c2 : Cx} (hm : Mem c0 c) (hw : c2.w = c.w) (hok : ∀ b, c.ok b → c2.ok b) : ∀ {xs : List SV} {vs : List Value}, (∀ j ∈ refsVs xs, ∀ (loc : Loc) (b : Nat), c.ρ[j]? = some loc → loc.foot = some b → c2.ok b) → argsOk (xs.map (argD c.hp .any)) = true → dens c xs vs → dens c2 (xs.map (argD c.hp .any)) vs
  | [], vs, _, _, h => by unfold dens at h; subst h; exact dens_nil
  | x :: xs, vs, hf, hx, h => by
    simp only [List.map_cons, argsOk, Bool.and_eq_true] at hx
    unfold dens at h
    obtain ⟨u, us, rfl, h1, h2⟩ := h
    obtain ⟨f1, f2⟩ := FreeIn.head hf
    exact dens_cons (argD_den2 hm hw hok f1 hx.1 h1) (argsD_den2 hm hw hok f2 hx.2 h2)
mutual
theorem frz_den2 {c0 c c2 : Cx} (hm : Mem c0 c) (hw : c2.w = c.w) (hok : ∀ b, c.ok b → c2.ok b) : ∀ (k : AK) {x : SV} {v : Value}, FreeIn c c2 x → argOk (frz c.hp k x) = true → den c x v → den c2 (frz c.hp k x) v
  | .any, x, v, hf, hx, h => by unfold frz at hx ⊢; exact argD_den2 hm hw hok hf hx h
  | .own, x, v, hf, hx, h => by unfold frz at hx ⊢; exact argD_den2 hm hw hok hf hx h
  | .bytes, x, v, hf, hx, h => by unfold frz at hx ⊢; exact argD_den2 hm hw hok hf hx h
  | .list sz, x, v, hf, hx, h => by unfold frz at hx ⊢; exact argD_den2 hm hw hok hf hx h
  | .agg ks, x, v, hf, hx, h => by
    cases x with
    | agg xs =>
      simp only [frz] at hx ⊢
      simp only [argOk] at hx
      unfold den at h ⊢
      obtain ⟨vs, rfl, hd⟩ := h
      exact ⟨vs, rfl, frzs_den2 hm hw hok ks (by unfold FreeIn refsV at hf; exact hf) hx hd⟩
    | _ => unfold frz at hx ⊢; exact argD_den2 hm hw hok hf hx h
  | .tup ks, x, v, hf, hx, h => by
    cases x with
    | tuple xs =>
      unfold frz at hx ⊢
      simp only [argOk] at hx
      unfold den at h ⊢
      obtain ⟨vs, rfl, hd⟩ := h
      exact ⟨vs, rfl, frzs_den2 hm hw hok ks (by unfold FreeIn refsV at hf; exact hf) hx hd⟩
    | _ => unfold frz at hx ⊢; exact argD_den2 hm hw hok hf hx h
theorem frzs_den2 {c0 c c2 : Cx} (hm : Mem c0 c) (hw : c2.w = c.w) (hok : ∀ b, c.ok b → c2.ok b) : ∀ (ks : List AK) {xs : List SV} {vs : List Value}, (∀ j ∈ refsVs xs, ∀ (loc : Loc) (b : Nat), c.ρ[j]? = some loc → loc.foot = some b → c2.ok b) → argsOk (frzs c.hp ks xs) = true → dens c xs vs → dens c2 (frzs c.hp ks xs) vs
  | [], xs, vs, hf, hx, h => by unfold frzs at hx ⊢; exact argsD_den2 hm hw hok hf hx h
  | k :: ks, xs, vs, hf, hx, h => by
    cases xs with
    | nil => unfold frzs; unfold dens at h; subst h; exact dens_nil
    | cons x xs =>
      unfold frzs at hx ⊢
      simp only [argsOk, Bool.and_eq_true] at hx
      unfold dens at h
      obtain ⟨u, us, rfl, h1, h2⟩ := h
      obtain ⟨f1, f2⟩ := FreeIn.head hf
      exact dens_cons (frz_den2 hm hw hok k f1 hx.1 h1) (frzs_den2 hm hw hok ks f2 hx.2 h2)
end
theorem memArgs_den {c0 c c2 : Cx} {cl : Bool} {js : List Nat} (hm : Mem c0 c) (hw : c2.w = c.w) (hok : ∀ b, c.ok b → c2.ok b) (R : Ren (fun _ => True) (subJ js) (subT c.hp) c c2)
    (hfree : cl = true → ∀ j, j ∉ js → ∀ (loc : Loc) (b : Nat), c.ρ[j]? = some loc → loc.foot = some b → c2.ok b) :
    ∀ {xs : List SV} {ks : List AK} {vs : List Value}, freeOk cl c.hp js ks xs = true → dens c xs vs → dens c2 (memArgs c.hp js ks xs) vs
  | [], ks, vs, _, hd => by unfold memArgs; unfold dens at hd ⊢; exact hd
  | x :: xs, ks, vs, hf, hd => by
    unfold freeOk at hf
    simp only [Bool.and_eq_true, Bool.or_eq_true] at hf
    unfold memArgs
    unfold dens at hd
    obtain ⟨u, us, rfl, h1, h2⟩ := hd
    refine dens_cons ?_ (memArgs_den hm hw hok R hfree hf.2 h2)
    cases ho : ownArg (ks.headD .any) x with
    | true => simp only [cond_true]; exact den_ren R x u (allD_true x) h1
    | false =>
      simp only [cond_false]
      rcases hf.1 with h | ⟨h3, h4⟩
      · rw [ho] at h; cases h
      · refine frz_den2 hm hw hok _ (fun j hj => ?_) h3 h1
        cases cl with
        | true =>
          simp only [cond_true] at h4
          exact hfree rfl j (disj_spec h4 j hj)
        | false =>
          simp only [cond_false] at h4
          rw [List.isEmpty_iff] at h4
          rw [h4] at hj; cases hj

/-! ## The part goes back into the whole -/
def setAll {α β : Type _} (σ : Nat → Option Nat) (f : α → β) : Nat → List α → List β → List β
  | _, [], l => l
  | i, x :: rest, l => match σ i with
    | some j => setAll σ f (i + 1) rest (l.set j (f x))
    | none => setAll σ f (i + 1) rest l
theorem app_setAll {σ : Nat → Option Nat} : ∀ {rest : List Ob} {i : Nat} {l : List Ob}, app (memδ σ i rest) l = setAll σ id i rest l
  | [], _, _ => rfl
  | o :: rest, i, l => by
    unfold memδ setAll
    cases σ i with
    | none => exact app_setAll
    | some j => exact app_setAll (rest := rest) (i := i + 1) (l := l.set j o)
theorem mapOs_get {σ : Nat → Option Nat} {τ : Nat → Nat → Option Nat} : ∀ {rest : List Ob} {i : Nat} (m : Nat), (mapOs σ τ i rest)[m]? = (rest[m]?).map (mapO σ τ (i + m))
  | [], _, m => by simp [mapOs]
  | o :: rest, i, m => by
    unfold mapOs
    cases m with
    | zero => simp
    | succ m => simp only [List.getElem?_cons_succ]; rw [mapOs_get m]; congr 2; omega
theorem mapOs_length {σ : Nat → Option Nat} {τ : Nat → Nat → Option Nat} : ∀ {rest : List Ob} {i : Nat}, (mapOs σ τ i rest).length = rest.length
  | [], _ => rfl
  | o :: rest, i => by unfold mapOs; simp [mapOs_length]
theorem setAll_length {α β : Type _} {σ : Nat → Option Nat} {f : α → β} : ∀ {rest : List α} {i : Nat} {l : List β}, (setAll σ f i rest l).length = l.length
  | [], _, _ => rfl
  | x :: rest, i, l => by
    unfold setAll
    cases σ i with
    | none => exact setAll_length
    | some j => simp only; rw [setAll_length]; simp
theorem setAll_miss {α β : Type _} {σ : Nat → Option Nat} {f : α → β} : ∀ {rest : List α} {i : Nat} {l : List β} {x : Nat}, (∀ m, m < rest.length → σ (i + m) ≠ some x) → (setAll σ f i rest l)[x]? = l[x]?
  | [], _, _, _, _ => rfl
  | a :: rest, i, l, x, h => by
    unfold setAll
    have h2 : ∀ m, m < rest.length → σ (i + 1 + m) ≠ some x := fun m hm => by
      have := h (m + 1) (by simp; omega)
      rwa [show i + (m + 1) = i + 1 + m by omega] at this
    cases e : σ i with
    | none => exact setAll_miss h2
    | some j =>
      simp only
      rw [setAll_miss h2]
      refine List.getElem?_set_ne fun e2 => ?_
      exact h 0 (by simp) (by rw [Nat.add_zero, e, e2])
theorem setAll_hit {α β : Type _} {σ : Nat → Option Nat} {f : α → β} : ∀ {rest : List α} {i : Nat} {l : List β} {x m : Nat} {a : α}, (∀ m1 m2 y, m1 < rest.length → m2 < rest.length → σ (i + m1) = some y → σ (i + m2) = some y → m1 = m2) → rest[m]? = some a → σ (i + m) = some x → x < l.length →
    (setAll σ f i rest l)[x]? = some (f a)
  | [], _, _, _, m, _, _, h, _, _ => by simp at h
  | b :: rest, i, l, x, m, a, hinj, ha, hx, hl => by
    have hinj2 : ∀ m1 m2 y, m1 < rest.length → m2 < rest.length → σ (i + 1 + m1) = some y → σ (i + 1 + m2) = some y → m1 = m2 := fun m1 m2 y h1 h2 e1 e2 => by
      have := hinj (m1 + 1) (m2 + 1) y (by simp; omega) (by simp; omega) (by rw [show i + (m1 + 1) = i + 1 + m1 by omega]; exact e1) (by rw [show i + (m2 + 1) = i + 1 + m2 by omega]; exact e2)
      omega
    unfold setAll
    cases m with
    | zero =>
      rw [Nat.add_zero] at hx
      simp at ha
      subst ha
      rw [hx]
      simp only
      rw [setAll_miss (fun m hm e => ?_)]
      · simp [hl]
      · have := hinj 0 (m + 1) x (by simp) (by simp; omega) (by rw [Nat.add_zero]; exact hx) (by rw [show i + (m + 1) = i + 1 + m by omega]; exact e)
        omega
    | succ m =>
      have ha : rest[m]? = some a := by simpa using ha
      have hx : σ (i + 1 + m) = some x := by rw [← hx]; congr 1; omega
      cases e : σ i with
      | none => exact setAll_hit hinj2 ha hx hl
      | some j => exact setAll_hit hinj2 ha hx (by simpa using hl)
theorem notBan_get : ∀ {hp : List Ob}, notBan hp = true → ∀ (i : Nat) (o : Ob), hp[i]? = some o → o ≠ .ban ∧ ∀ t cells, o ≠ Ob.ro t cells
  | [], _, i, o, h => by simp at h
  | a :: hp, hn, i, o, h => by
    cases i with
    | zero =>
      simp at h; subst h
      cases a with
      | ban => cases hn
      | ro => cases hn
      | _ => exact ⟨fun e => (by cases e), fun _ _ e => (by cases e)⟩
    | succ i =>
      refine notBan_get (hp := hp) ?_ i o (by simpa using h)
      cases a <;> simp only [notBan] at hn <;> first | exact hn | cases hn
theorem holesAt_get {hp : List Ob} {π : Nat} : ∀ {m : Nat}, holesAt hp π m = true → ∀ t, t < m → hp[π + t]? = some .hole
  | 0, _, t, h => by omega
  | m + 1, hh, t, h => by
    simp only [holesAt, Bool.and_eq_true] at hh
    by_cases e : t = m
    · subst e; exact isHole_some hh.1
    · exact holesAt_get hh.2 t (by omega)
theorem blt_t {m n : Nat} (h : m < n) : Nat.blt m n = true := by rw [Nat.blt_eq]; exact h
theorem blt_f {m n : Nat} (h : n ≤ m) : Nat.blt m n = false := by
  cases e : Nat.blt m n with
  | false => rfl
  | true => rw [Nat.blt_eq] at e; omega
def plRho0 (pl : Option Nat) (ρ : List Loc) (m : Nat) : List Loc :=
  match pl with
  | none => ρ ++ List.replicate m .none
  | some _ => ρ
/-- How the part's numbers lie in the whole. -/
structure Laid (w : World) (hp : List Ob) (ρ : List Loc) (js : List Nat) (σ : Nat → Option Nat) (n : Nat) (L : List Ob) (R : List Loc) : Prop where
  some_ : ∀ m, m < n → ∃ x, σ (m + 1) = some x ∧ x < L.length
  zero : σ 0 = none
  over : ∀ i x, σ i = some x → ∃ m, i = m + 1 ∧ m < n
  inj : ∀ m1 m2 y, m1 < n → m2 < n → σ (1 + m1) = some y → σ (1 + m2) = some y → m1 = m2
  old : ∀ m x, σ (m + 1) = some x → m < js.length → js[m]? = some x
  new : ∀ m x, σ (m + 1) = some x → js.length ≤ m → hp.length ≤ x ∨ hp[x]? = some .hole
  len : L.length = R.length
  ge : hp.length ≤ L.length
  base : ∀ x, x < hp.length → L[x]? = hp[x]? ∧ R[x]? = ρ[x]?
  cover : ∀ x, hp.length ≤ x → x < L.length → ∃ m, m < n ∧ σ (m + 1) = some x
  le : js.length ≤ n
theorem laid_of {w : World} {hp : List Ob} {ρ : List Loc} {js : List Nat} (h : PartOf w hp ρ js) {pls : Nat} {pl : Option Nat} {n : Nat} (h1 : js.length ≤ n) (h2 : plsOk pls pl hp (n - js.length) = true) :
    Laid w hp ρ js (newIdx pl hp js (n + 1)) n (plBase pl hp (n - js.length)) (plRho0 pl ρ (n - js.length)) := by
  have hlt : ∀ (m x : Nat), js[m]? = some x → x < hp.length := fun m x hx => by
    obtain ⟨o, _, g1, _⟩ := h.ob m x hx
    exact (List.getElem?_eq_some_iff.1 g1).1
  have hnh : ∀ (m x : Nat), js[m]? = some x → hp[x]? ≠ some .hole := fun m x hx e => by
    obtain ⟨o, _, g1, _, g3, _⟩ := h.ob m x hx
    rw [g1] at e; cases e; exact g3 rfl
  have hold : ∀ m, m < js.length → newIdx pl hp js (n + 1) (m + 1) = js[m]? := fun m hm => by
    simp only [newIdx, blt_t hm, cond_true]
  have hnew : ∀ m, js.length ≤ m → m < n → newIdx pl hp js (n + 1) (m + 1) = some (plIdx pl hp + (m - js.length)) := fun m h1 h2 => by
    have e1 : Nat.blt m js.length = false := blt_f (by omega)
    simp only [newIdx, e1, cond_false, blt_t (show m + 1 < n + 1 by omega), cond_true]
  have hover : ∀ m, n ≤ m → newIdx pl hp js (n + 1) (m + 1) = none := fun m hm => by
    have e1 : Nat.blt m js.length = false := blt_f (by omega)
    have e2 : Nat.blt (m + 1) (n + 1) = false := blt_f (by omega)
    simp only [newIdx, e1, e2, cond_false]
  have hpl : ∀ m, js.length ≤ m → m < n → (hp.length ≤ plIdx pl hp + (m - js.length) ∨ hp[plIdx pl hp + (m - js.length)]? = some .hole) ∧ plIdx pl hp + (m - js.length) < (plBase pl hp (n - js.length)).length := fun m g1 g2 => by
    cases pl with
    | none => exact ⟨.inl (by simp [plIdx]), by simp [plIdx, plBase]; omega⟩
    | some π =>
      simp only [plsOk, Bool.and_eq_true] at h2
      have := holesAt_get h2.2 (m - js.length) (by omega)
      exact ⟨.inr this, (List.getElem?_eq_some_iff.1 this).1⟩
  have hsome : ∀ m, m < n → ∃ x, newIdx pl hp js (n + 1) (m + 1) = some x ∧ x < (plBase pl hp (n - js.length)).length := fun m hm => by
    by_cases hj : m < js.length
    · refine ⟨js[m], by rw [hold m hj]; exact List.getElem?_eq_getElem hj, ?_⟩
      have := hlt m js[m] (List.getElem?_eq_getElem hj)
      cases pl <;> simp only [plBase, List.length_append, List.length_replicate] <;> omega
    · exact ⟨_, hnew m (by omega) hm, (hpl m (by omega) hm).2⟩
  refine ⟨hsome, rfl, fun i x hi => ?_, fun m1 m2 y hm1 hm2 e1 e2 => ?_, fun m x hx hm => by rw [hold m hm] at hx; exact hx, fun m x hx hm => ?_, ?_, ?_, fun x hx => ?_, fun x h1 h2 => ?_, h1⟩
  · cases i with
    | zero => cases hi
    | succ m =>
      refine ⟨m, rfl, ?_⟩
      rcases Nat.lt_or_ge m n with g | g
      · exact g
      · rw [hover m g] at hi; cases hi
  · rw [Nat.add_comm 1 m1] at e1
    rw [Nat.add_comm 1 m2] at e2
    by_cases g1 : m1 < js.length <;> by_cases g2 : m2 < js.length
    · rw [hold m1 g1] at e1; rw [hold m2 g2] at e2; exact nodupB_get h.nd m1 m2 y e1 e2
    · rw [hold m1 g1] at e1; rw [hnew m2 (by omega) hm2] at e2
      cases e2
      rcases (hpl m2 (by omega) hm2).1 with g | g
      · have := hlt _ _ e1; omega
      · exact (hnh _ _ e1 g).elim
    · rw [hnew m1 (by omega) hm1] at e1; rw [hold m2 g2] at e2
      cases e1
      rcases (hpl m1 (by omega) hm1).1 with g | g
      · have := hlt _ _ e2; omega
      · exact (hnh _ _ e2 g).elim
    · rw [hnew m1 (by omega) hm1] at e1; rw [hnew m2 (by omega) hm2] at e2
      cases e1; simp only [Option.some.injEq] at e2; omega
  · have hmn : m < n := by
      rcases Nat.lt_or_ge m n with g | g
      · exact g
      · rw [hover m g] at hx; cases hx
    rw [hnew m hm hmn] at hx
    cases hx
    exact (hpl m hm hmn).1
  · cases pl <;> simp [plBase, plRho0, h.len]
  · cases pl <;> simp [plBase]
  · cases pl with
    | none => exact ⟨List.getElem?_append_left hx, List.getElem?_append_left (by rw [h.len]; exact hx)⟩
    | some π => exact ⟨rfl, rfl⟩
  · cases pl with
    | none =>
      simp only [plBase, List.length_append, List.length_replicate] at h2
      refine ⟨js.length + (x - hp.length), by omega, ?_⟩
      rw [hnew _ (by omega) (by omega)]
      simp only [plIdx]; congr 1; omega
    | some π => simp only [plBase] at h2; omega
theorem newT_ver {hp : List Ob} {js : List Nat} {i v0 ver ver' : Nat} (he : newT hp js i ver = some ver') (hle : ver ≤ v0) : ver' ≤ (newT hp js i v0).getD 0 ∧ (ver' = (newT hp js i v0).getD 0 → ver = v0) := by
  unfold newT at he ⊢
  split at he
  · split at he
    · simp only [Option.some.injEq, Option.getD_some] at he ⊢; omega
    · simp only [Option.some.injEq, Option.getD_some] at he ⊢; omega
  · simp only [Option.some.injEq, Option.getD_some] at he ⊢; omega
theorem merge_mem {c1 : Cx} {w w' : World} {hp rest : List Ob} {ρ ρs' : List Loc} {js : List Nat} {F : List Nat} {Q : D → Prop} {σ : Nat → Option Nat} {L : List Ob} {R : List Loc} (hm : Mem c1 ⟨w, hp, ρ⟩) (h : PartOf w hp ρ js) (ly : Laid w hp ρ js σ rest.length L R)
    (hs : Mem ⟨w, obsOf hp js, .ban F :: subRho ρ js⟩ ⟨w', .ban :: rest, ρs'⟩) (he : Ext ⟨w, obsOf hp js, .ban F :: subRho ρ js⟩ ⟨w', .ban :: rest, ρs'⟩)
    (hnb : notBan rest = true) (hst : hdStorable (mapOs σ (newT hp js) 1 rest) = true) (hQi : ∀ n d, Q (.int n d)) (hQ : allOs Q rest)
    (hrep : (∀ d v, Q d → ∀ w ok w2 ok2, d.rep w ok v → d.rep w2 ok2 v) ∨ ∀ b, b ∈ occ ρ → b ∉ foot (subRho ρ js) → b ∈ F) :
    Mem ⟨w, hp, ρ⟩ ⟨w', setAll σ id 1 (mapOs σ (newT hp js) 1 rest) L, setAll σ id 1 ρs'.tail R⟩ ∧ Ext ⟨w, hp, ρ⟩ ⟨w', setAll σ id 1 (mapOs σ (newT hp js) 1 rest) L, setAll σ id 1 ρs'.tail R⟩ ∧ Ren Q σ (newT hp js) ⟨w', .ban :: rest, ρs'⟩ ⟨w', setAll σ id 1 (mapOs σ (newT hp js) 1 rest) L, setAll σ id 1 ρs'.tail R⟩ := by
  have hlen : ρ.length = hp.length := hm.len
  have hslen : ρs'.length = rest.length + 1 := hs.len
  have htl : ρs'.tail.length = rest.length := by simp [hslen]
  have htg : ∀ i : Nat, ρs'.tail[i]? = ρs'[i + 1]? := fun i => by cases ρs' <;> simp
  generalize hHP : setAll σ id 1 (mapOs σ (newT hp js) 1 rest) L = HP
  generalize hRP : setAll σ id 1 ρs'.tail R = RP
  -- what lies where
  have hit : ∀ m x : Nat, σ (m + 1) = some x → ∃ o loc, rest[m]? = some o ∧ ρs'[m + 1]? = some loc ∧ HP[x]? = some (mapO σ (newT hp js) (m + 1) o) ∧ RP[x]? = some loc ∧ obRel ⟨w', .ban :: rest, ρs'⟩ o loc ∧ o ≠ .ban ∧ (∀ t cells, o ≠ Ob.ro t cells) ∧ loc.bans = [] := fun m x hx => by
    obtain ⟨m', e, hmn⟩ := ly.over _ x hx
    obtain rfl : m' = m := by omega
    obtain ⟨x', hx', hxl⟩ := ly.some_ m' hmn
    rw [hx] at hx'
    cases hx'
    have ho : rest[m']? = some rest[m'] := List.getElem?_eq_getElem hmn
    have hl : ρs'[m' + 1]? = some (ρs'[m' + 1]'(by omega)) := List.getElem?_eq_getElem _
    have hob := hs.obs (m' + 1) rest[m'] _ (by show (Ob.ban :: rest)[m' + 1]? = _; simp) hl
    obtain ⟨n1, n2⟩ := notBan_get hnb m' _ ho
    refine ⟨_, _, ho, hl, ?_, ?_, hob, n1, n2, notban_loc hob n1⟩
    · rw [← hHP]
      exact setAll_hit (f := id) (a := mapO σ (newT hp js) (m' + 1) rest[m']) (fun m1 m2 y a b c d => ly.inj m1 m2 y (by rw [mapOs_length] at a; exact a) (by rw [mapOs_length] at b; exact b) c d) (by rw [mapOs_get, ho, Option.map_some, Nat.add_comm 1 m']) (by rw [Nat.add_comm]; exact hx) hxl
    · rw [← hRP]; exact setAll_hit (f := id) (fun m1 m2 y a b c d => ly.inj m1 m2 y (by omega) (by omega) c d) (by rw [htg]; exact hl) (by rw [Nat.add_comm]; exact hx) (by rw [← ly.len]; exact hxl)
  have miss : ∀ x : Nat, (∀ m, σ (m + 1) ≠ some x) → x < hp.length → HP[x]? = hp[x]? ∧ RP[x]? = ρ[x]? := fun x hx hxl => by
    rw [← hHP, ← hRP]
    exact ⟨(setAll_miss fun m _ => by rw [Nat.add_comm]; exact hx m).trans (ly.base x hxl).1, (setAll_miss fun m _ => by rw [Nat.add_comm]; exact hx m).trans (ly.base x hxl).2⟩
  have hHl : HP.length = L.length := by rw [← hHP]; exact setAll_length
  have hRl : RP.length = L.length := by rw [← hRP, setAll_length, ly.len]
  have cases_ : ∀ x : Nat, x < L.length → (∃ m, σ (m + 1) = some x) ∨ ((∀ m, σ (m + 1) ≠ some x) ∧ x < hp.length) := fun x hx => by
    by_cases hc : ∃ m, σ (m + 1) = some x
    · exact .inl hc
    · refine .inr ⟨fun m e => hc ⟨m, e⟩, ?_⟩
      rcases Nat.lt_or_ge x hp.length with g | g
      · exact g
      · obtain ⟨m, _, e⟩ := ly.cover x g hx
        exact absurd ⟨m, e⟩ hc
  -- what was there
  have hnone : ∀ x : Nat, hp[x]? = some .hole → ρ[x]? = some .none := fun x hx => by
    have hl : x < ρ.length := by rw [hlen]; exact (List.getElem?_eq_some_iff.1 hx).1
    have h1 := hm.obs x .hole _ hx (List.getElem?_eq_getElem hl)
    rw [List.getElem?_eq_getElem hl]
    exact congrArg some h1
  have was : ∀ m x : Nat, σ (m + 1) = some x → x < hp.length → (m < js.length ∧ js[m]? = some x) ∨ (hp[x]? = some .hole ∧ ρ[x]? = some .none) := fun m x hx hxl => by
    rcases Nat.lt_or_ge m js.length with g | g
    · exact .inl ⟨g, ly.old m x hx g⟩
    · rcases ly.new m x hx g with g2 | g2
      · omega
      · exact .inr ⟨g2, hnone x g2⟩
  have hfF : ∀ x : Nat, x < hp.length → (∀ m, σ (m + 1) ≠ some x) → ∀ loc b, ρ[x]? = some loc → loc.foot = some b → b ∉ foot (subRho ρ js) := fun x hxl hx loc b hl hf hb => by
    obtain ⟨i, loc', hi, hf'⟩ := mem_foot.1 hb
    obtain ⟨j, hj, hjl⟩ := h.back i loc' hi
    have := hm.nodup x j loc loc' b hl hjl hf hf'
    subst this
    have hil : i < js.length := (List.getElem?_eq_some_iff.1 hj).1
    obtain ⟨y, hy, _⟩ := ly.some_ i (Nat.lt_of_lt_of_le hil ly.le)
    have := ly.old i y hy hil
    rw [hj] at this
    cases this
    exact hx i hy
  have hsfoot : ∀ b, b ∈ foot ρs' → b < w'.heap.size ∧ (b ∈ foot (subRho ρ js) ∨ w.heap.size ≤ b) := fun b hb => hs.bnd b hb
  have hsize : w.heap.size ≤ w'.heap.size := hs.fr.size
  have hblock : ∀ b, b < w.heap.size → b ∉ foot (subRho ρ js) → w'.heap[b]? = w.heap[b]? := fun b h1 h2 => hs.fr.block b h1 (by rw [foot_ban]; exact h2)
  have hfoot : ∀ b, b ∈ foot RP → b ∈ foot ρs' ∨ (b ∈ foot ρ ∧ b ∉ foot (subRho ρ js)) := fun b hb => by
    obtain ⟨x, loc, hx, hf⟩ := mem_foot.1 hb
    have hxl : x < L.length := by rw [← hRl]; exact (List.getElem?_eq_some_iff.1 hx).1
    rcases cases_ x hxl with ⟨m, hm2⟩ | ⟨hmi, hxh⟩
    · obtain ⟨o, loc', _, g2, _, g4, _⟩ := hit m x hm2
      rw [hx] at g4; cases g4
      exact .inl (mem_foot.2 ⟨_, _, g2, hf⟩)
    · have := (miss x hmi hxh).2
      rw [hx] at this
      exact .inr ⟨mem_foot.2 ⟨x, loc, this.symm, hf⟩, hfF x hxh hmi loc b this.symm hf⟩
  have hbans : ∀ b, b ∈ bans RP → b ∈ bans ρ := fun b hb => by
    obtain ⟨x, F', hx, hf⟩ := mem_bans.1 hb
    have hxl : x < L.length := by rw [← hRl]; exact (List.getElem?_eq_some_iff.1 hx).1
    rcases cases_ x hxl with ⟨m, hm2⟩ | ⟨hmi, hxh⟩
    · obtain ⟨o, loc', _, _, _, g4, _, _, _, g8⟩ := hit m x hm2
      rw [hx] at g4; cases g4
      simp only [Loc.bans] at g8; subst g8; cases hf
    · have := (miss x hmi hxh).2
      rw [hx] at this
      exact mem_bans.2 ⟨x, F', this.symm, hf⟩
  have hocc : ∀ b, b ∈ occ RP → b ∈ foot ρs' ∨ (b ∈ occ ρ ∧ b ∉ foot (subRho ρ js)) := fun b hb => by
    rcases mem_occ.1 hb with hb | hb
    · rcases hfoot b hb with g | ⟨g, g2⟩
      · exact .inl g
      · exact .inr ⟨occ_foot g, g2⟩
    · have := hbans b hb
      exact .inr ⟨mem_occ.2 (.inr this), fun g => (hm.dis b this).2 (h.foot_sub g)⟩
  have hext : Ext ⟨w, hp, ρ⟩ ⟨w', HP, RP⟩ := by
    refine ⟨fun b hb => ⟨⟨Nat.lt_of_lt_of_le hb.1 hsize, fun hbo => ?_⟩, hblock b hb.1 fun g => hb.2 (occ_foot (h.foot_sub g))⟩, by show hp.length ≤ HP.length; rw [hHl]; exact ly.ge, fun j b hj => ?_, fun j t n g hj => ?_, fun j hjl hj => ?_, fun j v' t' r' hjl hne hj => ?_, fun j F' hj => ?_⟩
    · rcases hocc b hbo with g | ⟨g, _⟩
      · rcases (hsfoot b g).2 with g | g
        · exact hb.2 (occ_foot (h.foot_sub g))
        · have := hb.1
          have : b < w.heap.size := this
          omega
      · exact hb.2 g
    · have hj : (ρ[j]?).bind Loc.ptrAt = some b := hj
      have hjl : j < hp.length := by
        rw [← hlen]
        rcases Nat.lt_or_ge j ρ.length with g | g
        · exact g
        · rw [List.getElem?_eq_none g] at hj; cases hj
      show (RP[j]?).bind Loc.ptrAt = some b
      rcases cases_ j (Nat.lt_of_lt_of_le hjl ly.ge) with ⟨m, hm2⟩ | ⟨hmi, _⟩
      · obtain ⟨o, loc', _, g2, _, g4, _⟩ := hit m j hm2
        rcases was m j hm2 hjl with ⟨q1, q2⟩ | ⟨q1, q2⟩
        · obtain ⟨o2, loc2, p1, p2, _, _, _, _, _, p8⟩ := h.ob m j q2
          have := he.blk (m + 1) b (by show ((Loc.ban F :: subRho ρ js)[m + 1]?).bind Loc.ptrAt = _; rw [List.getElem?_cons_succ, p8, ← p2]; exact hj)
          rw [g4, ← g2]; exact this
        · rw [q2] at hj; cases hj
      · rw [(miss j hmi hjl).2]; exact hj
    · have hj : hp[j]? = some (.arr t n g) := hj
      have hjl : j < hp.length := (List.getElem?_eq_some_iff.1 hj).1
      rcases cases_ j (Nat.lt_of_lt_of_le hjl ly.ge) with ⟨m, hm2⟩ | ⟨hmi, _⟩
      · obtain ⟨o, loc', g1, g2, g3, g4, _⟩ := hit m j hm2
        rcases was m j hm2 hjl with ⟨q1, q2⟩ | ⟨q1, q2⟩
        · obtain ⟨o2, loc2, p1, p2, _, _, _, _, p7, p8⟩ := h.ob m j q2
          rw [hj] at p1; cases p1
          obtain ⟨g', hg'⟩ := he.arr (m + 1) t n g p7
          have hg' : rest[m]? = some (.arr t n g') := by simpa using hg'
          rw [g1] at hg'; cases hg'
          exact ⟨g', g3⟩
        · rw [q1] at hj; cases hj
      · exact ⟨g, (miss j hmi hjl).1.trans hj⟩
    · have hj : HP[j]? = some .hole := hj
      rcases cases_ j (Nat.lt_of_lt_of_le hjl ly.ge) with ⟨m, hm2⟩ | ⟨hmi, _⟩
      · obtain ⟨o, loc', g1, g2, g3, g4, _⟩ := hit m j hm2
        rcases was m j hm2 hjl with ⟨q1, q2⟩ | ⟨q1, q2⟩
        · obtain ⟨o2, loc2, p1, p2, p3, _, _, _, p7, p8⟩ := h.ob m j q2
          rw [hj] at g3
          have := mapO_hole (Option.some.inj g3.symm)
          subst this
          have := he.hole (m + 1) (List.getElem?_eq_some_iff.1 p7).1 (by show (Ob.ban :: rest)[m + 1]? = _; simpa using g1)
          have this : (obsOf hp js)[m + 1]? = some .hole := this
          rw [p7] at this
          exact (p3 (mapO_hole (Option.some.inj this))).elim
        · exact q1
      · rw [(miss j hmi hjl).1] at hj; exact hj
    · have hj : HP[j]? = some (.row v' t' r') := hj
      rcases cases_ j (Nat.lt_of_lt_of_le hjl ly.ge) with ⟨m, hm2⟩ | ⟨hmi, _⟩
      · obtain ⟨o, loc', g1, g2, g3, g4, _⟩ := hit m j hm2
        rcases was m j hm2 hjl with ⟨q1, q2⟩ | ⟨q1, q2⟩
        · obtain ⟨o2, loc2, p1, p2, p3, _, _, _, p7, p8⟩ := h.ob m j q2
          rw [hj] at g3
          obtain ⟨vs, rfl, ev⟩ := mapO_row (Option.some.inj g3.symm)
          obtain ⟨v, t, r, k1, k2, k3⟩ := he.row (m + 1) vs t' r' (List.getElem?_eq_some_iff.1 p7).1 (fun e => by
            have e : (obsOf hp js)[m + 1]? = some .hole := e
            rw [p7] at e
            exact p3 (mapO_hole (Option.some.inj e))) (by show (Ob.ban :: rest)[m + 1]? = _; simpa using g1)
          have k1 : (obsOf hp js)[m + 1]? = some (.row v t r) := k1
          rw [p7] at k1
          obtain ⟨v0, rfl, ev0⟩ := mapO_row (Option.some.inj k1)
          have ev : v' = v0 + vs := by
            rw [ev]
            simp only [newT, Nat.add_sub_cancel, q2, p1, Option.getD_some]
          have ev0 : v = 0 := by
            rw [ev0]
            simp only [subT, p1, Nat.beq_refl, cond_true, Option.getD_some]
          refine ⟨v0, t, r, p1, by omega, fun e => ?_⟩
          obtain ⟨l1, l2, l3⟩ := k3 (by omega)
          have l1 : ρs'[m + 1]? = (Loc.ban F :: subRho ρ js)[m + 1]? := l1
          refine ⟨?_, l2, l3⟩
          show RP[j]? = ρ[j]?
          rw [g4, ← g2, l1, List.getElem?_cons_succ, p8, p2]
        · exact (hne q1).elim
      · obtain ⟨k1, k2⟩ := miss j hmi hjl
        rw [k1] at hj
        exact ⟨v', t', r', hj, Nat.le_refl _, fun _ => ⟨k2, rfl, rfl⟩⟩
    · have hj : ρ[j]? = some (.ban F') := hj
      have hjl : j < hp.length := by rw [← hlen]; exact (List.getElem?_eq_some_iff.1 hj).1
      show RP[j]? = some (.ban F')
      rcases cases_ j (Nat.lt_of_lt_of_le hjl ly.ge) with ⟨m, hm2⟩ | ⟨hmi, _⟩
      · rcases was m j hm2 hjl with ⟨q1, q2⟩ | ⟨q1, q2⟩
        · obtain ⟨o2, loc2, p1, p2, _, p4, _⟩ := h.ob m j q2
          rw [hj] at p2; cases p2
          have hb := hm.obs j o2 _ p1 hj
          cases o2 with
          | fix => obtain ⟨b, _, _, e, _⟩ := hb; cases e
          | arr => obtain ⟨b, _, _, e, _⟩ := hb; cases e
          | row => obtain ⟨A, cap, e, _⟩ := hb; cases e
          | gone => cases hb
          | hole => cases hb
          | frzn => obtain ⟨b, e⟩ := hb; cases e
          | ro => obtain ⟨b, _, _, e, _⟩ := hb; cases e
          | ban => exact (p4 rfl).elim
        · rw [q2] at hj; cases hj
      · rw [(miss j hmi hjl).2]; exact hj
  have hR : Ren Q σ (newT hp js) ⟨w', .ban :: rest, ρs'⟩ ⟨w', HP, RP⟩ := by
    refine ⟨rfl, fun d v hq hd => ?_, fun j i hi => ?_, fun j v0 t r _ ver ver' he hle => newT_ver he hle⟩
    · rcases hrep with hr | hr
      · exact hr d v hq _ _ _ _ hd
      · refine rep_mono (fun b hb => ⟨⟨hb.1, fun hbo => ?_⟩, rfl⟩) d v hd
        rcases hocc b hbo with g | ⟨g, g2⟩
        · exact hb.2 (occ_foot g)
        · have h0 := he.ban 0 F rfl
          exact hb.2 (mem_occ.2 (.inr (mem_bans.2 ⟨0, F, h0, hr b g g2⟩)))
    · obtain ⟨m, rfl, _⟩ := ly.over j i hi
      obtain ⟨o, loc, g1, g2, g3, g4, _⟩ := hit m i hi
      exact ⟨o, by show (Ob.ban :: rest)[m + 1]? = _; simpa using g1, g3, g4.trans g2.symm⟩
  refine ⟨⟨by show RP.length = HP.length; omega, fun x o loc hx hl => ?_, fun x y loc loc' b hx hy hf hf' => ?_, fun b hb => ?_, ?_, fun b hb => ?_⟩, hext, hR⟩
  · have hx : HP[x]? = some o := hx
    have hl : RP[x]? = some loc := hl
    have hxl : x < L.length := by rw [← hHl]; exact (List.getElem?_eq_some_iff.1 hx).1
    rcases cases_ x hxl with ⟨m, hm2⟩ | ⟨hmi, hxh⟩
    · obtain ⟨o', loc', g1, g2, g3, g4, g5, g6, g7, _⟩ := hit m x hm2
      rw [hx] at g3; cases g3
      rw [hl] at g4; cases g4
      exact obRel_ren hR hQi g7 (allOs_get hQ m o' g1) (fun t cells e => hdStorable_get hst m t cells (by rw [mapOs_get, g1, Option.map_some, Nat.add_comm 1 m, e])) g5
    · obtain ⟨k1, k2⟩ := miss x hmi hxh
      rw [k1] at hx; rw [k2] at hl
      refine obRel_ext hext (fun b hb => ?_) (hm.obs x o loc hx hl)
      exact hblock b (hm.bnd b (mem_foot.2 ⟨x, loc, hl, hb⟩)).1 (hfF x hxh hmi loc b hl hb)
  · have hx : RP[x]? = some loc := hx
    have hy : RP[y]? = some loc' := hy
    have hxl : x < L.length := by rw [← hRl]; exact (List.getElem?_eq_some_iff.1 hx).1
    have hyl : y < L.length := by rw [← hRl]; exact (List.getElem?_eq_some_iff.1 hy).1
    have mix : ∀ m x y loc loc', σ (m + 1) = some x → (∀ m, σ (m + 1) ≠ some y) → y < hp.length → RP[x]? = some loc → RP[y]? = some loc' → loc.foot = some b → loc'.foot = some b → False := fun m x y loc loc' h1 h2 h3 h4 h5 h6 h7 => by
      obtain ⟨o', l', g1, g2, g3, g4, _⟩ := hit m x h1
      rw [h4] at g4; cases g4
      have k2 := (miss y h2 h3).2
      rw [h5] at k2
      rcases (hsfoot b (mem_foot.2 ⟨m + 1, loc, g2, h6⟩)).2 with g | g
      · exact hfF y h3 h2 loc' b k2.symm h7 g
      · have := (hm.bnd b (mem_foot.2 ⟨y, loc', k2.symm, h7⟩)).1
        have : b < w.heap.size := this
        omega
    rcases cases_ x hxl with ⟨m, hm2⟩ | ⟨hmi, hxh⟩ <;> rcases cases_ y hyl with ⟨m', hm2'⟩ | ⟨hmi', hyh⟩
    · obtain ⟨o1, l1, g1, g2, g3, g4, _⟩ := hit m x hm2
      obtain ⟨o2, l2, k1, k2, k3, k4, _⟩ := hit m' y hm2'
      rw [hx] at g4; cases g4
      rw [hy] at k4; cases k4
      have := hs.nodup (m + 1) (m' + 1) loc loc' b g2 k2 hf hf'
      have : m = m' := by omega
      subst this
      rw [hm2] at hm2'; exact Option.some.inj hm2'
    · exact (mix m x y loc loc' hm2 hmi' hyh hx hy hf hf').elim
    · exact (mix m' y x loc' loc hm2' hmi hxh hy hx hf' hf).elim
    · have k1 := (miss x hmi hxh).2
      have k2 := (miss y hmi' hyh).2
      rw [hx] at k1; rw [hy] at k2
      exact hm.nodup x y loc loc' b k1.symm k2.symm hf hf'
  · rcases hfoot b hb with g | ⟨g, _⟩
    · obtain ⟨g1, g2⟩ := hsfoot b g
      exact ⟨g1, g2.imp h.foot_sub id⟩
    · exact ⟨Nat.lt_of_lt_of_le (hm.bnd b g).1 hsize, .inl g⟩
  · exact ⟨hs.fr.os, hs.fr.tape, hs.fr.output, hsize, fun b hb hF => hblock b hb fun g => hF (h.foot_sub g)⟩
  · have hb := hbans b hb
    refine ⟨Nat.lt_of_lt_of_le (hm.dis b hb).1 hsize, fun hf => ?_⟩
    rcases hfoot b hf with g | ⟨g, _⟩
    · rcases (hsfoot b g).2 with g | g
      · exact (hm.dis b hb).2 (h.foot_sub g)
      · have := (hm.dis b hb).1
        have : b < w.heap.size := this
        omega
    · exact (hm.dis b hb).2 g

theorem mem_finish {c1 : Cx} {w w' : World} {hp hp3 : List Ob} {ρ ρ3 : List Loc} {js : List Nat} {F : List Nat} (Q : D → Prop) (hm : Mem c1 ⟨w, hp, ρ⟩) (h : PartOf w hp ρ js)
    (hs : Mem ⟨w, obsOf hp js, .ban F :: subRho ρ js⟩ ⟨w', hp3, ρ3⟩) (he : Ext ⟨w, obsOf hp js, .ban F :: subRho ρ js⟩ ⟨w', hp3, ρ3⟩) (hQi : ∀ n d, Q (.int n d))
    (hrep : (∀ d v, Q d → ∀ w ok w2 ok2, d.rep w ok v → d.rep w2 ok2 v) ∨ ∀ b, b ∈ occ ρ → b ∉ foot (subRho ρ js) → b ∈ F) {pls : Nat} {pl : Option Nat} {k : SV → List Ob → Prop} {r : SV} {v : Value}
    (hk : memK pls pl hp js k r hp3) (hQr : allD Q r) (hQ : allOs Q hp3) (hd : den ⟨w', hp3, ρ3⟩ r v) :
    ∃ r2 hp2 ρ2, k r2 hp2 ∧ den ⟨w', hp2, ρ2⟩ r2 v ∧ Mem ⟨w, hp, ρ⟩ ⟨w', hp2, ρ2⟩ ∧ Ext ⟨w, hp, ρ⟩ ⟨w', hp2, ρ2⟩ := by
  unfold memK at hk
  split at hk
  · rename_i rest
    split at hk
    · rename_i hc
      simp only [Bool.and_eq_true] at hc
      obtain ⟨q1, q2, q3, q4⟩ := hc
      have ly := laid_of h (Nat.le_of_ble_eq_true q1) q2
      obtain ⟨m1, m2, m3⟩ := merge_mem hm h ly hs he q3 q4 hQi (by unfold allOs at hQ; exact hQ.2) hrep
      rw [forceV2_eq, forceH_eq, app_setAll] at hk
      exact ⟨_, _, _, hk, den_ren m3 r v hQr hd, m1, m2⟩
    · exact hk.elim
  · exact hk.elim
theorem obsOf_v0 (hp : List Ob) (js : List Nat) (j v : Nat) (t : TypeId) (r : RC) (h : (obsOf hp js)[j]? = some (.row v t r)) : v = 0 := by
  cases j with
  | zero => cases h
  | succ i =>
    unfold obsOf at h
    rw [List.getElem?_cons_succ, List.getElem?_map] at h
    cases e : js[i]? with
    | none => rw [e] at h; cases h
    | some j =>
      rw [e] at h
      obtain ⟨v0, h1, h2⟩ := mapO_row (Option.some.inj h)
      rw [h2]
      unfold subT
      rw [List.getD_eq_getElem?_getD] at h1
      cases e2 : hp[j]? with
      | none => rfl
      | some o =>
        rw [e2] at h1
        have h1 : o = .row v0 t r := h1
        subst h1
        simp only [Nat.beq_refl, cond_true, Option.getD_some]
theorem memSplit_some {cl : Bool} {hp obs : List Ob} {ks : List AK} {args xs : List SV} {js : List Nat} (h : memSplit cl hp ks args = some (xs, js, obs)) :
    js = grab hp ks args ∧ nodupB js = true ∧ grabOk hp js = true ∧ hdStorable (obsOf hp js) = true ∧ freeOk cl hp js ks args = true ∧ xs = memArgs hp js ks args ∧ obs = obsOf hp js := by
  unfold memSplit memSplitJ at h
  generalize grab hp ks args = js0 at h
  cases hc : (nodupB js0 && (grabOk hp js0 && (hdStorable (obsOf hp js0) && freeOk cl hp js0 ks args))) with
  | false => rw [hc] at h; cases h
  | true =>
    rw [hc] at h
    simp only [cond_true, Option.some.injEq, Prod.mk.injEq] at h
    obtain ⟨rfl, rfl, rfl⟩ := h
    simp only [Bool.and_eq_true] at hc
    exact ⟨rfl, hc.1, hc.2.1, hc.2.2.1, hc.2.2.2, rfl, rfl⟩
theorem memSpec_ok {ev : CallK} (hev : CallSound P ev) {f : FuncId} {cl : Bool} {pls : Nat} {ks : List AK} {body : List SV → List Ob → (SV → List Ob → Prop) → Prop} {nul : List (Nat × Nat × TypeId × RC)}
    (H : ∀ xs obs K, body xs obs K → ev f xs obs (outM cl nul obs.length K)) : SpecOK P f (memSpec cl pls ks body) := by
  intro pl args hp k h c1 w ρ vs hm hd
  rw [memSpec_ev] at h
  split at h
  · rename_i xs js obs hsp
    obtain ⟨_, hnd, hg, hst, hf, rfl, rfl⟩ := memSplit_some hsp
    have part := part_of hm hnd hg
    have hFs : ∃ F : List Nat, (∀ b ∈ F, b ∉ foot (subRho ρ js)) ∧ (∀ b ∈ F, b ∈ occ ρ) ∧ (cl = true → F = []) ∧ (cl = false → ∀ b, b ∈ occ ρ → b ∉ foot (subRho ρ js) → b ∈ F) := by
      cases cl with
      | true => exact ⟨[], fun b hb => (by cases hb), fun b hb => (by cases hb), fun _ => rfl, fun e => (by cases e)⟩
      | false =>
        refine ⟨(occ ρ).filter fun b => !(foot (subRho ρ js)).elem b, fun b hb hf => ?_, fun b hb => (List.mem_filter.1 hb).1, fun e => (by cases e), fun _ b h1 h2 => List.mem_filter.2 ⟨h1, by simpa using h2⟩⟩
        have := (List.mem_filter.1 hb).2
        simp only [Bool.not_eq_true', List.elem_eq_mem, decide_eq_false_iff_not] at this
        exact this hf
    obtain ⟨F, hF1, hF2, hF3, hF4⟩ := hFs
    obtain ⟨hms, R⟩ := sub_mem hm part hst hF1 hF2
    have hok : ∀ b, Cx.ok ⟨w, hp, ρ⟩ b → Cx.ok ⟨w, obsOf hp js, .ban F :: subRho ρ js⟩ b := fun b hb => ⟨hb.1, fun hbo => by
      rcases mem_occ.1 hbo with g | g
      · exact hb.2 (occ_foot (part.foot_sub g))
      · rcases List.mem_append.1 (show b ∈ F ++ bans (subRho ρ js) from g) with g | g
        · exact hb.2 (hF2 b g)
        · exact part.nobans g⟩
    have hds := memArgs_den (c := ⟨w, hp, ρ⟩) (c2 := ⟨w, obsOf hp js, .ban F :: subRho ρ js⟩) (cl := cl) hm rfl hok R (fun hcl j hj loc b hl hfb => ⟨(hm.bnd b (mem_foot.2 ⟨j, loc, hl, hfb⟩)).1, fun hbo => by
      rcases mem_occ.1 hbo with g | g
      · obtain ⟨i, loc', hi, hf'⟩ := mem_foot.1 (show b ∈ foot (subRho ρ js) from g)
        obtain ⟨j', hj', hjl⟩ := part.back i loc' hi
        have := hm.nodup j j' loc loc' b hl hjl hfb hf'
        subst this
        exact hj (List.mem_of_getElem? hj')
      · rcases List.mem_append.1 (show b ∈ F ++ bans (subRho ρ js) from g) with g | g
        · rw [hF3 hcl] at g; cases g
        · exact part.nobans g⟩) hf hd
    refine (hev f _ _ _ (H _ _ _ h) ⟨w, obsOf hp js, .ban F :: subRho ρ js⟩ w (.ban F :: subRho ρ js) vs hms hds).mono ?_
    rintro e w' ⟨v, r, hp', ρ', rfl, hout, hdr, hmem, hext⟩
    unfold outM at hout
    split at hout
    · rename_i hp2 hnul
      obtain ⟨ρ2, m2, e2⟩ := nulHp_mem hnul hmem
      rw [forceV2_eq, forceH_eq, gcK_eq] at hout
      split at hout
      · rename_i hc
        simp only [Bool.and_eq_true] at hc
        obtain ⟨q1, q2, q3, q4⟩ := hc
        obtain ⟨m3, e3, d3⟩ := gc_mem m2 (hext.trans e2) (by show (Loc.ban F :: subRho ρ js).length = (obsOf hp js).length; simp [subRho, obsOf]) (obsOf_v0 hp js) q1 q2 q3 q4
        have hd3 := d3 r v (den_ext e2 _ _ hdr)
        cases cl with
        | true =>
          obtain ⟨⟨p1, p2⟩, p3⟩ := hout
          obtain ⟨r2, hp4, ρ4, g1, g2, g3, g4⟩ := mem_finish (fun d => closedD d = true) hm part m3 e3 (fun _ _ => rfl) (.inl fun d v hq w ok w2 ok2 hr => closedD_rep hq hr) p3 p1 p2 hd3
          exact ⟨v, r2, hp4, ρ4, rfl, g1, g2, g3, g4⟩
        | false =>
          have hall : ∀ l : List Ob, allOs (fun _ => True) l := fun l => by
            induction l with
            | nil => trivial
            | cons o l ih => exact ⟨allO_true o, ih⟩
          obtain ⟨r2, hp4, ρ4, g1, g2, g3, g4⟩ := mem_finish (fun _ => True) hm part m3 e3 (fun _ _ => trivial) (.inr (hF4 rfl)) hout (allD_true _) (hall _) hd3
          exact ⟨v, r2, hp4, ρ4, rfl, g1, g2, g3, g4⟩
      · exact hout.elim
    · exact hout.elim
  · exact h.elim

/-! ## Such functions in regions that draw -/
def KM (E : (SV → List Ob → Prop) → Prop) : Prop := ∀ K : SV → List Ob → Prop, E K → ∃ r obs, K r obs ∧ ∀ K' : SV → List Ob → Prop, K' r obs → E K'
theorem km_ret (r : SV) (obs : List Ob) : KM (fun K => K r obs) := fun _ h => ⟨r, obs, h, fun _ h => h⟩
theorem km_false : KM (fun _ => False) := fun _ h => h.elim
theorem km_br {b : Bool} {E F : (SV → List Ob → Prop) → Prop} (h1 : KM E) (h2 : KM F) : KM (fun K => BR b (E K) (F K)) := by
  intro K h
  have h : BR b (E K) (F K) := h
  rw [BR_iff] at h
  cases b with
  | true =>
    obtain ⟨r, o, q1, q2⟩ := h1 K (h.1 rfl)
    exact ⟨r, o, q1, fun K' hk => BR_iff.2 ⟨fun _ => q2 K' hk, fun e => (by cases e)⟩⟩
  | false =>
    obtain ⟨r, o, q1, q2⟩ := h2 K (h.2 rfl)
    exact ⟨r, o, q1, fun K' hk => BR_iff.2 ⟨fun e => (by cases e), fun _ => q2 K' hk⟩⟩
theorem km_all {α : Type} {x : α} {E : α → (SV → List Ob → Prop) → Prop} (h : KM (E x)) : KM (fun K => ∀ y, y = x → E y K) := by
  intro K hE
  obtain ⟨r, o, q1, q2⟩ := h K (hE x rfl)
  exact ⟨r, o, q1, fun K' hk y hy => by rw [hy]; exact q2 K' hk⟩
theorem km_and {p : Prop} {E : (SV → List Ob → Prop) → Prop} (h : KM E) : KM (fun K => p ∧ E K) := by
  intro K hE
  obtain ⟨r, o, q1, q2⟩ := h K hE.2
  exact ⟨r, o, q1, fun K' hk => ⟨hE.1, q2 K' hk⟩⟩
theorem km_ite {p : Prop} [Decidable p] {E F : (SV → List Ob → Prop) → Prop} (h1 : KM E) (h2 : KM F) : KM (fun K => if p then E K else F K) := by
  by_cases hp : p
  · simp only [if_pos hp]; exact h1
  · simp only [if_neg hp]; exact h2
theorem addNew_sub : ∀ {l js : List Nat} {j : Nat}, j ∈ js → j ∈ addNew js l
  | [], _, _, h => h
  | x :: l, js, j, h => by
    unfold addNew
    cases js.elem x with
    | true => exact addNew_sub (l := l) h
    | false => exact addNew_sub (l := l) (List.mem_append_left _ h)
theorem closeJ_sub {hp : List Ob} : ∀ {f i : Nat} {js : List Nat} {j : Nat}, j ∈ js → j ∈ closeJ hp f i js
  | 0, _, _, _, h => h
  | f + 1, i, js, j, h => by
    unfold closeJ
    split
    · exact h
    · refine closeJ_sub (f := f) ?_
      split
      · exact addNew_sub h
      · exact h
theorem closeJ_agree {hp hp2 : List Ob} : ∀ {f i : Nat} {js : List Nat}, (∀ j ∈ closeJ hp f i js, hp2[j]? = hp[j]?) → closeJ hp2 f i js = closeJ hp f i js
  | 0, _, _, _ => rfl
  | f + 1, i, js, h => by
    unfold closeJ at h ⊢
    cases e : js[i]? with
    | none => rfl
    | some j =>
      rw [e] at h
      simp only at h ⊢
      have hj : hp2[j]? = hp[j]? := h j (closeJ_sub (by
        split
        · exact addNew_sub (List.mem_of_getElem? e)
        · exact List.mem_of_getElem? e))
      rw [hj]
      exact closeJ_agree h
theorem grabOk_agree {hp hp2 : List Ob} : ∀ {js : List Nat}, (∀ j ∈ js, hp2[j]? = hp[j]?) → grabOk hp2 js = grabOk hp js
  | [], _ => rfl
  | j :: js, h => by
    unfold grabOk
    rw [h j (by simp), grabOk_agree fun j hj => h j (List.mem_cons_of_mem _ hj)]
theorem subT_agree {hp hp2 : List Ob} {j v : Nat} (h : hp2[j]? = hp[j]?) : subT hp2 j v = subT hp j v := by unfold subT; rw [h]
theorem mapJ_agree {hp hp2 : List Ob} {js : List Nat} (h : ∀ j ∈ js, hp2[j]? = hp[j]?) {j i v : Nat} (e : subJ js j = some i) : subT hp2 j v = subT hp j v :=
  subT_agree (h j (List.mem_of_getElem? (idxJ_get e).2))
mutual
theorem mapV_agree {hp hp2 : List Ob} {js : List Nat} (h : ∀ j ∈ js, hp2[j]? = hp[j]?) : ∀ x : SV, mapV (subJ js) (subT hp2) x = mapV (subJ js) (subT hp) x
  | .view j v lo hi => by
    simp only [mapV]
    cases e : subJ js j with
    | none => rfl
    | some i => simp only [mapJ_agree h e]
  | .rptr j v m o => by
    simp only [mapV]
    cases e : subJ js j with
    | none => rfl
    | some i => simp only [mapJ_agree h e]
  | .clo f caps => by simp only [mapV]; rw [mapVs_agree h caps]
  | .agg xs => by simp only [mapV]; rw [mapVs_agree h xs]
  | .tuple xs => by simp only [mapV]; rw [mapVs_agree h xs]
  | .ptr j o => by simp only [mapV]
  | .aptr j m => by simp only [mapV]
  | .d _ | .undef | .dead | .nils | .nilp | .nili | .nilf | .nilm | .bptr .. | .eptr .. | .aggf .. => by simp only [mapV]
theorem mapVs_agree {hp hp2 : List Ob} {js : List Nat} (h : ∀ j ∈ js, hp2[j]? = hp[j]?) : ∀ xs : List SV, mapVs (subJ js) (subT hp2) xs = mapVs (subJ js) (subT hp) xs
  | [] => by simp only [mapVs]
  | x :: xs => by simp only [mapVs]; rw [mapV_agree h x, mapVs_agree h xs]
end
theorem obsOf_agree {hp hp2 : List Ob} {js : List Nat} (h : ∀ j ∈ js, hp2[j]? = hp[j]?) : obsOf hp2 js = obsOf hp js := by
  unfold obsOf
  congr 1
  refine List.map_congr_left fun j hj => ?_
  rw [List.getD_eq_getElem?_getD, List.getD_eq_getElem?_getD, h j hj]
  cases hp[j]?.getD .hole with
  | fix t cells => simp only [mapO]; rw [mapVs_agree h cells]
  | row v t c => simp only [mapO]; rw [subT_agree (h j hj)]
  | _ => rfl
theorem freeOk_agree {refs : List Nat} {hp hp2 : List Ob} (h : Agree refs hp hp2) {cl : Bool} {js : List Nat} : ∀ {xs : List SV} {ks : List AK}, (∀ x ∈ xs, ∀ j ∈ refsV x, j ∈ refs) → freeOk cl hp2 js ks xs = freeOk cl hp js ks xs
  | [], _, _ => rfl
  | x :: xs, ks, hr => by
    unfold freeOk
    rw [frz_agree h _ (hr x (by simp)), freeOk_agree h fun y hy => hr y (List.mem_cons_of_mem _ hy)]
theorem memArgs_agree {refs : List Nat} {hp hp2 : List Ob} (h : Agree refs hp hp2) {js : List Nat} (hj : ∀ j ∈ js, hp2[j]? = hp[j]?) : ∀ {xs : List SV} {ks : List AK}, (∀ x ∈ xs, ∀ j ∈ refsV x, j ∈ refs) → memArgs hp2 js ks xs = memArgs hp js ks xs
  | [], _, _ => rfl
  | x :: xs, ks, hr => by
    unfold memArgs
    rw [frz_agree h _ (hr x (by simp)), mapV_agree hj, memArgs_agree h hj fun y hy => hr y (List.mem_cons_of_mem _ hy)]
theorem memSplit_agree {refs : List Nat} {hp hp2 : List Ob} (h : Agree refs hp hp2) {cl : Bool} {ks : List AK} {args : List SV} (hargs : ∀ x ∈ args, ∀ j ∈ refsV x, j ∈ refs) (hft : ∀ j ∈ grab hp ks args, j ∈ refs) : memSplit cl hp2 ks args = memSplit cl hp ks args := by
  have hg : ∀ j ∈ grab hp ks args, hp2[j]? = hp[j]? := fun j hj => h j (hft j hj)
  have e1 : grab hp2 ks args = grab hp ks args := closeJ_agree hg
  unfold memSplit memSplitJ
  rw [e1, grabOk_agree hg, obsOf_agree hg, freeOk_agree h hargs, memArgs_agree h hg hargs]
theorem memδ_mem {σ : Nat → Option Nat} : ∀ {rest : List Ob} {i j : Nat} {ob : Ob}, (j, ob) ∈ memδ σ i rest → ∃ m, m < rest.length ∧ σ (i + m) = some j
  | [], _, _, _, h => by cases h
  | o :: rest, i, j, ob, h => by
    unfold memδ at h
    cases e : σ i with
    | none =>
      rw [e] at h
      obtain ⟨m, h1, h2⟩ := memδ_mem h
      exact ⟨m + 1, by simp; omega, by rw [← h2]; congr 1; omega⟩
    | some x =>
      rw [e] at h
      simp only [List.mem_cons, Prod.mk.injEq] at h
      rcases h with ⟨rfl, _⟩ | h
      · exact ⟨0, by simp, by rw [Nat.add_zero]; exact e⟩
      · obtain ⟨m, h1, h2⟩ := memδ_mem h
        exact ⟨m + 1, by simp; omega, by rw [← h2]; congr 1; omega⟩
theorem holesAt_agree {hp hp2 : List Ob} {π : Nat} : ∀ {m : Nat}, (∀ t, t < m → hp2[π + t]? = hp[π + t]?) → holesAt hp2 π m = holesAt hp π m
  | 0, _ => rfl
  | m + 1, h => by
    unfold holesAt
    rw [h m (by omega), holesAt_agree fun t ht => h t (by omega)]
theorem memSpec_calm {cl : Bool} {pls : Nat} {ks : List AK} {body : List SV → List Ob → (SV → List Ob → Prop) → Prop} (hb : ∀ xs obs, KM (body xs obs)) : SpecCalm (memSpec cl pls ks body) := by
  intro π args hp refs wr hπ hargs hft k h
  have hag : ∀ hp2, Agree refs hp hp2 → memSplit cl hp2 ks args = memSplit cl hp ks args := fun hp2 hag => memSplit_agree hag hargs fun j hj => (hft j hj).1
  rw [memSpec_ev] at h
  dsimp only [memSpec] at hft hπ
  simp only [memSpec_ev]
  cases hsp : memSplit cl hp ks args with
  | none => rw [hsp] at h; exact h.elim
  | some p =>
    obtain ⟨xs, js, obs⟩ := p
    rw [hsp] at h
    simp only at h
    obtain ⟨rfl, _⟩ := memSplit_some hsp
    obtain ⟨r, obs', hk, hd⟩ := hb _ _ _ h
    unfold memK at hk
    split at hk
    · rename_i rest
      split at hk
      · rename_i hc
        rw [forceV2_eq, forceH_eq] at hk
        have hc' := hc
        simp only [Bool.and_eq_true, plsOk] at hc'
        obtain ⟨q1, ⟨q2, q3⟩, q4, q5⟩ := hc'
        have hm1 := Nat.le_of_ble_eq_true q2
        refine ⟨_, _, ⟨fun j ob hj => ?_, fun hp2 k2 hagr hk2 => ?_⟩, hk⟩
        · obtain ⟨m, h1, h2⟩ := memδ_mem hj
          rw [mapOs_length] at h1
          rw [Nat.add_comm 1 m] at h2
          simp only [newIdx] at h2
          cases hb1 : Nat.blt m (grab hp ks args).length with
          | true =>
            rw [hb1] at h2
            exact (hft j (List.mem_of_getElem? h2)).2
          | false =>
            rw [hb1] at h2
            simp only [cond_false, blt_t (show m + 1 < rest.length + 1 by omega), cond_true, Option.some.injEq, plIdx] at h2
            rw [← h2]
            have hb2 : ¬ m < (grab hp ks args).length := fun hh => by rw [blt_t hh] at hb1; cases hb1
            exact (hπ (m - (grab hp ks args).length) (by omega)).2
        · show match memSplit cl hp2 ks args with
            | some (xs, js, obs) => body xs obs (memK pls (some π) hp2 js k2)
            | none => False
          rw [hag hp2 hagr, hsp]
          refine hd _ ?_
          show if (Nat.ble (grab hp ks args).length rest.length && (plsOk pls (some π) hp2 (rest.length - (grab hp ks args).length) && (notBan rest && hdStorable (mapOs (newIdx (some π) hp2 (grab hp ks args) (rest.length + 1)) (newT hp2 (grab hp ks args)) 1 rest)))) = true then
              forceV2 (mapV (newIdx (some π) hp2 (grab hp ks args) (rest.length + 1)) (newT hp2 (grab hp ks args)) r) fun r => forceH (app (memδ (newIdx (some π) hp2 (grab hp ks args) (rest.length + 1)) 1 (mapOs (newIdx (some π) hp2 (grab hp ks args) (rest.length + 1)) (newT hp2 (grab hp ks args)) 1 rest)) (plBase (some π) hp2 (rest.length - (grab hp ks args).length))) fun hp' => k2 r hp' else False
          have e3 : newT hp2 (grab hp ks args) = newT hp (grab hp ks args) := by
            funext i v
            unfold newT
            cases ei : (grab hp ks args)[i - 1]? with
            | none => rfl
            | some j => simp only [hagr j (hft j (List.mem_of_getElem? ei)).1]
          have e1 : newIdx (some π) hp2 (grab hp ks args) (rest.length + 1) = newIdx (some π) hp (grab hp ks args) (rest.length + 1) := by
            funext i
            cases i <;> rfl
          have e2 : plsOk pls (some π) hp2 (rest.length - (grab hp ks args).length) = plsOk pls (some π) hp (rest.length - (grab hp ks args).length) := by
            simp only [plsOk]
            rw [holesAt_agree fun t ht => hagr _ (hπ t (by omega)).1]
          rw [e1, e2, e3, if_pos hc, forceV2_eq, forceH_eq]
          exact hk2
      · exact hk.elim
    · exact hk.elim
end
end Go.Proofs.Ytmadffhjgbpojaa.Sx

/- Sx: loops, code, functions. -/
import Derived.Test.YtmadffhjgbpojaaSxDraw
namespace Go.Proofs.Ytmadffhjgbpojaa.Sx
open Go
section
variable {P : Program}

/-! ## Heads -/
theorem isGone_some' {o : Option Ob} (h : isGone o = true) : o = some .gone := by
  unfold isGone at h
  split at h
  · rfl
  · cases h
theorem eqv_rep {w : World} {ok : Nat → Prop} {a b : D} {v : Value} (h : D.eqv a b) (hr : a.rep w ok v) : b.rep w ok v := by
  unfold D.eqv at h
  split at h
  · split at h
    · subst h; rename_i hk; subst hk; exact hr
    · exact h.elim
  · subst h; exact hr
  · subst h; exact hr
  · subst h; exact hr
  · obtain ⟨rfl, rfl, hg⟩ := h
    obtain ⟨A, c, rfl, h1, h2, h3⟩ := hr
    refine ⟨A, c, rfl, h1, h2, fun hp => ?_⟩
    obtain ⟨b, o, hA, hb, hc⟩ := h3 hp
    refine ⟨b, o, hA, hb, fun i hi j hj => ?_⟩
    obtain ⟨u, hu, hr'⟩ := hc i hi j hj
    exact ⟨u, hu, by rw [← hg i hi j hj]; exact hr'⟩
  · obtain ⟨rfl, rfl⟩ := h
    obtain ⟨A, c, rfl, h1, h2, h3⟩ := hr
    exact ⟨A, c, rfl, h1, h2, fun hp => absurd hp (by simp)⟩
  · obtain ⟨rfl, rfl⟩ := h
    obtain ⟨A, c, rfl, h1, h2, h3⟩ := hr
    exact ⟨A, c, rfl, h1, h2, fun hp => absurd hp (by simp)⟩
  · exact h.elim
theorem RC.eqv_len {a b : RC} (h : a.eqv b) : a.len = b.len ∧ a.sz = b.sz ∧ ∀ i, i < a.len → ∀ j, j < a.sz → a.cell i j = b.cell i j := by
  unfold RC.eqv at h
  split at h
  · subst h; exact ⟨rfl, rfl, fun _ _ _ _ => rfl⟩
  · obtain ⟨rfl, rfl, hg⟩ := h; exact ⟨rfl, rfl, hg⟩
  · exact h.elim
theorem leObs_get {hp hp' : List Ob} : ∀ {xs ys : List Ob}, leObs hp hp' xs ys → ∀ (j : Nat) (y : Ob), ys[j]? = some y → ∃ x, xs[j]? = some x ∧ leOb hp hp' x y
  | _, [], _, j, y, hy => by simp at hy
  | [], _ :: _, h, _, _, _ => h.elim
  | x :: xs, y :: ys, h, j, z, hz => by
    unfold leObs at h
    cases j with
    | zero => simp at hz; subst hz; exact ⟨x, rfl, h.1⟩
    | succ j => simp at hz ⊢; exact leObs_get h.2 j z hz
theorem leObs_length {hp hp' : List Ob} : ∀ {xs ys : List Ob}, leObs hp hp' xs ys → ys.length ≤ xs.length
  | _, [], _ => by simp
  | [], _ :: _, h => h.elim
  | x :: xs, y :: ys, h => by
    unfold leObs at h
    have := leObs_length h.2
    simp; exact this
/-- Where the objects of a head lie. -/
def rhoOf : List Loc → List Ob → List Loc
  | _, [] => []
  | [], _ :: _ => []
  | l :: ρ, o :: hp => (if isGone (some o) = true then .none else l) :: rhoOf ρ hp
theorem rhoOf_get : ∀ {ρ : List Loc} {hp : List Ob} (j : Nat), hp.length ≤ ρ.length → (rhoOf ρ hp)[j]? = (match hp[j]? with | some o => (if isGone (some o) = true then some Loc.none else ρ[j]?) | none => none)
  | ρ, [], j, _ => by cases ρ <;> simp [rhoOf]
  | [], o :: hp, j, h => by simp at h
  | l :: ρ, o :: hp, j, h => by
    cases j with
    | zero => simp [rhoOf]; split <;> rfl
    | succ j => simp only [rhoOf, List.getElem?_cons_succ]; exact rhoOf_get j (by simpa using h)
theorem rhoOf_length : ∀ {ρ : List Loc} {hp : List Ob}, hp.length ≤ ρ.length → (rhoOf ρ hp).length = hp.length
  | ρ, [], _ => by cases ρ <;> rfl
  | [], o :: hp, h => by simp at h
  | l :: ρ, o :: hp, h => by simp only [rhoOf, List.length_cons]; rw [rhoOf_length (by simpa using h)]
structure HeadCx (c : Cx) (hp' : List Ob) : Prop where
  len : c.ρ.length = c.hp.length
  obs : leObs c.hp hp' c.hp hp'
  mem : ∀ (j : Nat) (ob : Ob) (loc : Loc), c.hp[j]? = some ob → c.ρ[j]? = some loc → obRel c ob loc
  nodup : ∀ (i j : Nat) (loc loc' : Loc) (b : Nat), c.ρ[i]? = some loc → c.ρ[j]? = some loc' → loc.foot = some b → loc'.foot = some b → i = j
  dis : ∀ b, b ∈ bans c.ρ → b < c.w.heap.size ∧ b ∉ foot c.ρ
def headOf (c : Cx) (hp' : List Ob) : Cx := ⟨c.w, hp', rhoOf c.ρ hp'⟩
theorem HeadCx.rho {c : Cx} {hp' : List Ob} (h : HeadCx c hp') {j : Nat} {o : Ob} (hj : hp'[j]? = some o) (hg : isGone (some o) = false) : (headOf c hp').ρ[j]? = c.ρ[j]? := by
  have := rhoOf_get (ρ := c.ρ) (hp := hp') j (by rw [h.len]; exact leObs_length h.obs)
  rw [hj] at this
  simp only [hg, Bool.false_eq_true, if_false] at this
  exact this
theorem HeadCx.foot_sub {c : Cx} {hp' : List Ob} (h : HeadCx c hp') {b : Nat} (hb : b ∈ foot (headOf c hp').ρ) : ∃ (j : Nat) (o : Ob) (loc : Loc), hp'[j]? = some o ∧ isGone (some o) = false ∧ c.ρ[j]? = some loc ∧ loc.foot = some b := by
  obtain ⟨j, loc, hj, hf⟩ := mem_foot.1 hb
  have e := rhoOf_get (ρ := c.ρ) (hp := hp') j (by rw [h.len]; exact leObs_length h.obs)
  rw [show (rhoOf c.ρ hp')[j]? = some loc from hj] at e
  cases ho : hp'[j]? with
  | none => rw [ho] at e; cases e
  | some o =>
    rw [ho] at e
    simp only at e
    split at e
    · cases e; cases hf
    · rename_i hg
      exact ⟨j, o, loc, ho, by simpa using hg, e.symm, hf⟩
theorem HeadCx.bans_sub {c : Cx} {hp' : List Ob} (h : HeadCx c hp') {b : Nat} (hb : b ∈ bans (headOf c hp').ρ) : b ∈ bans c.ρ := by
  refine Sx.bans_sub (fun j F hj => ?_) hb
  have e := rhoOf_get (ρ := c.ρ) (hp := hp') j (by rw [h.len]; exact leObs_length h.obs)
  rw [show (rhoOf c.ρ hp')[j]? = some (.ban F) from hj] at e
  cases ho : hp'[j]? with
  | none => rw [ho] at e; cases e
  | some o =>
    rw [ho] at e
    simp only at e
    split at e
    · cases e
    · exact e.symm
theorem HeadCx.ok {c : Cx} {hp' : List Ob} (h : HeadCx c hp') {b : Nat} (hb : c.ok b) : (headOf c hp').ok b :=
  ⟨hb.1, fun hm => by
    rcases mem_occ.1 hm with hm | hm
    · obtain ⟨j, o, loc, _, _, h3, h4⟩ := h.foot_sub hm
      exact hb.2 (occ_foot (mem_foot.2 ⟨j, loc, h3, h4⟩))
    · exact hb.2 (mem_occ.2 (.inr (h.bans_sub hm)))⟩
theorem HeadCx.rep {c : Cx} {hp' : List Ob} (h : HeadCx c hp') {d : D} {v : Value} (hd : d.rep c.w c.ok v) : d.rep (headOf c hp').w (headOf c hp').ok v :=
  rep_mono (fun b hb => ⟨h.ok hb, rfl⟩) d v hd
mutual
theorem leSV_sound {c : Cx} {hp' : List Ob} (h : HeadCx c hp') : ∀ (x y : SV) (v : Value), leSV c.hp hp' x y → den c x v → den (headOf c hp') y v := by
  intro x y v hl hd
  unfold leSV at hl
  split at hl
  · unfold den; trivial
  · unfold den at hd ⊢; exact h.rep (eqv_rep hl hd)
  · unfold den at hd ⊢; exact hd
  · unfold den at hd ⊢; exact hd
  · unfold den at hd ⊢; exact hd
  · unfold den at hd ⊢; exact hd
  · unfold den at hd ⊢; exact hd
  · unfold den at hd ⊢; exact hd
  · subst hl
    unfold den at hd ⊢
    exact ⟨none, 0, hd, by simp, by unfold maxLen; omega, fun hp => absurd hp (by simp)⟩
  · subst hl
    unfold den at hd ⊢
    exact ⟨none, 0, hd, by simp, by unfold maxLen; omega, fun hp => absurd hp (by simp)⟩
  · rename_i j ver lo hi j' ver' lo' hi'
    split at hl
    · rename_i hc
      obtain ⟨rfl, hv, hv'⟩ := hc
      obtain ⟨rfl, rfl⟩ := hl
      unfold isVer at hv hv'
      split at hv
      · rename_i v0 t0 r0 hj
        split at hv'
        · rename_i v1 t1 r1 hj'
          have hv : v0 = ver := by simpa using hv
          have hv' : v1 = ver' := by simpa using hv'
          subst hv; subst hv'
          obtain ⟨x, hx, hob⟩ := leObs_get h.obs j _ hj'
          rw [hj] at hx
          cases hx
          unfold leOb at hob
          simp only at hob
          split at hob
          · obtain ⟨e1, e2, e3⟩ := RC.eqv_len hob
            have hra : rowAt c.hp j v0 = some r0 := by unfold rowAt; rw [hj]; simp
            obtain ⟨ty0, A, cap, hj2, l1, l2, hlc, hh⟩ := den_view hd hra
            exact view_den (c := headOf c hp') hj' l1 (by omega) ((h.rho hj' rfl).trans hlc) (by rw [← e2]; exact hh)
          · exact hob.elim
        · cases hv'
      · cases hv
    · exact hl.elim
  · rename_i j ver lo hi y'
    split at hl
    · rename_i hg
      split at hl
      · rename_i r0 hra
        obtain ⟨ty0, A, cap, hj, l1, l2, hlc, A', rfl, hA⟩ := den_view hd hra
        obtain ⟨A2, cap2, he, g1, g2, g3, g4, g5⟩ := h.mem j _ _ hj hlc
        cases he
        unfold den
        refine eqv_rep hl ?_
        -- the row's block is nobody's any more
        have hokb : ∀ b o, A = some (b, o) → b < c.w.heap.size → (headOf c hp').ok b := by
          intro b o hAo hb
          refine ⟨hb, fun hm => ?_⟩
          rcases mem_occ.1 hm with hm | hm
          rotate_left
          · exact (h.dis b (h.bans_sub hm)).2 (mem_foot.2 ⟨j, _, hlc, by rw [hAo]; rfl⟩)
          obtain ⟨i, o', loc, q1, q2, q3, q4⟩ := h.foot_sub hm
          have := h.nodup i j loc _ b q3 hlc q4 (by rw [hAo]; rfl)
          subst this
          have hgo := isGone_some' hg
          rw [q1] at hgo
          cases hgo
          cases q2
        have hblk : ∀ b o, A = some (b, o) → b < c.w.heap.size := by
          intro b o hAo
          obtain ⟨cs, fr, q1, _⟩ := g5 b o hAo
          exact (Array.getElem?_eq_some_iff.1 q1).1
        have hlen : (r0.sub lo hi).len = hi - lo := sub_len l2
        cases hrc : r0.sub lo hi with
        | bytes l =>
          rw [hrc] at hlen
          have hln : l.length = hi - lo := hlen
          refine ⟨A', cap - lo, by rw [hln], by rw [hln]; omega, by omega, fun hp => ?_⟩
          obtain ⟨b, o, rfl, rfl⟩ := hA (by omega)
          obtain ⟨cs, fr, q1, _, _, q4⟩ := g5 b o rfl
          have hs1 : r0.sz = 1 := by rw [← sub_sz (r := r0) (lo := lo) (hi := hi), hrc]; rfl
          refine ⟨b, o + lo * r0.sz, rfl, hokb b o rfl (hblk b o rfl), fun i hi' => ?_⟩
          obtain ⟨u, hu, hr'⟩ := q4 (lo + i) (by omega) 0 (by omega)
          have hce := sub_cell (r := r0) (lo := lo) (hi := hi) (i := i) (j := 0) (by omega)
          rw [hrc] at hce
          rw [← hce] at hr'
          show c.w.cell? _ = _
          rw [cell?_of q1, hs1]
          rw [hs1] at hu
          have : u = .int .u8 ((l.getD i 0).toNat : Int) := hr'
          rw [← this, ← hu]
          congr 1; omega
        | list sz n g =>
          rw [hrc] at hlen
          have hln : n = hi - lo := hlen
          refine ⟨A', cap - lo, by rw [hln], by omega, by omega, fun hp => ?_⟩
          obtain ⟨b, o, rfl, rfl⟩ := hA (by omega)
          obtain ⟨cs, fr, q1, _, _, q4⟩ := g5 b o rfl
          have hs1 : r0.sz = sz := by rw [← sub_sz (r := r0) (lo := lo) (hi := hi), hrc]; rfl
          refine ⟨b, o + lo * r0.sz, rfl, hokb b o rfl (hblk b o rfl), fun i hi' j' hj' => ?_⟩
          obtain ⟨u, hu, hr'⟩ := q4 (lo + i) (by omega) j' (by omega)
          have hce := sub_cell (r := r0) (lo := lo) (hi := hi) (i := i) (j := j') (by omega)
          rw [hrc] at hce
          rw [← hce] at hr'
          refine ⟨u, ?_, h.rep hr'⟩
          show c.w.cell? _ = _
          rw [cell?_of q1, ← hu, ← hs1, Nat.add_mul]
          congr 1; omega
      · exact hl.elim
    · exact hl.elim
  · rename_i j o j' o'
    split at hl
    · rename_i hc
      obtain ⟨rfl, rfl, hb⟩ := hc
      obtain ⟨b, hb', rfl⟩ := den_ptr hd
      unfold isBlk at hb
      split at hb
      · rename_i hj'; exact ptr_den (c := headOf c hp') ((congrArg (·.bind Loc.ptrAt) (h.rho hj' rfl)).trans hb')
      · rename_i hj'; exact ptr_den (c := headOf c hp') ((congrArg (·.bind Loc.ptrAt) (h.rho hj' rfl)).trans hb')
      · rename_i hj'; exact ptr_den (c := headOf c hp') ((congrArg (·.bind Loc.ptrAt) (h.rho hj' rfl)).trans hb')
      · rename_i hj'; exact ptr_den (c := headOf c hp') ((congrArg (·.bind Loc.ptrAt) (h.rho hj' rfl)).trans hb')
      · cases hb
    · exact hl.elim
  · rename_i f caps f' caps'
    split at hl
    · rename_i hf
      subst hf
      unfold den at hd ⊢
      obtain ⟨vs, rfl, hv⟩ := hd
      exact ⟨vs, rfl, leSVs_sound h caps caps' vs hl hv⟩
    · exact hl.elim
  · rename_i xs ys
    unfold den at hd ⊢
    obtain ⟨vs, rfl, hv⟩ := hd
    exact ⟨vs, rfl, leSVs_sound h xs ys vs hl hv⟩
  · rename_i xs ys
    unfold den at hd ⊢
    obtain ⟨vs, rfl, hv⟩ := hd
    exact ⟨vs, rfl, leSVs_sound h xs ys vs hl hv⟩
  · obtain ⟨rfl, hg⟩ := hl
    unfold den at hd ⊢
    obtain ⟨vs, rfl, hl', hv⟩ := hd
    refine ⟨vs, rfl, hl', fun i hi => ?_⟩
    obtain ⟨u, hu, hr⟩ := hv i hi
    exact ⟨u, hu, by rw [← hg i hi]; exact h.rep hr⟩
  · exact hl.elim
theorem leSVs_sound {c : Cx} {hp' : List Ob} (h : HeadCx c hp') : ∀ (xs ys : List SV) (vs : List Value), leSVs c.hp hp' xs ys → dens c xs vs → dens (headOf c hp') ys vs
  | [], [], vs, _, hd => by unfold dens at hd ⊢; exact hd
  | x :: xs, y :: ys, vs, hl, hd => by
    unfold leSVs at hl
    unfold dens at hd
    obtain ⟨u, us, rfl, h1, h2⟩ := hd
    exact dens_cons (leSV_sound h x y u hl.1 h1) (leSVs_sound h xs ys us hl.2 h2)
  | [], _ :: _, _, hl, _ => by unfold leSVs at hl; exact hl.elim
  | _ :: _, [], _, hl, _ => by unfold leSVs at hl; exact hl.elim
end

theorem storable_le {hp hp' : List Ob} : ∀ {x y : SV}, leSV hp hp' x y → storable x = true → y ≠ .dead → storable y = true := by
  intro x y h hs hne
  cases y <;> first | rfl | exact (hne rfl).elim | (cases x <;> first | (cases hs; done) | (unfold leSV at h; exact h.elim))
theorem leOb_sound {c : Cx} {hp' : List Ob} (h : HeadCx c hp') {x y : Ob} {loc : Loc} (hl : leOb c.hp hp' x y) (hr : obRel c x loc) (hst : ∀ t cells, y = .fix t cells → ∀ z ∈ cells, storable z = true) :
    obRel (headOf c hp') y (if isGone (some y) = true then .none else loc) := by
  unfold leOb at hl
  split at hl
  · rfl
  · rfl
  · obtain ⟨b, rfl⟩ := hr; exact ⟨b, rfl⟩
  · obtain ⟨F, rfl⟩ := hr; exact ⟨F, rfl⟩
  · rename_i t cs t' cs'
    split at hl
    · rename_i ht
      subst ht
      obtain ⟨b, cells, fr, rfl, h1, h2, h3⟩ := hr
      exact ⟨b, cells, fr, rfl, h.ok h1, h2, leSVs_sound h _ _ _ hl h3⟩
    · exact hl.elim
  · rfl
  · rename_i t cs t' cs'
    split at hl
    · rename_i ht
      subst ht
      obtain ⟨b, cells, fr, rfl, h1, h2, h3, h4⟩ := hr
      exact ⟨b, cells, fr, rfl, h1, h2, leSVs_sound h _ _ _ hl h3, hst _ _ rfl⟩
    · exact hl.elim
  · split at hl
    · rename_i ht
      subst ht
      obtain ⟨rfl, hg⟩ := hl
      obtain ⟨b, cells, fr, rfl, h1, h2, h3, h4⟩ := hr
      refine ⟨b, cells, fr, rfl, h1, h2, h3, fun i hi => ?_⟩
      obtain ⟨u, hu, hr'⟩ := h4 i hi
      exact ⟨u, hu, by rw [← hg i hi]; exact h.rep hr'⟩
    · exact hl.elim
  · split at hl
    · rename_i ht
      subst ht
      obtain ⟨e1, e2, e3⟩ := RC.eqv_len hl
      obtain ⟨A, cap, rfl, h1, h2, h3, h4, h5⟩ := hr
      refine ⟨A, cap, rfl, by omega, h2, by omega, h4, fun b o hA => ?_⟩
      obtain ⟨cs, fr, q1, q2, q3, q4⟩ := h5 b o hA
      refine ⟨cs, fr, q1, q2, by rw [← e2]; exact q3, fun i hi j hj => ?_⟩
      obtain ⟨u, hu, hr'⟩ := q4 i (by omega) j (by omega)
      exact ⟨u, by rw [← e2]; exact hu, by rw [← e3 i (by omega) j (by omega)]; exact h.rep hr'⟩
    · exact hl.elim
  · exact hl.elim
theorem hdStorable_get : ∀ {hp : List Ob}, hdStorable hp = true → ∀ (j : Nat) t cells, hp[j]? = some (.fix t cells) → ∀ z ∈ cells, storable z = true
  | [], _, j, t, cells, hj => by simp at hj
  | o :: hp, h, j, t, cells, hj => by
    cases j with
    | zero =>
      simp at hj; subst hj
      simp only [hdStorable, Bool.and_eq_true] at h
      exact fun z hz => List.all_eq_true.1 h.1 z hz
    | succ j =>
      simp at hj
      refine hdStorable_get (hp := hp) ?_ j t cells hj
      cases o <;> simp only [hdStorable, Bool.and_eq_true] at h <;> first | exact h | exact h.2
theorem verOk_get : ∀ {e hp hp' : List Ob}, verOk e hp hp' = true → ∀ (j : Nat) v t r vn tn rn v' t' r', e[j]? = some (.row v t r) → hp[j]? = some (.row vn tn rn) → hp'[j]? = some (.row v' t' r') → v < v' ∨ vn = v'
  | [], _, _, _, j, _, _, _, _, _, _, _, _, _, h, _, _ => by simp at h
  | _ :: _, [], _, _, j, _, _, _, _, _, _, _, _, _, _, h, _ => by simp at h
  | _ :: _, _ :: _, [], _, j, _, _, _, _, _, _, _, _, _, _, _, h => by simp at h
  | a :: e, b :: hp, d :: hp', h, j, v, t, r, vn, tn, rn, v', t', r', h1, h2, h3 => by
    cases j with
    | zero =>
      simp at h1 h2 h3; subst h1; subst h2; subst h3
      simp only [verOk, Bool.and_eq_true, Bool.or_eq_true, decide_eq_true_eq] at h
      exact h.1
    | succ j =>
      simp at h1 h2 h3
      refine verOk_get (e := e) (hp := hp) (hp' := hp') ?_ j v t r vn tn rn v' t' r' h1 h2 h3
      cases a <;> cases b <;> cases d <;> simp only [verOk, Bool.and_eq_true] at h <;> first | exact h | exact h.2
theorem leSlots_get {hp hp' : List Ob} {tm : List SV} : ∀ {sl : List (Nat × SV)}, leSlots hp hp' tm sl → ∀ i, slotAt i sl = .dead ∨ leSV hp hp' (tm.getD i .dead) (slotAt i sl)
  | [], _, i => .inl rfl
  | (j, y) :: rest, h, i => by
    unfold leSlots at h
    unfold slotAt
    split
    · rename_i hij; subst hij; exact .inr h.1
    · exact leSlots_get h.2 i
theorem le_sound {cE : Cx} (hE : cE.ρ.length = cE.hp.length) {ρ : List Loc} {σ : St} {a : Act} {w : World} {hd : Hd} (hr : Rel cE ρ σ a w) (hl : le cE.hp σ hd) :
    ∃ ρ', Rel cE ρ' (Hd.st σ.tm.length hd) a w := by
  unfold le at hl
  split at hl
  · rename_i hc
    obtain ⟨hv, hlen, hst⟩ := hc
    obtain ⟨hs, ho⟩ := hl
    have H : HeadCx ⟨w, σ.hp, ρ⟩ hd.2 := ⟨hr.mem.len, ho, hr.mem.obs, hr.mem.nodup, hr.mem.dis⟩
    have hle : hd.2.length ≤ ρ.length := by rw [show ρ.length = σ.hp.length from hr.mem.len]; exact leObs_length ho
    refine ⟨rhoOf ρ hd.2, hr.defers, ?_, ⟨?_, ?_, ?_, ?_, ?_, fun b hb => ⟨(hr.mem.dis b (H.bans_sub hb)).1, fun hf => ?_⟩⟩, ⟨?_, ?_, ?_, ?_, ?_, ?_, ?_⟩⟩
    · -- the slots
      have hl' := dens_length hr.tm
      refine dens_of_get (by simp [Hd.st]; simpa using hl') fun i x v hx hv' => ?_
      have hi : i < σ.tm.length := by
        have := (List.getElem?_eq_some_iff.1 hx).1
        simpa [Hd.st] using this
      simp only [Hd.st, List.getElem?_map, List.getElem?_range hi, Option.map_some, Option.some.injEq] at hx
      subst hx
      obtain ⟨v2, hv2, hd2⟩ := dens_get hr.tm i σ.tm[i] (List.getElem?_eq_getElem hi)
      rw [hv'] at hv2
      cases hv2
      rcases leSlots_get hs i with h | h
      · rw [h]; unfold den; trivial
      · have hg : σ.tm.getD i .dead = σ.tm[i] := by simp [List.getD, hi]
        rw [hg] at h
        exact leSV_sound H _ _ v h hd2
    · exact rhoOf_length hle
    · intro j ob loc hj hlj
      obtain ⟨x, hx, hob⟩ := leObs_get ho j ob hj
      have hjr : j < ρ.length := by rw [show ρ.length = σ.hp.length from hr.mem.len]; exact (List.getElem?_eq_some_iff.1 hx).1
      have := leOb_sound H hob (hr.mem.obs j x ρ[j] hx (List.getElem?_eq_getElem hjr)) (fun t cells e => hdStorable_get hst j t cells (e ▸ hj))
      have e := rhoOf_get (ρ := ρ) (hp := hd.2) j hle
      rw [show hd.2[j]? = some ob from hj] at e
      rw [show (rhoOf ρ hd.2)[j]? = some loc from hlj] at e
      simp only at e
      split at e
      · rename_i hg; cases e; rw [if_pos hg] at this; exact this
      · rename_i hg
        rw [List.getElem?_eq_getElem hjr] at e
        cases e
        rw [if_neg hg] at this; exact this
    · intro i j loc loc' b h1 h2 h3 h4
      have key : ∀ (i : Nat) (loc : Loc), (rhoOf ρ hd.2)[i]? = some loc → loc.foot = some b → ρ[i]? = some loc := by
        intro i loc h hf
        have e := rhoOf_get (ρ := ρ) (hp := hd.2) i hle
        rw [h] at e
        cases hq : hd.2[i]? with
        | none => rw [hq] at e; cases e
        | some o =>
          rw [hq] at e
          simp only at e
          split at e
          · cases e; cases hf
          · exact e.symm
      exact hr.mem.nodup i j loc loc' b (key i loc h1 h3) (key j loc' h2 h4) h3 h4
    · intro b hb
      obtain ⟨j, o, loc, _, _, h3, h4⟩ := H.foot_sub hb
      exact hr.mem.bnd b (mem_foot.2 ⟨j, loc, h3, h4⟩)
    · exact hr.mem.fr
    · obtain ⟨j, o, loc, _, _, h3, h4⟩ := H.foot_sub hf
      exact (hr.mem.dis b (H.bans_sub hb)).2 (mem_foot.2 ⟨j, loc, h3, h4⟩)
    · intro b hb
      obtain ⟨h1, h2⟩ := hr.ext.ok b hb
      exact ⟨H.ok h1, h2⟩
    · show cE.hp.length ≤ hd.2.length; omega
    · intro j b hj
      have h1 := hr.ext.blk j b hj
      obtain ⟨loc, hloc, hat⟩ : ∃ loc, ρ[j]? = some loc ∧ loc.ptrAt = some b := by
        cases e : ρ[j]? with
        | none => rw [show (⟨w, σ.hp, ρ⟩ : Cx).ρ[j]? = ρ[j]? from rfl, e] at h1; cases h1
        | some l => rw [show (⟨w, σ.hp, ρ⟩ : Cx).ρ[j]? = ρ[j]? from rfl, e] at h1; exact ⟨l, rfl, h1⟩
      have hjE : j < hd.2.length := by
        have h3 : j < cE.ρ.length := by
          rcases Nat.lt_or_ge j cE.ρ.length with h | h
          · exact h
          · rw [List.getElem?_eq_none h] at hj; cases hj
        omega
      have hq : hd.2[j]? = some hd.2[j] := List.getElem?_eq_getElem hjE
      obtain ⟨x, hx, hob⟩ := leObs_get ho j _ hq
      have hrx := hr.mem.obs j x _ hx hloc
      have hng : isGone (some hd.2[j]) = false := by
        cases hy : hd.2[j] with
        | gone =>
          rw [hy] at hob
          cases x with
          | fix => exact hob.elim
          | arr => exact hob.elim
          | row => obtain ⟨A, cap, e, _⟩ := hrx; subst e; cases hat
          | gone => cases hrx; cases hat
          | hole => cases hrx; cases hat
          | frzn => exact hob.elim
          | ban => exact hob.elim
          | ro => exact hob.elim
        | _ => rfl
      have h5 := H.rho hq hng
      show ((rhoOf ρ hd.2)[j]?).bind Loc.ptrAt = _
      rw [show (rhoOf ρ hd.2)[j]? = ρ[j]? from h5, hloc]
      exact hat
    · intro j t n g hj
      obtain ⟨g', h1⟩ := hr.ext.arr j t n g hj
      have hjE : j < hd.2.length := Nat.lt_of_lt_of_le (List.getElem?_eq_some_iff.1 hj).1 hlen
      have hq : hd.2[j]? = some hd.2[j] := List.getElem?_eq_getElem hjE
      obtain ⟨x, hx, hob⟩ := leObs_get ho j _ hq
      rw [h1] at hx
      cases hx
      cases hy : hd.2[j] with
      | arr t2 n2 g2 =>
        rw [hy] at hob
        simp only [leOb] at hob
        split at hob
        · rename_i ht
          subst ht
          obtain ⟨rfl, _⟩ := hob
          exact ⟨g2, by show hd.2[j]? = _; rw [hq, hy]⟩
        · exact hob.elim
      | _ => rw [hy] at hob; exact hob.elim
    · intro j hjl hj
      have hq : hd.2[j]? = some .hole := hj
      obtain ⟨x, hx, hob⟩ := leObs_get ho j _ hq
      cases x <;> exact hob.elim
    · intro j v' t' r' hjl hne hj
      have hq : hd.2[j]? = some (.row v' t' r') := hj
      obtain ⟨x, hx, hob⟩ := leObs_get ho j _ hq
      cases x with
      | row vn tn rn =>
        obtain ⟨v, t, r, h1, h2, h3⟩ := hr.ext.row j vn tn rn hjl hne hx
        simp only [leOb] at hob
        split at hob
        · rename_i ht
          obtain ⟨e1, e2, _⟩ := RC.eqv_len hob
          rcases verOk_get hv j v t r vn tn rn v' t' r' h1 hx hq with h | h
          · exact ⟨v, t, r, h1, by omega, fun he => by omega⟩
          · subst h
            refine ⟨v, t, r, h1, h2, fun he => ?_⟩
            obtain ⟨q1, q2, q3⟩ := h3 he
            refine ⟨?_, by omega, by omega⟩
            exact (H.rho hq rfl).trans q1
        · exact hob.elim
      | _ => exact hob.elim
    · intro j F hj
      have h1 := hr.ext.ban j F hj
      have hjE : j < hd.2.length := by
        have h3 : j < cE.ρ.length := (List.getElem?_eq_some_iff.1 hj).1
        omega
      have hq : hd.2[j]? = some hd.2[j] := List.getElem?_eq_getElem hjE
      obtain ⟨x, hx, hob⟩ := leObs_get ho j _ hq
      have hrx := hr.mem.obs j x _ hx h1
      have hng : isGone (some hd.2[j]) = false := by
        cases hy : hd.2[j] with
        | gone =>
          rw [hy] at hob
          cases x with
          | fix => exact hob.elim
          | arr => exact hob.elim
          | row => obtain ⟨A, cap, e, _⟩ := hrx; cases e
          | gone => cases hrx
          | hole => cases hrx
          | frzn => exact hob.elim
          | ban => exact hob.elim
          | ro => exact hob.elim
        | _ => rfl
      exact (H.rho hq hng).trans h1
  · exact hl.elim

/-! ## Loops -/
def LoopAt (P : Program) (c : Code) (Q : Exit → Act → World → Prop) (a : Act) (w : World) : Prop :=
  ∀ (b : Frame) (k : List Item) (cs : List Frame), ∃ e a' w', Q e a' w' ∧ Arrives P (lone (b.at a (.code c :: .inLoop c :: k)) cs w) b k cs e a' w'
theorem loop_of_at {c : Code} {Q : Exit → Act → World → Prop} {a : Act} {w : World} (h : LoopAt P c Q a w) : (Code.loop c).wp P Q a w := by
  intro b k cs
  obtain ⟨e, a', w', hq, harr⟩ := h b k cs
  exact ⟨e, a', w', hq, .of_steps (.one step_loop) harr⟩
theorem loopAt_step {c : Code} {Q : Exit → Act → World → Prop} {a : Act} {w : World} (h : c.wp P (Exit.then (LoopAt P c Q) Q) a w) : LoopAt P c Q a w := by
  intro b k cs
  obtain ⟨e, a₁, w₁, hq, harr⟩ := h b (.inLoop c :: k) cs
  cases e with
  | normal =>
    obtain ⟨e₂, a₂, w₂, hq₂, harr₂⟩ := hq b k cs
    exact ⟨e₂, a₂, w₂, hq₂, .of_steps (Steps.trans harr (.one step_inLoop)) harr₂⟩
  | exit id => exact ⟨_, a₁, w₁, hq, .pass (x := .inLoop c) rfl (fun _ _ => .inl (by simp)) harr⟩
  | goto l => exact ⟨_, a₁, w₁, hq, .pass (x := .inLoop c) rfl (fun _ _ => .inl (by simp)) harr⟩
  | ret => exact ⟨_, a₁, w₁, hq, .pass (x := .inLoop c) rfl (fun _ _ => .inl (by simp)) harr⟩
  | panic ch => exact ⟨_, a₁, w₁, hq, .pass (x := .inLoop c) rfl (fun _ _ => .inl (by simp)) harr⟩
  | outgrown => exact ⟨_, a₁, w₁, hq, .pass (x := .inLoop c) rfl (fun _ _ => .inl (by simp)) harr⟩
theorem Rel.start {c0 : Cx} {ρ : List Loc} {σ : St} {a : Act} {w : World} (hr : Rel c0 ρ σ a w) : Rel ⟨w, σ.hp, ρ⟩ ρ σ a w :=
  ⟨hr.defers, hr.tm, hr.mem.start, Ext.refl _⟩
theorem Rel.up {c0 c1 : Cx} {ρ : List Loc} {σ : St} {a : Act} {w : World} (hm : Mem c0 c1) (he : Ext c0 c1) (hr : Rel c1 ρ σ a w) : Rel c0 ρ σ a w :=
  ⟨hr.defers, hr.tm, hm.trans hr.mem, he.trans hr.ext⟩
/-- An own row that holds nothing, for a nil. -/
theorem nul_row {c0 c : Cx} (hm : Mem c0 c) (e : TypeId) {rc : RC} (hl : rc.len = 0) (hs : 0 < rc.sz) {v : Value} (hv : den c .nils v) :
    Mem c0 ⟨c.w, c.hp ++ [.row 0 e rc], c.ρ ++ [.row none 0]⟩ ∧ Ext c ⟨c.w, c.hp ++ [.row 0 e rc], c.ρ ++ [.row none 0]⟩ ∧ den ⟨c.w, c.hp ++ [.row 0 e rc], c.ρ ++ [.row none 0]⟩ (.view c.hp.length 0 0 0) v := by
  obtain ⟨q1, q2⟩ := new_mem hm (ob := .row 0 e rc) (loc := .row none 0) (w' := c.w) rfl rfl rfl (Nat.le_refl _) (fun _ _ => rfl) (fun b hb => by cases hb) rfl
    (fun _ => ⟨none, 0, rfl, by omega, by unfold maxLen; omega, hs, fun _ => rfl, fun b o h => by cases h⟩)
  refine ⟨q1, q2, view_den (t := e) (r := rc) (A := none) (cap := 0) (by simp) (Nat.le_refl _) (Nat.zero_le _) (by rw [← hm.len]; simp) ?_⟩
  unfold den at hv
  exact ⟨none, hv, fun h => by omega⟩
theorem nul_cell {c0 : Cx} {w : World} {hp : List Ob} {ρ : List Loc} (hm : Mem c0 ⟨w, hp, ρ⟩) {j i : Nat} {ty : TypeId} {cells : List SV} (hj : hp[j]? = some (.fix ty cells)) (hi : cells.getD i .dead = .nils) (e : TypeId) {rc : RC} (hl : rc.len = 0) (hs : 0 < rc.sz) :
    Mem c0 ⟨w, hp.set j (.fix ty (cells.set i (.view hp.length 0 0 0))) ++ [.row 0 e rc], ρ ++ [.row none 0]⟩ ∧ Ext ⟨w, hp, ρ⟩ ⟨w, hp.set j (.fix ty (cells.set i (.view hp.length 0 0 0))) ++ [.row 0 e rc], ρ ++ [.row none 0]⟩ := by
  have hi2 : cells[i]? = some .nils := by
    rw [List.getD_eq_getElem?_getD] at hi
    cases hx : cells[i]? with
    | none => rw [hx] at hi; cases hi
    | some x => rw [hx] at hi; exact congrArg some hi
  have hjl : j < hp.length := (List.getElem?_eq_some_iff.1 hj).1
  have hlen : ρ.length = hp.length := hm.len
  obtain ⟨loc, hloc⟩ : ∃ loc, ρ[j]? = some loc := ⟨ρ[j]'(by omega), List.getElem?_eq_getElem (by omega)⟩
  obtain ⟨b, cs, fr, rfl, hb, hu, hd, hst⟩ := hm.obs j _ _ hj hloc
  obtain ⟨v, hv, hdv⟩ := dens_get hd i _ hi2
  obtain ⟨q1, q2⟩ := new_mem hm (ob := .row 0 e rc) (loc := .row none 0) (w' := w) rfl rfl rfl (Nat.le_refl _) (fun _ _ => rfl) (fun b hb => by cases hb) rfl
    (fun _ => ⟨none, 0, rfl, by omega, by unfold maxLen; omega, hs, fun _ => rfl, fun b o h => by cases h⟩)
  have hj1 : (hp ++ [Ob.row 0 e rc])[j]? = some (.fix ty cells) := by rw [List.getElem?_append_left hjl]; exact hj
  have hl1 : (ρ ++ [Loc.row none 0])[j]? = some (.blk b) := by rw [List.getElem?_append_left (by omega)]; exact hloc
  have hset : (hp ++ [Ob.row 0 e rc]).set j (.fix ty (cells.set i (.view hp.length 0 0 0))) = hp.set j (.fix ty (cells.set i (.view hp.length 0 0 0))) ++ [.row 0 e rc] := by
    rw [List.set_append_left _ _ hjl]
  obtain ⟨cs2, fr2, hcs⟩ : ∃ cs2 fr2, w.heap[b]? = some (.cells cs2 ty fr2) := ⟨cs, fr, hb⟩
  have hupd : Upd w b cs ty fr w := ⟨rfl, rfl, rfl, rfl, hb, fun _ _ => rfl⟩
  obtain ⟨r1, r2⟩ := upd_mem (c := ⟨w, hp ++ [Ob.row 0 e rc], ρ ++ [Loc.row none 0]⟩) q1 hj1 hl1 rfl hupd (ob' := .fix ty (cells.set i (.view hp.length 0 0 0))) trivial (fun he => by
    refine ⟨b, cs, fr, rfl, hb, hu, ?_, fun x hx => ?_⟩
    · have hview : den ⟨w, (hp ++ [Ob.row 0 e rc]).set j (.fix ty (cells.set i (.view hp.length 0 0 0))), ρ ++ [Loc.row none 0]⟩ (.view hp.length 0 0 0) v := by
        refine den_ext he _ _ (view_den (t := e) (r := rc) (A := none) (cap := 0) (by simp) (Nat.le_refl _) (Nat.zero_le _) (by rw [← hlen]; simp) ?_)
        unfold den at hdv
        exact ⟨none, hdv, fun h => by omega⟩
      have h1 := dens_set (dens_ext he _ _ (dens_ext q2 _ _ hd)) i hview
      have hset : cs.toList.set i v = cs.toList := by
        apply List.ext_getElem?
        intro m
        rw [List.getElem?_set]
        split
        · rename_i hm; subst hm
          have := (List.getElem?_eq_some_iff.1 hv).1
          simp only [this, if_true]
          exact hv.symm
        · rfl
      rw [hset] at h1
      exact h1
    · rcases List.mem_or_eq_of_mem_set hx with h | h
      · exact hst x h
      · subst h; rfl)
  rw [hset] at r1 r2
  exact ⟨r1, q2.trans r2⟩
theorem nul_sound : ∀ {nul : List (Nat × TypeId × RC)} {c0 : Cx} {ρ : List Loc} {σ σ1 : St} {a : Act} {w : World}, nulSt nul σ = some σ1 → Rel c0 ρ σ a w → ∃ ρ1, Rel c0 ρ1 σ1 a w
  | [], c0, ρ, σ, σ1, a, w, h, hr => by cases h; exact ⟨ρ, hr⟩
  | (i, e, c) :: rest, c0, ρ, σ, σ1, a, w, h, hr => by
    unfold nulSt at h
    split at h
    · rename_i hi
      split at h
      · rename_i hc
        have hi2 : σ.tm[i]? = some .nils := by
          rw [List.getD_eq_getElem?_getD] at hi
          cases hx : σ.tm[i]? with
          | none => rw [hx] at hi; cases hi
          | some x => rw [hx] at hi; exact congrArg some hi
        obtain ⟨v, hv, hd⟩ := dens_get hr.tm i _ hi2
        obtain ⟨q1, q2, q3⟩ := nul_row hr.mem e hc.1 hc.2 hd
        have hset : a.tmps.toList.set i v = a.tmps.toList := by
          apply List.ext_getElem?
          intro m
          rw [List.getElem?_set]
          split
          · rename_i hm; subst hm
            have := (List.getElem?_eq_some_iff.1 hv).1
            simp only [this, if_true]
            exact hv.symm
          · rfl
        refine nul_sound h ⟨hr.defers, ?_, q1, hr.ext.trans q2⟩
        have := dens_set (dens_ext q2 _ _ hr.tm) i q3
        rw [hset] at this
        exact this
      · cases h
    · cases h
theorem nulHp_sound : ∀ {nul : List (Nat × Nat × TypeId × RC)} {c0 : Cx} {ρ : List Loc} {tm : List SV} {hp hp1 : List Ob} {a : Act} {w : World}, nulHp nul hp = some hp1 → Rel c0 ρ ⟨tm, hp⟩ a w → ∃ ρ1, Rel c0 ρ1 ⟨tm, hp1⟩ a w
  | [], c0, ρ, tm, hp, hp1, a, w, h, hr => by cases h; exact ⟨ρ, hr⟩
  | (j, i, e, c) :: rest, c0, ρ, tm, hp, hp1, a, w, h, hr => by
    unfold nulHp at h
    split at h
    · rename_i ty cells hj
      split at h
      · rename_i hi
        split at h
        · rename_i hc
          obtain ⟨q1, q2⟩ := nul_cell hr.mem hj hi e hc.1 hc.2
          exact nulHp_sound h ⟨hr.defers, dens_ext q2 _ _ hr.tm, q1, hr.ext.trans q2⟩
        · cases h
      · exact nulHp_sound h hr
    · cases h
theorem nulHp_mem : ∀ {nul : List (Nat × Nat × TypeId × RC)} {c0 : Cx} {w : World} {hp hp1 : List Ob} {ρ : List Loc}, nulHp nul hp = some hp1 → Mem c0 ⟨w, hp, ρ⟩ → ∃ ρ1, Mem c0 ⟨w, hp1, ρ1⟩ ∧ Ext ⟨w, hp, ρ⟩ ⟨w, hp1, ρ1⟩
  | [], c0, w, hp, hp1, ρ, h, hm => by cases h; exact ⟨ρ, hm, Ext.refl _⟩
  | (j, i, e, c) :: rest, c0, w, hp, hp1, ρ, h, hm => by
    unfold nulHp at h
    split at h
    · rename_i ty cells hj
      split at h
      · rename_i hi
        split at h
        · rename_i hc
          obtain ⟨q1, q2⟩ := nul_cell hm hj hi e hc.1 hc.2
          obtain ⟨ρ1, g1, g2⟩ := nulHp_mem h q1
          exact ⟨ρ1, g1, q2.trans g2⟩
        · cases h
      · exact nulHp_mem h hm
    · cases h
/-- What a code does, for whatever it began with. -/
def CodeSound (P : Program) (ev : St → (Exit → St → Prop) → Prop) (c : Code) : Prop :=
  ∀ (c0 : Cx) (σ : St) (K : Exit → St → Prop) (ρ : List Loc) (a : Act) (w : World) (Q : Exit → Act → World → Prop), ev σ K → Rel c0 ρ σ a w → (∀ e σ' ρ' a' w', K e σ' → Rel c0 ρ' σ' a' w' → Q e a' w') → c.wp P Q a w
theorem evLoopN_sound {ev : St → (Exit → St → Prop) → Prop} {c : Code} (hc : CodeSound P ev c) : ∀ (n : Nat) (c0 : Cx) (σ : St) (K : Exit → St → Prop) (ρ : List Loc) (a : Act) (w : World) (Q : Exit → Act → World → Prop),
    evLoopN ev n σ K → Rel c0 ρ σ a w → (∀ e σ' ρ' a' w', K e σ' → Rel c0 ρ' σ' a' w' → Q e a' w') → LoopAt P c Q a w
  | 0, _, _, _, _, _, _, _, h, _, _ => h.elim
  | n + 1, c0, σ, K, ρ, a, w, Q, h, hr, hq => by
    unfold evLoopN at h
    refine loopAt_step (hc c0 σ _ ρ a w _ h hr fun e σ' ρ' a' w' hK hr' => ?_)
    cases e with
    | normal => exact evLoopN_sound hc n c0 σ' K ρ' a' w' Q hK hr' hq
    | exit id => exact hq _ _ _ _ _ hK hr'
    | goto l => exact hq _ _ _ _ _ hK hr'
    | ret => exact hq _ _ _ _ _ hK hr'
    | panic ch => exact hq _ _ _ _ _ hK hr'
    | outgrown => exact hq _ _ _ _ _ hK hr'
theorem ann_sound {ev : St → (Exit → St → Prop) → Prop} {c : Code} (hc : CodeSound P ev c) (A : LoopAnn) {c0 : Cx} {σ : St} {K : Exit → St → Prop} {ρ : List Loc} {a : Act} {w : World} {Q : Exit → Act → World → Prop}
    (hs : ∃ s, le σ.hp σ (A.head s))
    (hround : ∀ s, ev (Hd.st σ.tm.length (A.head s)) fun e σ' => match e with | .normal => if σ'.tm.length = σ.tm.length then ∃ s', A.μ s' < A.μ s ∧ le σ.hp σ' (A.head s') else False | e => K e σ')
    (hr : Rel c0 ρ σ a w) (hq : ∀ e σ' ρ' a' w', K e σ' → Rel c0 ρ' σ' a' w' → Q e a' w') : LoopAt P c Q a w := by
  have hm0 := hr.mem
  have he0 := hr.ext
  have hlen : (⟨w, σ.hp, ρ⟩ : Cx).ρ.length = (⟨w, σ.hp, ρ⟩ : Cx).hp.length := hr.mem.len
  have key : ∀ (n : Nat) (s : A.S), A.μ s = n → ∀ (ρ' : List Loc) (a' : Act) (w' : World), Rel ⟨w, σ.hp, ρ⟩ ρ' (Hd.st σ.tm.length (A.head s)) a' w' → LoopAt P c Q a' w' := by
    intro n
    induction n using Nat.strongRecOn with
    | _ n ih =>
      intro s hn ρ' a' w' hr'
      refine loopAt_step (hc ⟨w, σ.hp, ρ⟩ _ _ ρ' a' w' _ (hround s) hr' fun e σ2 ρ2 a2 w2 hK hr2 => ?_)
      cases e with
      | normal =>
        simp only at hK
        split at hK
        rotate_left
        · exact hK.elim
        rename_i hl2
        obtain ⟨s', hlt, hle⟩ := hK
        obtain ⟨ρ3, hr3⟩ := le_sound hlen hr2 hle
        rw [hl2] at hr3
        exact ih (A.μ s') (by omega) s' rfl ρ3 a2 w2 hr3
      | exit id => exact hq _ _ _ _ _ hK (hr2.up hm0 he0)
      | goto l => exact hq _ _ _ _ _ hK (hr2.up hm0 he0)
      | ret => exact hq _ _ _ _ _ hK (hr2.up hm0 he0)
      | panic ch => exact hq _ _ _ _ _ hK (hr2.up hm0 he0)
      | outgrown => exact hq _ _ _ _ _ hK (hr2.up hm0 he0)
  obtain ⟨s, hle⟩ := hs
  obtain ⟨ρ', hr'⟩ := le_sound hlen hr.start hle
  exact key _ s rfl ρ' a w hr'

/-! ## Code -/
theorem evCode_sound {Γ : FuncId → Option Spec} (hΓ : GammaOK P Γ) {callK : CallK} (hcall : CallSound P callK) (ann : Nat → List SV → List Ob → Option LoopAnn) (fuel : Nat) : ∀ c : Code, CodeSound P (evCode P Γ callK ann fuel c) c := by
  intro c
  induction c with
  | skip => intro c0 σ K ρ a w Q h hr hq; exact wp_skip (hq _ _ _ _ _ h hr)
  | label l => intro c0 σ K ρ a w Q h hr hq; exact wp_label (hq _ _ _ _ _ h hr)
  | region id ops draw =>
    intro c0 σ K ρ a w Q h hr hq
    unfold evCode at h
    split at h
    · rename_i hd
      have hd : draw = true := hd
      subst hd
      exact evRegion_sound hΓ h hr fun σ' ρ' a' w' hK hr' => hq _ _ _ _ _ hK hr'
    · rename_i hd
      have hd : draw = false := by simpa using hd
      subst hd
      exact wp_region_list (evOps_sound hcall _ σ _ ρ a w h hr fun σ' ρ' a' w' hK hr' => hq _ _ _ _ _ hK hr')
  | seq x y ihx ihy =>
    intro c0 σ K ρ a w Q h hr hq
    unfold evCode at h
    split at h
    · refine wp_seq (ihx c0 σ _ ρ a w _ h hr fun e σ' ρ' a' w' hK hr' => ?_)
      cases e with
      | normal => exact ihy c0 σ' K ρ' a' w' Q hK hr' hq
      | exit id => exact hq _ _ _ _ _ hK hr'
      | goto l => exact hq _ _ _ _ _ hK hr'
      | ret => exact hq _ _ _ _ _ hK hr'
      | panic ch => exact hq _ _ _ _ _ hK hr'
      | outgrown => exact hq _ _ _ _ _ hK hr'
    · rename_i A hA
      obtain ⟨h1, h2⟩ := h
      simp only [forceSt_eq] at h2
      have hm0 := hr.mem
      have he0 := hr.ext
      have hlen : (⟨w, σ.hp, ρ⟩ : Cx).ρ.length = (⟨w, σ.hp, ρ⟩ : Cx).hp.length := hr.mem.len
      refine wp_seq (ihx ⟨w, σ.hp, ρ⟩ σ _ ρ a w _ h1 hr.start fun e σ' ρ' a' w' hK hr' => ?_)
      cases e with
      | normal =>
        simp only at hK
        split at hK
        · rename_i hl2
          obtain ⟨s, hle⟩ := hK
          obtain ⟨ρ3, hr3⟩ := le_sound hlen hr' hle
          rw [hl2] at hr3
          exact ihy ⟨w, σ.hp, ρ⟩ _ K ρ3 a' w' Q (h2 s) hr3 fun e σ' ρ' a' w' hK hr' => hq _ _ _ _ _ hK (hr'.up hm0 he0)
        · exact hK.elim
      | exit id => exact hq _ _ _ _ _ hK (hr'.up hm0 he0)
      | goto l => exact hq _ _ _ _ _ hK (hr'.up hm0 he0)
      | ret => exact hq _ _ _ _ _ hK (hr'.up hm0 he0)
      | panic ch => exact hq _ _ _ _ _ hK (hr'.up hm0 he0)
      | outgrown => exact hq _ _ _ _ _ hK (hr'.up hm0 he0)
  | cond c x y ihx ihy =>
    intro c0 σ K ρ a w Q h hr hq
    unfold evCode at h
    split at h
    · rename_i b hb
      have hx := den_opd hr.tm c
      rw [hb] at hx
      have hx := den_bool hx
      rw [BR_iff] at h
      cases b with
      | true => exact wp_cond_true hx (ihx c0 σ K ρ a w Q (h.1 rfl) hr hq)
      | false => exact wp_cond_false hx (ihy c0 σ K ρ a w Q (h.2 rfl) hr hq)
    · exact h.elim
  | block id c ih =>
    intro c0 σ K ρ a w Q h hr hq
    unfold evCode at h
    refine wp_block (ih c0 σ _ ρ a w _ h hr fun e σ' ρ' a' w' hK hr' => ?_)
    cases e with
    | normal => exact hq _ _ _ _ _ hK hr'
    | exit i =>
      simp only at hK
      simp only [Exit.inBlock]
      split at hK
      · rename_i hi; rw [if_pos hi]; exact hq _ _ _ _ _ hK hr'
      · rename_i hi; rw [if_neg hi]; exact hq _ _ _ _ _ hK hr'
    | goto l => exact hq _ _ _ _ _ hK hr'
    | ret => exact hq _ _ _ _ _ hK hr'
    | panic ch => exact hq _ _ _ _ _ hK hr'
    | outgrown => exact hq _ _ _ _ _ hK hr'
  | loop c ih =>
    intro c0 σ K ρ a w Q h hr hq
    unfold evCode at h
    split at h
    · rename_i A hA
      split at h
      · rename_i σ1 hσ
        split at h
        · rename_i hp1 hhp
          obtain ⟨h1, h2⟩ := h
          simp only [forceSt_eq] at h2
          obtain ⟨ρ1, hr1⟩ := nul_sound hσ hr
          obtain ⟨ρ2, hr2⟩ := nulHp_sound (tm := σ1.tm) (hp := σ1.hp) hhp hr1
          exact loop_of_at (ann_sound ih A h1 h2 hr2 hq)
        · exact h.elim
      · exact h.elim
    · exact loop_of_at (evLoopN_sound ih fuel c0 σ K ρ a w Q h hr hq)
  | exit id => intro c0 σ K ρ a w Q h hr hq; exact wp_exit (hq _ _ _ _ _ h hr)
  | ret => intro c0 σ K ρ a w Q h hr hq; exact wp_ret (hq _ _ _ _ _ h hr)
  | rangeFunc => intro c0 σ K ρ a w Q h; exact h.elim
  | scope => intro c0 σ K ρ a w Q h; exact h.elim
  | goto => intro c0 σ K ρ a w Q h; exact h.elim
  | refuse => intro c0 σ K ρ a w Q h; exact h.elim

/-! ## Functions -/
theorem evRes_sound {c0 : Cx} {ρ : List Loc} {σ : St} {a : Act} {w : World} (hr : Rel c0 ρ σ a w) : ∀ (l : List ResultVar) (k : List SV → Prop), evRes P σ l k →
    ∃ vs rs, (l.mapM fun | .tmp t => pure (a.tmps.getD t undef) | .cell x t => do loadVar t (← asAddr (a.tmps.getD x undef)) : Sem (List Value)).run P w = .ok vs w ∧ k rs ∧ dens ⟨w, σ.hp, ρ⟩ rs vs
  | [], k, h => ⟨[], [], rfl, h, dens_nil⟩
  | .tmp t :: rest, k, h => by
    unfold evRes at h
    obtain ⟨vs, rs, h1, h2, h3⟩ := evRes_sound hr rest _ h
    have hd := dens_getD hr.tm t
    refine ⟨_ :: vs, _, ?_, h2, dens_cons hd h3⟩
    simp only [List.mapM_cons, Sem.run_bind, Sem.run_pure, Result.andThen_ok]
    rw [h1]
    simp [Array.getD_eq_getD_getElem?]
  | .cell x t :: rest, k, h => by
    unfold evRes at h
    have hd := dens_getD hr.tm x
    obtain ⟨u, r, g1, g2, g3⟩ := evLoad_sound hr.mem h hd
    obtain ⟨vs, rs, h1, h2, h3⟩ := evRes_sound hr rest _ g2
    refine ⟨u :: vs, _, ?_, h2, dens_cons g3 h3⟩
    have e : a.tmps.toList.getD x undef = a.tmps.getD x undef := by simp [Array.getD_eq_getD_getElem?, List.getD]
    rw [e] at g1
    have g1' : (do loadVar t (← asAddr (a.tmps.getD x undef)) : Sem Value).run P w = .ok u w := by
      generalize a.tmps.getD x undef = y at g1 ⊢
      cases y with
      | pointer p =>
        cases p with
        | none => simp [Instr.loadAt, Instr.sureAddr] at g1
        | some p => simpa [Instr.loadAt, Instr.sureAddr, asAddr] using g1
      | _ => simp [Instr.loadAt, Instr.sureAddr] at g1
    simp only [List.mapM_cons, Sem.run_bind, Result.andThen_ok] at g1' ⊢
    rw [g1']
    simp only [Result.andThen_ok, h1, Sem.run_pure]
theorem oneSV_den {c : Cx} {rs : List SV} {vs : List Value} (h : dens c rs vs) : den c (oneSV rs) (if h : (⟨vs⟩ : Array Value).size = 1 then (⟨vs⟩ : Array Value)[0] else .tuple ⟨vs⟩) := by
  have hl := dens_length h
  match rs, vs, hl with
  | [], [], _ => unfold oneSV den; exact ⟨[], rfl, h⟩
  | [x], [v], _ =>
    unfold dens at h
    obtain ⟨u, us, e, h1, _⟩ := h
    cases e
    exact h1
  | x :: y :: rs, v :: u :: vs, _ =>
    have : ¬ (⟨v :: u :: vs⟩ : Array Value).size = 1 := by simp
    rw [dif_neg this]
    unfold oneSV den
    exact ⟨_, rfl, h⟩
theorem evBody_sound {Γ : FuncId → Option Spec} (hΓ : GammaOK P Γ) {callK : CallK} (hcall : CallSound P callK) {ann : Nat → List SV → List Ob → Option LoopAnn} {fuel : Nat} {f : FuncId} {fn : Func} (hf : P.funcs[f]? = some fn) {args : List SV} {hp : List Ob} {k : SV → List Ob → Prop}
    (h : evBody P Γ callK ann fuel fn args hp k) {c1 : Cx} {w : World} {ρ : List Loc} {vs : List Value} (hm : Mem c1 ⟨w, hp, ρ⟩) (hd : dens ⟨w, hp, ρ⟩ args vs) :
    Calls P f ⟨vs⟩ w fun e w' => ∃ v r hp' ρ', e = .returned v ∧ k r hp' ∧ den ⟨w', hp', ρ'⟩ r v ∧ Mem ⟨w, hp, ρ⟩ ⟨w', hp', ρ'⟩ ∧ Ext ⟨w, hp, ρ⟩ ⟨w', hp', ρ'⟩ := by
  unfold evBody at h
  simp only [forceSt_eq] at h
  split at h
  · rename_i c hc
    refine calls_of_wp hf hc ?_
    have hl := dens_length hd
    have hr : Rel ⟨w, hp, ρ⟩ ρ ⟨args ++ List.replicate (fn.ntmps - args.length) .undef, hp⟩ { tmps := (⟨vs⟩ : Array Value) ++ Array.replicate (fn.ntmps - (⟨vs⟩ : Array Value).size) undef, defers := [] } w := by
      refine ⟨rfl, ?_, hm.start, Ext.refl _⟩
      have : ((⟨vs⟩ : Array Value) ++ Array.replicate (fn.ntmps - (⟨vs⟩ : Array Value).size) undef).toList = vs ++ List.replicate (fn.ntmps - args.length) undef := by simp [hl]
      rw [this]
      refine dens_append hd (dens_of_get (by simp) fun i x v hx hv => ?_)
      rw [List.getElem?_replicate] at hx hv
      split at hx
      · rename_i hi
        rw [if_pos hi] at hv
        cases hx; cases hv
        unfold den; rfl
      · cases hx
    have fin : ∀ (σ : St) (ρ' : List Loc) (a : Act) (w' : World), evRes P σ fn.results.toList (fun vs => k (oneSV vs) σ.hp) → Rel ⟨w, hp, ρ⟩ ρ' σ a w' →
        a.defers = [] ∧ ∃ v, (results fn a.tmps).run P w' = .ok v w' ∧ ∃ v2 r hp' ρ', Ending.returned v = .returned v2 ∧ k r hp' ∧ den ⟨w', hp', ρ'⟩ r v2 ∧ Mem ⟨w, hp, ρ⟩ ⟨w', hp', ρ'⟩ ∧ Ext ⟨w, hp, ρ⟩ ⟨w', hp', ρ'⟩ := by
      intro σ ρ' a w' hres hr'
      obtain ⟨us, rs, h1, h2, h3⟩ := evRes_sound hr' _ _ hres
      refine ⟨hr'.defers, _, ?_, _, _, _, ρ', rfl, h2, oneSV_den h3, hr'.mem, hr'.ext⟩
      unfold results
      rw [Array.mapM_eq_mapM_toList]
      simp only [Sem.run_bind, Sem.run_map]
      erw [h1]
      rfl
    refine evCode_sound hΓ hcall ann fuel c ⟨w, hp, ρ⟩ _ _ ρ _ w _ h hr fun e σ' ρ' a' w' hK hr' => ?_
    cases e with
    | normal => exact fin σ' ρ' a' w' hK hr'
    | ret => exact fin σ' ρ' a' w' hK hr'
    | exit id => exact hK.elim
    | goto l => exact hK.elim
    | panic ch => exact hK.elim
    | outgrown => exact hK.elim
  · exact h.elim
/-- What a spec says of its function. -/
theorem evFunc_sound {Γ : FuncId → Option Spec} (hΓ : GammaOK P Γ) (ann : FuncId → Nat → List SV → List Ob → Option LoopAnn) (fuel : Nat) : ∀ n, CallSound P (evFunc P Γ ann fuel n)
  | 0 => fun f args hp k h => by unfold evFunc at h; exact h.elim
  | n + 1 => fun f args hp k h c1 w ρ vs hm hd => by
    unfold evFunc at h
    split at h
    · rename_i s hs; exact (hΓ f s hs).1 none args hp k h c1 w ρ vs hm hd
    · split at h
      · rename_i fn hfn; exact evBody_sound hΓ (evFunc_sound hΓ ann fuel n) hfn h hm hd
      · exact h.elim

end
end Go.Proofs.Ytmadffhjgbpojaa.Sx

/- Sx: what makes memory: variables, literals, rows, append. -/
import Derived.Test.YtmadffhjgbpojaaSxOps3
namespace Go.Proofs.Ytmadffhjgbpojaa.Sx
open Go
section
variable {P : Program}

/-- What an operation that may make memory comes to. -/
def Made (P : Program) (c0 c : Cx) (k : SV → List Ob → Prop) (e : Sem Value) : Prop :=
  ∃ v w' r hp' ρ', e.run P c.w = .ok v w' ∧ k r hp' ∧ den ⟨w', hp', ρ'⟩ r v ∧ Mem c0 ⟨w', hp', ρ'⟩ ∧ Ext c ⟨w', hp', ρ'⟩
theorem Made.of_pure {c0 c : Cx} (hm : Mem c0 c) {k : SV → List Ob → Prop} {e : Sem Value} (h : ∃ u r, e.run P c.w = .ok u c.w ∧ k r c.hp ∧ den c r u) : Made P c0 c k e := by
  obtain ⟨u, r, h1, h2, h3⟩ := h
  exact ⟨u, c.w, r, c.hp, c.ρ, h1, h2, h3, hm, Ext.refl c⟩
/-- A variable that is sliced stays as it is from here on. -/
theorem frz_mem {c0 c : Cx} (hm : Mem c0 c) {j b : Nat} {ty : TypeId} {cells : List SV} (hj : c.hp[j]? = some (.fix ty cells)) (hl : c.ρ[j]? = some (.blk b)) :
    Mem c0 ⟨c.w, c.hp.set j .frzn, c.ρ.set j (.frz b)⟩ ∧ Ext c ⟨c.w, c.hp.set j .frzn, c.ρ.set j (.frz b)⟩ ∧ Cx.ok ⟨c.w, c.hp.set j .frzn, c.ρ.set j (.frz b)⟩ b := by
  have hjl : j < c.hp.length := (List.getElem?_eq_some_iff.1 hj).1
  have hjr : j < c.ρ.length := by rw [hm.len]; exact hjl
  have key : ∀ (i : Nat) (l : Loc), (c.ρ.set j (.frz b))[i]? = some l → (i = j ∧ l = .frz b) ∨ (i ≠ j ∧ c.ρ[i]? = some l) := by
    intro i l h
    rw [List.getElem?_set] at h
    by_cases hij : j = i
    · subst hij; rw [if_pos rfl, if_pos hjr] at h; cases h; exact .inl ⟨rfl, rfl⟩
    · rw [if_neg hij] at h; exact .inr ⟨Ne.symm hij, h⟩
  have hfoot : ∀ x, x ∈ foot (c.ρ.set j (.frz b)) → ∃ i l, i ≠ j ∧ c.ρ[i]? = some l ∧ l.foot = some x := by
    intro x hx
    obtain ⟨i, l, hi, hfl⟩ := mem_foot.1 hx
    rcases key i l hi with ⟨_, rfl⟩ | ⟨h1, h2⟩
    · cases hfl
    · exact ⟨i, l, h1, h2, hfl⟩
  have hsub : ∀ x, x ∈ foot (c.ρ.set j (.frz b)) → x ∈ foot c.ρ := fun x hx => by
    obtain ⟨i, l, _, h2, h3⟩ := hfoot x hx
    exact mem_foot.2 ⟨i, l, h2, h3⟩
  have hbans : ∀ x, x ∈ bans (c.ρ.set j (.frz b)) → x ∈ bans c.ρ := by
    intro x hx
    obtain ⟨i, F, h, hb⟩ := mem_bans.1 hx
    rcases key i _ h with ⟨_, h1⟩ | ⟨_, h2⟩
    · cases h1
    · exact mem_bans.2 ⟨i, F, h2, hb⟩
  have hocc : ∀ x, x ∈ occ (c.ρ.set j (.frz b)) → x ∈ occ c.ρ := fun x hx => by
    rcases mem_occ.1 hx with h | h
    · exact occ_foot (hsub x h)
    · exact mem_occ.2 (.inr (hbans x h))
  have he : Ext c ⟨c.w, c.hp.set j .frzn, c.ρ.set j (.frz b)⟩ := by
    refine ⟨fun x hx => ⟨⟨hx.1, fun h => hx.2 (hocc x h)⟩, rfl⟩, by simp, fun i b' hi => ?_, fun i t n g hi => ⟨g, ?_⟩, fun i hil hi => ?_, fun i v' t' r' hil _ hi => ?_, fun i F hi => by
      show (c.ρ.set j (.frz b))[i]? = _
      rw [List.getElem?_set]
      by_cases hij : j = i
      · subst hij; rw [hl] at hi; cases hi
      · rw [if_neg hij]; exact hi⟩
    · show ((c.ρ.set j (.frz b))[i]?).bind Loc.ptrAt = _
      rw [List.getElem?_set]
      by_cases hij : j = i
      · subst hij; rw [if_pos rfl, if_pos hjr]; rw [hl] at hi; exact hi
      · rw [if_neg hij]; exact hi
    · show (c.hp.set j .frzn)[i]? = _
      rw [List.getElem?_set]
      by_cases hij : j = i
      · subst hij; rw [hj] at hi; cases hi
      · rw [if_neg hij]; exact hi
    · have hi : (c.hp.set j .frzn)[i]? = some .hole := hi
      rw [List.getElem?_set] at hi
      by_cases hij : j = i
      · subst hij; rw [if_pos rfl, if_pos hjl] at hi; cases hi
      · rw [if_neg hij] at hi; exact hi
    · have hi : (c.hp.set j .frzn)[i]? = some (.row v' t' r') := hi
      rw [List.getElem?_set] at hi
      by_cases hij : j = i
      · subst hij; rw [if_pos rfl, if_pos hjl] at hi; cases hi
      · rw [if_neg hij] at hi
        exact ⟨v', t', r', hi, Nat.le_refl _, fun _ => ⟨by show (c.ρ.set j (.frz b))[i]? = _; rw [List.getElem?_set, if_neg hij], rfl, rfl⟩⟩
  refine ⟨⟨by simp [hm.len], fun i o l hi hil => ?_, fun i k l l' x hi hk hfi hfk => ?_, fun x hx => hm.bnd x (hsub x hx), hm.fr, fun x hx => ⟨(hm.dis x (hbans x hx)).1, fun h => (hm.dis x (hbans x hx)).2 (hsub x h)⟩⟩, he, (hm.bnd b (mem_foot.2 ⟨j, _, hl, rfl⟩)).1, fun hxo => ?_⟩
  · have hi : (c.hp.set j .frzn)[i]? = some o := hi
    rcases key i l hil with ⟨rfl, rfl⟩ | ⟨h1, h2⟩
    · rw [List.getElem?_set, if_pos rfl, if_pos hjl] at hi
      cases hi
      exact ⟨b, rfl⟩
    · rw [List.getElem?_set, if_neg (Ne.symm h1)] at hi
      exact obRel_ext he (fun _ _ => rfl) (hm.obs i o l hi h2)
  · rcases key i l hi with ⟨_, rfl⟩ | ⟨h1, h2⟩
    · cases hfi
    · rcases key k l' hk with ⟨_, rfl⟩ | ⟨g1, g2⟩
      · cases hfk
      · exact hm.nodup i k l l' x h2 g2 hfi hfk
  · rcases mem_occ.1 hxo with hx | hx
    · obtain ⟨i, l, h1, h2, h3⟩ := hfoot b hx
      exact h1 (hm.nodup i j l _ b h2 hl h3 rfl)
    · exact (hm.dis b (hbans b hx)).2 (mem_foot.2 ⟨j, _, hl, rfl⟩)
theorem gone_mem {c0 c : Cx} (hm : Mem c0 c) {j v cap : Nat} {t : TypeId} {r : RC} {A : Option (Nat × Nat)} (hj : c.hp[j]? = some (.row v t r)) (hl : c.ρ[j]? = some (.row A cap)) :
    Mem c0 ⟨c.w, c.hp.set j .gone, c.ρ.set j .none⟩ ∧ Ext c ⟨c.w, c.hp.set j .gone, c.ρ.set j .none⟩ ∧ ∀ b, (Loc.row A cap).foot = some b → Cx.ok ⟨c.w, c.hp.set j .gone, c.ρ.set j .none⟩ b := by
  have hjl : j < c.hp.length := (List.getElem?_eq_some_iff.1 hj).1
  have hjr : j < c.ρ.length := by rw [hm.len]; exact hjl
  have key : ∀ (i : Nat) (l : Loc), (c.ρ.set j .none)[i]? = some l → (i = j ∧ l = .none) ∨ (i ≠ j ∧ c.ρ[i]? = some l) := by
    intro i l h
    rw [List.getElem?_set] at h
    by_cases hij : j = i
    · subst hij; rw [if_pos rfl, if_pos hjr] at h; cases h; exact .inl ⟨rfl, rfl⟩
    · rw [if_neg hij] at h; exact .inr ⟨Ne.symm hij, h⟩
  have hfoot : ∀ x, x ∈ foot (c.ρ.set j .none) → ∃ i l, i ≠ j ∧ c.ρ[i]? = some l ∧ l.foot = some x := by
    intro x hx
    obtain ⟨i, l, hi, hfl⟩ := mem_foot.1 hx
    rcases key i l hi with ⟨_, rfl⟩ | ⟨h1, h2⟩
    · cases hfl
    · exact ⟨i, l, h1, h2, hfl⟩
  have hsub : ∀ x, x ∈ foot (c.ρ.set j .none) → x ∈ foot c.ρ := fun x hx => by
    obtain ⟨i, l, _, h2, h3⟩ := hfoot x hx
    exact mem_foot.2 ⟨i, l, h2, h3⟩
  have hbans : ∀ x, x ∈ bans (c.ρ.set j .none) → x ∈ bans c.ρ := by
    intro x hx
    obtain ⟨i, F, h, hb⟩ := mem_bans.1 hx
    rcases key i _ h with ⟨_, h1⟩ | ⟨_, h2⟩
    · cases h1
    · exact mem_bans.2 ⟨i, F, h2, hb⟩
  have hocc : ∀ x, x ∈ occ (c.ρ.set j .none) → x ∈ occ c.ρ := fun x hx => by
    rcases mem_occ.1 hx with h | h
    · exact occ_foot (hsub x h)
    · exact mem_occ.2 (.inr (hbans x h))
  have he : Ext c ⟨c.w, c.hp.set j .gone, c.ρ.set j .none⟩ := by
    refine ⟨fun x hx => ⟨⟨hx.1, fun h => hx.2 (hocc x h)⟩, rfl⟩, by simp, fun i b' hi => ?_, fun i t n g hi => ⟨g, ?_⟩, fun i hil hi => ?_, fun i v' t' r' hil _ hi => ?_, fun i F hi => by
      show (c.ρ.set j .none)[i]? = _
      rw [List.getElem?_set]
      by_cases hij : j = i
      · subst hij; rw [hl] at hi; cases hi
      · rw [if_neg hij]; exact hi⟩
    · show ((c.ρ.set j .none)[i]?).bind Loc.ptrAt = _
      rw [List.getElem?_set]
      by_cases hij : j = i
      · subst hij; rw [hl] at hi; cases hi
      · rw [if_neg hij]; exact hi
    · show (c.hp.set j .gone)[i]? = _
      rw [List.getElem?_set]
      by_cases hij : j = i
      · subst hij; rw [hj] at hi; cases hi
      · rw [if_neg hij]; exact hi
    · have hi : (c.hp.set j .gone)[i]? = some .hole := hi
      rw [List.getElem?_set] at hi
      by_cases hij : j = i
      · subst hij; rw [if_pos rfl, if_pos hjl] at hi; cases hi
      · rw [if_neg hij] at hi; exact hi
    · have hi : (c.hp.set j .gone)[i]? = some (.row v' t' r') := hi
      rw [List.getElem?_set] at hi
      by_cases hij : j = i
      · subst hij; rw [if_pos rfl, if_pos hjl] at hi; cases hi
      · rw [if_neg hij] at hi
        exact ⟨v', t', r', hi, Nat.le_refl _, fun _ => ⟨by show (c.ρ.set j .none)[i]? = _; rw [List.getElem?_set, if_neg hij], rfl, rfl⟩⟩
  refine ⟨⟨by simp [hm.len], fun i o l hi hil => ?_, fun i k l l' x hi hk hfi hfk => ?_, fun x hx => hm.bnd x (hsub x hx), hm.fr, fun x hx => ⟨(hm.dis x (hbans x hx)).1, fun h => (hm.dis x (hbans x hx)).2 (hsub x h)⟩⟩, he, fun b hb => ⟨(hm.bnd b (mem_foot.2 ⟨j, _, hl, hb⟩)).1, fun hxo => ?_⟩⟩
  · have hi : (c.hp.set j .gone)[i]? = some o := hi
    rcases key i l hil with ⟨rfl, rfl⟩ | ⟨h1, h2⟩
    · rw [List.getElem?_set, if_pos rfl, if_pos hjl] at hi
      cases hi
      rfl
    · rw [List.getElem?_set, if_neg (Ne.symm h1)] at hi
      exact obRel_ext he (fun _ _ => rfl) (hm.obs i o l hi h2)
  · rcases key i l hi with ⟨_, rfl⟩ | ⟨h1, h2⟩
    · cases hfi
    · rcases key k l' hk with ⟨_, rfl⟩ | ⟨g1, g2⟩
      · cases hfk
      · exact hm.nodup i k l l' x h2 g2 hfi hfk
  · rcases mem_occ.1 hxo with hx | hx
    · obtain ⟨i, l, h1, h2, h3⟩ := hfoot b hx
      exact h1 (hm.nodup i j l _ b h2 hl h3 hb)
    · exact (hm.dis b (hbans b hx)).2 (mem_foot.2 ⟨j, _, hl, hb⟩)
theorem row_rep2 {c0 c c2 : Cx} (hm : Mem c0 c) (hw : c2.w = c.w) (hok : ∀ b, c.ok b → c2.ok b) {j ver lo hi : Nat} {rc : RC} {v : Value} (hr : rowAt c.hp j ver = some rc) (hd : den c (.view j ver lo hi) v)
    (hfree : ∀ (loc : Loc) (b : Nat), c.ρ[j]? = some loc → loc.foot = some b → c2.ok b) : (rc.sub lo hi).toD.rep c2.w c2.ok v := by
  obtain ⟨t, A, cap, hj', l1, l2, hlc, A', rfl, hA'⟩ := den_view hd hr
  obtain ⟨g2, g3, g1, g4, g5⟩ := mem_row hm hj' hlc
  rw [hw]
  cases rc with
  | bytes l =>
    have l2 : hi ≤ l.length := l2
    have g2 : l.length ≤ cap := g2
    have hlen : ((l.take hi).drop lo).length = hi - lo := by simp; omega
    refine ⟨A', cap - lo, by rw [hlen], by rw [hlen]; omega, by omega, fun hp => ?_⟩
    rw [hlen] at hp
    obtain ⟨b, o, rfl, rfl⟩ := hA' (by omega)
    obtain ⟨cs, fr, p1, p2, p3, p4⟩ := g5 b o rfl
    refine ⟨b, o + lo * 1, rfl, hfree _ b hlc rfl, fun i hi' => ?_⟩
    rw [hlen] at hi'
    obtain ⟨u, hu, hr⟩ := p4 (lo + i) (show lo + i < l.length by omega) 0 (by simp [RC.sz])
    have hr : u = .int .u8 ((l.getD (lo + i) 0).toNat : Int) := hr
    rw [cell?_of p1]
    have hu : cs[o + (lo + i) * 1 + 0]? = some u := hu
    rw [show o + lo * 1 + i = o + (lo + i) * 1 + 0 by omega, hu, hr]
    congr 3
    rw [List.getD_eq_getElem?_getD, List.getD_eq_getElem?_getD, List.getElem?_drop, List.getElem?_take, if_pos (by omega)]
  | list sz n g =>
    have l2 : hi ≤ n := l2
    have g2 : n ≤ cap := g2
    refine ⟨A', cap - lo, rfl, by omega, by omega, fun hp => ?_⟩
    obtain ⟨b, o, rfl, rfl⟩ := hA' (by omega)
    obtain ⟨cs, fr, p1, p2, p3, p4⟩ := g5 b o rfl
    refine ⟨b, o + lo * sz, rfl, hfree _ b hlc rfl, fun i hi' j hj => ?_⟩
    obtain ⟨u, hu, hr⟩ := p4 (lo + i) (show lo + i < n by omega) j hj
    have hu : cs[o + (lo + i) * sz + j]? = some u := hu
    refine ⟨u, ?_, rep_mono (fun b hb => ⟨hok b hb, rfl⟩) _ u hr⟩
    rw [cell?_of p1, ← hu]
    congr 1
    rw [Nat.add_mul]; omega
theorem frzCellK_sound {c0 c : Cx} (hm : Mem c0 c) {x : SV} {v : Value} {k : SV → List Ob → Prop} (h : frzCellK c.hp x k) (hd : den c x v) :
    ∃ x' hp' ρ', k x' hp' ∧ den ⟨c.w, hp', ρ'⟩ x' v ∧ Mem c0 ⟨c.w, hp', ρ'⟩ ∧ Ext c ⟨c.w, hp', ρ'⟩ := by
  unfold frzCellK at h
  split at h
  · rename_i j ver lo hi
    split at h
    · rename_i rc hr
      obtain ⟨t, A, cap, hj, _, _, hlc, _⟩ := den_view hd hr
      obtain ⟨m1, m2, m3⟩ := gone_mem hm hj hlc
      refine ⟨_, _, _, h, ?_, m1, m2⟩
      unfold den
      refine row_rep2 hm (c2 := ⟨c.w, c.hp.set j .gone, c.ρ.set j .none⟩) rfl (fun b hb => (m2.ok b hb).1) hr hd fun loc b hl hf => ?_
      rw [hlc] at hl
      cases hl
      exact m3 b hf
    · exact h.elim
  · exact ⟨x, c.hp, c.ρ, h, hd, hm, Ext.refl c⟩
theorem frzCellsK_sound {c0 : Cx} : ∀ {xs : List SV} {c : Cx} {vs : List Value} {k : List SV → List Ob → Prop}, Mem c0 c → frzCellsK c.hp xs k → dens c xs vs →
    ∃ xs' hp' ρ', k xs' hp' ∧ dens ⟨c.w, hp', ρ'⟩ xs' vs ∧ Mem c0 ⟨c.w, hp', ρ'⟩ ∧ Ext c ⟨c.w, hp', ρ'⟩
  | [], c, vs, k, hm, h, hd => ⟨[], c.hp, c.ρ, h, hd, hm, Ext.refl c⟩
  | x :: xs, c, vs, k, hm, h, hd => by
    unfold frzCellsK at h
    unfold dens at hd
    obtain ⟨u, us, rfl, h1, h2⟩ := hd
    obtain ⟨x', hp1, ρ1, k1, d1, m1, e1⟩ := frzCellK_sound hm h h1
    obtain ⟨xs', hp2, ρ2, k2, d2, m2, e2⟩ := frzCellsK_sound m1 k1 (dens_ext e1 _ _ h2)
    exact ⟨_, _, _, k2, dens_cons (den_ext e2 _ _ d1) d2, m2, e1.trans e2⟩
theorem frzPartsK_sound {c0 : Cx} : ∀ {ps : List (Nat × SV)} {c : Cx} {vs : List Value} {k : List (Nat × SV) → List Ob → Prop}, Mem c0 c → frzPartsK c.hp ps k → dens c (ps.map (·.2)) vs →
    ∃ ps' hp' ρ', k ps' hp' ∧ ps'.map (·.1) = ps.map (·.1) ∧ dens ⟨c.w, hp', ρ'⟩ (ps'.map (·.2)) vs ∧ Mem c0 ⟨c.w, hp', ρ'⟩ ∧ Ext c ⟨c.w, hp', ρ'⟩
  | [], c, vs, k, hm, h, hd => ⟨[], c.hp, c.ρ, h, rfl, hd, hm, Ext.refl c⟩
  | (i, v) :: ps, c, vs, k, hm, h, hd => by
    unfold frzPartsK at h
    simp only [List.map_cons] at hd
    unfold dens at hd
    obtain ⟨u, us, rfl, h1, h2⟩ := hd
    split at h
    · rename_i xs
      unfold den at h1
      obtain ⟨ws, rfl, h1⟩ := h1
      obtain ⟨xs', hp1, ρ1, k1, d1, m1, e1⟩ := frzCellsK_sound hm h h1
      obtain ⟨ps', hp2, ρ2, k2, q2, d2, m2, e2⟩ := frzPartsK_sound m1 k1 (dens_ext e1 _ _ h2)
      refine ⟨_, _, _, k2, by simp [q2], dens_cons ?_ d2, m2, e1.trans e2⟩
      unfold den
      exact ⟨ws, rfl, dens_ext e2 _ _ d1⟩
    · obtain ⟨x', hp1, ρ1, k1, d1, m1, e1⟩ := frzCellK_sound hm h h1
      obtain ⟨ps', hp2, ρ2, k2, q2, d2, m2, e2⟩ := frzPartsK_sound m1 k1 (dens_ext e1 _ _ h2)
      exact ⟨_, _, _, k2, by simp [q2], dens_cons (den_ext e2 _ _ d1) d2, m2, e1.trans e2⟩
theorem Made.ext {c0 c c' : Cx} {k : SV → List Ob → Prop} {e : Sem Value} (hw : c'.w = c.w) (he : Ext c c') (h : Made P c0 c' k e) : Made P c0 c k e := by
  obtain ⟨v, w', r, hp', ρ', h1, h2, h3, h4, h5⟩ := h
  exact ⟨v, w', r, hp', ρ', by rw [← hw]; exact h1, h2, h3, h4, he.trans h5⟩
theorem evSliceA_sound {c0 c : Cx} (hm : Mem c0 c) {t : TypeId} {j off : Nat} {low high : Option SV} {k : SV → List Ob → Prop} {v : Value} {vl vh : Option Value} (h : evSliceA P c.hp t j off low high k) (hx : den c (.ptr j off) v)
    (hl : denO c low vl) (hh : denO c high vh) : Made P c0 c k (Instr.sliceAt t v vl vh none) := by
  unfold evSliceA at h
  split at h
  · rename_i ty cells n e hj hu
    split at h
    · rename_i ds hds
      split at h
      · rename_i hc
        obtain ⟨hi, hb8, rfl, hlen, h0, hmax⟩ := hc
        obtain ⟨inf, hinf⟩ := Option.isSome_iff_exists.1 hi
        obtain ⟨b, hb, rfl⟩ := den_ptr hx
        have hblk := fix_blk hm hj hb
        obtain ⟨cs, fr, h1, h2, h3, h4⟩ := mem_fix hm hj hb
        obtain ⟨m1, m2, m3⟩ := frz_mem hm hj hblk
        obtain rfl : vl = none := by cases vl with | none => rfl | some _ => exact hl.elim
        obtain rfl : vh = none := by cases vh with | none => rfl | some _ => exact hh.elim
        refine ⟨.slice (some ⟨b, 0, none⟩) n n, c.w, _, _, _, ?_, h, ?_, m1, m2⟩
        · simp [Instr.sliceAt, run_underlying hu, Instr.sureAddr, Instr.sliceBounds, run_sizeOf' hinf, add_none]
        · obtain ⟨e1, e2⟩ := cellsD_rep hds h3
          have hsz := dens_length h3
          simp only [Array.length_toList] at hsz
          unfold den
          refine ⟨some ⟨b, 0, none⟩, n, rfl, Nat.le_refl _, hmax, fun _ => ⟨b, 0, rfl, m3, fun i hi' j' hj' => ?_⟩⟩
          have hlt : i * szOf P e + j' < cs.size := by
            have : (i + 1) * szOf P e ≤ n * szOf P e := Nat.mul_le_mul_right _ hi'
            rw [Nat.succ_mul] at this
            omega
          refine ⟨cs[i * szOf P e + j'], ?_, m2.rep (e2 (i * szOf P e + j') _ (by rw [Array.getElem?_toList]; exact Array.getElem?_eq_getElem hlt))⟩
          show c.w.cell? _ = _
          rw [cell?_of h1, Nat.zero_add]
          exact Array.getElem?_eq_getElem hlt
      · exact h.elim
    · exact h.elim
  · exact h.elim
theorem get_end {α : Type} (l : List α) (x : α) {n : Nat} (hn : n = l.length) : (l ++ [x])[n]? = some x := by subst hn; simp
/-- A new variable of its own block. -/
theorem made_fix {c0 c : Cx} (hm : Mem c0 c) {pl : Option Nat} (hpl : plOk pl c.hp = true) {k : SV → List Ob → Prop} {e : Sem Value} {t : TypeId} {cells : List SV} {v : Value}
    (hrun : e.run P c.w = .ok (.pointer (some ⟨c.w.heap.size, 0, none⟩)) { c.w with heap := c.w.heap.push (.cells v.cells t) })
    (hs : cells.all storable = true) (hd : dens c cells v.cells.toList) (hk : k (.ptr (plIdx pl c.hp) 0) (plHp pl c.hp (.fix t cells))) : Made P c0 c k e := by
  have hn := New.push c.w (.cells v.cells t)
  obtain ⟨m1, m2, _, m4⟩ := pl_mem hm hpl (ob := .fix t cells) (loc := .blk c.w.heap.size) (by simp) hn.os hn.tape hn.output (by rw [hn.size]; omega) hn.other (fun b hb => by cases hb; rw [hn.size]; omega) rfl (fun he =>
    ⟨_, _, _, rfl, hn.here, Unfrozen.zero _, dens_ext he _ _ hd, fun x hx => List.all_eq_true.1 hs x hx⟩)
  exact ⟨_, _, _, _, _, hrun, hk, ptr_den (congrArg (·.bind Loc.ptrAt) m4), m1, m2⟩
theorem made_arr {c0 c : Cx} (hm : Mem c0 c) {pl : Option Nat} (hpl : plOk pl c.hp = true) {k : SV → List Ob → Prop} {e : Sem Value} {t : TypeId} {n : Nat} {get : Nat → D} {v : Value}
    (hrun : e.run P c.w = .ok (.pointer (some ⟨c.w.heap.size, 0, none⟩)) { c.w with heap := c.w.heap.push (.cells v.cells t) })
    (hs : v.cells.size = n) (hd : ∀ i, i < n → ∃ u, v.cells[i]? = some u ∧ (get i).rep c.w c.ok u) (hk : k (.ptr (plIdx pl c.hp) 0) (plHp pl c.hp (.arr t n get))) : Made P c0 c k e := by
  have hn := New.push c.w (.cells v.cells t)
  obtain ⟨m1, m2, _, m4⟩ := pl_mem hm hpl (ob := .arr t n get) (loc := .blk c.w.heap.size) (by simp) hn.os hn.tape hn.output (by rw [hn.size]; omega) hn.other (fun b hb => by cases hb; rw [hn.size]; omega) rfl (fun he =>
    ⟨_, _, _, rfl, hn.here, Unfrozen.zero _, hs, fun i hi => by
      obtain ⟨u, hu, hr⟩ := hd i hi
      exact ⟨u, hu, he.rep hr⟩⟩)
  exact ⟨_, _, _, _, _, hrun, hk, ptr_den (congrArg (·.bind Loc.ptrAt) m4), m1, m2⟩
theorem evAlloc_sound {c0 c : Cx} (hm : Mem c0 c) {pl : Option Nat} (hpl : plOk pl c.hp = true) {t : TypeId} {k : SV → List Ob → Prop} {ob : Ob} (ho : allocOb P t = some ob) (hk : k (.ptr (plIdx pl c.hp) 0) (plHp pl c.hp ob)) :
    Made P c0 c k (Instr.alloc t true (.tuple #[])) := by
  unfold allocOb at ho
  split at ho
  · rename_i z hz
    have hrun : (Instr.alloc t true (.tuple #[])).run P c.w = .ok (.pointer (some ⟨c.w.heap.size, 0, none⟩)) { c.w with heap := c.w.heap.push (.cells z.cells t) } := by
      simp [Instr.alloc, run_zeroValue' hz, newVar, newRow]
    have fix : ∀ {ob}, fixOb t (ofValue z) = some ob → k (.ptr (plIdx pl c.hp) 0) (plHp pl c.hp ob) → Made P c0 c k (Instr.alloc t true (.tuple #[])) := fun {ob} h hk => by
      unfold fixOb at h
      split at h
      · rename_i hs
        cases h
        exact made_fix hm hpl hrun hs (den_cells hs (den_ofValue c z)).1 hk
      · cases h
    split at ho
    · rename_i n e hu
      split at ho
      · split at ho
        · rename_i kk m he
          split at ho
          · rename_i hc
            cases ho
            refine made_arr hm hpl hrun hc.1 (fun i hi => ?_) hk
            have hlt : i < z.cells.toList.length := by simp; omega
            have hz' := List.all_eq_true.1 hc.2 _ (List.getElem_mem hlt)
            refine ⟨z.cells.toList[i], by simp, ?_⟩
            unfold isIntV at hz'
            split at hz'
            · rename_i k' m' heq
              simp only [Bool.and_eq_true, decide_eq_true_eq] at hz'
              obtain ⟨rfl, rfl⟩ := hz'
              rw [heq]
              rfl
            · cases hz'
          · cases ho
        · cases ho
      · exact fix ho hk
    · exact fix ho hk
    · cases ho
  · cases ho
theorem evBox_sound {c0 c : Cx} (hm : Mem c0 c) {pl : Option Nat} (hpl : plOk pl c.hp = true) {t : TypeId} {k : SV → List Ob → Prop} {x : SV} {v : Value} (hx : den c x v) (hs : (svCells x).all storable = true)
    (hk : k (.ptr (plIdx pl c.hp) 0) (plHp pl c.hp (.fix t (svCells x)))) : Made P c0 c k (Instr.box t v) :=
  made_fix hm hpl (by simp [Instr.box, newVar, newRow]) hs (den_cells hs hx).1 hk
theorem evBoxF_sound {c0 c : Cx} (hm : Mem c0 c) {pl : Option Nat} (hpl : plOk pl c.hp = true) {t : TypeId} {k : SV → List Ob → Prop} {n : Nat} {g : Nat → D} {v : Value} (hx : den c (.aggf n g) v)
    (hk : k (.ptr (plIdx pl c.hp) 0) (plHp pl c.hp (.arr t n g))) : Made P c0 c k (Instr.box t v) := by
  unfold den at hx
  obtain ⟨vs, rfl, hl, hv⟩ := hx
  exact made_arr hm hpl (v := .agg ⟨vs⟩) (by simp [Instr.box, newVar, newRow]) (by simpa [Value.cells] using hl) (fun i hi => by simpa [Value.cells] using hv i hi) hk

/-! ## Literals -/
theorem run_mapM_list {α β : Type} (f : α → Sem β) (g : α → β) (w : World) : ∀ (l : List α), (∀ x ∈ l, (f x).run P w = .ok (g x) w) → (l.mapM f).run P w = .ok (l.map g) w
  | [], _ => rfl
  | x :: l, h => by
    have ih := run_mapM_list f g w l (fun y hy => h y (by simp [hy]))
    simp [List.mapM_cons, h x (by simp), ih]
theorem run_mapM_array {α β : Type} (f : α → Sem β) (g : α → β) (w : World) (a : Array α) (h : ∀ x ∈ a.toList, (f x).run P w = .ok (g x) w) : (a.mapM f).run P w = .ok (a.map g) w := by
  rw [Array.mapM_eq_mapM_toList]
  simp [run_mapM_list f g w a.toList h]
  apply Array.ext'; simp
theorem foldl_splice (vs : List Value) (off : Nat) : ∀ (i : Nat) (cs : Array Value), off + i + vs.length ≤ cs.size →
    ((vs.zipIdx i).foldl (fun (cs : Array Value) (x : Value × Nat) => cs.setIfInBounds (off + x.2) x.1) cs).toList = cs.toList.take (off + i) ++ vs ++ cs.toList.drop (off + i + vs.length) := by
  induction vs with
  | nil => intro i cs _; simp
  | cons v vs ih =>
    intro i cs hl
    simp only [List.length_cons] at hl
    rw [List.zipIdx_cons, List.foldl_cons, ih (i + 1) _ (by simp; omega)]
    apply List.ext_getElem?
    intro m
    have e1 : (cs.setIfInBounds (off + i) v).toList = cs.toList.set (off + i) v := by simp
    simp only [e1]
    have s1 := splice_get (cs.toList.set (off + i) v) vs (off + (i + 1)) m (by simp; omega)
    have s2 := splice_get cs.toList (v :: vs) (off + i) m (by simp; omega)
    simp only [List.length_cons] at s2
    simp only [List.length_cons]
    rw [s1, s2, List.getElem?_set]
    by_cases h1 : m = off + i
    · subst h1
      rw [if_neg (by omega), if_pos rfl, if_pos (by simp; omega), if_pos (by omega)]
      simp
    · by_cases h2 : off + i < m ∧ m < off + i + (vs.length + 1)
      · rw [if_pos (by omega), if_pos (by omega)]
        obtain ⟨q, hq⟩ : ∃ q, m - (off + i) = q + 1 := ⟨m - (off + i) - 1, by omega⟩
        rw [hq, List.getElem?_cons_succ]
        congr 1; omega
      · rw [if_neg (by omega), if_neg (by omega), if_neg (by omega)]
theorem fill_sound {c : Cx} (place : Nat → Option (Nat × Nat)) : ∀ (parts : List (Nat × SV)) (vparts : List (Nat × Value)) (cells : List SV) (vcells : Array Value) {cs : List SV},
    fillSV place cells parts = some cs → dens c cells vcells.toList → parts.map (·.1) = vparts.map (·.1) → dens c (parts.map (·.2)) (vparts.map (·.2)) →
    ∃ vcs, Instr.fill place vcells vparts = some vcs ∧ dens c cs vcs.toList
  | [], vparts, cells, vcells, cs, h, hc, h1, _ => by
    have : vparts = [] := by cases vparts with | nil => rfl | cons => simp at h1
    subst this
    unfold fillSV at h
    cases h
    exact ⟨vcells, rfl, hc⟩
  | (i, x) :: parts, [], cells, vcells, cs, h, hc, h1, _ => by simp at h1
  | (i, x) :: parts, (i', v) :: vparts, cells, vcells, cs, h, hc, h1, h2 => by
    simp only [List.map_cons, List.cons.injEq] at h1 h2
    obtain ⟨rfl, h1⟩ := h1
    unfold dens at h2
    obtain ⟨u, us, he, d1, d2⟩ := h2
    simp only [List.cons.injEq] at he
    obtain ⟨rfl, rfl⟩ := he
    unfold fillSV at h
    split at h
    · cases h
    · rename_i off size hp
      split at h
      · cases h
      · rename_i hcnd
        simp only [not_or, Decidable.not_not] at hcnd
        obtain ⟨q1, q2, q3⟩ := hcnd
        have hst : (svCells x).all storable = true := by simpa using q3
        obtain ⟨e1, e2⟩ := den_cells hst d1
        have hl := dens_length e1
        have hlc := dens_length hc
        simp only [Array.length_toList] at hl hlc
        have hfold : (v.cells.zipIdx.foldl (fun cs (x : Value × Nat) => cs.setIfInBounds (off + x.2) x.1) vcells).toList = vcells.toList.take off ++ v.cells.toList ++ vcells.toList.drop (off + v.cells.toList.length) := by
          rw [← Array.foldl_toList, Array.toList_zipIdx]
          exact foldl_splice v.cells.toList off 0 vcells (by simp; omega)
        obtain ⟨vcs, f1, f2⟩ := fill_sound place parts vparts _ (v.cells.zipIdx.foldl (fun cs (x : Value × Nat) => cs.setIfInBounds (off + x.2) x.1) vcells) h (by
          rw [hfold]
          exact dens_splice hc e1 off) h1 d2
        refine ⟨vcs, ?_, f2⟩
        unfold Instr.fill
        rw [hp]
        simp only
        rw [if_neg (by simp; omega)]
        exact f1
theorem evBuild_sound {c : Cx} {t : TypeId} {parts : List (Nat × SV)} {vparts : List (Nat × Value)} {k : SV → Prop} (h : evBuild P t parts k)
    (h1 : parts.map (·.1) = vparts.map (·.1)) (h2 : dens c (parts.map (·.2)) (vparts.map (·.2))) : ∃ u r, (Instr.build t vparts.toArray).run P c.w = .ok u c.w ∧ k r ∧ den c r u := by
  have cellsOk : ∀ z : Value, ∀ cs, fillSV cs (svCells (ofValue z)) parts ≠ none → dens c (svCells (ofValue z)) z.cells.toList := fun z cs _ => by
    unfold ofValue
    split
    · exact dens_ofCells c _
    · rename_i hne
      have hd := den_ofCell c z
      have h1 : svCells (ofCell z) = [ofCell z] := by
        unfold ofCell
        split <;> first | rfl | (split <;> rfl)
      rw [h1]
      have h2 : z.cells = #[z] := by cases z <;> first | rfl | exact (hne _ rfl).elim
      rw [h2]
      exact dens_cons hd dens_nil
  unfold evBuild at h
  split at h
  · rename_i fs z hu hz
    split at h
    · rename_i hall
      split at h
      · rename_i cs hfill
        have hpl : (fs.mapM fun f => do pure (f.offset, ← sizeOf f.type) : Sem (Array (Nat × Nat))).run P c.w = .ok (fs.map fun f => (f.offset, szOf P f.type)) c.w := by
          refine run_mapM_array _ _ _ _ fun f hf => ?_
          have := List.all_eq_true.1 hall f hf
          obtain ⟨i, hi⟩ := Option.isSome_iff_exists.1 this
          simp [run_sizeOf' hi]
        obtain ⟨vcs, f1, f2⟩ := fill_sound (c := c) (placesOf P fs) parts vparts _ z.cells hfill (cellsOk z _ (by rw [hfill]; simp)) h1 h2
        refine ⟨.agg vcs, _, ?_, h, by unfold den; exact ⟨vcs.toList, rfl, f2⟩⟩
        have hplaces : (fun (x : Nat) => (fs.map fun f => (f.offset, szOf P f.type))[x]?) = placesOf P fs := by
          funext i; simp [placesOf]
        simp only [Instr.build, Sem.run_bind, run_zeroValue' hz, Result.andThen_ok, run_underlying hu, hpl, hplaces]
        simp only [f1, Sem.run_pure]
      · exact h.elim
    · exact h.elim
  · rename_i n e z hu hz
    split at h
    · rename_i hi
      obtain ⟨inf, hinf⟩ := Option.isSome_iff_exists.1 hi
      split at h
      · rename_i cs hfill
        obtain ⟨vcs, f1, f2⟩ := fill_sound (c := c) _ parts vparts _ z.cells hfill (cellsOk z _ (by rw [hfill]; simp)) h1 h2
        refine ⟨.agg vcs, _, ?_, h, by unfold den; exact ⟨vcs.toList, rfl, f2⟩⟩
        simp only [Instr.build, Sem.run_bind, run_zeroValue' hz, Result.andThen_ok, run_underlying hu, run_sizeOf' hinf]
        simp only [f1, Sem.run_pure]
      · exact h.elim
    · exact h.elim
  · exact h.elim

/-! ## Rows -/
/-- A new row object. -/
theorem made_row {c0 c : Cx} (hm : Mem c0 c) {pl : Option Nat} (hpl : plOk pl c.hp = true) {k : SV → List Ob → Prop} {s : Sem Value} {e : TypeId} {rc : RC} {cs : Array Value} {fr : Nat × Nat} {cap : Nat} {w' : World}
    (hn : New c.w (.cells cs e fr) w') (hrun : s.run P c.w = .ok (.slice (some ⟨c.w.heap.size, 0, none⟩) rc.len cap) w') (hf : Unfrozen cs.size fr)
    (hlen : rc.len ≤ cap) (hcap : cap ≤ maxLen) (hsz : 0 < rc.sz) (hsize : cap * rc.sz ≤ cs.size)
    (hd : ∀ i, i < rc.len → ∀ j, j < rc.sz → ∃ u, cs[i * rc.sz + j]? = some u ∧ (rc.cell i j).rep c.w c.ok u)
    (hk : k (.view (plIdx pl c.hp) 0 0 rc.len) (plHp pl c.hp (.row 0 e rc))) : Made P c0 c k s := by
  obtain ⟨m1, m2, m3, m4⟩ := pl_mem hm hpl (ob := .row 0 e rc) (loc := .row (some (c.w.heap.size, 0)) cap) (by simp) hn.os hn.tape hn.output (by rw [hn.size]; omega) hn.other (fun b hb => by cases hb; rw [hn.size]; omega) rfl (fun he => by
    refine ⟨_, _, rfl, hlen, hcap, hsz, (fun h => by cases h), fun b o hA => ?_⟩
    cases hA
    refine ⟨cs, fr, hn.here, hf, by omega, fun i hi j hj => ?_⟩
    obtain ⟨u, hu, hr⟩ := hd i hi j hj
    exact ⟨u, by rw [← hu]; congr 1; omega, he.rep hr⟩)
  refine ⟨_, _, _, _, _, hrun, hk, view_den m3 (Nat.zero_le _) (Nat.le_refl _) m4 ⟨_, rfl, fun _ => ⟨_, _, rfl, ?_⟩⟩, m1, m2⟩
  simp
theorem byteRange_cons {k : IntKind} {n : Int} {xs : List D} (h : byteRange (.int k n :: xs)) : 0 ≤ n ∧ n < 256 ∧ byteRange xs := by
  unfold byteRange at h
  obtain ⟨⟨a, b⟩, r⟩ := BR_req h
  exact ⟨a, b, r⟩
theorem bytesOfD_sound {w : World} {ok : Nat → Prop} : ∀ {ds : List D} {l : List UInt8}, bytesOfD ds = some l → byteRange ds → l.length = ds.length ∧ ∀ (i : Nat) (u : Value), i < l.length → (ds.getD i (.bool false)).rep w ok u → u = .int .u8 ((l.getD i 0).toNat : Int)
  | [], l, h, _ => by simp [bytesOfD] at h; subst h; exact ⟨rfl, fun i u hi => by simp at hi⟩
  | x :: xs, l, h, hr => by
    unfold bytesOfD at h
    split at h
    · rename_i d ds' hx hxs
      cases h
      unfold byteOfD at hx
      split at hx
      · rename_i n
        cases hx
        obtain ⟨n0, n1, hr'⟩ := byteRange_cons hr
        obtain ⟨a1, a2⟩ := bytesOfD_sound (w := w) (ok := ok) hxs hr'
        refine ⟨by simp [a1], fun i u hi hu => ?_⟩
        cases i with
        | zero =>
          simp only [List.getD_cons_zero] at hu ⊢
          unfold D.rep at hu
          rw [hu, ofNat_toNat_u8 n0 n1]
        | succ i =>
          simp only [List.getD_cons_succ] at hu ⊢
          exact a2 i u (by simpa using hi) hu
      · cases hx
    · cases h
theorem evBuildSlice_sound {c0 c : Cx} (hm : Mem c0 c) {pl : Option Nat} {t : TypeId} {len : Nat} {parts : List (Nat × SV)} {vparts : List (Nat × Value)} {k : SV → List Ob → Prop} (h : evBuildSlice P pl c.hp t len parts k)
    (h1 : parts.map (·.1) = vparts.map (·.1)) (h2 : dens c (parts.map (·.2)) (vparts.map (·.2))) : Made P c0 c k (Instr.buildSlice t len vparts.toArray) := by
  unfold evBuildSlice at h
  split at h
  · rename_i e hu
    split at h
    · rename_i z hz
      obtain ⟨inf, hinf, hzero⟩ := info_of_zero hz
      split at h
      · exact h.elim
      rename_i hc
      simp only [not_or, Decidable.not_not] at hc
      obtain ⟨q0, q1, q2, q3, q4⟩ := hc
      have hpl : plOk pl c.hp = true := by simpa using q0
      have hpos : 0 < szOf P e := by omega
      split at h
      · rename_i cs hfill
        split at h
        · rename_i ds hds
          -- the cells that the model begins with
          have hzero : ∃ zs : Array Value, (len * szOf P e = 0 → zs = #[]) ∧ (len * szOf P e ≠ 0 → zs = z.cells) ∧
              dens c ((List.range (len * szOf P e)).map fun m => (svCells (ofValue z)).getD (m % szOf P e) .dead) ((Array.range (len * szOf P e)).map (zs[· % zs.size]!)).toList := by
            by_cases h0 : len * szOf P e = 0
            · exact ⟨#[], fun _ => rfl, fun h => (h h0).elim, by rw [h0]; simpa using dens_nil⟩
            · refine ⟨z.cells, fun h => (h0 h).elim, fun _ => rfl, ?_⟩
              have hzd : dens c (svCells (ofValue z)) z.cells.toList := by
                unfold ofValue
                split
                · exact dens_ofCells c _
                · rename_i hne
                  have hd := den_ofCell c z
                  have e1 : svCells (ofCell z) = [ofCell z] := by
                    unfold ofCell
                    split <;> first | rfl | (split <;> rfl)
                  have e2 : z.cells = #[z] := by cases z <;> first | rfl | exact (hne _ rfl).elim
                  rw [e1, e2]
                  exact dens_cons hd dens_nil
              refine dens_of_get (by simp) fun i x v hx hv => ?_
              rw [List.getElem?_map] at hx
              simp only [Array.toList_map, Array.toList_range, List.getElem?_map] at hv
              have hi : i < len * szOf P e := by
                rcases Nat.lt_or_ge i (len * szOf P e) with hlt | hge
                · exact hlt
                · rw [List.getElem?_eq_none (by simpa using hge)] at hx; cases hx
              rw [List.getElem?_range hi] at hx hv
              simp only [Option.map_some, Option.some.injEq] at hx hv
              subst hx; subst hv
              have hm' : i % szOf P e < szOf P e := Nat.mod_lt _ hpos
              have hlt : i % szOf P e < (svCells (ofValue z)).length := by omega
              obtain ⟨u, hu', hd'⟩ := dens_get hzd (i % szOf P e) _ (List.getElem?_eq_getElem hlt)
              rw [List.getD_eq_getElem?_getD, List.getElem?_eq_getElem hlt, Option.getD_some]
              have : z.cells[i % z.cells.size]! = u := by
                rw [q3, getElem!_def]
                simp only [Array.getElem?_toList] at hu'
                rw [hu']
              rw [this]; exact hd'
          obtain ⟨zs, hz0, hz1, hzd⟩ := hzero
          obtain ⟨vcs, f1, f2⟩ := fill_sound (c := c) _ parts vparts _ ((Array.range (len * szOf P e)).map (zs[· % zs.size]!)) hfill hzd h1 h2
          have hlen0 : ∀ (ps : List (Nat × SV)) (a b : List SV), fillSV (fun i => some (i * szOf P e, szOf P e)) a ps = some b → b.length = a.length := by
            intro ps
            induction ps with
            | nil => intro a b hab; unfold fillSV at hab; cases hab; rfl
            | cons p ps ih =>
              intro a b hab
              obtain ⟨i, x⟩ := p
              unfold fillSV at hab
              simp only at hab
              split at hab
              · cases hab
              · rename_i hcnd
                simp only [not_or, Decidable.not_not] at hcnd
                rw [ih _ _ hab]
                unfold splice
                simp
                omega
          have hcl : cs.length = len * szOf P e := by rw [hlen0 _ _ _ hfill]; simp
          have hvl : vcs.size = len * szOf P e := by have := dens_length f2; simp at this; omega
          have hrun : (Instr.buildSlice t len vparts.toArray).run P c.w = .ok (.slice (some ⟨c.w.heap.size, 0, none⟩) len len) { c.w with heap := c.w.heap.push (.cells vcs e) } := by
            simp only [Instr.buildSlice, Sem.run_bind, run_underlying hu, Result.andThen_ok, run_sizeOf' hinf]
            rw [if_neg (by omega)]
            by_cases h0 : len * szOf P e = 0
            · rw [if_pos h0]
              rw [hz0 h0] at f1
              simp only [Sem.run_bind, Sem.run_pure, Result.andThen_ok, f1, newRow, run_newObj]
            · rw [if_neg h0]
              rw [hz1 h0] at f1
              simp only [Sem.run_bind, run_zeroValue' hz, Sem.run_pure, Result.andThen_ok, f1, newRow, run_newObj]
          obtain ⟨e1, e2⟩ := cellsD_rep hds f2
          simp only [Array.length_toList] at e1
          have hn := New.push c.w (.cells vcs e)
          have hle : len ≤ len * szOf P e := Nat.le_mul_of_pos_right _ hpos
          split at h
          · rename_i hb
            split at h
            · rename_i l hl
              split at h
              · rename_i hs1
                obtain ⟨hrange, hk⟩ := h
                obtain ⟨b1, b2⟩ := bytesOfD_sound (w := c.w) (ok := c.ok) hl hrange
                have hll : l.length = len := by rw [b1, e1, hvl, hs1, Nat.mul_one]
                refine made_row hm hpl (rc := .bytes l) (cap := len) hn (by simpa [RC.len, hll] using hrun) (Unfrozen.zero _) (by simp [RC.len, hll]) (by unfold maxLen; omega) (by simp [RC.sz]) (by simp [RC.sz, hvl, hs1]) (fun i hi j hj => ?_) (by simpa [RC.len, hll] using hk)
                simp only [RC.len, RC.sz, Nat.mul_one] at hi hj ⊢
                obtain rfl : j = 0 := by omega
                have hlt : i < vcs.toList.length := by simp; omega
                refine ⟨vcs.toList[i], by simp, ?_⟩
                exact b2 i _ hi (e2 i _ (List.getElem?_eq_getElem hlt))
              · exact h.elim
            · exact h.elim
          · refine made_row hm hpl (rc := .list (szOf P e) len (fun i j => ds.getD (i * szOf P e + j) (.bool false))) (cap := len) hn (by simpa [RC.len] using hrun) (Unfrozen.zero _) (by simp [RC.len]) (by unfold maxLen; omega) (by simpa [RC.sz] using hpos) (by simp [RC.sz, hvl]) (fun i hi j hj => ?_) (by simpa [RC.len] using h)
            simp only [RC.len, RC.sz, RC.cell] at hi hj ⊢
            have hlt : i * szOf P e + j < vcs.toList.length := by simp; rw [hvl]; exact pos_lt hi hj
            exact ⟨vcs.toList[i * szOf P e + j], by simp, e2 _ _ (List.getElem?_eq_getElem hlt)⟩
        · exact h.elim
      · exact h.elim
    · exact h.elim
  · exact h.elim
theorem evMakeGen_sound {c0 c : Cx} (hm : Mem c0 c) {pl : Option Nat} {t e : TypeId} {z : Value} {kl kc : IntKind} {n cc : Int} {k : SV → List Ob → Prop} (hu : P.underlying t = some (.slice e)) (hz : zeroOf P e = some z) (h : evMakeGen P pl c.hp e z n cc k) :
    Made P c0 c k (Instr.makeSlice t (.int kl n) (.int kc cc)) := by
  unfold evMakeGen at h
  split at h
  · rename_i ds hds
    split at h
    · rename_i hc
      obtain ⟨hpl, hb, h1, h2, h3⟩ := hc
      obtain ⟨⟨g1, g2, g3, g4⟩, hk⟩ := BR_req h
      rw [forceDs_eq] at hk
      obtain ⟨inf, hinf, hzero⟩ := info_of_zero hz
      have hisz : inf.size = szOf P e := by simp [szOf, Program.cellsOf, hinf]
      have hby : P.bytesOf e = inf.bytes := by simp [Program.bytesOf, hinf]
      rw [hby] at g3
      have hrun := run_make (P := P) c.w t e inf _ hu hinf hzero kl kc n cc g1 g2 g3 g4
      rw [hisz] at hrun
      have hn := New.push c.w (.cells (madeCells z.cells (cc.toNat * szOf P e)) e)
      obtain ⟨r1, r2⟩ := cellsD_rep hds (den_cells (List.all_eq_true.2 (cellsD_storable hds)) (den_ofValue c z)).1
      refine made_row hm hpl (rc := .list (szOf P e) n.toNat (fun _ j => ds.getD j (.bool false))) (cap := cc.toNat) hn (by simpa [RC.len] using hrun) (Unfrozen.zero _) (by simp [RC.len]; omega) (by unfold maxLen; omega) (by simpa [RC.sz] using h3) (by simp [RC.sz, size_madeCells]) (fun i hi j hj => ?_) (by simpa [RC.len] using hk)
      simp only [RC.len, RC.sz] at hi hj ⊢
      have hidx : i * szOf P e + j < cc.toNat * szOf P e := by
        have : (i + 1) * szOf P e ≤ cc.toNat * szOf P e := Nat.mul_le_mul_right _ (by omega)
        rw [Nat.add_mul] at this; omega
      have hmod : (i * szOf P e + j) % szOf P e = j := by
        rw [Nat.add_comm, Nat.add_mul_mod_self_right, Nat.mod_eq_of_lt hj]
      have hjz : j < z.cells.size := by omega
      refine ⟨z.cells[j], ?_, r2 j _ ?_⟩
      · simp [madeCells, hidx, h2, hmod]
        rw [getElem!_pos z.cells j hjz]
      · simp [hjz]
    · exact h.elim
  · exact h.elim
theorem evMakeSlice_sound {c0 c : Cx} (hm : Mem c0 c) {pl : Option Nat} {t : TypeId} {len cap : SV} {k : SV → List Ob → Prop} {vl vc : Value} (h : evMakeSlice P pl c.hp t len cap k) (hl : den c len vl) (hc : den c cap vc) :
    Made P c0 c k (Instr.makeSlice t vl vc) := by
  unfold evMakeSlice at h
  split at h
  · rename_i e kl n kc cc hu
    obtain rfl := den_int hl
    obtain rfl := den_int hc
    split at h
    · rename_i z hz
      obtain ⟨inf, hinf, hzero⟩ := info_of_zero hz
      split at h
      · exact evMakeGen_sound hm hu hz h
      rename_i hsz
      simp only [Decidable.not_not] at hsz
      split at h
      · exact h.elim
      rename_i q0
      have hpl : plOk pl c.hp = true := by simpa using q0
      have hisz : inf.size = 1 := by rw [← hsz]; simp [szOf, Program.cellsOf, hinf]
      split at h
      · rename_i kz m
        obtain ⟨⟨g1, g2, g3, g4⟩, hk⟩ := BR_req h
        have hby : P.bytesOf e = inf.bytes := by simp [Program.bytesOf, hinf]
        rw [hby] at g3
        have hrun := run_make (P := P) c.w t e inf _ hu hinf hzero kl kc n cc g1 g2 g3 g4
        rw [hisz, Nat.mul_one] at hrun
        have hn := New.push c.w (.cells (madeCells (Value.int kz m).cells cc.toNat) e)
        have hcell : ∀ i, i < cc.toNat → (madeCells (Value.int kz m).cells cc.toNat)[i]? = some (.int kz m) := fun i hi => by
          simp [madeCells, Value.cells, hi, Nat.mod_one]
        split at hk
        · split at hk
          · rename_i hz0
            obtain ⟨rfl, rfl⟩ := hz0
            refine made_row hm hpl (rc := .bytes (List.replicate n.toNat 0)) (cap := cc.toNat) hn (by simpa [RC.len] using hrun) (Unfrozen.zero _) (by simp [RC.len]; omega) (by unfold maxLen; omega) (by simp [RC.sz]) (by simp [RC.sz, size_madeCells]) (fun i hi j hj => ?_) (by simpa [RC.len] using hk)
            simp only [RC.len, RC.sz, List.length_replicate, Nat.mul_one] at hi hj ⊢
            obtain rfl : j = 0 := by omega
            refine ⟨_, hcell i (by omega), ?_⟩
            show _ = _
            simp [List.getD, hi]
          · exact hk.elim
        · refine made_row hm hpl (rc := .list 1 n.toNat (fun _ _ => .int kz m)) (cap := cc.toNat) hn (by simpa [RC.len] using hrun) (Unfrozen.zero _) (by simp [RC.len]; omega) (by unfold maxLen; omega) (by simp [RC.sz]) (by simp [RC.sz, size_madeCells]) (fun i hi j hj => ?_) (by simpa [RC.len] using hk)
          simp only [RC.len, RC.sz, Nat.mul_one] at hi hj ⊢
          obtain rfl : j = 0 := by omega
          exact ⟨_, hcell i (by omega), rfl⟩
      · exact evMakeGen_sound hm hu hz h
    · exact h.elim
  · exact h.elim

end
end Go.Proofs.Ytmadffhjgbpojaa.Sx

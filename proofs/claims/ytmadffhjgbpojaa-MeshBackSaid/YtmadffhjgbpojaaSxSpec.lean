/- Sx: functions that are known by what they answer, whatever else is in memory. -/
import Derived.Test.YtmadffhjgbpojaaSxCode
namespace Go.Proofs.Ytmadffhjgbpojaa.Sx
open Go
variable {P : Program}

theorem closedD_rep {d : D} (h : closedD d = true) {w w' : World} {ok ok' : Nat → Prop} {v : Value} (hr : d.rep w ok v) : d.rep w' ok' v := by
  cases d with
  | int | bool | str => exact hr
  | bytes | list => cases h
mutual
theorem closed_den {c c' : Cx} : ∀ (x : SV) (v : Value), closedSV x → den c x v → den c' x v
  | .d (.int ..), v, _, h => by unfold den at h ⊢; exact h
  | .d (.bool _), v, _, h => by unfold den at h ⊢; exact h
  | .d (.str _), v, _, h => by unfold den at h ⊢; exact h
  | .d (.bytes _), v, hc, h => by unfold closedSV at hc; exact hc.elim
  | .d (.list ..), v, hc, h => by unfold closedSV at hc; exact hc.elim
  | .nils, v, _, h => by unfold den at h ⊢; exact h
  | .nilp, v, _, h => by unfold den at h ⊢; exact h
  | .nili, v, _, h => by unfold den at h ⊢; exact h
  | .nilf, v, _, h => by unfold den at h ⊢; exact h
  | .nilm, v, _, h => by unfold den at h ⊢; exact h
  | .undef, v, _, h => by unfold den at h ⊢; exact h
  | .agg xs, v, hc, h => by
    unfold closedSV at hc
    unfold den at h ⊢
    obtain ⟨cs, e, h1⟩ := h
    exact ⟨cs, e, closeds_den xs _ hc h1⟩
  | .tuple xs, v, hc, h => by
    unfold closedSV at hc
    unfold den at h ⊢
    obtain ⟨cs, e, h1⟩ := h
    exact ⟨cs, e, closeds_den xs _ hc h1⟩
  | .aggf n g, v, hc, h => by
    unfold closedSV at hc
    unfold den at h ⊢
    obtain ⟨cs, e, h1, h2⟩ := h
    refine ⟨cs, e, h1, fun i hi => ?_⟩
    obtain ⟨u, q1, q2⟩ := h2 i hi
    exact ⟨u, q1, closedD_rep (hc i hi) q2⟩
  | .dead, _, hc, _ | .view .., _, hc, _ | .ptr .., _, hc, _ | .aptr .., _, hc, _ | .rptr .., _, hc, _ | .bptr .., _, hc, _ | .eptr .., _, hc, _ | .clo .., _, hc, _ => by unfold closedSV at hc; exact hc.elim
theorem closeds_den {c c' : Cx} : ∀ (xs : List SV) (vs : List Value), closedSVs xs → dens c xs vs → dens c' xs vs
  | [], vs, _, h => by unfold dens at h ⊢; exact h
  | x :: xs, vs, hc, h => by
    unfold closedSVs at hc
    unfold dens at h ⊢
    obtain ⟨u, us, e, h1, h2⟩ := h
    exact ⟨u, us, e, closed_den x u hc.1 h1, closeds_den xs us hc.2 h2⟩
end

/-! ## What is handed in, as data -/
theorem rep_all {c : Cx} {d : D} {v : Value} (h : d.rep c.w c.ok v) : d.rep (⟨c.w, [], []⟩ : Cx).w (⟨c.w, [], []⟩ : Cx).ok v :=
  rep_mono (fun b hb => ⟨⟨hb.1, by simp [occ, foot, bans]⟩, rfl⟩) d v h
theorem cell?_lt {w : World} {b o : Nat} {u : Value} (h : w.cell? ⟨b, o, none⟩ = some u) : b < w.heap.size := by
  cases hb : w.heap[b]? with
  | none => unfold World.cell? at h; simp [hb] at h
  | some x => exact (Array.getElem?_eq_some_iff.1 hb).1
mutual
theorem argOk_den {c : Cx} : ∀ (x : SV) (v : Value), argOk x = true → den c x v → den ⟨c.w, [], []⟩ x v
  | .d d, v, _, h => by unfold den at h ⊢; exact rep_all h
  | .nils, v, _, h => by unfold den at h ⊢; exact h
  | .nilp, v, _, h => by unfold den at h ⊢; exact h
  | .nili, v, _, h => by unfold den at h ⊢; exact h
  | .nilf, v, _, h => by unfold den at h ⊢; exact h
  | .nilm, v, _, h => by unfold den at h ⊢; exact h
  | .undef, v, _, h => by unfold den at h ⊢; exact h
  | .aggf n g, v, hc, h => by
    unfold den at h ⊢
    obtain ⟨cs, e, h1, h2⟩ := h
    refine ⟨cs, e, h1, fun i hi => ?_⟩
    obtain ⟨u, q1, q2⟩ := h2 i hi
    exact ⟨u, q1, rep_all q2⟩
  | .agg xs, v, hc, h => by
    unfold argOk at hc
    unfold den at h ⊢
    obtain ⟨cs, e, h1⟩ := h
    exact ⟨cs, e, argsOk_den xs _ hc h1⟩
  | .tuple xs, v, hc, h => by
    unfold argOk at hc
    unfold den at h ⊢
    obtain ⟨cs, e, h1⟩ := h
    exact ⟨cs, e, argsOk_den xs _ hc h1⟩
  | .dead, _, hc, _ | .view .., _, hc, _ | .ptr .., _, hc, _ | .aptr .., _, hc, _ | .rptr .., _, hc, _ | .bptr .., _, hc, _ | .eptr .., _, hc, _ | .clo .., _, hc, _ => by unfold argOk at hc; cases hc
theorem argsOk_den {c : Cx} : ∀ (xs : List SV) (vs : List Value), argsOk xs = true → dens c xs vs → dens ⟨c.w, [], []⟩ xs vs
  | [], vs, _, h => by unfold dens at h ⊢; exact h
  | x :: xs, vs, hc, h => by
    unfold argsOk at hc
    simp only [Bool.and_eq_true] at hc
    unfold dens at h ⊢
    obtain ⟨u, us, e, h1, h2⟩ := h
    exact ⟨u, us, e, argOk_den x u hc.1 h1, argsOk_den xs us hc.2 h2⟩
end
theorem shows_rep {c : Cx} {rc : RC} {A : Option Addr} {cap : Nat} (h : Shows c rc A cap) (hsz : 0 < rc.sz) : rc.toD.rep c.w (Cx.ok ⟨c.w, [], []⟩) (.slice A rc.len cap) := by
  cases rc with
  | bytes l =>
    refine ⟨A, cap, rfl, h.le, h.max, fun hl => ?_⟩
    obtain ⟨b, o, e, hc⟩ := h.cells hl
    have hcell : ∀ i, i < l.length → c.w.cell? ⟨b, o + i, none⟩ = some (.int .u8 ((l.getD i 0).toNat : Int)) := by
      intro i hi
      obtain ⟨u, q1, q2⟩ := hc i hi 0 (by simp [RC.sz])
      have q2 : u = .int .u8 ((l.getD i 0).toNat : Int) := q2
      rw [← q2, ← q1]; simp [RC.sz]
    exact ⟨b, o, e, ⟨cell?_lt (hcell 0 hl), by simp [occ, foot, bans]⟩, hcell⟩
  | list sz n g =>
    refine ⟨A, cap, rfl, h.le, h.max, fun hl => ?_⟩
    obtain ⟨b, o, e, hc⟩ := h.cells hl
    obtain ⟨u0, q0, _⟩ := hc 0 hl 0 hsz
    refine ⟨b, o, e, ⟨cell?_lt q0, by simp [occ, foot, bans]⟩, fun i hi j hj => ?_⟩
    obtain ⟨u, q1, q2⟩ := hc i hi j hj
    exact ⟨u, q1, rep_all q2⟩
theorem nilDD_den {c : Cx} {a : AK} {y : D} {v : Value} (h : den c (.d y) v) : den c (.d (nilDD a y)) v := by
  unfold nilDD
  split
  · split
    · rename_i sz n g
      cases hb : (Nat.beq sz 0 && Nat.beq n 0) with
      | false => exact h
      | true =>
        simp only [Bool.and_eq_true] at hb
        have hn := Nat.eq_of_beq_eq_true hb.2
        subst hn
        unfold den at h ⊢
        obtain ⟨A, cap, rfl, h1, h2, _⟩ := h
        exact ⟨A, cap, rfl, h1, h2, fun hp => absurd hp (by simp)⟩
    · exact h
  · split
    · rename_i sz n g
      cases hb : (Nat.beq sz 0 && Nat.beq n 0) with
      | false => exact h
      | true =>
        simp only [Bool.and_eq_true] at hb
        have hn := Nat.eq_of_beq_eq_true hb.2
        subst hn
        unfold den at h ⊢
        obtain ⟨A, cap, rfl, h1, h2, _⟩ := h
        exact ⟨A, cap, rfl, h1, h2, fun hp => absurd hp (by simp)⟩
    · exact h
  · exact h
theorem argD_den (P : Program) {c0 c : Cx} (hm : Mem c0 c) {a : AK} {x : SV} {v : Value} (hok : argOk (argD c.hp a x) = true) (h : den c x v) : den ⟨c.w, [], []⟩ (argD c.hp a x) v := by
  unfold argD at hok ⊢
  split
  · cases a with
    | any => exact argOk_den _ _ rfl h
    | own => exact argOk_den _ _ rfl h
    | agg ks => exact argOk_den _ _ rfl h
    | tup ks => exact argOk_den _ _ rfl h
    | bytes =>
      unfold den at h; unfold nilD den
      exact ⟨none, 0, h, by simp, by unfold maxLen; omega, fun hp => absurd hp (by simp)⟩
    | list sz =>
      unfold den at h; unfold nilD den
      exact ⟨none, 0, h, by simp, by unfold maxLen; omega, fun hp => absurd hp (by simp)⟩
  · rename_i j ver lo hi
    cases hr : rowAt c.hp j ver with
    | none => unfold den; trivial
    | some r =>
      simp only
      obtain ⟨t, A, cap, hj, l1, l2, hlc, A', rfl, hA⟩ := den_view h hr
      obtain ⟨g1, g2, g3, g4, g5⟩ := mem_row hm hj hlc
      rcases rowOf_sound (P := P) hm (e := 0) (rc := r.sub lo hi) (by unfold rowOf; simp [hr]) h with ⟨A2, cap2, e, hs⟩ | ⟨l, _, e, _⟩
      · unfold den
        rw [e]
        exact shows_rep (c := c) hs (by rw [sub_sz]; exact g3)
      · cases e
  · rename_i y
    exact nilDD_den (argOk_den (.d y) v rfl h)
  · rename_i hn1 hn2 hn3
    split at hok
    · exact absurd rfl hn1
    · exact absurd rfl (hn2 _ _ _ _)
    · exact absurd rfl (hn3 _)
    · exact argOk_den _ _ hok h
theorem argsOk_map (P : Program) {c0 c : Cx} (hm : Mem c0 c) : ∀ {xs : List SV} {vs : List Value}, argsOk (xs.map (argD c.hp .any)) = true → dens c xs vs → dens ⟨c.w, [], []⟩ (xs.map (argD c.hp .any)) vs
  | [], vs, _, h => by unfold dens at h; subst h; exact dens_nil
  | x :: xs, vs, hok, h => by
    simp only [List.map_cons, argsOk, Bool.and_eq_true] at hok
    unfold dens at h
    obtain ⟨u, us, rfl, h1, h2⟩ := h
    exact dens_cons (argD_den P hm hok.1 h1) (argsOk_map P hm hok.2 h2)
mutual
theorem frz_den (P : Program) {c0 c : Cx} (hm : Mem c0 c) : ∀ (k : AK) {x : SV} {v : Value}, argOk (frz c.hp k x) = true → den c x v → den ⟨c.w, [], []⟩ (frz c.hp k x) v
  | .any, x, v, hok, h => by unfold frz at hok ⊢; exact argD_den P hm hok h
  | .own, x, v, hok, h => by unfold frz at hok ⊢; exact argD_den P hm hok h
  | .bytes, x, v, hok, h => by unfold frz at hok ⊢; exact argD_den P hm hok h
  | .list sz, x, v, hok, h => by unfold frz at hok ⊢; exact argD_den P hm hok h
  | .agg ks, x, v, hok, h => by
    cases x with
    | agg xs =>
      simp only [frz] at hok ⊢
      simp only [argOk] at hok
      unfold den at h ⊢
      obtain ⟨vs, rfl, hd⟩ := h
      exact ⟨vs, rfl, frzs_den P hm ks hok hd⟩
    | _ => unfold frz at hok ⊢; exact argD_den P hm hok h
  | .tup ks, x, v, hok, h => by
    cases x with
    | tuple xs =>
      unfold frz at hok ⊢
      simp only [argOk] at hok
      unfold den at h ⊢
      obtain ⟨vs, rfl, hd⟩ := h
      exact ⟨vs, rfl, frzs_den P hm ks hok hd⟩
    | _ => unfold frz at hok ⊢; exact argD_den P hm hok h
theorem frzs_den (P : Program) {c0 c : Cx} (hm : Mem c0 c) : ∀ (ks : List AK) {xs : List SV} {vs : List Value}, argsOk (frzs c.hp ks xs) = true → dens c xs vs → dens ⟨c.w, [], []⟩ (frzs c.hp ks xs) vs
  | [], xs, vs, hok, h => by unfold frzs at hok ⊢; exact argsOk_map P hm hok h
  | k :: ks, xs, vs, hok, h => by
    cases xs with
    | nil => unfold frzs; unfold dens at h; subst h; exact dens_nil
    | cons x xs =>
      unfold frzs at hok ⊢
      simp only [argsOk, Bool.and_eq_true] at hok
      unfold dens at h
      obtain ⟨u, us, rfl, h1, h2⟩ := h
      exact dens_cons (frz_den P hm k hok.1 h1) (frzs_den P hm ks hok.2 h2)
end

/-! ## Answers -/
theorem stay_ext {c : Cx} {w' : World} (hf : Fr [] c.w w') : Ext c ⟨w', c.hp, c.ρ⟩ :=
  ⟨fun b hb => ⟨⟨Nat.lt_of_lt_of_le hb.1 hf.size, hb.2⟩, hf.block b hb.1 (by simp)⟩, Nat.le_refl _, fun _ _ h => h, fun _ _ _ g h => ⟨g, h⟩, fun _ _ h => h, fun _ v t r _ _ h => ⟨v, t, r, h, Nat.le_refl _, fun _ => ⟨rfl, rfl, rfl⟩⟩, fun _ _ h => h⟩
theorem stay_mem {c1 c : Cx} (hm : Mem c1 c) {w' : World} (hf : Fr [] c.w w') : Mem c ⟨w', c.hp, c.ρ⟩ where
  len := hm.len
  obs j ob loc hj hl := obRel_ext (stay_ext hf) (fun b hb => hf.block b (hm.bnd b (mem_foot.2 ⟨j, loc, hl, hb⟩)).1 (by simp)) (hm.obs j ob loc hj hl)
  nodup := hm.nodup
  bnd b hb := ⟨Nat.lt_of_lt_of_le (hm.bnd b hb).1 hf.size, .inl hb⟩
  fr := ⟨hf.os, hf.tape, hf.output, hf.size, fun b hb _ => hf.block b hb (by simp)⟩
  dis b hb := ⟨Nat.lt_of_lt_of_le (hm.dis b hb).1 hf.size, (hm.dis b hb).2⟩
theorem out_row {w w' : World} {hp : List Ob} {ρ : List Loc} {c1 : Cx} (hm : Mem c1 ⟨w, hp, ρ⟩) (hfr : Fr [] w w') {pl : Option Nat} {k : SV → List Ob → Prop} {e : TypeId} {rc : RC} {A : Option (Nat × Nat)} {cap : Nat} {v : Value}
    (hk : outK pl hp k (.row e rc)) (h0 : 0 < rc.sz) (hle : rc.len ≤ cap) (hmax : cap ≤ maxLen) (hA : A = none → cap = 0)
    (hcells : ∀ b o, A = some (b, o) → (w.heap.size ≤ b ∧ b < w'.heap.size) ∧ ∃ cs fr, w'.heap[b]? = some (.cells cs e fr) ∧ Unfrozen cs.size fr ∧ o + cap * rc.sz ≤ cs.size ∧ ∀ i, i < rc.len → ∀ j, j < rc.sz → ∃ u, cs[o + i * rc.sz + j]? = some u ∧ ∀ w ok, (rc.cell i j).rep w ok u)
    (hh : Hdr A cap rc.sz 0 rc.len v) : ∃ r hp' ρ', k r hp' ∧ den ⟨w', hp', ρ'⟩ r v ∧ Mem ⟨w, hp, ρ⟩ ⟨w', hp', ρ'⟩ ∧ Ext ⟨w, hp, ρ⟩ ⟨w', hp', ρ'⟩ := by
  have hk : if plOk pl hp = true then k (.view (plIdx pl hp) 0 0 rc.len) (plHp pl hp (.row 0 e rc)) else False := hk
  split at hk
  · rename_i hpl
    obtain ⟨q1, q2, q3, q4⟩ := pl_mem (c0 := ⟨w, hp, ρ⟩) (c := ⟨w, hp, ρ⟩) hm.start (pl := pl) hpl (ob := .row 0 e rc) (loc := .row A cap) (w' := w') (by simp) hfr.os hfr.tape hfr.output hfr.size
      (fun i hi => hfr.block i hi (by simp)) (fun b hb => by
        cases A with
        | none => cases hb
        | some p =>
          obtain ⟨b', o⟩ := p
          cases hb
          exact (hcells _ o rfl).1) rfl (fun _ => by
        refine ⟨A, cap, rfl, hle, hmax, h0, hA, fun b o hA => ?_⟩
        obtain ⟨_, cs, fr, p1, p2, p3, p4⟩ := hcells b o hA
        refine ⟨cs, fr, p1, p2, p3, fun i hi j hj => ?_⟩
        obtain ⟨u, hu, hr⟩ := p4 i hi j hj
        exact ⟨u, hu, hr _ _⟩)
    exact ⟨_, _, _, hk, view_den q3 (Nat.zero_le _) (Nat.le_refl _) q4 hh, q1, q2⟩
  · exact hk.elim
theorem closedRC_cell {rc : RC} (h : closedRC rc) {i j : Nat} (hi : i < rc.len) (hj : j < rc.sz) : closedD (rc.cell i j) = true := by
  cases rc with
  | bytes l => rfl
  | list sz n g => exact h i hi j hj
/-- A row that was made anew. -/
theorem fresh_row {w w' : World} {hp' : List Ob} {ρ' : List Loc} (hmem : Mem ⟨w, [], []⟩ ⟨w', hp', ρ'⟩) {j ver : Nat} {e : TypeId} {rc : RC} {A : Option (Nat × Nat)} {cap : Nat} (hj : hp'[j]? = some (.row ver e rc)) (hl : ρ'[j]? = some (.row A cap)) (hcl : closedRC rc) :
    0 < rc.sz ∧ rc.len ≤ cap ∧ cap ≤ maxLen ∧ (A = none → cap = 0) ∧
    ∀ b o, A = some (b, o) → (w.heap.size ≤ b ∧ b < w'.heap.size) ∧ ∃ cs fr, w'.heap[b]? = some (.cells cs e fr) ∧ Unfrozen cs.size fr ∧ o + cap * rc.sz ≤ cs.size ∧ ∀ i, i < rc.len → ∀ j, j < rc.sz → ∃ u, cs[o + i * rc.sz + j]? = some u ∧ ∀ w ok, (rc.cell i j).rep w ok u := by
  obtain ⟨g1, g2, g3, g4, g5⟩ := mem_row hmem hj hl
  refine ⟨g3, g1, g2, g4, fun b o hA => ?_⟩
  obtain ⟨cs, fr, p1, p2, p3, p4⟩ := g5 b o hA
  refine ⟨?_, cs, fr, p1, p2, p3, fun i hi j hj => ?_⟩
  · obtain ⟨a1, a2⟩ := hmem.bnd b (mem_foot.2 ⟨j, _, hl, by rw [hA]; rfl⟩)
    exact ⟨by rcases a2 with a2 | a2 <;> simp [foot] at a2; exact a2, a1⟩
  · obtain ⟨u, hu, hr⟩ := p4 i hi j hj
    exact ⟨u, hu, fun w ok => closedD_rep (closedRC_cell hcl hi hj) hr⟩
theorem mem_empty (w : World) : Mem ⟨w, [], []⟩ ⟨w, [], []⟩ := ⟨rfl, by simp, by simp, by simp [foot], Fr.refl _ _, by simp [bans]⟩
theorem pureSpec_ok {ev : CallK} (hev : CallSound P ev) {f : FuncId} {ks : List AK} {nl : Option (TypeId × RC)} {body : List SV → (Out → Prop) → Prop}
    (H : ∀ as K, body as K → ev f as [] (inK nl K)) : SpecOK P f (pureSpec ks body) := by
  intro pl args hp k h c1 w ρ vs hm hd
  dsimp only [pureSpec] at h
  split at h
  · rename_i hok
    have hd0 : dens ⟨w, [], []⟩ (frzs hp ks args) vs := frzs_den P hm ks hok hd
    refine (hev f _ [] _ (H _ _ h) ⟨w, [], []⟩ w [] vs (mem_empty w) hd0).mono ?_
    rintro e w' ⟨v, r, hp', ρ', rfl, hin, hdr, hmem, hext⟩
    have hfr : Fr [] w w' := by simpa [foot] using hmem.fr
    unfold inK at hin
    split at hin
    · split at hin
      · rename_i e0 c0
        split at hin
        · rename_i hc
          have hv : v = .slice none 0 0 := by unfold den at hdr; exact hdr
          obtain ⟨r2, hp2, ρ2, q1, q2, q3, q4⟩ := out_row hm hfr hin hc.2 (A := none) (cap := 0) (v := v) (by omega) (by unfold maxLen; omega) (fun _ => rfl) (fun b o hA => by cases hA)
            ⟨none, by rw [hv, hc.1], fun h => by omega⟩
          exact ⟨v, r2, hp2, ρ2, rfl, q1, q2, q3, q4⟩
        · exact hin.elim
      · exact ⟨v, _, hp, ρ, rfl, hin, by unfold den at hdr ⊢; exact hdr, stay_mem hm hfr, stay_ext hfr⟩
    · rename_i j ver lo hi
      split at hin
      · rename_i v0 e0 c0 hj
        split at hin
        · rename_i hv
          subst hv
          obtain ⟨⟨rfl, rfl, hcl⟩, hk⟩ := hin
          obtain ⟨t, A, cap, hj', l1, l2, hlc, hh⟩ := den_view hdr (show rowAt hp' j v0 = some c0 by unfold rowAt; rw [hj]; simp)
          obtain ⟨g1, g2, g3, g4, g5⟩ := fresh_row hmem hj hlc hcl
          obtain ⟨r2, hp2, ρ2, q1, q2, q3, q4⟩ := out_row hm hfr hk g1 g2 g3 g4 g5 hh
          exact ⟨v, r2, hp2, ρ2, rfl, q1, q2, q3, q4⟩
        · exact hin.elim
      · exact hin.elim
    · exact ⟨v, _, hp, ρ, rfl, hin.2, closed_den _ _ hin.1 hdr, stay_mem hm hfr, stay_ext hfr⟩
  · exact h.elim
/-! ### Answers as data -/
theorem fresh_rep {w w' : World} {hp' : List Ob} {ρ' : List Loc} (hmem : Mem ⟨w, [], []⟩ ⟨w', hp', ρ'⟩) {j ver lo hi : Nat} {rc : RC} {v : Value} (hr : rowAt hp' j ver = some rc) (hcl : closedRC rc) (hd : den ⟨w', hp', ρ'⟩ (.view j ver lo hi) v)
    {ok : Nat → Prop} (hok : ∀ b, w.heap.size ≤ b → b < w'.heap.size → ok b) : (rc.sub lo hi).toD.rep w' ok v := by
  obtain ⟨t, A, cap, hj', l1, l2, hlc, A', rfl, hA'⟩ := den_view hd hr
  obtain ⟨g1, g2, g3, g4, g5⟩ := fresh_row hmem hj' hlc hcl
  cases rc with
  | bytes l =>
    have l2 : hi ≤ l.length := l2
    have g2 : l.length ≤ cap := g2
    have hlen : ((l.take hi).drop lo).length = hi - lo := by simp; omega
    refine ⟨A', cap - lo, by rw [hlen], by rw [hlen]; omega, by omega, fun hp => ?_⟩
    rw [hlen] at hp
    obtain ⟨b, o, rfl, rfl⟩ := hA' (by omega)
    obtain ⟨⟨h1, h2⟩, cs, fr, p1, p2, p3, p4⟩ := g5 b o rfl
    refine ⟨b, o + lo * 1, rfl, hok b h1 h2, fun i hi' => ?_⟩
    rw [hlen] at hi'
    obtain ⟨u, hu, hr⟩ := p4 (lo + i) (show lo + i < l.length by omega) 0 (by simp [RC.sz])
    have hr : u = .int .u8 ((l.getD (lo + i) 0).toNat : Int) := hr w' ok
    rw [cell?_of p1]
    have hu : cs[o + (lo + i) * 1 + 0]? = some u := hu
    rw [show o + lo * 1 + i = o + (lo + i) * 1 + 0 by omega, hu, hr]
    congr 3
    rw [List.getD_eq_getElem?_getD, List.getD_eq_getElem?_getD, List.getElem?_drop, List.getElem?_take, if_pos (by omega)]
  | list sz n g =>
    have l2 : hi ≤ n := l2
    have g2 : n ≤ cap := g2
    refine ⟨A', cap - lo, rfl, by omega, by omega, fun hp => ?_⟩
    obtain ⟨b, o, rfl, rfl⟩ := hA' (by omega)
    obtain ⟨⟨h1, h2⟩, cs, fr, p1, p2, p3, p4⟩ := g5 b o rfl
    refine ⟨b, o + lo * sz, rfl, hok b h1 h2, fun i hi' j hj => ?_⟩
    obtain ⟨u, hu, hr⟩ := p4 (lo + i) (show lo + i < n by omega) j hj
    have hu : cs[o + (lo + i) * sz + j]? = some u := hu
    refine ⟨u, ?_, hr w' ok⟩
    rw [cell?_of p1, ← hu]
    congr 1
    rw [Nat.add_mul]; omega
theorem argD_res {w w' : World} {hp' : List Ob} {ρ' : List Loc} (hmem : Mem ⟨w, [], []⟩ ⟨w', hp', ρ'⟩) {hp : List Ob} {ρ : List Loc} {c1 : Cx} (hm : Mem c1 ⟨w, hp, ρ⟩) {k : AK} {x : SV} {v : Value} (hr : resTop hp' x) (hd : den ⟨w', hp', ρ'⟩ x v) :
    den ⟨w', hp, ρ⟩ (argD hp' k x) v := by
  unfold resTop at hr
  split at hr
  · rename_i j ver lo hi
    cases hrow : rowAt hp' j ver with
    | none => rw [hrow] at hr; exact hr.elim
    | some rc =>
      rw [hrow] at hr
      simp only [argD, hrow]
      unfold den
      refine fresh_rep hmem hrow hr hd fun b h1 h2 => ⟨h2, fun hb => ?_⟩
      have : b < w.heap.size := by
        rcases mem_occ.1 hb with hb | hb
        · exact (hm.bnd b hb).1
        · exact (hm.dis b hb).1
      have h1 : w.heap.size ≤ b := h1
      omega
  · rename_i hn
    have h2 := closed_den (c' := ⟨w', hp, ρ⟩) x v hr hd
    cases x with
    | nils =>
      unfold den at hd
      simp only [argD]
      cases k <;> unfold nilD den <;> first | exact hd | exact ⟨none, 0, hd, by simp, by unfold maxLen; omega, fun hp => absurd hp (by simp)⟩
    | view j ver lo hi => exact absurd rfl (hn j ver lo hi)
    | d y => exact nilDD_den h2
    | _ => exact h2
theorem argDs_res {w w' : World} {hp' : List Ob} {ρ' : List Loc} (hmem : Mem ⟨w, [], []⟩ ⟨w', hp', ρ'⟩) {hp : List Ob} {ρ : List Loc} {c1 : Cx} (hm : Mem c1 ⟨w, hp, ρ⟩) : ∀ {xs : List SV} {vs : List Value}, resAll hp' xs → dens ⟨w', hp', ρ'⟩ xs vs → dens ⟨w', hp, ρ⟩ (xs.map (argD hp' .any)) vs
  | [], vs, _, h => by unfold dens at h; subst h; exact dens_nil
  | x :: xs, vs, hr, h => by
    unfold resAll at hr
    unfold dens at h
    obtain ⟨u, us, rfl, h1, h2⟩ := h
    exact dens_cons (argD_res hmem hm hr.1 h1) (argDs_res hmem hm hr.2 h2)
mutual
theorem frz_res {w w' : World} {hp' : List Ob} {ρ' : List Loc} (hmem : Mem ⟨w, [], []⟩ ⟨w', hp', ρ'⟩) {hp : List Ob} {ρ : List Loc} {c1 : Cx} (hm : Mem c1 ⟨w, hp, ρ⟩) : ∀ (k : AK) {x : SV} {v : Value}, resOk hp' k x → den ⟨w', hp', ρ'⟩ x v → den ⟨w', hp, ρ⟩ (frz hp' k x) v
  | .any, x, v, hr, h => by unfold resOk at hr; unfold frz; exact argD_res hmem hm hr h
  | .own, x, v, hr, h => by unfold resOk at hr; unfold frz; exact argD_res hmem hm hr h
  | .bytes, x, v, hr, h => by unfold resOk at hr; unfold frz; exact argD_res hmem hm hr h
  | .list sz, x, v, hr, h => by unfold resOk at hr; unfold frz; exact argD_res hmem hm hr h
  | .agg ks, x, v, hr, h => by
    cases x with
    | agg xs =>
      simp only [resOk] at hr
      simp only [frz]
      unfold den at h ⊢
      obtain ⟨vs, rfl, hd⟩ := h
      exact ⟨vs, rfl, frzs_res hmem hm ks hr hd⟩
    | _ => unfold resOk at hr; unfold frz; exact argD_res hmem hm hr h
  | .tup ks, x, v, hr, h => by
    cases x with
    | tuple xs =>
      simp only [resOk] at hr
      simp only [frz]
      unfold den at h ⊢
      obtain ⟨vs, rfl, hd⟩ := h
      exact ⟨vs, rfl, frzs_res hmem hm ks hr hd⟩
    | _ => unfold resOk at hr; unfold frz; exact argD_res hmem hm hr h
theorem frzs_res {w w' : World} {hp' : List Ob} {ρ' : List Loc} (hmem : Mem ⟨w, [], []⟩ ⟨w', hp', ρ'⟩) {hp : List Ob} {ρ : List Loc} {c1 : Cx} (hm : Mem c1 ⟨w, hp, ρ⟩) : ∀ (ks : List AK) {xs : List SV} {vs : List Value}, resOks hp' ks xs → dens ⟨w', hp', ρ'⟩ xs vs → dens ⟨w', hp, ρ⟩ (frzs hp' ks xs) vs
  | [], xs, vs, hr, h => by unfold resOks at hr; unfold frzs; exact argDs_res hmem hm hr h
  | k :: ks, xs, vs, hr, h => by
    cases xs with
    | nil => unfold frzs; unfold dens at h; subst h; exact dens_nil
    | cons x xs =>
      unfold resOks at hr
      unfold frzs
      unfold dens at h
      obtain ⟨u, us, rfl, h1, h2⟩ := h
      exact dens_cons (frz_res hmem hm k hr.1 h1) (frzs_res hmem hm ks hr.2 h2)
end
theorem pureSpec_okF {ev : CallK} (hev : CallSound P ev) {f : FuncId} {ks : List AK} {ak : AK} {body : List SV → (Out → Prop) → Prop}
    (H : ∀ as K, body as K → ev f as [] (outF ak K)) : SpecOK P f (pureSpec ks body) := by
  intro pl args hp k h c1 w ρ vs hm hd
  dsimp only [pureSpec] at h
  split at h
  · rename_i hok
    have hd0 : dens ⟨w, [], []⟩ (frzs hp ks args) vs := frzs_den P hm ks hok hd
    refine (hev f _ [] _ (H _ _ h) ⟨w, [], []⟩ w [] vs (mem_empty w) hd0).mono ?_
    rintro e w' ⟨v, r, hp', ρ', rfl, ⟨hin, hk⟩, hdr, hmem, hext⟩
    have hfr : Fr [] w w' := by simpa [foot] using hmem.fr
    exact ⟨v, _, hp, ρ, rfl, hk, frz_res hmem hm ak hin hdr, stay_mem hm hfr, stay_ext hfr⟩
  · exact h.elim
/-! ## Such functions may stand in regions that draw -/
def KD (E : (Out → Prop) → Prop) : Prop := ∀ K : Out → Prop, E K → ∃ o, K o ∧ ∀ K' : Out → Prop, K' o → E K'
def BodyDet (body : List SV → (Out → Prop) → Prop) : Prop := ∀ xs, KD (body xs)
theorem kd_ret (o : Out) : KD (fun K => K o) := fun _ h => ⟨o, h, fun _ h => h⟩
theorem kd_false : KD (fun _ => False) := fun _ h => h.elim
theorem kd_br {b : Bool} {E F : (Out → Prop) → Prop} (h1 : KD E) (h2 : KD F) : KD (fun K => BR b (E K) (F K)) := by
  intro K h
  have h : BR b (E K) (F K) := h
  rw [BR_iff] at h
  cases b with
  | true =>
    obtain ⟨o, q1, q2⟩ := h1 K (h.1 rfl)
    exact ⟨o, q1, fun K' hk => BR_iff.2 ⟨fun _ => q2 K' hk, fun e => (by cases e)⟩⟩
  | false =>
    obtain ⟨o, q1, q2⟩ := h2 K (h.2 rfl)
    exact ⟨o, q1, fun K' hk => BR_iff.2 ⟨fun e => (by cases e), fun _ => q2 K' hk⟩⟩
theorem kd_all {α : Type} {x : α} {E : α → (Out → Prop) → Prop} (h : KD (E x)) : KD (fun K => ∀ y, y = x → E y K) := by
  intro K hE
  obtain ⟨o, q1, q2⟩ := h K (hE x rfl)
  exact ⟨o, q1, fun K' hk y hy => by rw [hy]; exact q2 K' hk⟩
theorem kd_and {p : Prop} {E : (Out → Prop) → Prop} (h : KD E) : KD (fun K => p ∧ E K) := by
  intro K hE
  obtain ⟨o, q1, q2⟩ := h K hE.2
  exact ⟨o, q1, fun K' hk => ⟨hE.1, q2 K' hk⟩⟩
theorem kd_ite {p : Prop} [Decidable p] {E F : (Out → Prop) → Prop} (h1 : KD E) (h2 : KD F) : KD (fun K => if p then E K else F K) := by
  by_cases hp : p
  · simp only [if_pos hp]; exact h1
  · simp only [if_neg hp]; exact h2
theorem argD_agree {refs : List Nat} {hp hp2 : List Ob} (h : Agree refs hp hp2) {k : AK} {x : SV} (hr : ∀ j ∈ refsV x, j ∈ refs) : argD hp2 k x = argD hp k x := by
  cases x with
  | view j ver lo hi => have := h j (hr j (by simp [refsV])); simp only [argD, rowAt, this]
  | _ => rfl
theorem refsVs_cons {refs : List Nat} {x : SV} {xs : List SV} (h : ∀ j ∈ refsVs (x :: xs), j ∈ refs) : (∀ j ∈ refsV x, j ∈ refs) ∧ ∀ j ∈ refsVs xs, j ∈ refs := by
  unfold refsVs at h
  exact ⟨fun j hj => h j (List.mem_append_left _ hj), fun j hj => h j (List.mem_append_right _ hj)⟩
theorem argDs_agree {refs : List Nat} {hp hp2 : List Ob} (h : Agree refs hp hp2) : ∀ {xs : List SV}, (∀ j ∈ refsVs xs, j ∈ refs) → xs.map (argD hp2 .any) = xs.map (argD hp .any)
  | [], _ => rfl
  | x :: xs, hr => by
    obtain ⟨h1, h2⟩ := refsVs_cons hr
    simp only [List.map_cons]
    rw [argD_agree h h1, argDs_agree h h2]
mutual
theorem frz_agree {refs : List Nat} {hp hp2 : List Ob} (h : Agree refs hp hp2) : ∀ (k : AK) {x : SV}, (∀ j ∈ refsV x, j ∈ refs) → frz hp2 k x = frz hp k x
  | .any, x, hr => by unfold frz; exact argD_agree h hr
  | .own, x, hr => by unfold frz; exact argD_agree h hr
  | .bytes, x, hr => by unfold frz; exact argD_agree h hr
  | .list sz, x, hr => by unfold frz; exact argD_agree h hr
  | .agg ks, x, hr => by
    cases x with
    | agg xs => simp only [frz]; rw [frzs_agree h ks (by unfold refsV at hr; exact hr)]
    | _ => unfold frz; exact argD_agree h hr
  | .tup ks, x, hr => by
    cases x with
    | tuple xs => simp only [frz]; rw [frzs_agree h ks (by unfold refsV at hr; exact hr)]
    | _ => unfold frz; exact argD_agree h hr
theorem frzs_agree {refs : List Nat} {hp hp2 : List Ob} (h : Agree refs hp hp2) : ∀ (ks : List AK) {xs : List SV}, (∀ j ∈ refsVs xs, j ∈ refs) → frzs hp2 ks xs = frzs hp ks xs
  | [], xs, hr => by unfold frzs; exact argDs_agree h hr
  | k :: ks, xs, hr => by
    cases xs with
    | nil => rfl
    | cons x xs =>
      obtain ⟨h1, h2⟩ := refsVs_cons hr
      show frz hp2 k x :: frzs hp2 ks xs = frz hp k x :: frzs hp ks xs
      rw [frz_agree h k h1, frzs_agree h ks h2]
end
theorem refsVs_of {refs : List Nat} : ∀ {xs : List SV}, (∀ x ∈ xs, ∀ j ∈ refsV x, j ∈ refs) → ∀ j ∈ refsVs xs, j ∈ refs
  | [], _, j, hj => by cases hj
  | x :: xs, h, j, hj => by
    unfold refsVs at hj
    rcases List.mem_append.1 hj with hj | hj
    · exact h x (by simp) j hj
    · exact refsVs_of (fun y hy => h y (List.mem_cons_of_mem _ hy)) j hj
theorem pureSpec_calm {ks : List AK} {body : List SV → (Out → Prop) → Prop} (hb : BodyDet body) : SpecCalm (pureSpec ks body) := by
  intro π args hp refs wr hπ hargs _
  obtain ⟨h1, h2⟩ := hπ 0 (by omega)
  rw [Nat.add_zero] at h1 h2
  refine Calm.at (E := fun hp k => Spec.ev (_ : Sx.Spec) (some π) args hp k) ?_ hp
  refine calm_frame fun hp => ⟨fun hp' k => if argsOk (argsD hp ks args) = true then body (argsD hp ks args) (outK (some π) hp' k) else False, ?_, fun hp2 hag k => ?_⟩
  · refine calm_ite ?_ calm_false
    intro hp' k hE
    obtain ⟨o, ho, hk⟩ := hb _ _ hE
    cases o with
    | val r => exact ⟨r, [], ⟨fun _ _ e => (by cases e), fun hp2 k2 _ hk2 => hk (outK (some π) hp2 k2) hk2⟩, ho⟩
    | row e c =>
      obtain ⟨r, δ, q1, q2⟩ := calm_put (refs := refs) (wr := wr) h1 h2 (.view π 0 0 c.len) (.row 0 e c) hp' k ho
      exact ⟨r, δ, ⟨q1.1, fun hp2 k2 hag hk2 => hk (outK (some π) hp2 k2) (q1.2 hp2 k2 hag hk2)⟩, q2⟩
  · dsimp only [pureSpec]
    rw [show argsD hp2 ks args = argsD hp ks args from frzs_agree hag ks (refsVs_of hargs)]
/-! ## Branches, to be shown -/
theorem sub_all {α : Type} {p : α → Prop} {F : Subtype p → Prop} (h : ∀ i (hi : p i), F ⟨i, hi⟩) : ∀ s, F s := fun ⟨i, hi⟩ => h i hi
theorem BR_d {p : Prop} [Decidable p] {A B : Prop} (h1 : p → A) (h2 : ¬ p → B) : BR (decide p) A B := by
  by_cases h : p
  · simp [BR, h, h1 h]
  · simp [BR, h, h2 h]
theorem BR_b {b : Bool} {A B : Prop} (h1 : b = true → A) (h2 : b = false → B) : BR b A B := by
  rw [BR_iff]
  exact ⟨h1, h2⟩
theorem BR_y {p : Prop} [Decidable p] {A B : Prop} (h : p) (a : A) : BR (decide p) A B := by simp [BR, h, a]
theorem BR_true {A B : Prop} : BR true A B = A := by simp [BR]
theorem BR_false {A B : Prop} : BR false A B = B := by simp [BR]
theorem BR_pF {p : Prop} [Decidable p] {A : Prop} : BR (decide p) A False = (p ∧ A) := by
  by_cases h : p <;> simp [BR, h]
theorem BR_dec {p : Prop} [Decidable p] {A B : Prop} : BR (decide p) A B = ((p → A) ∧ (¬ p → B)) := by
  by_cases h : p <;> simp [BR, h]
theorem BR_nF {p : Prop} [Decidable p] {A : Prop} : BR (decide p) False A = (¬ p ∧ A) := by
  by_cases h : p <;> simp [BR, h]
theorem BR_n {p : Prop} [Decidable p] {A B : Prop} (h : ¬ p) (a : B) : BR (decide p) A B := by simp [BR, h, a]
end Go.Proofs.Ytmadffhjgbpojaa.Sx

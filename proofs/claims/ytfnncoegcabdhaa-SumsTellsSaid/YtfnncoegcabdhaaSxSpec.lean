/- Sx: functions that are known by what they answer, whatever else is in memory. -/
import Derived.Test.YtfnncoegcabdhaaSxCode
namespace Go.Proofs.Ytfnncoegcabdhaa.Sx
open Go
variable {P : Program}

theorem closedD_rep {d : D} (h : closedD d = true) {w w' : World} {ok ok' : Nat → Prop} {v : Value} (hr : d.rep w ok v) : d.rep w' ok' v := by
  cases d with
  | int | bool | str => exact hr
  | bytes | list => cases h
mutual
theorem closed_den {c c' : Cx} : ∀ (x : SV) (v : Value), closedSV x → den c x v → den c' x v
  | .d (.int ..), v, _, h => by unfold den at h ⊢; exact h
  | .d (.bool _), v, _, h => by unfold den at h ⊢; exact h
  | .d (.str _), v, _, h => by unfold den at h ⊢; exact h
  | .d (.bytes _), v, hc, h => by unfold closedSV at hc; exact hc.elim
  | .d (.list ..), v, hc, h => by unfold closedSV at hc; exact hc.elim
  | .nils, v, _, h => by unfold den at h ⊢; exact h
  | .nilp, v, _, h => by unfold den at h ⊢; exact h
  | .nili, v, _, h => by unfold den at h ⊢; exact h
  | .nilf, v, _, h => by unfold den at h ⊢; exact h
  | .nilm, v, _, h => by unfold den at h ⊢; exact h
  | .undef, v, _, h => by unfold den at h ⊢; exact h
  | .agg xs, v, hc, h => by
    unfold closedSV at hc
    unfold den at h ⊢
    obtain ⟨cs, e, h1⟩ := h
    exact ⟨cs, e, closeds_den xs _ hc h1⟩
  | .tuple xs, v, hc, h => by
    unfold closedSV at hc
    unfold den at h ⊢
    obtain ⟨cs, e, h1⟩ := h
    exact ⟨cs, e, closeds_den xs _ hc h1⟩
  | .aggf n g, v, hc, h => by
    unfold closedSV at hc
    unfold den at h ⊢
    obtain ⟨cs, e, h1, h2⟩ := h
    refine ⟨cs, e, h1, fun i hi => ?_⟩
    obtain ⟨u, q1, q2⟩ := h2 i hi
    exact ⟨u, q1, closedD_rep (hc i hi) q2⟩
  | .dead, _, hc, _ | .view .., _, hc, _ | .ptr .., _, hc, _ | .aptr .., _, hc, _ | .rptr .., _, hc, _ | .bptr .., _, hc, _ | .eptr .., _, hc, _ | .clo .., _, hc, _ => by unfold closedSV at hc; exact hc.elim
theorem closeds_den {c c' : Cx} : ∀ (xs : List SV) (vs : List Value), closedSVs xs → dens c xs vs → dens c' xs vs
  | [], vs, _, h => by unfold dens at h ⊢; exact h
  | x :: xs, vs, hc, h => by
    unfold closedSVs at hc
    unfold dens at h ⊢
    obtain ⟨u, us, e, h1, h2⟩ := h
    exact ⟨u, us, e, closed_den x u hc.1 h1, closeds_den xs us hc.2 h2⟩
end

/-! ## What is handed in, as data -/
theorem rep_all {c : Cx} {d : D} {v : Value} (h : d.rep c.w c.ok v) : d.rep (⟨c.w, [], []⟩ : Cx).w (⟨c.w, [], []⟩ : Cx).ok v :=
  rep_mono (fun b hb => ⟨⟨hb.1, by simp [foot]⟩, rfl⟩) d v h
theorem cell?_lt {w : World} {b o : Nat} {u : Value} (h : w.cell? ⟨b, o, none⟩ = some u) : b < w.heap.size := by
  cases hb : w.heap[b]? with
  | none => unfold World.cell? at h; simp [hb] at h
  | some x => exact (Array.getElem?_eq_some_iff.1 hb).1
mutual
theorem argOk_den {c : Cx} : ∀ (x : SV) (v : Value), argOk x = true → den c x v → den ⟨c.w, [], []⟩ x v
  | .d d, v, _, h => by unfold den at h ⊢; exact rep_all h
  | .nils, v, _, h => by unfold den at h ⊢; exact h
  | .nilp, v, _, h => by unfold den at h ⊢; exact h
  | .nili, v, _, h => by unfold den at h ⊢; exact h
  | .nilf, v, _, h => by unfold den at h ⊢; exact h
  | .nilm, v, _, h => by unfold den at h ⊢; exact h
  | .undef, v, _, h => by unfold den at h ⊢; exact h
  | .aggf n g, v, hc, h => by
    unfold den at h ⊢
    obtain ⟨cs, e, h1, h2⟩ := h
    refine ⟨cs, e, h1, fun i hi => ?_⟩
    obtain ⟨u, q1, q2⟩ := h2 i hi
    exact ⟨u, q1, rep_all q2⟩
  | .agg xs, v, hc, h => by
    unfold argOk at hc
    unfold den at h ⊢
    obtain ⟨cs, e, h1⟩ := h
    exact ⟨cs, e, argsOk_den xs _ hc h1⟩
  | .tuple xs, v, hc, h => by
    unfold argOk at hc
    unfold den at h ⊢
    obtain ⟨cs, e, h1⟩ := h
    exact ⟨cs, e, argsOk_den xs _ hc h1⟩
  | .dead, _, hc, _ | .view .., _, hc, _ | .ptr .., _, hc, _ | .aptr .., _, hc, _ | .rptr .., _, hc, _ | .bptr .., _, hc, _ | .eptr .., _, hc, _ | .clo .., _, hc, _ => by unfold argOk at hc; cases hc
theorem argsOk_den {c : Cx} : ∀ (xs : List SV) (vs : List Value), argsOk xs = true → dens c xs vs → dens ⟨c.w, [], []⟩ xs vs
  | [], vs, _, h => by unfold dens at h ⊢; exact h
  | x :: xs, vs, hc, h => by
    unfold argsOk at hc
    simp only [Bool.and_eq_true] at hc
    unfold dens at h ⊢
    obtain ⟨u, us, e, h1, h2⟩ := h
    exact ⟨u, us, e, argOk_den x u hc.1 h1, argsOk_den xs us hc.2 h2⟩
end
theorem shows_rep {c : Cx} {rc : RC} {A : Option Addr} {cap : Nat} (h : Shows c rc A cap) (hsz : 0 < rc.sz) : rc.toD.rep c.w (Cx.ok ⟨c.w, [], []⟩) (.slice A rc.len cap) := by
  cases rc with
  | bytes l =>
    refine ⟨A, cap, rfl, h.le, h.max, fun hl => ?_⟩
    obtain ⟨b, o, e, hc⟩ := h.cells hl
    have hcell : ∀ i, i < l.length → c.w.cell? ⟨b, o + i, none⟩ = some (.int .u8 ((l.getD i 0).toNat : Int)) := by
      intro i hi
      obtain ⟨u, q1, q2⟩ := hc i hi 0 (by simp [RC.sz])
      have q2 : u = .int .u8 ((l.getD i 0).toNat : Int) := q2
      rw [← q2, ← q1]; simp [RC.sz]
    exact ⟨b, o, e, ⟨cell?_lt (hcell 0 hl), by simp [foot]⟩, hcell⟩
  | list sz n g =>
    refine ⟨A, cap, rfl, h.le, h.max, fun hl => ?_⟩
    obtain ⟨b, o, e, hc⟩ := h.cells hl
    obtain ⟨u0, q0, _⟩ := hc 0 hl 0 hsz
    refine ⟨b, o, e, ⟨cell?_lt q0, by simp [foot]⟩, fun i hi j hj => ?_⟩
    obtain ⟨u, q1, q2⟩ := hc i hi j hj
    exact ⟨u, q1, rep_all q2⟩
theorem argD_den (P : Program) {c0 c : Cx} (hm : Mem c0 c) {a : AK} {x : SV} {v : Value} (hok : argOk (argD c.hp a x) = true) (h : den c x v) : den ⟨c.w, [], []⟩ (argD c.hp a x) v := by
  unfold argD at hok ⊢
  split
  · cases a with
    | any => exact argOk_den _ _ rfl h
    | bytes =>
      unfold den at h; unfold nilD den
      exact ⟨none, 0, h, by simp, by unfold maxLen; omega, fun hp => absurd hp (by simp)⟩
    | list sz =>
      unfold den at h; unfold nilD den
      exact ⟨none, 0, h, by simp, by unfold maxLen; omega, fun hp => absurd hp (by simp)⟩
  · rename_i j ver lo hi
    cases hr : rowAt c.hp j ver with
    | none => unfold den; trivial
    | some r =>
      simp only
      obtain ⟨t, A, cap, hj, l1, l2, hlc, A', rfl, hA⟩ := den_view h hr
      obtain ⟨g1, g2, g3, g4, g5⟩ := mem_row hm hj hlc
      rcases rowOf_sound (P := P) hm (e := 0) (rc := r.sub lo hi) (by unfold rowOf; simp [hr]) h with ⟨A2, cap2, e, hs⟩ | ⟨l, _, e, _⟩
      · unfold den
        rw [e]
        exact shows_rep (c := c) hs (by rw [sub_sz]; exact g3)
      · cases e
  · rename_i hn1 hn2
    split at hok
    · exact absurd rfl hn1
    · exact absurd rfl (hn2 _ _ _ _)
    · exact argOk_den _ _ hok h
theorem argsD_den (P : Program) {c0 c : Cx} (hm : Mem c0 c) : ∀ {ks : List AK} {xs : List SV} {vs : List Value}, argsOk (argsD c.hp ks xs) = true → (ks.length ≤ xs.length) → dens c xs vs → dens ⟨c.w, [], []⟩ (argsD c.hp ks xs) vs
  | [], [], vs, _, _, h => by unfold argsD; unfold dens at h ⊢; exact h
  | [], x :: xs, vs, hok, hl, h => by
    unfold argsD at hok ⊢
    unfold argsOk at hok
    simp only [Bool.and_eq_true] at hok
    unfold dens at h ⊢
    obtain ⟨u, us, e, h1, h2⟩ := h
    exact ⟨u, us, e, argD_den P hm hok.1 h1, argsD_den P hm hok.2 (by simp) h2⟩
  | a :: as, x :: xs, vs, hok, hl, h => by
    unfold argsD at hok ⊢
    unfold argsOk at hok
    simp only [Bool.and_eq_true] at hok
    unfold dens at h ⊢
    obtain ⟨u, us, e, h1, h2⟩ := h
    exact ⟨u, us, e, argD_den P hm hok.1 h1, argsD_den P hm hok.2 (by simpa using hl) h2⟩
  | _ :: _, [], vs, _, hl, h => by simp at hl

/-! ## Answers -/
theorem stay_ext {c : Cx} {w' : World} (hf : Fr [] c.w w') : Ext c ⟨w', c.hp, c.ρ⟩ :=
  ⟨fun b hb => ⟨⟨Nat.lt_of_lt_of_le hb.1 hf.size, hb.2⟩, hf.block b hb.1 (by simp)⟩, Nat.le_refl _, fun _ _ h => h, fun _ _ _ g h => ⟨g, h⟩, fun _ _ h => h, fun _ v t r _ _ h => ⟨v, t, r, h, Nat.le_refl _, fun _ => ⟨rfl, rfl, rfl⟩⟩⟩
theorem stay_mem {c1 c : Cx} (hm : Mem c1 c) {w' : World} (hf : Fr [] c.w w') : Mem c ⟨w', c.hp, c.ρ⟩ where
  len := hm.len
  obs j ob loc hj hl := obRel_ext (stay_ext hf) (fun b hb => hf.block b (hm.bnd b (mem_foot.2 ⟨j, loc, hl, hb⟩)).1 (by simp)) (hm.obs j ob loc hj hl)
  nodup := hm.nodup
  bnd b hb := ⟨Nat.lt_of_lt_of_le (hm.bnd b hb).1 hf.size, .inl hb⟩
  fr := ⟨hf.os, hf.tape, hf.output, hf.size, fun b hb _ => hf.block b hb (by simp)⟩
theorem pureSpec_ok {ev : CallK} (hev : CallSound P ev) {f : FuncId} {ks : List AK} {nl : Option (TypeId × RC)} {body : List SV → (Out → Prop) → Prop}
    (H : ∀ as K, body as K → ev f as [] (inK nl K)) : SpecOK P f (pureSpec ks body) := by
  intro args hp k h c1 w ρ vs hm hd
  unfold pureSpec at h
  split at h
  · rename_i hok
    have hm0 : Mem ⟨w, [], []⟩ ⟨w, [], []⟩ := ⟨rfl, by simp, by simp, by simp [foot], Fr.refl _ _⟩
    have hd0 : dens ⟨w, [], []⟩ (argsD hp ks args) vs := argsD_den P hm hok.1 hok.2 hd
    refine (hev f _ [] _ (H _ _ h) ⟨w, [], []⟩ w [] vs hm0 hd0).mono ?_
    rintro e w' ⟨v, r, hp', ρ', rfl, hin, hdr, hmem, hext⟩
    have hfr : Fr [] w w' := by simpa [foot] using hmem.fr
    unfold inK at hin
    split at hin
    · split at hin
      · rename_i e0 c0
        split at hin
        · rename_i hc
          have hdr : den ⟨w', hp, ρ⟩ .nils v := by unfold den at hdr ⊢; exact hdr
          obtain ⟨q1, q2, q3⟩ := nul_row (stay_mem hm hfr) e0 hc.1 hc.2 hdr
          have hin : k (.view hp.length 0 0 c0.len) (hp ++ [.row 0 e0 c0]) := hin
          rw [hc.1] at hin
          exact ⟨v, _, _, _, rfl, hin, q3, q1, (stay_ext hfr).trans q2⟩
        · exact hin.elim
      · exact ⟨v, _, hp, ρ, rfl, hin, by unfold den at hdr ⊢; exact hdr, stay_mem hm hfr, stay_ext hfr⟩
    · rename_i j ver lo hi
      split at hin
      · rename_i v0 e0 c0 hj
        split at hin
        · rename_i hv
          subst hv
          obtain ⟨⟨rfl, rfl, hcl⟩, hk⟩ := hin
          obtain ⟨t, A, cap, hj', l1, l2, hlc, hh⟩ := den_view hdr (show rowAt hp' j v0 = some c0 by unfold rowAt; rw [hj]; simp)
          have hob := hmem.obs j _ _ hj hlc
          obtain ⟨A2, cap2, he, g1, g2, g3, g4, g5⟩ := hob
          cases he
          obtain ⟨q1, q2⟩ := new_mem (c0 := ⟨w, hp, ρ⟩) (c := ⟨w, hp, ρ⟩) hm.start (ob := .row 0 e0 c0) (loc := .row A cap) (w' := w') hfr.os hfr.tape hfr.output hfr.size
            (fun i hi => hfr.block i hi (by simp)) (fun b hb => by
              obtain ⟨a1, a2⟩ := hmem.bnd b (mem_foot.2 ⟨j, _, hlc, hb⟩)
              exact ⟨by rcases a2 with a2 | a2 <;> simp [foot] at a2; exact a2, a1⟩) (fun _ => by
              refine ⟨A, cap, rfl, g1, g2, g3, g4, fun b o hA => ?_⟩
              obtain ⟨cs, fr, p1, p2, p3, p4⟩ := g5 b o hA
              refine ⟨cs, fr, p1, p2, p3, fun i hi j hj => ?_⟩
              obtain ⟨u, hu, hr⟩ := p4 i hi j hj
              refine ⟨u, hu, closedD_rep ?_ hr⟩
              cases c0 with
              | bytes l => rfl
              | list sz n g => exact hcl i hi j hj)
          refine ⟨v, _, _, _, rfl, hk, ?_, q1, q2⟩
          exact view_den (c := ⟨w', hp ++ [.row 0 e0 c0], ρ ++ [.row A cap]⟩) (j := hp.length) (ver := 0) (t := e0) (r := c0) (by simp) l1 l2 (by rw [← hm.len]; simp) hh
        · exact hin.elim
      · exact hin.elim
    · exact ⟨v, _, hp, ρ, rfl, hin.2, closed_den _ _ hin.1 hdr, stay_mem hm hfr, stay_ext hfr⟩
  · exact h.elim
/-! ## Branches, to be shown -/
theorem sub_all {α : Type} {p : α → Prop} {F : Subtype p → Prop} (h : ∀ i (hi : p i), F ⟨i, hi⟩) : ∀ s, F s := fun ⟨i, hi⟩ => h i hi
theorem BR_d {p : Prop} [Decidable p] {A B : Prop} (h1 : p → A) (h2 : ¬ p → B) : BR (decide p) A B := by
  by_cases h : p
  · simp [BR, h, h1 h]
  · simp [BR, h, h2 h]
theorem BR_b {b : Bool} {A B : Prop} (h1 : b = true → A) (h2 : b = false → B) : BR b A B := by
  rw [BR_iff]
  exact ⟨h1, h2⟩
theorem BR_y {p : Prop} [Decidable p] {A B : Prop} (h : p) (a : A) : BR (decide p) A B := by simp [BR, h, a]
theorem BR_true {A B : Prop} : BR true A B = A := by simp [BR]
theorem BR_false {A B : Prop} : BR false A B = B := by simp [BR]
theorem BR_pF {p : Prop} [Decidable p] {A : Prop} : BR (decide p) A False = (p ∧ A) := by
  by_cases h : p <;> simp [BR, h]
theorem BR_dec {p : Prop} [Decidable p] {A B : Prop} : BR (decide p) A B = ((p → A) ∧ (¬ p → B)) := by
  by_cases h : p <;> simp [BR, h]
theorem BR_nF {p : Prop} [Decidable p] {A : Prop} : BR (decide p) False A = (¬ p ∧ A) := by
  by_cases h : p <;> simp [BR, h]
theorem BR_n {p : Prop} [Decidable p] {A B : Prop} (h : ¬ p) (a : B) : BR (decide p) A B := by simp [BR, h, a]
end Go.Proofs.Ytfnncoegcabdhaa.Sx

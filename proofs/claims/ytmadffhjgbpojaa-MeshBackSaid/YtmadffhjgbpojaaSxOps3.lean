/- Sx: addresses, parts, slices, lengths. -/
import Derived.Test.YtmadffhjgbpojaaSxOps2
import Derived.Laws.Append
import Derived.Laws.MakeOwn
import Derived.Laws.BytesString
namespace Go.Proofs.Ytmadffhjgbpojaa.Sx
open Go
section
variable {P : Program}

theorem isSome_of {α : Type} {o : Option α} (h : ¬ o.isSome = false) : ∃ x, o = some x := by
  cases o with
  | none => exact (h rfl).elim
  | some x => exact ⟨x, rfl⟩
theorem den_ptr {c : Cx} {j off : Nat} {v : Value} (h : den c (.ptr j off) v) : ∃ b, (c.ρ[j]?).bind Loc.ptrAt = some b ∧ v = .pointer (some ⟨b, off, none⟩) := by unfold den at h; exact h
theorem ptr_den {c : Cx} {j off b : Nat} (h : (c.ρ[j]?).bind Loc.ptrAt = some b) : den c (.ptr j off) (.pointer (some ⟨b, off, none⟩)) := by unfold den; exact ⟨b, h, rfl⟩
theorem den_view {c : Cx} {j ver lo hi : Nat} {v : Value} {r : RC} (h : den c (.view j ver lo hi) v) (hr : rowAt c.hp j ver = some r) :
    ∃ t A cap, c.hp[j]? = some (.row ver t r) ∧ lo ≤ hi ∧ hi ≤ r.len ∧ c.ρ[j]? = some (.row A cap) ∧ Hdr A cap r.sz lo hi v := by
  unfold den at h
  obtain ⟨_, _, h⟩ := h
  obtain ⟨t, hj⟩ := rowAt_some hr
  obtain ⟨_, h⟩ := h _ _ _ hj
  obtain ⟨h1, h2, A, cap, h3, h4⟩ := h rfl
  exact ⟨t, A, cap, hj, h1, h2, h3, h4⟩
theorem view_den {c : Cx} {j ver lo hi : Nat} {t : TypeId} {v : Value} {r : RC} {A : Option (Nat × Nat)} {cap : Nat} (hj : c.hp[j]? = some (.row ver t r)) (h1 : lo ≤ hi) (h2 : hi ≤ r.len)
    (h3 : c.ρ[j]? = some (.row A cap)) (h4 : Hdr A cap r.sz lo hi v) : den c (.view j ver lo hi) v := by
  unfold den
  have h4' := h4
  obtain ⟨A', hv, _⟩ := h4'
  refine ⟨⟨(List.getElem?_eq_some_iff.1 hj).1, by rw [hj]; simp⟩, ⟨_, _, _, hv⟩, fun v0 t' r' hj' => ?_⟩
  rw [hj] at hj'
  cases hj'
  exact ⟨Nat.le_refl _, fun _ => ⟨h1, h2, A, cap, h3, h4⟩⟩

theorem evIndexAddr_sound {c0 c : Cx} (hm : Mem c0 c) {t : TypeId} {x i : SV} {k : SV → Prop} {vx vi : Value} (h : evIndexAddr P c.hp t x i k) (hx : den c x vx) (hi : den c i vi) :
    ∃ u r, (Instr.indexAt t vx vi).run P c.w = .ok u c.w ∧ k r ∧ den c r u := by
  unfold evIndexAddr at h
  split at h
  · rename_i kk n len e hu
    obtain rfl := den_int hi
    split at h
    · exact h.elim
    rename_i he
    obtain ⟨inf, hinf⟩ := isSome_of he
    split at h
    · rename_i j off
      obtain ⟨b, hb, rfl⟩ := den_ptr hx
      split at h
      · obtain ⟨⟨n0, n1⟩, hk⟩ := BR_req h
        refine ⟨_, _, ?_, hk, ptr_den hb⟩
        simp [Instr.indexAt, asIntOf, run_underlying hu, Instr.sureAddr, n0, n1, run_sizeOf' hinf, add_none]
      · rename_i ty m g hj
        split at h
        · rename_i hc
          obtain ⟨rfl, hsz, rfl⟩ := hc
          obtain ⟨⟨n0, n1⟩, hk⟩ := BR_req h
          refine ⟨.pointer (some ⟨b, n.toNat, none⟩), _, ?_, hk, ?_⟩
          · simp [Instr.indexAt, asIntOf, run_underlying hu, Instr.sureAddr, n0, n1, run_sizeOf' hinf, add_none, hsz]
          · unfold den
            exact ⟨⟨_, _, _, hj, by omega⟩, b, hb, rfl⟩
        · exact h.elim
      · exact h.elim
    · rename_i sz g off
      obtain ⟨⟨n0, n1⟩, hk⟩ := BR_req h
      unfold den at hx
      obtain ⟨b, o, rfl, hb, hc⟩ := hx
      refine ⟨.pointer (some ⟨b, o + (off + n.toNat * szOf P e), none⟩), _, ?_, hk, ?_⟩
      · simp [Instr.indexAt, asIntOf, run_underlying hu, Instr.sureAddr, n0, n1, run_sizeOf' hinf, add_none, Nat.add_assoc]
      · unfold den
        exact ⟨b, o, rfl, hb, hc⟩
    · rename_i j ver i off
      split at h
      · rename_i r hr
        obtain ⟨ty, hj⟩ := rowAt_some hr
        obtain ⟨⟨n0, n1⟩, hk⟩ := BR_req h
        unfold den at hx
        obtain ⟨h1, _, h2⟩ := hx
        obtain ⟨_, h3⟩ := h2 _ _ _ hj
        obtain ⟨hi, b, o, cap, hl, rfl⟩ := h3 rfl
        refine ⟨.pointer (some ⟨b, o + i * r.sz + (off + n.toNat * szOf P e), none⟩), _, ?_, hk, ?_⟩
        · simp [Instr.indexAt, asIntOf, run_underlying hu, Instr.sureAddr, n0, n1, run_sizeOf' hinf, add_none, Nat.add_assoc]
        · unfold den
          refine ⟨h1, ⟨_, rfl⟩, fun v0 t2 r2 hj2 => ?_⟩
          rw [hj] at hj2
          cases hj2
          exact ⟨Nat.le_refl _, fun _ => ⟨hi, b, o, cap, hl, rfl⟩⟩
      · exact h.elim
    · exact h.elim
  · rename_i kk n e hu
    obtain rfl := den_int hi
    split at h
    · exact h.elim
    rename_i he
    obtain ⟨inf, hinf⟩ := isSome_of he
    split at h
    · rename_i l
      split at h
      · rename_i hsz
        obtain ⟨⟨n0, n1⟩, hk⟩ := BR_req h
        unfold den at hx
        obtain ⟨A, cap, rfl, hc, hmx, hr⟩ := hx
        obtain ⟨b, o, rfl, hb, hcell⟩ := hr (by omega)
        refine ⟨.pointer (some ⟨b, o + n.toNat, none⟩), _, ?_, hk, ?_⟩
        · simp [Instr.indexAt, asIntOf, run_underlying hu, n0, n1, run_sizeOf' hinf, add_none, hsz]
        · unfold den
          exact ⟨b, _, rfl, hb, hcell n.toNat (by omega)⟩
      · exact h.elim
    · rename_i sz len g
      split at h
      · rename_i hsz
        obtain ⟨⟨n0, n1⟩, hk⟩ := BR_req h
        unfold den at hx
        obtain ⟨A, cap, rfl, hc, hmx, hr⟩ := hx
        obtain ⟨b, o, rfl, hb, hcell⟩ := hr (by omega)
        refine ⟨.pointer (some ⟨b, o + n.toNat * sz, none⟩), _, ?_, hk, ?_⟩
        · simp [Instr.indexAt, asIntOf, run_underlying hu, n0, n1, run_sizeOf' hinf, add_none, hsz]
        · unfold den
          exact ⟨b, _, rfl, hb, fun j hj => hcell n.toNat (by omega) j hj⟩
      · exact h.elim
    · rename_i j ver lo hi
      split at h
      · rename_i r hr
        split at h
        · rename_i hsz
          obtain ⟨⟨n0, n1⟩, hk⟩ := BR_req h
          obtain ⟨ty, A, cap, hj, l1, l2, hl, A', rfl, hA⟩ := den_view hx hr
          obtain ⟨g1, g2, g3, g4, g5⟩ := mem_row hm hj hl
          obtain ⟨b, o, rfl, rfl⟩ := hA (by omega)
          refine ⟨.pointer (some ⟨b, o + lo * r.sz + n.toNat * szOf P e, none⟩), _, ?_, hk, ?_⟩
          · simp only [Instr.indexAt, asIntOf, run_underlying hu, Sem.run_bind, Sem.run_pure, Result.andThen_ok]
            rw [if_pos (by constructor <;> omega)]
            simp only [Sem.run_bind, run_sizeOf' hinf, Result.andThen_ok, Sem.run_pure, add_none]
          · unfold den
            refine ⟨⟨(List.getElem?_eq_some_iff.1 hj).1, by rw [hj]; simp⟩, ⟨_, rfl⟩, fun v0 t' r' hj' => ?_⟩
            rw [hj] at hj'
            cases hj'
            refine ⟨Nat.le_refl _, fun _ => ⟨by omega, b, o, cap, hl, ?_⟩⟩
            rw [hsz, Nat.add_zero, Nat.add_mul, Nat.add_assoc]
        · exact h.elim
      · exact h.elim
    · exact h.elim
  · exact h.elim

theorem evFieldAddr_sound {c : Cx} {t : TypeId} {x : SV} {f : Nat} {k : SV → Prop} {v : Value} (h : evFieldAddr P t x f k) (hx : den c x v) :
    ∃ u r, (Instr.fieldAt t v f).run P c.w = .ok u c.w ∧ k r ∧ den c r u := by
  unfold evFieldAddr at h
  split at h
  · rename_i fs hu
    split at h
    · rename_i fd hf
      split at h
      · exact h.elim
      rename_i hz
      have hinf : ∃ i, P.info? fd.type = some i := by
        cases hi : P.info? fd.type with
        | none => exfalso; apply hz; simp [szOf, Program.cellsOf, hi]
        | some i => exact ⟨i, rfl⟩
      obtain ⟨inf, hinf⟩ := hinf
      have key : ∀ b o, (Instr.fieldAt t (.pointer (some ⟨b, o, none⟩)) f).run P c.w = .ok (.pointer (some ⟨b, o + fd.offset, none⟩)) c.w := fun b o => by
        simp [Instr.fieldAt, run_underlying hu, hf, Instr.sureAddr, fieldPlace, run_sizeOf' hinf, hz, add_none]
      split at h
      · rename_i j off
        obtain ⟨b, hb, rfl⟩ := den_ptr hx
        exact ⟨_, _, key b off, h, ptr_den hb⟩
      · rename_i j ver i off
        unfold den at hx
        obtain ⟨h1, ⟨a, rfl⟩, h2⟩ := hx
        by_cases hcur : ∃ t' r', c.hp[j]? = some (.row ver t' r')
        · obtain ⟨t', r', hj⟩ := hcur
          obtain ⟨_, h3⟩ := h2 _ _ _ hj
          obtain ⟨hi, b, o, cap, hl, he⟩ := h3 rfl
          obtain rfl : a = ⟨b, o + i * r'.sz + off, none⟩ := by injection he with he; injection he
          refine ⟨_, _, key b _, h, ?_⟩
          unfold den
          refine ⟨h1, ⟨_, rfl⟩, fun v0 t2 r2 hj2 => ?_⟩
          rw [hj] at hj2
          cases hj2
          exact ⟨Nat.le_refl _, fun _ => ⟨hi, b, o, cap, hl, by rw [Nat.add_assoc]⟩⟩
        · obtain ⟨b, o, sp⟩ := a
          -- what is stale leads somewhere all the same
          have hrun : (Instr.fieldAt t (.pointer (some ⟨b, o, sp⟩)) f).run P c.w = .ok (.pointer (some ((⟨b, o, sp⟩ : Addr).add fd.offset))) c.w := by
            simp [Instr.fieldAt, run_underlying hu, hf, Instr.sureAddr, fieldPlace, run_sizeOf' hinf, hz]
          refine ⟨_, _, hrun, h, ?_⟩
          unfold den
          refine ⟨h1, ⟨_, rfl⟩, fun v0 t2 r2 hj2 => ⟨(h2 _ _ _ hj2).1, fun he => (hcur ⟨t2, r2, by rw [he]; exact hj2⟩).elim⟩⟩
      · rename_i sz g off
        unfold den at hx
        obtain ⟨b, o, rfl, hb, hc⟩ := hx
        refine ⟨_, _, key b _, h, ?_⟩
        unfold den
        exact ⟨b, o, by rw [Nat.add_assoc], hb, hc⟩
      · exact h.elim
    · exact h.elim
  · exact h.elim
theorem evPart_sound {c : Cx} {t : TypeId} {xs : List SV} {vs : List Value} {off : Nat} {k : SV → Prop} (h : evPart P t xs off k) (hx : dens c xs vs) :
    ∃ u r, (part t ⟨vs⟩ off).run P c.w = .ok u c.w ∧ k r ∧ den c r u := by
  unfold evPart at h
  split at h
  · rename_i ha
    obtain ⟨inf, hinf⟩ := info_of_agg ha
    split at h
    · rename_i hle
      refine ⟨_, _, by simp only [part, Sem.run_bind, run_isAgg' ha, Result.andThen_ok, if_true, run_sizeOf' hinf, Sem.run_pure]; rfl, h, ?_⟩
      unfold den
      refine ⟨(vs.drop off).take (szOf P t), ?_, dens_take (dens_drop hx off) _⟩
      congr 1
      apply Array.ext'
      simp [Array.toList_extract, List.extract_eq_take_drop, List.drop_take]
    · exact h.elim
  · rename_i ha
    split at h
    · rename_i x hx'
      obtain ⟨u, hu, hd⟩ := dens_get hx off x hx'
      refine ⟨u, x, ?_, h, hd⟩
      simp only [part, Sem.run_bind, run_isAgg' ha, Result.andThen_ok]
      simp [hu]
    · exact h.elim
  · exact h.elim
theorem evField_sound {c : Cx} {t : TypeId} {x : SV} {f : Nat} {k : SV → Prop} {v : Value} (h : evField P t x f k) (hx : den c x v) :
    ∃ u r, (Instr.field t v f).run P c.w = .ok u c.w ∧ k r ∧ den c r u := by
  unfold evField at h
  split at h
  · rename_i fs xs hu
    unfold den at hx
    obtain ⟨vs, rfl, hd⟩ := hx
    split at h
    · rename_i fd hf
      obtain ⟨u, r, h1, h2, h3⟩ := evPart_sound h hd
      exact ⟨u, r, by simp [Instr.field, run_underlying hu, hf, asAgg, h1], h2, h3⟩
    · exact h.elim
  · exact h.elim
theorem evIndex_sound {c : Cx} {t : TypeId} {x i : SV} {k : SV → Prop} {vx vi : Value} (h : evIndex P t x i k) (hx : den c x vx) (hi : den c i vi) :
    ∃ u r, (Instr.index t vx vi).run P c.w = .ok u c.w ∧ k r ∧ den c r u := by
  unfold evIndex at h
  split at h
  · rename_i len e xs kk n hu
    obtain rfl := den_int hi
    unfold den at hx
    obtain ⟨vs, rfl, hd⟩ := hx
    split at h
    · exact h.elim
    rename_i he
    obtain ⟨inf, hinf⟩ := isSome_of he
    obtain ⟨⟨n0, n1⟩, hk⟩ := BR_req h
    obtain ⟨u, r, h1, h2, h3⟩ := evPart_sound hk hd
    refine ⟨u, r, ?_, h2, h3⟩
    simp only [Instr.index, asIntOf, run_underlying hu, Sem.run_bind, Sem.run_pure, Result.andThen_ok]
    rw [if_pos ⟨n0, n1⟩]
    simp only [Sem.run_bind, run_sizeOf' hinf, Result.andThen_ok, h1]
  · rename_i len e m g kk n hu
    obtain rfl := den_int hi
    unfold den at hx
    obtain ⟨vs, rfl, hvl, hvs⟩ := hx
    split at h
    · rename_i hc
      obtain ⟨ha, hsz, rfl⟩ := hc
      obtain ⟨inf, hinf⟩ := info_of_agg ha
      obtain ⟨⟨n0, n1⟩, hk⟩ := BR_req h
      obtain ⟨u, hu', hr⟩ := hvs n.toNat (by omega)
      refine ⟨u, _, ?_, hk, by unfold den; exact hr⟩
      simp only [Instr.index, asIntOf, run_underlying hu, Sem.run_bind, Sem.run_pure, Result.andThen_ok]
      rw [if_pos ⟨n0, n1⟩]
      simp only [Sem.run_bind, run_sizeOf' hinf, Result.andThen_ok, part, run_isAgg' ha, hsz, Nat.mul_one]
      simp [hu']
    · exact h.elim
  · rename_i l kk n hu
    obtain rfl := den_int hi
    obtain ⟨rfl, _⟩ := den_str hx
    obtain ⟨⟨n0, n1⟩, hk⟩ := BR_req h
    refine ⟨_, _, ?_, hk, int_den c _ _⟩
    have hlt : n.toNat < l.length := by omega
    simp only [Instr.index, asIntOf, run_underlying hu, Sem.run_bind, Sem.run_pure, Result.andThen_ok]
    rw [if_pos n0]
    have : (⟨l.toArray⟩ : ByteArray)[n.toNat]? = some l[n.toNat] := by
      rw [getElem?_pos (h := by simpa [ByteArray.size] using hlt)]
      rfl
    rw [this]
    simp [List.getD, hlt]
  · exact h.elim

/-! ## Slices -/
def denO (c : Cx) : Option SV → Option Value → Prop
  | none, none => True
  | some x, some v => den c x v
  | _, _ => False
theorem evBounds_sound {c : Cx} {n cap : Nat} {low high : Option SV} {k : Nat → Nat → Prop} {vl vh : Option Value} (sl : Bool) (h : evBounds n low high k) (hl : denO c low vl) (hh : denO c high vh) (hc : n ≤ cap) :
    ∃ a b, (Instr.sliceBounds sl n cap vl vh none).run P c.w = .ok (a, b, cap) c.w ∧ k a b ∧ a ≤ b ∧ b ≤ n := by
  unfold evBounds at h
  split at h
  · cases vl <;> cases vh <;> simp only [denO] at hl hh
    exact ⟨0, n, by simp [Instr.sliceBounds], h, Nat.zero_le _, Nat.le_refl _⟩
  · cases vl <;> cases vh <;> simp only [denO] at hl hh
    obtain rfl := den_int hl
    obtain ⟨⟨a0, a1⟩, hk⟩ := BR_req h
    exact ⟨_, _, by simp [Instr.sliceBounds, Instr.sliceBound, asIntOf, a0, a1], hk, by omega, Nat.le_refl _⟩
  · cases vl <;> cases vh <;> simp only [denO] at hl hh
    obtain rfl := den_int hh
    rename_i kk b
    obtain ⟨⟨a0, a1⟩, hk⟩ := BR_req h
    have : b ≤ (cap : Int) := by omega
    exact ⟨_, _, by simp [Instr.sliceBounds, Instr.sliceBound, asIntOf, a0, this], hk, Nat.zero_le _, by omega⟩
  · cases vl <;> cases vh <;> simp only [denO] at hl hh
    obtain rfl := den_int hh
    obtain rfl := den_int hl
    rename_i kl a kh b
    obtain ⟨⟨a0, a1, a2⟩, hk⟩ := BR_req h
    have h1 : b ≤ (cap : Int) := by omega
    have h2 : 0 ≤ b := by omega
    have h3 : a ≤ (b.toNat : Int) := by omega
    refine ⟨a.toNat, b.toNat, ?_, hk, by omega, by omega⟩
    simp only [Instr.sliceBounds, Instr.sliceBound, asIntOf, Sem.run_bind, Sem.run_pure, Result.andThen_ok]
    rw [if_pos ⟨h2, h1⟩]
    simp only [Sem.run_pure, Result.andThen_ok]
    rw [if_pos ⟨a0, h3⟩]
    simp only [Sem.run_pure, Result.andThen_ok]
  · exact h.elim
theorem extract_mk (l : List UInt8) (a b : Nat) : (⟨l.toArray⟩ : ByteArray).extract a b = ⟨((l.take b).drop a).toArray⟩ := by
  apply ByteArray.ext
  simp [ByteArray.data_extract, List.extract_toArray, List.extract_eq_take_drop, List.drop_take]
theorem evSlice_sound {c0 c : Cx} (hm : Mem c0 c) {t : TypeId} {x : SV} {low high : Option SV} {k : SV → Prop} {v : Value} {vl vh : Option Value} (h : evSlice P c.hp t x low high k) (hx : den c x v)
    (hl : denO c low vl) (hh : denO c high vh) : ∃ u r, (Instr.sliceAt t v vl vh none).run P c.w = .ok u c.w ∧ k r ∧ den c r u := by
  unfold evSlice at h
  split at h
  · rename_i hu
    have hsa : ∀ v : Value, (Instr.sliceAt t v vl vh none).run P c.w = (Instr.slice t v vl vh none).run P c.w := fun v => by simp [Instr.sliceAt, run_underlying hu]
    split at h
    · rename_i l
      obtain ⟨rfl, hlen⟩ := den_str hx
      obtain ⟨a, b, h1, h2, h3, h4⟩ := evBounds_sound (P := P) (cap := l.length) false h hl hh (Nat.le_refl _)
      refine ⟨_, _, ?_, h2, str_den c (l := (l.take b).drop a) (by simp; omega)⟩
      rw [hsa]
      simp only [Instr.slice, run_underlying hu, Sem.run_bind, Result.andThen_ok, size_mk]
      simp [h1, extract_mk]
    · exact h.elim
  · rename_i e hu
    have hsa : ∀ v : Value, (Instr.sliceAt t v vl vh none).run P c.w = (Instr.slice t v vl vh none).run P c.w := fun v => by simp [Instr.sliceAt, run_underlying hu]
    split at h
    · exact h.elim
    rename_i he
    obtain ⟨inf, hinf⟩ := isSome_of he
    have main : ∀ (A : Option Addr) (n cap a b : Nat), (Instr.sliceBounds true n cap vl vh none).run P c.w = .ok (a, b, cap) c.w →
        (Instr.sliceAt t (.slice A n cap) vl vh none).run P c.w = .ok (.slice (if cap = a then A else A.map (·.add (a * szOf P e))) (b - a) (cap - a)) c.w := fun A n cap a b hb => by
      rw [hsa]
      simp [Instr.slice, run_underlying hu, hb, run_sizeOf' hinf]
    split at h
    · rename_i l
      split at h
      · rename_i hsz
        unfold den at hx
        obtain ⟨A, cap, rfl, hc, hmx, hr⟩ := hx
        obtain ⟨a, b, h1, h2, h3, h4⟩ := evBounds_sound (P := P) (cap := cap) true h hl hh hc
        refine ⟨_, _, main A _ cap a b h1, h2, ?_⟩
        unfold den
        have hlen : ((l.take b).drop a).length = b - a := by simp; omega
        refine ⟨if cap = a then A else A.map (·.add (a * szOf P e)), cap - a, by rw [hlen], by rw [hlen]; omega, by omega, fun hp => ?_⟩
        rw [hlen] at hp
        obtain ⟨b', o, rfl, hb, hcell⟩ := hr (by omega)
        refine ⟨b', o + a, by rw [if_neg (by omega)]; simp [add_none, hsz], hb, fun i hi => ?_⟩
        rw [hlen] at hi
        rw [Nat.add_assoc, hcell (a + i) (by omega)]
        have e : ((l.take b).drop a).getD i 0 = l.getD (a + i) 0 := by
          simp only [List.getD_eq_getElem?_getD, List.getElem?_drop, List.getElem?_take]
          rw [if_pos (by omega)]
        rw [e]
      · exact h.elim
    · rename_i sz n g
      split at h
      · rename_i hsz
        unfold den at hx
        obtain ⟨A, cap, rfl, hc, hmx, hr⟩ := hx
        obtain ⟨a, b, h1, h2, h3, h4⟩ := evBounds_sound (P := P) (cap := cap) true h hl hh hc
        refine ⟨_, _, main A _ cap a b h1, h2, ?_⟩
        unfold den
        refine ⟨if cap = a then A else A.map (·.add (a * szOf P e)), cap - a, rfl, by omega, by omega, fun hp => ?_⟩
        obtain ⟨b', o, rfl, hb, hcell⟩ := hr (by omega)
        refine ⟨b', o + a * sz, by rw [if_neg (by omega)]; simp [add_none, hsz], hb, fun i hi j hj => ?_⟩
        obtain ⟨u, hu', hr'⟩ := hcell (a + i) (by omega) j hj
        refine ⟨u, ?_, hr'⟩
        rw [← hu', Nat.add_mul]
        congr 2
        omega
      · exact h.elim
    · unfold den at hx
      subst hx
      obtain ⟨a, b, h1, h2, h3, h4⟩ := evBounds_sound (P := P) (cap := 0) true h hl hh (Nat.le_refl _)
      refine ⟨_, _, main none _ 0 a b h1, h2, ?_⟩
      unfold den
      have : a = 0 := by omega
      have : b = 0 := by omega
      subst this; subst this
      simp
    · rename_i j ver lo hi
      split at h
      · rename_i r hr
        split at h
        · rename_i hsz
          obtain ⟨ty, A, cap, hj, l1, l2, hlc, A', rfl, hA⟩ := den_view hx hr
          obtain ⟨g1, g2, g3, g4, g5⟩ := mem_row hm hj hlc
          obtain ⟨a, b, h1, h2, h3, h4⟩ := evBounds_sound (P := P) (cap := cap - lo) true h hl hh (by omega)
          refine ⟨_, _, main A' _ (cap - lo) a b h1, h2, view_den hj (by omega) (by omega) hlc ⟨if cap - lo = a then A' else A'.map (·.add (a * szOf P e)), ?_, fun hlt => ?_⟩⟩
          · congr 1 <;> omega
          · obtain ⟨b', o, rfl, rfl⟩ := hA (by omega)
            refine ⟨b', o, rfl, ?_⟩
            rw [if_neg (by omega)]
            simp [add_none, hsz, Nat.add_mul, Nat.add_assoc]
        · exact h.elim
      · exact h.elim
    · exact h.elim
  · exact h.elim
theorem evLen_sound {c0 c : Cx} (hm : Mem c0 c) {t ty : TypeId} {x : SV} {k : SV → Prop} {v : Value} (h : evLen P c.hp t x k) (hx : den c x v) :
    ∃ u r, (Builtin.len_ #[t] ty #[v]).run P c.w = .ok u c.w ∧ k r ∧ den c r u := by
  unfold evLen at h
  split at h
  · rename_i l hu
    obtain ⟨rfl, hl⟩ := den_str hx
    exact ⟨_, _, by simp [Builtin.len_, run_underlying hu, goInt, size_mk], h (by unfold maxLen at hl; omega), int_den c _ _⟩
  · rename_i n e y hu
    exact ⟨_, _, by simp [Builtin.len_, run_underlying hu, goInt], h, int_den c _ _⟩
  · rename_i e l hu
    unfold den at hx
    obtain ⟨A, cap, rfl, h1, h2, _⟩ := hx
    exact ⟨_, _, by simp [Builtin.len_, run_underlying hu, goInt], h (by unfold maxLen at h2; omega), int_den c _ _⟩
  · rename_i e sz n g hu
    unfold den at hx
    obtain ⟨A, cap, rfl, h1, h2, _⟩ := hx
    exact ⟨_, _, by simp [Builtin.len_, run_underlying hu, goInt], h (by unfold maxLen at h2; omega), int_den c _ _⟩
  · rename_i e hu
    unfold den at hx
    subst hx
    exact ⟨_, _, by simp [Builtin.len_, run_underlying hu, goInt], h, int_den c _ _⟩
  · rename_i e j ver lo hi hu
    split at h
    · rename_i r hr
      obtain ⟨ty, A, cap, hj, l1, l2, hlc, A', rfl, hA⟩ := den_view hx hr
      obtain ⟨g1, g2, g3, g4, g5⟩ := mem_row hm hj hlc
      exact ⟨_, _, by simp [Builtin.len_, run_underlying hu, goInt], h (by unfold maxLen at g2; omega), int_den c _ _⟩
    · exact h.elim
  · exact h.elim
theorem imin_eq (a b : Int) : min a b = if b < a then b else a := by
  by_cases h : b < a
  · rw [if_pos h]; omega
  · rw [if_neg h]; omega
theorem imax_eq (a b : Int) : max a b = if b > a then b else a := by
  by_cases h : b > a
  · rw [if_pos h]; omega
  · rw [if_neg h]; omega
theorem ilt_eq : @iltDec = @Int.decLt := by
  funext a b; exact Subsingleton.elim _ _
theorem evMinGo_sound {c : Cx} {kk : IntKind} {k : SV → Prop} : ∀ {xs : List SV} {vs : List Value} {a : Int}, evMinMaxGo true kk k a xs → dens c xs vs →
    ∃ u r, (vs.foldlM Builtin.min2 (.int kk a) : Sem Value).run P c.w = .ok u c.w ∧ k r ∧ den c r u
  | [], vs, a, h, hd => by
    unfold dens at hd; subst hd
    exact ⟨_, _, rfl, h, int_den c _ _⟩
  | x :: xs, vs, a, h, hd => by
    unfold dens at hd
    obtain ⟨u, us, rfl, h1, h2⟩ := hd
    unfold evMinMaxGo at h
    split at h
    · rename_i heq; cases heq
    · rename_i k' b rest heq
      cases heq
      split at h
      · rename_i hk
        subst hk
        obtain rfl := den_int h1
        obtain ⟨u, r, e1, e2, e3⟩ := evMinGo_sound h h2
        simp only [imin_eq] at e1
        rw [ilt_eq] at e1
        exact ⟨u, r, by simpa [List.foldlM_cons, Builtin.min2] using e1, e2, e3⟩
      · exact h.elim
    · exact h.elim
theorem evMaxGo_sound {c : Cx} {kk : IntKind} {k : SV → Prop} : ∀ {xs : List SV} {vs : List Value} {a : Int}, evMinMaxGo false kk k a xs → dens c xs vs →
    ∃ u r, (vs.foldlM Builtin.max2 (.int kk a) : Sem Value).run P c.w = .ok u c.w ∧ k r ∧ den c r u
  | [], vs, a, h, hd => by
    unfold dens at hd; subst hd
    exact ⟨_, _, rfl, h, int_den c _ _⟩
  | x :: xs, vs, a, h, hd => by
    unfold dens at hd
    obtain ⟨u, us, rfl, h1, h2⟩ := hd
    unfold evMinMaxGo at h
    split at h
    · rename_i heq; cases heq
    · rename_i k' b rest heq
      cases heq
      split at h
      · rename_i hk
        subst hk
        obtain rfl := den_int h1
        obtain ⟨u, r, e1, e2, e3⟩ := evMaxGo_sound h h2
        simp only [imax_eq] at e1
        rw [ilt_eq] at e1
        exact ⟨u, r, by simpa [List.foldlM_cons, Builtin.max2] using e1, e2, e3⟩
      · exact h.elim
    · exact h.elim

end
end Go.Proofs.Ytmadffhjgbpojaa.Sx

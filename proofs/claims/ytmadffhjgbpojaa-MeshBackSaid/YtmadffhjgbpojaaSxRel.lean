/- Sx: regions in their order, loops, code, functions. -/
import Derived.Test.YtmadffhjgbpojaaSxSound
namespace Go.Proofs.Ytmadffhjgbpojaa.Sx
open Go
section
variable {P : Program}

structure Rel (c0 : Cx) (ρ : List Loc) (σ : St) (a : Act) (w : World) : Prop where
  defers : a.defers = []
  tm : dens ⟨w, σ.hp, ρ⟩ σ.tm a.tmps.toList
  mem : Mem c0 ⟨w, σ.hp, ρ⟩
  ext : Ext c0 ⟨w, σ.hp, ρ⟩

/-! ## One operation behind the other -/
theorem splitGo_sound {n : Int} {K : Int → Prop} : ∀ (N : Nat), 0 ≤ n → n < Int.ofNat N → splitGo n K N → K n
  | 0, h1, h2, _ => by simp only [Int.ofNat_eq_natCast] at h2; omega
  | N + 1, h1, h2, h => by
    by_cases e : n = Int.ofNat N
    · rw [e]; exact h.1 e
    · exact splitGo_sound N h1 (by simp only [Int.ofNat_eq_natCast] at e h2 ⊢; omega) h.2
theorem splitI_sound {n : Int} {N : Nat} {K : Int → Prop} (h : splitI n N K) : K n := by
  unfold splitI at h
  rw [BR_iff] at h
  cases e : decide (0 ≤ n ∧ n < Int.ofNat N) with
  | true => exact splitGo_sound N (of_decide_eq_true e).1 (of_decide_eq_true e).2 (h.1 e)
  | false => exact (h.2 e).elim
theorem putI_sound {nm : Nat → Bool} {dst : Option Tmp} {n : Int} {K : Int → Prop} (h : putI nm dst n K) : K n := by
  unfold putI at h
  split at h
  · rename_i i
    cases e : nm (i + 10000) with
    | true => rw [e] at h; exact splitI_sound h
    | false => rw [e] at h; exact h n rfl
  · exact h
theorem putK_sound {nm : Nat → Bool} {c : Cx} {tm : List SV} {hp : List Ob} {dst : Option Tmp} {r : SV} {v : Value} {K : St → Prop} (h : putK nm tm hp dst r K) (hd : den c r v) : ∃ r', K (St.put ⟨tm, hp⟩ dst r') ∧ den c r' v := by
  unfold putK at h
  split at h
  · rename_i b
    rw [BR_iff] at h
    cases b with
    | true => exact ⟨_, h.1 rfl, hd⟩
    | false => exact ⟨_, h.2 rfl, hd⟩
  · split at h
    · exact ⟨_, putI_sound h, hd⟩
    · exact ⟨_, h, hd⟩
  · split at h
    · exact ⟨_, h _ rfl, hd⟩
    · exact ⟨_, h, hd⟩
  · exact ⟨r, h, hd⟩
theorem St.put_hp (σ : St) (dst : Option Tmp) (r : SV) : (St.put σ dst r).hp = σ.hp := by cases dst <;> rfl
theorem dens_put {c : Cx} {σ : St} {a : Act} {r : SV} {v : Value} (h : dens c σ.tm a.tmps.toList) (hd : den c r v) (dst : Option Tmp) : dens c (St.put σ dst r).tm (a.put dst v).tmps.toList := by
  cases dst with
  | none => exact h
  | some d =>
    have := dens_set h d hd
    simpa [St.put, Act.put] using this
theorem put_defers (a : Act) (dst : Option Tmp) (v : Value) : (a.put dst v).defers = a.defers := by cases dst <;> rfl
theorem rel_put {c0 : Cx} {ρ ρ' : List Loc} {σ : St} {a : Act} {w w' : World} {hp' : List Ob} {r : SV} {v : Value} (hr : Rel c0 ρ σ a w) (hd : den ⟨w', hp', ρ'⟩ r v) (hm : Mem c0 ⟨w', hp', ρ'⟩) (he : Ext ⟨w, σ.hp, ρ⟩ ⟨w', hp', ρ'⟩) (dst : Option Tmp) :
    Rel c0 ρ' (St.put ⟨σ.tm, hp'⟩ dst r) (a.put dst v) w' := by
  have e := St.put_hp ⟨σ.tm, hp'⟩ dst r
  refine ⟨by rw [put_defers]; exact hr.defers, ?_, by rw [e]; exact hm, by rw [e]; exact hr.ext.trans he⟩
  rw [e]
  exact dens_put (σ := ⟨σ.tm, hp'⟩) (dens_ext he _ _ hr.tm) hd dst
theorem wp_of_done {nm : Nat → Bool} {c0 : Cx} {ρ : List Loc} {σ : St} {a : Act} {w : World} {o : Oper} {K : St → Prop} {next : Act → World → Prop} {Q : Exit → Act → World → Prop} (hr : Rel c0 ρ σ a w)
    (h : OpDone P c0 ⟨w, σ.hp, ρ⟩ (fun v hp => putK nm σ.tm hp o.dst v K) ((execOp a.eval o).run P w)) (hn : ∀ σ' ρ' a' w', K σ' → Rel c0 ρ' σ' a' w' → next a' w') : o.wp P a w next Q := by
  unfold Oper.wp
  generalize (execOp a.eval o).run P w = res at h
  cases h with
  | value v w' r hp' ρ' hk hd hm he =>
    obtain ⟨r', hK, hd'⟩ := putK_sound hk hd
    exact hn _ ρ' _ _ hK (rel_put hr hd' hm he o.dst)
  | skip w' hp' ρ' hk hm he =>
    obtain ⟨r', hK, hd'⟩ := putK_sound hk (show den ⟨w', hp', ρ'⟩ .undef Go.undef by unfold den; rfl)
    exact hn _ ρ' _ _ hK (rel_put hr hd' hm he o.dst)
  | enter g vs hc =>
    show Calls P g ⟨vs⟩ w _
    refine hc.mono ?_
    rintro e w' ⟨v, r, hp', ρ', rfl, hk, hd, hm, he⟩
    obtain ⟨r', hK, hd'⟩ := putK_sound hk hd
    exact hn _ ρ' _ _ hK (rel_put hr hd' hm he o.dst)
theorem guardK_sound {c : Cx} {ops : Array Oper} {tm : List SV} {tmps : Array Value} {o : Oper} {yes no : Prop} (h : guardK ops tm o.guard yes no) (hd : dens c tm tmps.toList) :
    (Region.wanted o (yielded ops tmps) = true ∧ yes) ∨ (Region.wanted o (yielded ops tmps) = false ∧ no) := by
  unfold guardK at h
  unfold Region.wanted
  split at h
  · rename_i hg; rw [hg]; exact .inl ⟨rfl, h⟩
  · rename_i j want hg
    rw [hg]
    simp only [yielded]
    split at h
    · rename_i d hdst
      rw [hdst]
      simp only [Option.bind_some]
      split at h
      · rename_i b hb
        obtain ⟨v, hv, hdv⟩ := dens_get hd d _ hb
        have hv' : tmps[d]? = some v := by simpa using hv
        rw [hv', den_bool hdv]
        rw [BR_iff] at h
        cases hbw : (b == want) with
        | true => exact .inl ⟨by simpa using hbw, h.1 hbw⟩
        | false => exact .inr ⟨by simpa using hbw, h.2 hbw⟩
      · rename_i hb
        obtain ⟨v, hv, hdv⟩ := dens_get hd d _ hb
        have hv' : tmps[d]? = some v := by simpa using hv
        unfold den at hdv
        rw [hv', hdv]
        exact .inr ⟨rfl, h⟩
      · exact h.elim
    · rename_i hdst
      rw [hdst]
      exact .inr ⟨rfl, h⟩
theorem evOps_sound {callK : CallK} (hcall : CallSound P callK) {nm : Nat → Bool} {c0 : Cx} {ops : Array Oper} {Q : Exit → Act → World → Prop} : ∀ (l : List Oper) (σ : St) (K : St → Prop) (ρ : List Loc) (a : Act) (w : World),
    evOps P callK nm ops l σ K → Rel c0 ρ σ a w → (∀ σ' ρ' a' w', K σ' → Rel c0 ρ' σ' a' w' → Q .normal a' w') → wpList P ops Q l a w
  | [], σ, K, ρ, a, w, h, hr, hq => hq σ ρ a w h hr
  | o :: rest, σ, K, ρ, a, w, h, hr, hq => by
    unfold evOps at h
    simp only [forceAt_eq] at h
    unfold wpList
    rcases guardK_sound h hr.tm with ⟨hw, hy⟩ | ⟨hw, hno⟩
    · rw [if_pos hw]
      refine .inl (wp_of_done hr (evOp_sound hcall hr.mem hr.tm hy) fun σ' ρ' a' w' hK hr' => ?_)
      exact evOps_sound hcall rest σ' K ρ' a' w' hK hr' hq
    · rw [if_neg (by rw [hw]; simp)]
      have : Rel c0 ρ (σ.put o.dst .undef) (a.put o.dst Go.undef) w := by
        have := rel_put (w' := w) (hp' := σ.hp) (ρ' := ρ) hr (show den ⟨w, σ.hp, ρ⟩ .undef Go.undef by unfold den; rfl) hr.mem (Ext.refl _) o.dst
        exact this
      exact evOps_sound hcall rest _ K ρ _ w hno this hq
end
end Go.Proofs.Ytmadffhjgbpojaa.Sx

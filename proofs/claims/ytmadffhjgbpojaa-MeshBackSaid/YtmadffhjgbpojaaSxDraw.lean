/- Sx: regions that draw their order: whatever the order, the same state is reached. -/
import Derived.Test.YtmadffhjgbpojaaSxRel
namespace Go.Proofs.Ytmadffhjgbpojaa.Sx
open Go
section
variable {P : Program}

/-! ## Operations that feel and change only what they name -/
def Agree (refs : List Nat) (hp hp2 : List Ob) : Prop := ∀ j ∈ refs, hp2[j]? = hp[j]?
def Outc (E : List Ob → (SV → List Ob → Prop) → Prop) (refs wr : List Nat) (hp : List Ob) (r : SV) (δ : List (Nat × Ob)) : Prop :=
  (∀ j ob, (j, ob) ∈ δ → j ∈ wr) ∧ ∀ hp2 k, Agree refs hp hp2 → k r (app δ hp2) → E hp2 k
def Calm (refs wr : List Nat) (E : List Ob → (SV → List Ob → Prop) → Prop) : Prop := ∀ hp k, E hp k → ∃ r δ, Outc E refs wr hp r δ ∧ k r (app δ hp)
def Det (E : (SV → Prop) → Prop) : Prop := ∀ k, E k → ∃ r, k r ∧ ∀ k2 : SV → Prop, k2 r → E k2
theorem wr_one {j i : Nat} {ob o : Ob} {wr : List Nat} (h : i ∈ wr) (e : (j, ob) ∈ [(i, o)]) : j ∈ wr := by
  simp only [List.mem_singleton, Prod.mk.injEq] at e
  rw [e.1]; exact h
theorem Calm.at {refs wr : List Nat} {E : List Ob → (SV → List Ob → Prop) → Prop} (h : Calm refs wr E) (hp : List Ob) : ∀ k, E hp k → ∃ r δ, Outc E refs wr hp r δ ∧ k r (app δ hp) := h hp
theorem Det.calm {E : (SV → Prop) → Prop} (h : Det E) (refs wr : List Nat) : Calm refs wr (fun hp k => E (fun v => k v hp)) := by
  intro hp k hE
  obtain ⟨r, h1, h2⟩ := h _ hE
  exact ⟨r, [], ⟨fun _ _ e => (by cases e), fun hp2 k2 _ hk => h2 _ hk⟩, h1⟩
theorem det_ret (r : SV) : Det (fun k => k r) := fun _ h => ⟨r, h, fun _ h => h⟩
theorem det_false : Det (fun _ => False) := fun _ h => h.elim
theorem det_req {b : Bool} {E : (SV → Prop) → Prop} (h : Det E) : Det (fun k => BR b (E k) False) := by
  intro k hE
  rw [BR_iff] at hE
  cases b with
  | true =>
    obtain ⟨r, h1, h2⟩ := h _ (hE.1 rfl)
    exact ⟨r, h1, fun k2 hk => BR_iff.2 ⟨fun _ => h2 _ hk, fun e => (by cases e)⟩⟩
  | false => exact (hE.2 rfl).elim
theorem det_br {b : Bool} {E F : (SV → Prop) → Prop} (h : Det E) (h' : Det F) : Det (fun k => BR b (E k) (F k)) := by
  intro k hE
  rw [BR_iff] at hE
  cases b with
  | true =>
    obtain ⟨r, h1, h2⟩ := h _ (hE.1 rfl)
    exact ⟨r, h1, fun k2 hk => BR_iff.2 ⟨fun _ => h2 _ hk, fun e => (by cases e)⟩⟩
  | false =>
    obtain ⟨r, h1, h2⟩ := h' _ (hE.2 rfl)
    exact ⟨r, h1, fun k2 hk => BR_iff.2 ⟨fun e => (by cases e), fun _ => h2 _ hk⟩⟩
theorem det_ite {p : Prop} [Decidable p] {E F : (SV → Prop) → Prop} (h : Det E) (h' : Det F) : Det (fun k => if p then E k else F k) := by
  by_cases hp : p
  · simp only [if_pos hp]; exact h
  · simp only [if_neg hp]; exact h'
theorem evBin_det (t : TypeId) (op : BinOp) (x y : SV) : Det (evBin P t op x y) := by
  unfold evBin
  split
  · exact det_br det_false (det_ret _)
  · exact det_br det_false (det_ret _)
  · refine det_ite det_false ?_
    split <;> first | exact det_ret _ | exact det_false | exact det_br det_false (det_ret _)
  · exact det_ite (det_ret _) det_false
  · exact det_ite (det_ret _) det_false
  · exact det_ret _
  · exact det_ret _
  · exact det_req (det_ret _)
  · exact det_false
theorem evEq_det (op : BinOp) (r : Option Bool) : Det (evEq op r) := by
  unfold evEq
  split <;> first | exact det_ret _ | exact det_false
theorem evBinA_det (t : TypeId) (op : BinOp) (x y : SV) : Det (evBinA P t op x y) := by
  unfold evBinA
  split
  · exact det_ite (evEq_det _ _) det_false
  · exact det_ite (evEq_det _ _) (evBin_det _ _ _ _)
theorem evExt_det (g : FuncId) (xs : List SV) : Det (evExt P g xs) := by
  unfold evExt
  split
  · exact det_ite (det_req (det_ret _)) det_false
  · exact det_false
theorem evUn_det (op : UnOp) (x : SV) : Det (evUn op x) := by
  unfold evUn
  split <;> first | exact det_ret _ | exact det_false
theorem evPart_det (t : TypeId) (xs : List SV) (off : Nat) : Det (evPart P t xs off) := by
  unfold evPart
  split
  · exact det_ite (det_ret _) det_false
  · split <;> first | exact det_ret _ | exact det_false
  · exact det_false
theorem evFieldAddr_det (t : TypeId) (x : SV) (f : Nat) : Det (evFieldAddr P t x f) := by
  unfold evFieldAddr
  split
  · split
    · refine det_ite det_false ?_
      split <;> first | exact det_ret _ | exact det_false
    · exact det_false
  · exact det_false
theorem evField_det (t : TypeId) (x : SV) (f : Nat) : Det (evField P t x f) := by
  unfold evField
  split
  · split
    · exact evPart_det _ _ _
    · exact det_false
  · exact det_false
theorem evIndex_det (t : TypeId) (x i : SV) : Det (evIndex P t x i) := by
  unfold evIndex
  split
  · exact det_ite det_false (det_req (evPart_det _ _ _))
  · exact det_ite (det_req (det_ret _)) det_false
  · exact det_req (det_ret _)
  · exact det_false
theorem evBuild_det (t : TypeId) (parts : List (Nat × SV)) : Det (evBuild P t parts) := by
  unfold evBuild
  split
  · refine det_ite ?_ det_false
    split <;> first | exact det_ret _ | exact det_false
  · refine det_ite ?_ det_false
    split <;> first | exact det_ret _ | exact det_false
  · exact det_false
theorem evMinMaxGo_det (mn : Bool) (kk : IntKind) : ∀ (xs : List SV) (a : Int), Det (fun k => evMinMaxGo mn kk k a xs)
  | [], a => by unfold evMinMaxGo; exact det_ret _
  | x :: xs, a => by
    have ih := evMinMaxGo_det mn kk xs
    unfold evMinMaxGo
    split
    · exact det_ret _
    · rename_i heq
      cases heq
      exact det_ite (ih _) det_false
    · exact det_false
theorem evMinMax_det (mn : Bool) (xs : List SV) : Det (evMinMax mn xs) := by
  unfold evMinMax
  split
  · exact evMinMaxGo_det _ _ _ _
  · exact det_false
theorem evLoad_det (hp : List Ob) (t : TypeId) (a : SV) : Det (evLoad P hp t a) := by
  unfold evLoad
  repeat' (first | exact det_ret _ | exact det_false | refine det_ite ?_ ?_ | split)
theorem evIndexAddr_det (hp : List Ob) (t : TypeId) (x i : SV) : Det (evIndexAddr P hp t x i) := by
  unfold evIndexAddr
  repeat' (first | exact det_ret _ | exact det_false | refine det_ite ?_ ?_ | refine det_req ?_ | split)
theorem evBounds_det (n : Nat) (lo hi : Option SV) {f : Nat → Nat → SV} : Det (fun k => evBounds n lo hi fun a b => k (f a b)) := by
  unfold evBounds
  repeat' (first | exact det_ret _ | exact det_false | refine det_req ?_ | split)
theorem evSlice_det (hp : List Ob) (t : TypeId) (x : SV) (lo hi : Option SV) : Det (evSlice P hp t x lo hi) := by
  unfold evSlice
  repeat' (first | exact evBounds_det _ _ _ | exact det_false | refine det_ite ?_ ?_ | split)
theorem frame_calm {E : List Ob → (SV → Prop) → Prop} {refs : List Nat} (wr : List Nat) (hf : ∀ hp hp2 k, Agree refs hp hp2 → E hp2 k = E hp k) (hd : ∀ hp, Det (E hp)) : Calm refs wr (fun hp k => E hp (fun v => k v hp)) := by
  intro hp k hE
  obtain ⟨r, h1, h2⟩ := hd hp _ hE
  exact ⟨r, [], ⟨fun _ _ e => (by cases e), fun hp2 k2 hag hk => Eq.mpr (hf hp hp2 (fun v => k2 v hp2) hag) (h2 (fun v => k2 v hp2) hk)⟩, h1⟩
theorem evLoad_frame {t : TypeId} {a : SV} {refs : List Nat} (hr : ∀ j ∈ refsV a, j ∈ refs) (hp hp2 : List Ob) (k : SV → Prop) (h : Agree refs hp hp2) : evLoad P hp2 t a k = evLoad P hp t a k := by
  cases a with
  | ptr j off => have := h j (hr j (by simp [refsV])); simp only [evLoad, this]
  | aptr j i => have := h j (hr j (by simp [refsV])); simp only [evLoad, this]
  | rptr j v i off => have := h j (hr j (by simp [refsV])); simp only [evLoad, rowAt, this]
  | _ => rfl
theorem evIndexAddr_frame {t : TypeId} {a i : SV} {refs : List Nat} (hr : ∀ j ∈ refsV a, j ∈ refs) (hp hp2 : List Ob) (k : SV → Prop) (h : Agree refs hp hp2) : evIndexAddr P hp2 t a i k = evIndexAddr P hp t a i k := by
  cases a with
  | ptr j off => have := h j (hr j (by simp [refsV])); simp only [evIndexAddr, this]
  | view j v lo hi => have := h j (hr j (by simp [refsV])); simp only [evIndexAddr, rowAt, this]
  | rptr j v i off =>
    have := h j (hr j (by simp [refsV]))
    have hr2 : rowAt hp2 j v = rowAt hp j v := by unfold rowAt; rw [this]
    simp only [evIndexAddr, hr2]
  | d x => cases x <;> rfl
  | _ => rfl
theorem evSliceA_calm {t : TypeId} {j off : Nat} {lo hi : Option SV} {refs wr : List Nat} (hr : j ∈ refs) (hw : j ∈ wr) : Calm refs wr (fun hp k => evSliceA P hp t j off lo hi k) := by
  intro hp k h
  change evSliceA P hp t j off lo hi k at h
  unfold evSliceA at h
  split at h
  · rename_i ty cells n e hj hu
    split at h
    · rename_i ds hds
      split at h
      · rename_i hc
        refine ⟨_, [(j, .frzn)], ⟨fun _ _ e => wr_one hw e, fun hp2 k2 hag hk => ?_⟩, h⟩
        show evSliceA P hp2 t j off none none k2
        unfold evSliceA
        rw [hag j hr, hj, hu]
        simp only [hds]
        rw [if_pos hc]
        exact hk
      · exact h.elim
    · exact h.elim
  · exact h.elim
theorem evSlice_frame {t : TypeId} {a : SV} {lo hi : Option SV} {refs : List Nat} (hr : ∀ j ∈ refsV a, j ∈ refs) (hp hp2 : List Ob) (k : SV → Prop) (h : Agree refs hp hp2) : evSlice P hp2 t a lo hi k = evSlice P hp t a lo hi k := by
  cases a with
  | view j v l u => have := h j (hr j (by simp [refsV])); simp only [evSlice, rowAt, this]
  | d x => cases x <;> rfl
  | _ => rfl
/-- Something is laid in a place that was kept. -/
theorem calm_put {refs wr : List Nat} {π : Nat} (h1 : π ∈ refs) (h2 : π ∈ wr) (r : SV) (ob : Ob) : Calm refs wr (fun hp k => if plOk (some π) hp = true then k r (plHp (some π) hp ob) else False) := by
  intro hp k h
  split at h
  · rename_i hc
    refine ⟨r, [(π, ob)], ⟨fun j o e => wr_one h2 e, fun hp2 k2 hag hk => ?_⟩, h⟩
    have hc2 : plOk (some π) hp2 = true := by
      show isHole hp2[π]? = true
      rw [hag π h1]; exact hc
    show if plOk (some π) hp2 = true then k2 r (plHp (some π) hp2 ob) else False
    rw [if_pos hc2]
    exact hk
  · exact h.elim
theorem calm_false {refs wr : List Nat} : Calm refs wr (fun _ _ => False) := fun _ _ h => h.elim
theorem calm_ite {refs wr : List Nat} {p : Prop} [Decidable p] {E F : List Ob → (SV → List Ob → Prop) → Prop} (h : Calm refs wr E) (h' : Calm refs wr F) : Calm refs wr (fun hp k => if p then E hp k else F hp k) := by
  by_cases hp : p
  · simp only [if_pos hp]; exact h
  · simp only [if_neg hp]; exact h'
theorem calm_req {refs wr : List Nat} {b : Bool} {E : List Ob → (SV → List Ob → Prop) → Prop} (h : Calm refs wr E) : Calm refs wr (fun hp k => BR b (E hp k) False) := by
  intro hp k hE
  have hE : BR b (E hp k) False := hE
  rw [BR_iff] at hE
  cases b with
  | true =>
    obtain ⟨r, δ, h1, h2⟩ := h _ _ (hE.1 rfl)
    exact ⟨r, δ, ⟨h1.1, fun hp2 k2 hag hk => BR_iff.2 ⟨fun _ => h1.2 hp2 k2 hag hk, fun e => (by cases e)⟩⟩, h2⟩
  | false => exact (hE.2 rfl).elim
theorem calm_br {refs wr : List Nat} {b : Bool} {E F : List Ob → (SV → List Ob → Prop) → Prop} (h : Calm refs wr E) (h' : Calm refs wr F) : Calm refs wr (fun hp k => BR b (E hp k) (F hp k)) := by
  intro hp k hE
  have hE : BR b (E hp k) (F hp k) := hE
  rw [BR_iff] at hE
  cases b with
  | true =>
    obtain ⟨r, δ, h1, h2⟩ := h _ _ (hE.1 rfl)
    exact ⟨r, δ, ⟨h1.1, fun hp2 k2 hag hk => BR_iff.2 ⟨fun _ => h1.2 hp2 k2 hag hk, fun e => (by cases e)⟩⟩, h2⟩
  | false =>
    obtain ⟨r, δ, h1, h2⟩ := h' _ _ (hE.2 rfl)
    exact ⟨r, δ, ⟨h1.1, fun hp2 k2 hag hk => BR_iff.2 ⟨fun e => (by cases e), fun _ => h1.2 hp2 k2 hag hk⟩⟩, h2⟩
theorem calm_and {refs wr : List Nat} {p : Prop} {E : List Ob → (SV → List Ob → Prop) → Prop} (h : Calm refs wr E) : Calm refs wr (fun hp k => p ∧ E hp k) := by
  intro hp k hE
  obtain ⟨r, δ, h1, h2⟩ := h _ _ hE.2
  exact ⟨r, δ, ⟨h1.1, fun hp2 k2 hag hk => ⟨hE.1, h1.2 hp2 k2 hag hk⟩⟩, h2⟩
theorem calm_ret {refs wr : List Nat} (r : SV) : Calm refs wr (fun hp k => k r hp) := fun hp k h => ⟨r, [], ⟨fun _ _ e => (by cases e), fun _ _ _ hk => hk⟩, h⟩
/-- What hangs on a part of memory: first its part is read. -/
theorem calm_frame {E : List Ob → (SV → List Ob → Prop) → Prop} {refs wr : List Nat} (h : ∀ hp, ∃ E' : List Ob → (SV → List Ob → Prop) → Prop, Calm refs wr E' ∧ ∀ hp2, Agree refs hp hp2 → ∀ k, E hp2 k = E' hp2 k) : Calm refs wr E := by
  intro hp k hE
  obtain ⟨E', hc, he⟩ := h hp
  rw [he hp (fun _ _ => rfl)] at hE
  obtain ⟨r, δ, h1, h2⟩ := hc _ _ hE
  exact ⟨r, δ, ⟨h1.1, fun hp2 k2 hag hk => by rw [he hp2 hag]; exact h1.2 hp2 k2 hag hk⟩, h2⟩
theorem calm_set {refs wr : List Nat} {j : Nat} (hw : j ∈ wr) (r : SV) (ob : Ob) : Calm refs wr (fun hp k => k r (hp.set j ob)) := fun hp k h => ⟨r, [(j, ob)], ⟨fun _ _ e => wr_one hw e, fun _ _ _ hk => hk⟩, h⟩
theorem calm_all {α : Type} {refs wr : List Nat} {x : α} {E : α → List Ob → (SV → List Ob → Prop) → Prop} (h : Calm refs wr (E x)) : Calm refs wr (fun hp k => ∀ y, y = x → E y hp k) := by
  intro hp k hE
  obtain ⟨r, δ, h1, h2⟩ := h _ _ (hE x rfl)
  exact ⟨r, δ, ⟨h1.1, fun hp2 k2 hag hk y hy => by rw [hy]; exact h1.2 hp2 k2 hag hk⟩, h2⟩
theorem evStore_calm {t : TypeId} {a x : SV} {refs wr : List Nat} (hr : ∀ j ∈ refsV a, j ∈ refs) (hw : ∀ j ∈ refsV a, j ∈ wr) : Calm refs wr (fun hp k => evStore P hp t a x (fun hp' => k .undef hp')) := by
  unfold evStore
  refine calm_ite calm_false ?_
  cases a with
  | ptr j off =>
    have h1 := hr j (by simp [refsV])
    have h2 := hw j (by simp [refsV])
    refine calm_frame fun hp => ⟨fun hp' k => match hp[j]? with
      | some (.fix ty cells) =>
        if (svCells x).length = szOf P t ∧ off + (svCells x).length ≤ cells.length ∧ (svCells x).all storable = true then k .undef (hp'.set j (.fix ty (splice cells off (svCells x)))) else False
      | some (.arr ty n _) =>
        match x with
        | .aggf m get' => if off = 0 ∧ m = n ∧ szOf P t = n then k .undef (hp'.set j (.arr ty n get')) else False
        | _ => False
      | _ => False, ?_, fun hp2 hag k => by simp only [hag j h1]; rfl⟩
    split
    · exact calm_ite (calm_set h2 _ _) calm_false
    · split
      · exact calm_ite (calm_set h2 _ _) calm_false
      · exact calm_false
    · exact calm_false
  | aptr j i =>
    have h1 := hr j (by simp [refsV])
    have h2 := hw j (by simp [refsV])
    refine calm_frame fun hp => ⟨fun hp' k => match hp[j]?, x with
      | some (.arr ty n get), .d dv => if szOf P t = 1 then k .undef (hp'.set j (.arr ty n (fun m => if m = i then dv else get m))) else False
      | _, _ => False, ?_, fun hp2 hag k => by simp only [hag j h1]; rfl⟩
    split
    · exact calm_ite (calm_set h2 _ _) calm_false
    · exact calm_false
  | rptr j ver i off =>
    have h1 := hr j (by simp [refsV])
    have h2 := hw j (by simp [refsV])
    refine calm_frame fun hp => ⟨fun hp' k => match hp[j]? with
      | some (.row v ety (.bytes l)) =>
        match x with
        | .d (.int .u8 n) => if v = ver ∧ szOf P t = 1 ∧ off = 0 then BR (decide (0 ≤ n ∧ n < 256)) (∀ l', l' = l.set i (UInt8.ofNat n.toNat) → k .undef (hp'.set j (.row v ety (.bytes l')))) False else False
        | _ => False
      | some (.row v ety (.list sz n g)) =>
        match cellsD (svCells x) with
        | some ds => if v = ver ∧ ds.length = szOf P t ∧ off + ds.length ≤ sz then
            k .undef (hp'.set j (.row v ety (.list sz n (fun i' j' => if i' = i ∧ off ≤ j' ∧ j' < off + ds.length then ds.getD (j' - off) (.bool false) else g i' j')))) else False
        | none => False
      | _ => False, ?_, fun hp2 hag k => by simp only [hag j h1]; rfl⟩
    split
    · split
      · exact calm_ite (calm_req (calm_all (E := fun l' hp' k => k .undef (hp'.set j (.row _ _ (.bytes l')))) (calm_set h2 _ _))) calm_false
      · exact calm_false
    · split
      · exact calm_ite (calm_set h2 _ _) calm_false
      · exact calm_false
    · exact calm_false
  | _ => exact calm_false
theorem rowOf_frame {e : TypeId} {x : SV} {refs : List Nat} (hr : ∀ j ∈ refsV x, j ∈ refs) {hp hp2 : List Ob} (h : Agree refs hp hp2) : rowOf P hp2 e x = rowOf P hp e x := by
  cases x with
  | view j v lo hi => have := h j (hr j (by simp [refsV])); simp only [rowOf, rowAt, this]
  | d x => cases x <;> rfl
  | _ => rfl
theorem calm_nm {refs wr : List Nat} {c : RC} {E : RC → List Ob → (SV → List Ob → Prop) → Prop} (h : Calm refs wr (E c)) : Calm refs wr (fun hp k => nmRC c fun c => E c hp k) := by
  cases c with
  | bytes l => exact calm_all (E := fun l' => E (.bytes l')) h
  | list sz n g => exact h
theorem calm_imp {refs wr : List Nat} {p : Prop} (hp : p) {E : List Ob → (SV → List Ob → Prop) → Prop} (h : Calm refs wr E) : Calm refs wr (fun hp k => p → E hp k) := by
  intro hp' k hE
  obtain ⟨r, δ, h1, h2⟩ := h _ _ (hE hp)
  exact ⟨r, δ, ⟨h1.1, fun hp2 k2 hag hk _ => h1.2 hp2 k2 hag hk⟩, h2⟩
theorem evAppend_calm {π : Nat} {t : TypeId} {s x : SV} {refs wr : List Nat} (h1 : π ∈ refs) (h2 : π ∈ wr) (hs : ∀ j ∈ refsV s, j ∈ refs) (hx : ∀ j ∈ refsV x, j ∈ refs) (hw : ∀ j ∈ refsV s, j ∈ wr) :
    Calm refs wr (fun hp k => evAppend P (some π) hp t s x k) := by
  unfold evAppend
  split
  · rename_i e _
    split
    · exact calm_false
    · rename_i z _
      refine calm_frame fun hp => ⟨fun hp' k => match rowOf P hp e s, rowOf P hp e x with
        | some a, some b =>
          match appendC a b with
          | some c =>
            nmRC c fun c => if z.cells.size ≠ szOf P e ∨ a.sz ≠ szOf P e ∨ b.sz ≠ szOf P e ∨ szOf P e = 0 ∨ P.bytesOf e = 0 then False else
            BR (decide (c.len * P.bytesOf e ≤ 140737488355328)) (
              match (generalizing := false) s with
              | .nils => if plOk (some π) hp' = true then k (.view (plIdx (some π) hp') 0 0 c.len) (plHp (some π) hp' (.row 0 e c)) else False
              | .view j ver _ hi =>
                match hp[j]? with
                | some (.row v t0 c0) => if v = ver ∧ t0 = e then BR (decide (hi = c0.len)) (k (.view j (ver + 1) 0 c.len) (hp'.set j (.row (ver + 1) e c))) False else False
                | _ => False
              | _ => False) False
          | none => False
        | _, _ => False, ?_, fun hp2 hag k => ?_⟩
      · split
        · split
          · refine calm_nm (E := fun c hp' k => if z.cells.size ≠ szOf P e ∨ _ then False else BR (decide (c.len * P.bytesOf e ≤ 140737488355328)) _ False) (calm_ite calm_false (calm_req ?_))
            cases s with
            | nils => exact calm_put h1 h2 (.view π 0 0 _) (.row 0 e _)
            | view j v lo hi =>
              simp only
              split
              · exact calm_ite (calm_req (calm_set (hw j (by simp [refsV])) _ _)) calm_false
              · exact calm_false
            | _ => exact calm_false
          · exact calm_false
        · exact calm_false
      · simp only [rowOf_frame hs hag, rowOf_frame hx hag]
        cases s with
        | view j v lo hi => simp only [hag j (hs j (by simp [refsV]))]; rfl
        | _ => rfl
  · exact calm_false
theorem plOk_agree {π : Nat} {refs : List Nat} (h1 : π ∈ refs) {hp hp2 : List Ob} (hag : Agree refs hp hp2) : plOk (some π) hp2 = plOk (some π) hp := by
  show isHole hp2[π]? = isHole hp[π]?
  rw [hag π h1]
theorem evMakeGen_calm {π : Nat} {e : TypeId} {z : Value} {n c : Int} {refs wr : List Nat} (h1 : π ∈ refs) (h2 : π ∈ wr) : Calm refs wr (fun hp k => evMakeGen P (some π) hp e z n c k) := by
  intro hp k h
  have h : evMakeGen P (some π) hp e z n c k := h
  unfold evMakeGen at h
  split at h
  · rename_i ds hds
    split at h
    · rename_i hc
      obtain ⟨q1, q2⟩ := BR_req h
      rw [forceDs_eq] at q2
      refine ⟨_, [(π, _)], ⟨fun j o e => wr_one h2 e, fun hp2 k2 hag hk => ?_⟩, q2⟩
      simp only [evMakeGen, hds, plOk_agree h1 hag, if_pos hc, forceDs_eq]
      rw [BR_iff]
      exact ⟨fun _ => hk, fun e => by rw [decide_eq_true q1] at e; cases e⟩
    · exact h.elim
  · exact h.elim
theorem evMakeSlice_calm {π : Nat} {t : TypeId} {len cap : SV} {refs wr : List Nat} (h1 : π ∈ refs) (h2 : π ∈ wr) : Calm refs wr (fun hp k => evMakeSlice P (some π) hp t len cap k) := by
  intro hp k h
  unfold evMakeSlice at h
  split at h
  · rename_i e kk n kk' c hu
    split at h
    · rename_i z hz
      split at h
      · rename_i hsz
        obtain ⟨r, δ, q1, q2⟩ := evMakeGen_calm (P := P) h1 h2 hp k h
        exact ⟨r, δ, ⟨q1.1, fun hp2 k2 hag hk => by simp only [evMakeSlice, hu, hz, if_pos hsz]; exact q1.2 hp2 k2 hag hk⟩, q2⟩
      rename_i hsz
      split at h
      · exact h.elim
      · rename_i hc
        have hpl : ∀ hp2, Agree refs hp hp2 → ¬ (plOk (some π) hp2 = false) := by
          intro hp2 hag hx
          rw [plOk_agree h1 hag] at hx
          exact hc hx
        split at h
        · rename_i kz m
          obtain ⟨q1, q2⟩ := BR_req h
          split at q2
          · rename_i hb
            split at q2
            · rename_i hkz
              refine ⟨_, [(π, _)], ⟨fun j o e => wr_one h2 e, fun hp2 k2 hag hk => ?_⟩, q2⟩
              simp only [evMakeSlice, hu, hz, if_neg hsz, if_neg (hpl hp2 hag), if_pos hb, if_pos hkz]
              rw [BR_iff]
              exact ⟨fun _ => hk, fun e => by rw [decide_eq_true q1] at e; cases e⟩
            · exact q2.elim
          · rename_i hb
            refine ⟨_, [(π, _)], ⟨fun j o e => wr_one h2 e, fun hp2 k2 hag hk => ?_⟩, q2⟩
            simp only [evMakeSlice, hu, hz, if_neg hsz, if_neg (hpl hp2 hag), if_neg hb]
            rw [BR_iff]
            exact ⟨fun _ => hk, fun e => by rw [decide_eq_true q1] at e; cases e⟩
        · rename_i hni
          obtain ⟨r, δ, q1, q2⟩ := evMakeGen_calm (P := P) h1 h2 hp k h
          refine ⟨r, δ, ⟨q1.1, fun hp2 k2 hag hk => ?_⟩, q2⟩
          simp only [evMakeSlice, hu, hz, if_neg hsz, if_neg (hpl hp2 hag)]
          exact q1.2 hp2 k2 hag hk
    · exact h.elim
  · exact h.elim
theorem evBuildSlice_calm {π : Nat} {t : TypeId} {len : Nat} {parts : List (Nat × SV)} {refs wr : List Nat} (h1 : π ∈ refs) (h2 : π ∈ wr) : Calm refs wr (fun hp k => evBuildSlice P (some π) hp t len parts k) := by
  refine calm_frame fun hp => ⟨fun hp' k => match P.underlying t with
    | some (.slice e) =>
      match zeroOf P e with
      | some z =>
        if plOk (some π) hp = false ∨ len * szOf P e > 16777216 ∨ (svCells (ofValue z)).length ≠ szOf P e ∨ z.cells.size ≠ szOf P e ∨ szOf P e = 0 then False else
        match fillSV (fun i => some (i * szOf P e, szOf P e)) ((List.range (len * szOf P e)).map fun m => (svCells (ofValue z)).getD (m % szOf P e) .dead) parts with
        | some cs =>
          match cellsD cs with
          | some ds =>
            if isByte P e then
              match bytesOfD ds with
              | some l => if szOf P e = 1 then byteRange ds ∧ k (.view π 0 0 len) (hp'.set π (.row 0 e (.bytes l))) else False
              | none => False
            else k (.view π 0 0 len) (hp'.set π (.row 0 e (.list (szOf P e) len (fun i j => ds.getD (i * szOf P e + j) (.bool false)))))
          | none => False
        | none => False
      | none => False
    | _ => False, ?_, fun hp2 hag k => ?_⟩
  · split
    · split
      · refine calm_ite calm_false ?_
        split
        · split
          · refine calm_ite ?_ (calm_set h2 _ _)
            split
            · exact calm_ite (calm_and (calm_set h2 _ _)) calm_false
            · exact calm_false
          · exact calm_false
        · exact calm_false
      · exact calm_false
    · exact calm_false
  · unfold evBuildSlice
    rw [plOk_agree h1 hag]; rfl
/-! Rows that become data. -/
theorem frzCell_calm {refs wr : List Nat} {x : SV} (hr : ∀ j ∈ refsV x, j ∈ refs) (hw : ∀ j ∈ refsV x, j ∈ wr) {E : SV → List Ob → (SV → List Ob → Prop) → Prop} (h : ∀ x', Calm refs wr (E x')) : Calm refs wr (fun hp k => frzCellK hp x fun x' hp' => E x' hp' k) := by
  cases x with
  | view j ver lo hi =>
    intro hp k hE
    have hE : (match rowAt hp j ver with
      | some c => E (.d (c.sub lo hi).toD) (hp.set j .gone) k
      | none => False) := hE
    cases hra : rowAt hp j ver with
    | none => rw [hra] at hE; exact hE.elim
    | some c =>
      rw [hra] at hE
      obtain ⟨r, δ, q1, q2⟩ := h _ _ _ hE
      have hjr := hr j (by simp [refsV])
      refine ⟨r, (j, .gone) :: δ, ⟨fun i ob hi => ?_, fun hp2 k2 hag hk => ?_⟩, q2⟩
      · rcases List.mem_cons.1 hi with e | hi
        · cases e; exact hw j (by simp [refsV])
        · exact q1.1 i ob hi
      · have hra2 : rowAt hp2 j ver = some c := by unfold rowAt; rw [hag j hjr]; exact hra
        show match rowAt hp2 j ver with
          | some c => E (.d (c.sub lo hi).toD) (hp2.set j .gone) k2
          | none => False
        rw [hra2]
        refine q1.2 _ k2 (fun i hi => ?_) hk
        rw [List.getElem?_set, List.getElem?_set]
        by_cases hij : j = i
        · subst hij
          have := hag j hjr
          obtain ⟨t, hj⟩ := rowAt_some hra
          rw [hj] at this
          rw [if_pos rfl, if_pos rfl, if_pos (List.getElem?_eq_some_iff.1 this).1, if_pos (List.getElem?_eq_some_iff.1 hj).1]
        · rw [if_neg hij, if_neg hij]; exact hag i hi
  | _ => exact h _
theorem frzCells_calm {refs wr : List Nat} : ∀ {xs : List SV} {E : List SV → List Ob → (SV → List Ob → Prop) → Prop}, (∀ j ∈ refsVs xs, j ∈ refs) → (∀ j ∈ refsVs xs, j ∈ wr) → (∀ xs', Calm refs wr (E xs')) → Calm refs wr (fun hp k => frzCellsK hp xs fun xs' hp' => E xs' hp' k)
  | [], E, _, _, h => h []
  | x :: xs, E, hr, hw, h => by
    unfold refsVs at hr hw
    refine frzCell_calm (E := fun x' hp k => frzCellsK hp xs fun xs' hp' => E (x' :: xs') hp' k) (fun j hj => hr j (List.mem_append_left _ hj)) (fun j hj => hw j (List.mem_append_left _ hj)) fun x' => ?_
    exact frzCells_calm (E := fun xs' => E (x' :: xs')) (fun j hj => hr j (List.mem_append_right _ hj)) (fun j hj => hw j (List.mem_append_right _ hj)) fun xs' => h _
theorem frzParts_calm {refs wr : List Nat} : ∀ {ps : List (Nat × SV)} {E : List (Nat × SV) → List Ob → (SV → List Ob → Prop) → Prop}, (∀ q ∈ ps, ∀ j ∈ refsV q.2, j ∈ refs) → (∀ q ∈ ps, ∀ j ∈ refsV q.2, j ∈ wr) → (∀ ps', Calm refs wr (E ps')) → Calm refs wr (fun hp k => frzPartsK hp ps fun ps' hp' => E ps' hp' k)
  | [], E, _, _, h => h []
  | (i, v) :: ps, E, hr, hw, h => by
    have ih := fun (E : List (Nat × SV) → List Ob → (SV → List Ob → Prop) → Prop) (h : ∀ ps', Calm refs wr (E ps')) => frzParts_calm (ps := ps) (E := E) (fun q hq => hr q (List.mem_cons_of_mem _ hq)) (fun q hq => hw q (List.mem_cons_of_mem _ hq)) h
    have h1 := hr (i, v) (by simp)
    have h2 := hw (i, v) (by simp)
    cases v with
    | agg xs =>
      unfold refsV at h1 h2
      exact frzCells_calm (E := fun xs' hp k => frzPartsK hp ps fun ps' hp' => E ((i, .agg xs') :: ps') hp' k) h1 h2 fun xs' => ih (fun ps' => E ((i, .agg xs') :: ps')) fun ps' => h _
    | _ => exact frzCell_calm (E := fun x' hp k => frzPartsK hp ps fun ps' hp' => E ((i, x') :: ps') hp' k) h1 h2 fun x' => ih (fun ps' => E ((i, x') :: ps')) fun ps' => h _
theorem evConvert_calm {π : Nat} {src dst : TypeId} {x : SV} {refs wr : List Nat} (h1 : π ∈ refs) (h2 : π ∈ wr) (hx : ∀ j ∈ refsV x, j ∈ refs) : Calm refs wr (fun hp k => evConvert P (some π) hp src dst x k) := by
  intro hp k h
  have h : evConvert P (some π) hp src dst x k := h
  have none_ok : ∀ j ob, (j, ob) ∈ ([] : List (Nat × Ob)) → j ∈ wr := fun _ _ e => by cases e
  unfold evConvert at h
  split at h
  · rename_i hd
    exact ⟨_, [], ⟨none_ok, fun hp2 k2 hag hk => by simp only [evConvert, ‹P.underlying src = _›, ‹P.underlying dst = _›]; exact hk⟩, h⟩
  · rename_i hd
    exact ⟨_, [], ⟨none_ok, fun hp2 k2 hag hk => by simp only [evConvert, ‹P.underlying src = _›, ‹P.underlying dst = _›]; exact hk⟩, h⟩
  · rename_i e hs hd
    split at h
    · rename_i hb
      split at h
      · rename_i l hro
        exact ⟨_, [], ⟨none_ok, fun hp2 k2 hag hk => by simp only [evConvert, ‹P.underlying src = _›, ‹P.underlying dst = _›, if_pos hb, rowOf_frame hx hag, hro]; exact hk⟩, h⟩
      · exact h.elim
    · exact h.elim
  · rename_i hd
    split at h
    · rename_i hc
      refine ⟨_, [(π, _)], ⟨fun j o e => wr_one h2 e, fun hp2 k2 hag hk => ?_⟩, h⟩
      simp only [evConvert, ‹P.underlying src = _›, ‹P.underlying dst = _›, plOk_agree h1 hag, if_pos hc]
      exact hk
    · exact h.elim
  · rename_i j ver lo hi hs hd _
    split at h
    · rename_i hc
      refine ⟨_, [], ⟨none_ok, fun hp2 k2 hag hk => ?_⟩, h⟩
      have hr : rowAt hp2 j ver = rowAt hp j ver := by unfold rowAt; rw [hag j (hx j (by simp [refsV]))]
      simp only [evConvert, ‹P.underlying src = _›, ‹P.underlying dst = _›, hr, if_pos hc]
      exact hk
    · exact h.elim
  · exact h.elim
/-- Lengths are such as the machine has. -/
def okLen (hp : List Ob) : SV → Prop
  | .d (.str l) => l.length ≤ 9223372036854775807
  | .d (.bytes l) => l.length ≤ 9223372036854775807
  | .d (.list _ n _) => n ≤ 9223372036854775807
  | .view j ver lo hi => (rowAt hp j ver).isSome = true → hi - lo ≤ 9223372036854775807
  | _ => True
theorem evLen_calm {t : TypeId} {x : SV} {refs wr : List Nat} {hp : List Ob} {k : SV → List Ob → Prop} (hok : okLen hp x) (hx : ∀ j ∈ refsV x, j ∈ refs) (h : evLen P hp t x (fun v => k v hp)) :
    ∃ r δ, Outc (fun hp k => evLen P hp t x (fun v => k v hp)) refs wr hp r δ ∧ k r (app δ hp) := by
  have none_ok : ∀ j ob, (j, ob) ∈ ([] : List (Nat × Ob)) → j ∈ wr := fun _ _ e => by cases e
  unfold evLen at h
  split at h
  · exact ⟨_, [], ⟨none_ok, fun hp2 k2 hag hk => by simp only [evLen, ‹P.underlying t = _›]; exact fun _ => hk⟩, h hok⟩
  · exact ⟨_, [], ⟨none_ok, fun hp2 k2 hag hk => by simp only [evLen, ‹P.underlying t = _›]; exact hk⟩, h⟩
  · exact ⟨_, [], ⟨none_ok, fun hp2 k2 hag hk => by simp only [evLen, ‹P.underlying t = _›]; exact fun _ => hk⟩, h hok⟩
  · exact ⟨_, [], ⟨none_ok, fun hp2 k2 hag hk => by simp only [evLen, ‹P.underlying t = _›]; exact fun _ => hk⟩, h hok⟩
  · exact ⟨_, [], ⟨none_ok, fun hp2 k2 hag hk => by simp only [evLen, ‹P.underlying t = _›]; exact hk⟩, h⟩
  · rename_i j ver lo hi _
    split at h
    · rename_i c hr0
      refine ⟨_, [], ⟨none_ok, fun hp2 k2 hag hk => ?_⟩, h (hok (by rw [hr0]; rfl))⟩
      have hr : rowAt hp2 j ver = some c := by unfold rowAt; rw [hag j (hx j (by simp [refsV]))]; exact hr0
      simp only [evLen, ‹P.underlying t = _›, hr]
      exact fun _ => hk
    · exact h.elim
  · exact h.elim
def SpecOK (P : Program) (f : FuncId) (s : Spec) : Prop :=
  ∀ (pl : Option Nat) (args : List SV) (hp : List Ob) (k : SV → List Ob → Prop), s pl args hp k → ∀ (c1 : Cx) (w : World) (ρ : List Loc) (vs : List Value), Mem c1 ⟨w, hp, ρ⟩ → dens ⟨w, hp, ρ⟩ args vs →
    Calls P f ⟨vs⟩ w fun e w' => ∃ v r hp' ρ', e = .returned v ∧ k r hp' ∧ den ⟨w', hp', ρ'⟩ r v ∧ Mem ⟨w, hp, ρ⟩ ⟨w', hp', ρ'⟩ ∧ Ext ⟨w, hp, ρ⟩ ⟨w', hp', ρ'⟩
def SpecCalm (s : Spec) : Prop :=
  ∀ (π : Nat) (args : List SV) (hp : List Ob) (refs wr : List Nat), (∀ m, m < 1 + s.pls → π + m ∈ refs ∧ π + m ∈ wr) → (∀ x ∈ args, ∀ j ∈ refsV x, j ∈ refs) → (∀ j ∈ s.ft hp args, j ∈ refs ∧ j ∈ wr) →
    ∀ k, s.ev (some π) args hp k → ∃ r δ, Outc (fun hp k => s.ev (some π) args hp k) refs wr hp r δ ∧ k r (app δ hp)
def GammaOK (P : Program) (Γ : FuncId → Option Spec) : Prop := ∀ f s, Γ f = some s → SpecOK P f s ∧ SpecCalm s
theorem callD_sound {Γ : FuncId → Option Spec} (hΓ : GammaOK P Γ) (pl : Option Nat) : CallSound P (callD Γ pl) := by
  intro f args hp k h c1 w ρ vs hm hd
  unfold callD at h
  split at h
  · rename_i s hs
    exact (hΓ f s hs).1 pl args hp k h c1 w ρ vs hm hd
  · exact h.elim
theorem mem_refsVs : ∀ {xs : List SV} {x : SV}, x ∈ xs → ∀ j ∈ refsV x, j ∈ refsVs xs
  | y :: xs, x, h, j, hj => by
    unfold refsVs
    rcases List.mem_cons.1 h with rfl | h
    · exact List.mem_append_left _ hj
    · exact List.mem_append_right _ (mem_refsVs h j hj)
theorem evOp_calm {Γ : FuncId → Option Spec} (hΓ : GammaOK P Γ) {tm : List SV} {o : Op} {π : Option Nat} (hop : calmOp o = true) (hπ : makesOb o = true → π.isSome = true) (hnl : ∀ c, o = .call c → c.callee ≠ .builtin .len) (hp : List Ob) :
    ∀ k, evOp P (callD Γ π) π tm hp o k → ∃ r δ, Outc (fun hp k => evOp P (callD Γ π) π tm hp o k) (refsOp Γ tm hp π o) (wrOp Γ tm hp π o) hp r δ ∧ k r (app δ hp) := by
  have hmem : looksOp o = true → ∀ x ∈ o.operands.toList, ∀ j ∈ refsV (opd tm x), j ∈ refsOp Γ tm hp π o := by
    intro hlk x hx j hj
    unfold refsOp
    rw [hlk]
    refine List.mem_append_right _ (List.mem_flatMap.2 ⟨opd tm x, List.mem_map_of_mem hx, hj⟩)
  have hpw : ∀ p, π = some p → p ∈ plsOf Γ tm π o := by
    intro p e; subst e; unfold plsOf; simp only
    split
    · exact List.mem_map.2 ⟨0, List.mem_range.2 (by omega), by simp⟩
    · simp
  have hp1 : ∀ p, π = some p → p ∈ refsOp Γ tm hp π o := fun p e => List.mem_append_left _ (List.mem_append_left _ (hpw p e))
  have hp2 : ∀ p, π = some p → p ∈ wrOp Γ tm hp π o := fun p e => List.mem_append_left _ (List.mem_append_left _ (hpw p e))
  have hsp : ∀ s args, specOf Γ tm o = some (s, args) → (∀ p, π = some p → ∀ m, m < 1 + s.pls → p + m ∈ refsOp Γ tm hp π o ∧ p + m ∈ wrOp Γ tm hp π o) ∧ ∀ j ∈ s.ft hp args, j ∈ refsOp Γ tm hp π o ∧ j ∈ wrOp Γ tm hp π o := by
    intro s args e
    constructor
    · intro p ep m hm
      have : p + m ∈ plsOf Γ tm π o := by
        subst ep; unfold plsOf; simp only [e]
        exact List.mem_map.2 ⟨m, List.mem_range.2 hm, rfl⟩
      exact ⟨List.mem_append_left _ (List.mem_append_left _ this), List.mem_append_left _ (List.mem_append_left _ this)⟩
    · intro j hj
      have : j ∈ ftOf Γ tm hp o := by unfold ftOf; simp only [e]; exact hj
      exact ⟨List.mem_append_left _ (List.mem_append_right _ this), List.mem_append_left _ (List.mem_append_right _ this)⟩
  have some_of : π.isSome = true → ∃ p, π = some p := by
    intro h; cases π with
    | none => cases h
    | some p => exact ⟨p, rfl⟩
  generalize hR : refsOp Γ tm hp π o = refs at *
  generalize hW : wrOp Γ tm hp π o = wr at *
  by_cases hcv : ∃ c f, o = .call c ∧ c.callee = .value f
  · obtain ⟨c, f, rfl, hc⟩ := hcv
    have hargs : ∀ x ∈ c.args.toList.map (opd tm), ∀ j ∈ refsV x, j ∈ refs := by
      intro x hx
      obtain ⟨a, ha, rfl⟩ := List.mem_map.1 hx
      have hin : a ∈ (Op.call c).operands.toList := by simp [Op.operands, Call.operands]; exact .inr (by simpa using ha)
      exact hmem rfl a hin
    simp only [evOp, hc]
    cases hf : opd tm f with
    | clo g caps =>
      simp only
      by_cases hcb : callable P g = true
      · simp only [if_pos hcb]
        unfold callD
        cases hs : Γ g with
        | none => exact fun k h => h.elim
        | some s =>
          obtain ⟨p, rfl⟩ := some_of (hπ (by simp [makesOb, hc]))
          obtain ⟨q1, q2⟩ := hsp s (c.args.toList.map (opd tm) ++ caps) (by simp only [specOf, hc, hf, hs, Option.map_some])
          refine (hΓ g s hs).2 p _ hp refs wr (q1 p rfl) (fun x hx j hj => ?_) q2
          rcases List.mem_append.1 hx with hx | hx
          · exact hargs x hx j hj
          · have hin : f ∈ (Op.call c).operands.toList := by simp [Op.operands, Call.operands, hc]
            refine hmem rfl f hin j ?_
            rw [hf]
            unfold refsV
            exact mem_refsVs hx j hj
      · simp only [if_neg hcb]
        exact Calm.at (E := fun hp k => evExt P g (c.args.toList.map (opd tm) ++ caps) fun v => k v hp) ((evExt_det _ _).calm refs wr) hp
    | _ => exact fun k h => h.elim
  refine Calm.at (E := fun hp k => evOp P (callD Γ π) π tm hp o k) ?_ hp
  cases o with
  | move x => exact calm_ret _
  | assign x => exact calm_ret _
  | pick c a b =>
    simp only [evOp]
    split
    · exact calm_br (calm_ret _) (calm_ret _)
    · exact calm_false
  | alloc t =>
    obtain ⟨p, rfl⟩ := some_of (hπ rfl)
    simp only [evOp]
    split
    · exact calm_put (hp1 p rfl) (hp2 p rfl) (.ptr p 0) _
    · exact calm_false
  | box t x =>
    obtain ⟨p, rfl⟩ := some_of (hπ rfl)
    simp only [evOp]
    split
    · exact calm_put (hp1 p rfl) (hp2 p rfl) (.ptr p 0) _
    · refine calm_frame fun hp => ⟨fun hp' k => if plOk (some p) hp = true ∧ (svCells (opd tm x)).all storable = true then k (.ptr p 0) (hp'.set p (.fix t (svCells (opd tm x)))) else False, calm_ite (calm_set (hp2 p rfl) _ _) calm_false, fun hp2 hag k => ?_⟩
      rw [plOk_agree (hp1 p rfl) hag]; rfl
  | build t parts => exact (evBuild_det _ _).calm _ _
  | buildSlice t len parts =>
    obtain ⟨p, rfl⟩ := some_of (hπ rfl)
    refine frzParts_calm (fun q hq j hj => ?_) (fun q hq j hj => ?_) fun ps => evBuildSlice_calm (hp1 p rfl) (hp2 p rfl)
    · obtain ⟨a, ha, rfl⟩ := List.mem_map.1 hq
      exact hmem rfl a.2 (by simp [Op.operands]; exact ⟨a.1, by simpa using ha⟩) j hj
    · obtain ⟨a, ha, rfl⟩ := List.mem_map.1 hq
      rw [← hW]
      unfold wrOp
      exact List.mem_append_right _ (List.mem_flatMap.2 ⟨opd tm a.2, List.mem_map_of_mem (by simp [Op.operands]; exact ⟨a.1, by simpa using ha⟩), hj⟩)
  | load t a => exact frame_calm _ (evLoad_frame (hmem rfl a (by simp [Op.operands]))) (fun hp => evLoad_det hp t _)
  | store t a x =>
    refine evStore_calm (hmem rfl a (by simp [Op.operands])) ?_
    intro j hj
    rw [← hW]
    unfold wrOp
    exact List.mem_append_right _ hj
  | nilCheck x =>
    simp only [evOp]
    split <;> first | exact calm_ret _ | exact calm_false
  | binOp t op x y z => exact (evBinA_det _ _ _ _).calm _ _
  | unOp op t x => exact (evUn_det _ _).calm _ _
  | convert s d x =>
    obtain ⟨p, rfl⟩ := some_of (hπ rfl)
    exact evConvert_calm (hp1 p rfl) (hp2 p rfl) (hmem rfl x (by simp [Op.operands]))
  | makeSlice t len cap =>
    obtain ⟨p, rfl⟩ := some_of (hπ rfl)
    exact evMakeSlice_calm (hp1 p rfl) (hp2 p rfl)
  | slice t x lo hi m =>
    cases m with
    | none =>
      have hx := hmem rfl x (by simp [Op.operands])
      have hw : ∀ j off, opd tm x = .ptr j off → j ∈ wr := fun j off e => by
        rw [← hW]; unfold wrOp; simp [e]
      revert hx hw
      show _ → _ → Calm refs wr (fun hp k => match opd tm x with | .ptr j off => evSliceA P hp t j off (lo.map (opd tm)) (hi.map (opd tm)) k | x => evSlice P hp t x (lo.map (opd tm)) (hi.map (opd tm)) (fun v => k v hp))
      generalize opd tm x = y
      intro hx hw
      cases y with
      | ptr j off => exact evSliceA_calm (hx j (by simp [refsV])) (hw j off rfl)
      | _ => exact frame_calm _ (evSlice_frame hx) (fun hp => evSlice_det hp t _ _ _)
    | some m => exact calm_false
  | fieldAddr t x f => exact (evFieldAddr_det _ _ _).calm _ _
  | field t x f => exact (evField_det _ _ _).calm _ _
  | indexAddr t x i => exact frame_calm _ (evIndexAddr_frame (hmem rfl x (by simp [Op.operands]))) (fun hp => evIndexAddr_det hp t _ _)
  | index t x i => exact (evIndex_det _ _ _).calm _ _
  | extract x i =>
    simp only [evOp]
    split
    · split <;> first | exact calm_ret _ | exact calm_false
    · exact calm_false
  | call c =>
    have hargs : ∀ x ∈ c.args.toList.map (opd tm), ∀ j ∈ refsV x, j ∈ refs := by
      intro x hx
      obtain ⟨a, ha, rfl⟩ := List.mem_map.1 hx
      have hin : a ∈ (Op.call c).operands.toList := by simp [Op.operands, Call.operands]; exact .inr (by simpa using ha)
      exact hmem rfl a hin
    simp only [evOp]
    cases hc : c.callee with
    | builtin b =>
      simp only
      unfold evBuiltin
      split
      · exact absurd hc (hnl c rfl)
      · rename_i t t' s x _ hx
        have h1 := hargs s (by rw [hx]; simp)
        have h2 := hargs x (by rw [hx]; simp)
        obtain ⟨p, rfl⟩ := some_of (hπ (by simp [makesOb, hc]))
        refine calm_ite (evAppend_calm (hp1 p rfl) (hp2 p rfl) h1 h2 ?_) calm_false
        intro j hj
        rw [← hW]
        unfold wrOp
        refine List.mem_append_right _ ?_
        simp only [hc, hx]
        exact List.mem_flatMap.2 ⟨s, by simp, hj⟩
      · exact (evMinMax_det _ _).calm _ _
      · exact (evMinMax_det _ _).calm _ _
      · exact calm_false
    | value f => exact absurd ⟨c, f, rfl, hc⟩ hcv
    | _ => exact calm_false
  | _ => cases hop
theorem evOp_calmAt {Γ : FuncId → Option Spec} (hΓ : GammaOK P Γ) {tm : List SV} {o : Op} {π : Option Nat} (hop : calmOp o = true) (hπ : makesOb o = true → π.isSome = true) {hp : List Ob} (hok : ∀ x ∈ o.operands.toList, okLen hp (opd tm x))
    {k : SV → List Ob → Prop} (h : evOp P (callD Γ π) π tm hp o k) : ∃ r δ, Outc (fun hp k => evOp P (callD Γ π) π tm hp o k) (refsOp Γ tm hp π o) (wrOp Γ tm hp π o) hp r δ ∧ k r (app δ hp) := by
  by_cases hl : ∃ c, o = .call c ∧ c.callee = .builtin .len
  · obtain ⟨c, rfl, hc⟩ := hl
    have e : ∀ (hp : List Ob) (k : SV → List Ob → Prop), evOp P (callD Γ π) π tm hp (.call c) k = evBuiltin P π hp .len c.argTypes.toList (c.args.toList.map (opd tm)) k := fun hp k => by simp only [evOp, hc]
    rw [e] at h
    have e' : (fun hp k => evOp P (callD Γ π) π tm hp (.call c) k) = fun hp k => evBuiltin P π hp .len c.argTypes.toList (c.args.toList.map (opd tm)) k := by
      funext hp k; exact e hp k
    rw [e']
    have hargs : ∀ x ∈ c.args.toList.map (opd tm), okLen hp x ∧ ∀ j ∈ refsV x, j ∈ refsOp Γ tm hp π (.call c) := by
      intro x hx
      obtain ⟨a, ha, rfl⟩ := List.mem_map.1 hx
      have hin : a ∈ (Op.call c).operands.toList := by simp [Op.operands, Call.operands]; exact .inr (by simpa using ha)
      exact ⟨hok a hin, fun j hj => by unfold refsOp; exact List.mem_append_right _ (List.mem_flatMap.2 ⟨opd tm a, List.mem_map_of_mem hin, hj⟩)⟩
    generalize c.argTypes.toList = ts at *
    generalize c.args.toList.map (opd tm) = xs at *
    unfold evBuiltin at h ⊢
    match ts, xs, h with
    | [t], [x], h =>
      have := hargs x (by simp)
      exact evLen_calm this.1 this.2 h
  · exact evOp_calm hΓ hop hπ (fun c e hc => hl ⟨c, e, hc⟩) hp k h
/-! ## Slots -/
theorem evOp_tm {callK : CallK} {pl : Option Nat} {tm tm' : List SV} {hp : List Ob} {o : Op} {k : SV → List Ob → Prop} (hop : calmOp o = true) (h : ∀ x ∈ o.operands.toList, opd tm' x = opd tm x) :
    evOp P callK pl tm' hp o k = evOp P callK pl tm hp o k := by
  have hm : ∀ xs : List Operand, (∀ x ∈ xs, x ∈ o.operands.toList) → xs.map (opd tm') = xs.map (opd tm) := fun xs hx => List.map_congr_left fun x hxx => h x (hx x hxx)
  cases o with
  | call c =>
    have ha : c.args.toList.map (opd tm') = c.args.toList.map (opd tm) := hm _ fun x hx => by simp [Op.operands, Call.operands]; exact .inr (by simpa using hx)
    simp only [evOp, ha]
    cases hc : c.callee with
    | value f => simp only [h f (by simp [Op.operands, Call.operands, hc])]
    | _ => rfl
  | build t parts =>
    have ha : (parts.toList.map fun p => (p.1, opd tm' p.2)) = parts.toList.map fun p => (p.1, opd tm p.2) := List.map_congr_left fun p hp => by
      rw [h p.2 (by simp [Op.operands]; exact ⟨p.1, by simpa using hp⟩)]
    simp only [evOp, ha]
  | buildSlice t len parts =>
    have ha : (parts.toList.map fun p => (p.1, opd tm' p.2)) = parts.toList.map fun p => (p.1, opd tm p.2) := List.map_congr_left fun p hp => by
      rw [h p.2 (by simp [Op.operands]; exact ⟨p.1, by simpa using hp⟩)]
    simp only [evOp, ha]
  | slice t x lo hi m =>
    have h1 := h x (by simp [Op.operands])
    have h2 : lo.map (opd tm') = lo.map (opd tm) := by
      cases lo with
      | none => rfl
      | some y => exact congrArg some (h y (by simp [Op.operands]))
    have h3 : hi.map (opd tm') = hi.map (opd tm) := by
      cases hi with
      | none => rfl
      | some y => exact congrArg some (h y (by simp [Op.operands]))
    cases m with
    | none => simp only [evOp, h1, h2, h3]
    | some m => rfl
  | move x => simp only [evOp, h x (by simp [Op.operands])]
  | assign x => simp only [evOp, h x (by simp [Op.operands])]
  | pick c a b => simp only [evOp, h c (by simp [Op.operands]), h a (by simp [Op.operands]), h b (by simp [Op.operands])]
  | alloc t => rfl
  | box t x => simp only [evOp, h x (by simp [Op.operands])]
  | load t a => simp only [evOp, h a (by simp [Op.operands])]
  | store t a x => simp only [evOp, h a (by simp [Op.operands]), h x (by simp [Op.operands])]
  | nilCheck x => simp only [evOp, h x (by simp [Op.operands])]
  | binOp t op x y z => simp only [evOp, h x (by simp [Op.operands]), h y (by simp [Op.operands])]
  | unOp op t x => simp only [evOp, h x (by simp [Op.operands])]
  | convert s d x => simp only [evOp, h x (by simp [Op.operands])]
  | makeSlice t len cap => simp only [evOp, h len (by simp [Op.operands]), h cap (by simp [Op.operands])]
  | fieldAddr t x f => simp only [evOp, h x (by simp [Op.operands])]
  | field t x f => simp only [evOp, h x (by simp [Op.operands])]
  | indexAddr t x i => simp only [evOp, h x (by simp [Op.operands]), h i (by simp [Op.operands])]
  | index t x i => simp only [evOp, h x (by simp [Op.operands]), h i (by simp [Op.operands])]
  | extract x i => simp only [evOp, h x (by simp [Op.operands])]
  | _ => cases hop
theorem wr_sub {Γ : FuncId → Option Spec} {π : Option Nat} {tm : List SV} {hp : List Ob} {o : Op} : ∀ j ∈ wrOp Γ tm hp π o, j ∈ refsOp Γ tm hp π o := by
  intro j hj
  unfold wrOp at hj
  unfold refsOp
  rcases List.mem_append.1 hj with hj | hj
  · exact List.mem_append_left _ hj
  · refine List.mem_append_right _ ?_
    split at hj
    · exact List.mem_flatMap.2 ⟨_, List.mem_map_of_mem (by simp only [Op.operands]; exact List.mem_cons_self), hj⟩
    · exact hj
    · rename_i xt x lo hi mx hj0
      refine List.mem_flatMap.2 ⟨opd tm x, List.mem_map_of_mem (by simp [Op.operands]), ?_⟩
      split at hj
      · rename_i e
        rw [e]; simpa [refsV] using hj
      · cases hj
    · rename_i c
      split at hj
      · obtain ⟨y, hy, hj⟩ := List.mem_flatMap.1 hj
        obtain ⟨x, hx, rfl⟩ := List.mem_map.1 hy
        exact List.mem_flatMap.2 ⟨opd tm x, List.mem_map_of_mem (by simp [Op.operands, Call.operands]; exact .inr (by simpa using hx)), hj⟩
      · cases hj
    · cases hj
/-! ## Steps and chains of them -/
structure Ent where
  o : Oper
  π : Option Nat
  e : LogE
def gOn (ops : Array Oper) (tm : List SV) (g : Option (Nat × Bool)) : Option Bool :=
  match g with
  | none => some true
  | some (j, want) =>
    match (ops[j]?).bind (·.dst) with
    | some d =>
      match tm[d]? with
      | some (.d (.bool b)) => some (b == want)
      | some .undef => some false
      | _ => none
    | none => some false
theorem guardK_on {ops : Array Oper} {tm : List SV} {g : Option (Nat × Bool)} {yes no : Prop} (h : guardK ops tm g yes no) : (gOn ops tm g = some true ∧ yes) ∨ (gOn ops tm g = some false ∧ no) := by
  unfold guardK at h
  unfold gOn
  split at h
  · exact .inl ⟨rfl, h⟩
  · split at h
    · split at h
      · rename_i b hb
        simp only [*]
        rw [BR_iff] at h
        cases hbw : (b == _) with
        | true => exact .inl ⟨rfl, h.1 hbw⟩
        | false => exact .inr ⟨rfl, h.2 hbw⟩
      · refine .inr ⟨?_, h⟩
        simp only [*]
      · exact h.elim
    · refine .inr ⟨?_, h⟩
      simp only [*]
def DOut (P : Program) (Γ : FuncId → Option Spec) (ops : Array Oper) (x : Ent) (σ : St) (r : SV) (δ : List (Nat × Ob)) : Prop :=
  calmOp x.o.op = true ∧ (
  (gOn ops σ.tm x.o.guard = some true ∧ (∀ j ∈ x.e.wr, j ∈ x.e.refs) ∧ Outc (fun hp k => evOp P (callD Γ x.π) x.π σ.tm hp x.o.op k) x.e.refs x.e.wr σ.hp r δ) ∨
  (gOn ops σ.tm x.o.guard = some false ∧ r = .undef ∧ δ = []))
def act (x : Ent) (r : SV) (δ : List (Nat × Ob)) (σ : St) : St := St.put ⟨σ.tm, app δ σ.hp⟩ x.o.dst r
inductive Chain (P : Program) (Γ : FuncId → Option Spec) (ops : Array Oper) : List Ent → St → St → Prop where
  | nil (σ : St) : Chain P Γ ops [] σ σ
  | cons {x : Ent} {xs : List Ent} {σ σn : St} (r : SV) (δ : List (Nat × Ob)) (h : DOut P Γ ops x σ r δ) (t : Chain P Γ ops xs (act x r δ σ) σn) : Chain P Γ ops (x :: xs) σ σn
theorem disj_spec : ∀ {xs ys : List Nat}, disj xs ys = true → ∀ j ∈ xs, j ∉ ys
  | [], ys, _, j, hj => by cases hj
  | x :: xs, ys, h, j, hj => by
    simp only [disj, Bool.and_eq_true, Bool.not_eq_true', List.elem_eq_mem, decide_eq_false_iff_not] at h
    rcases List.mem_cons.1 hj with rfl | hj
    · exact h.1
    · exact disj_spec h.2 j hj
theorem put_tm {tm : List SV} {hp : List Ob} {dst : Option Tmp} {r : SV} {t : Nat} (h : ∀ d, dst = some d → d ≠ t) : (St.put ⟨tm, hp⟩ dst r).tm[t]? = tm[t]? := by
  cases dst with
  | none => rfl
  | some d => exact List.getElem?_set_ne (h d rfl)
theorem put_hp' {tm : List SV} {hp : List Ob} {dst : Option Tmp} {r : SV} : (St.put ⟨tm, hp⟩ dst r).hp = hp := by cases dst <;> rfl
def TmAgree (ops : Array Oper) (o : Oper) (tm tm' : List SV) : Prop := ∀ t ∈ o.looksAt ops, tm'[t]? = tm[t]?
theorem TmAgree.opd {ops : Array Oper} {o : Oper} {tm tm' : List SV} (h : TmAgree ops o tm tm') : ∀ x ∈ o.op.operands.toList, Sx.opd tm' x = Sx.opd tm x := by
  intro x hx
  cases x with
  | tmp t =>
    have : t ∈ o.looksAt ops := by
      unfold Oper.looksAt
      refine List.mem_append_left _ (List.mem_filterMap.2 ⟨.tmp t, hx, rfl⟩)
    show tm'.getD t .undef = tm.getD t .undef
    rw [List.getD_eq_getElem?_getD, List.getD_eq_getElem?_getD, h t this]
  | _ => rfl
theorem TmAgree.gOn {ops : Array Oper} {o : Oper} {tm tm' : List SV} (h : TmAgree ops o tm tm') : Sx.gOn ops tm' o.guard = Sx.gOn ops tm o.guard := by
  unfold Sx.gOn
  split
  · rfl
  · rename_i j want hg
    split
    · rename_i d hd
      have : d ∈ o.looksAt ops := by
        unfold Oper.looksAt
        refine List.mem_append_right _ ?_
        rw [hg]
        simp only [hd]
        exact List.mem_singleton.2 rfl
      rw [h d this]
    · rfl
theorem DOut.frame {Γ : FuncId → Option Spec} {ops : Array Oper} {x : Ent} {σ τ : St} {r : SV} {δ : List (Nat × Ob)} (h : DOut P Γ ops x σ r δ) (ht : TmAgree ops x.o σ.tm τ.tm) (hh : Agree x.e.refs σ.hp τ.hp) : DOut P Γ ops x τ r δ := by
  obtain ⟨hc, h⟩ := h
  refine ⟨hc, ?_⟩
  rcases h with ⟨h1, h2, h3⟩ | ⟨h1, h2, h3⟩
  · refine .inl ⟨by rw [ht.gOn]; exact h1, h2, h3.1, fun hp2 k hag hk => ?_⟩
    show evOp P (callD Γ x.π) x.π τ.tm hp2 x.o.op k
    rw [evOp_tm hc ht.opd]
    exact h3.2 hp2 k (fun j hj => (hag j hj).trans (hh j hj)) hk
  · exact .inr ⟨by rw [ht.gOn]; exact h1, h2, h3⟩
theorem DOut.wr {Γ : FuncId → Option Spec} {ops : Array Oper} {x : Ent} {σ : St} {r : SV} {δ : List (Nat × Ob)} {j : Nat} {ob : Ob} (h : DOut P Γ ops x σ r δ) (hj : (j, ob) ∈ δ) : j ∈ x.e.wr ∧ j ∈ x.e.refs := by
  rcases h.2 with ⟨_, h2, h3⟩ | ⟨_, _, h3⟩
  · exact ⟨h3.1 j ob hj, h2 j (h3.1 j ob hj)⟩
  · subst h3; cases hj
theorem app_agree : ∀ {δ : List (Nat × Ob)} {refs : List Nat} {hp : List Ob}, (∀ j ob, (j, ob) ∈ δ → j ∉ refs) → Agree refs hp (app δ hp)
  | [], _, _, _ => fun _ _ => rfl
  | (j, ob) :: δ, refs, hp, h => fun i hi => by
    have h1 := app_agree (δ := δ) (refs := refs) (hp := hp.set j ob) (fun j' ob' hm => h j' ob' (List.mem_cons_of_mem _ hm)) i hi
    refine h1.trans ?_
    exact List.getElem?_set_ne (fun e : j = i => h j ob List.mem_cons_self (by rw [e]; exact hi))
theorem app_set : ∀ {δ : List (Nat × Ob)} {j : Nat} {ob : Ob} {hp : List Ob}, (∀ j' ob', (j', ob') ∈ δ → j ≠ j') → app δ (hp.set j ob) = (app δ hp).set j ob
  | [], _, _, _, _ => rfl
  | (i, o) :: δ, j, ob, hp, h => by
    show app δ ((hp.set j ob).set i o) = (app δ (hp.set i o)).set j ob
    rw [List.set_comm _ _ (h i o List.mem_cons_self), app_set fun j' ob' hm => h j' ob' (List.mem_cons_of_mem _ hm)]
theorem app_comm : ∀ {δ δ' : List (Nat × Ob)} {hp : List Ob}, (∀ j ob j' ob', (j, ob) ∈ δ → (j', ob') ∈ δ' → j ≠ j') → app δ (app δ' hp) = app δ' (app δ hp)
  | [], _, _, _ => rfl
  | (j, ob) :: δ, δ', hp, h => by
    show app δ ((app δ' hp).set j ob) = app δ' (app δ (hp.set j ob))
    rw [← app_set fun j' ob' hm => h j ob j' ob' List.mem_cons_self hm]
    exact app_comm fun a b c d h1 h2 => h a b c d (List.mem_cons_of_mem _ h1) h2
theorem swap {Γ : FuncId → Option Spec} {ops : Array Oper} {x y : Ent} {σ : St} {r r' : SV} {δ δ' : List (Nat × Ob)} (hi : indep ops x.o y.o x.e y.e = true) (h1 : DOut P Γ ops x σ r δ) (h2 : DOut P Γ ops y (act x r δ σ) r' δ') :
    DOut P Γ ops y σ r' δ' ∧ DOut P Γ ops x (act y r' δ' σ) r δ ∧ act x r δ (act y r' δ' σ) = act y r' δ' (act x r δ σ) := by
  simp only [indep, Bool.and_eq_true] at hi
  obtain ⟨ha, hd1, hd2⟩ := hi
  obtain ⟨a1, a2, a3⟩ := Oper.apart_spec ha
  have hd1 := disj_spec hd1
  have hd2 := disj_spec hd2
  have hx : ∀ j ob, (j, ob) ∈ δ → j ∉ y.e.refs := fun j ob e => hd1 j (h1.wr e).1
  have hy : ∀ j ob, (j, ob) ∈ δ' → j ∉ x.e.refs := fun j ob e => hd2 j (h2.wr e).1
  have h2' : DOut P Γ ops y σ r' δ' := by
    refine h2.frame (fun t ht => ?_) ?_
    · unfold act
      exact (put_tm (fun d hd e => a1 d hd (e ▸ ht))).symm
    · intro j hj
      have := app_agree hx (hp := σ.hp) j hj
      show σ.hp[j]? = (act x r δ σ).hp[j]?
      unfold act
      rw [put_hp']; exact this.symm
  refine ⟨h2', ?_, ?_⟩
  · refine h1.frame (fun t ht => ?_) ?_
    · unfold act
      exact put_tm (fun d hd e => a3 d hd (e ▸ ht))
    · intro j hj
      unfold act
      rw [put_hp']
      exact app_agree hy (hp := σ.hp) j hj
  · have hc : app δ (app δ' σ.hp) = app δ' (app δ σ.hp) := app_comm fun j ob j' ob' e e' he => hx j ob e (he ▸ (h2.wr e').2)
    unfold act
    cases hdx : x.o.dst with
    | none =>
      cases hdy : y.o.dst with
      | none => simp [St.put, hc]
      | some d' => simp [St.put, hc]
    | some d =>
      cases hdy : y.o.dst with
      | none => simp [St.put, hc]
      | some d' =>
        have hne : d ≠ d' := fun e => a2 d hdx (by rw [hdy, e])
        simp only [St.put, hc]
        rw [List.set_comm _ _ hne]
theorem front {Γ : FuncId → Option Spec} {ops : Array Oper} {y : Ent} {post : List Ent} {σn : St} : ∀ {pre : List Ent} {σ : St}, Chain P Γ ops (pre ++ y :: post) σ σn → (∀ x ∈ pre, indep ops x.o y.o x.e y.e = true) →
    ∃ r δ, DOut P Γ ops y σ r δ ∧ Chain P Γ ops (pre ++ post) (act y r δ σ) σn
  | [], σ, h, _ => by
    cases h with
    | cons r δ h t => exact ⟨r, δ, h, t⟩
  | x :: pre, σ, h, hi => by
    cases h with
    | cons r δ h t =>
      obtain ⟨r', δ', h2, t2⟩ := front t (fun z hz => hi z (List.mem_cons_of_mem _ hz))
      obtain ⟨q1, q2, q3⟩ := swap (hi x List.mem_cons_self) h h2
      exact ⟨r', δ', q1, .cons r δ q2 (by rw [q3]; exact t2)⟩
/-! ## One step, in the model -/
theorem okLen_of {c0 c : Cx} (hm : Mem c0 c) {x : SV} {v : Value} (h : den c x v) : okLen c.hp x := by
  cases x with
  | d x =>
    unfold den at h
    cases x with
    | str l => exact h.2
    | bytes l =>
      obtain ⟨A, k, _, h1, h2, _⟩ := h
      show l.length ≤ _
      unfold maxLen at h2; omega
    | list sz n g =>
      obtain ⟨A, k, _, h1, h2, _⟩ := h
      show n ≤ _
      unfold maxLen at h2; omega
    | _ => trivial
  | view j ver lo hi =>
    intro hs
    cases hr : rowAt c.hp j ver with
    | none => rw [hr] at hs; cases hs
    | some r =>
      obtain ⟨t, A, cap, hj, l1, l2, hl, _⟩ := den_view h hr
      obtain ⟨A', cap', e, h1, h2, _⟩ := hm.obs j _ _ hj hl
      cases e
      unfold maxLen at h2; omega
  | _ => trivial
theorem gOn_guard {ops : Array Oper} {tm : List SV} {g : Option (Nat × Bool)} : (gOn ops tm g = some true → guardK ops tm g True False) ∧ (gOn ops tm g = some false → guardK ops tm g False True) := by
  cases g with
  | none => exact ⟨fun _ => trivial, fun h => (by cases h)⟩
  | some p =>
    obtain ⟨j, want⟩ := p
    simp only [gOn, guardK]
    cases (ops[j]?).bind (·.dst) with
    | none => exact ⟨fun h => (by cases h), fun _ => trivial⟩
    | some d =>
      simp only
      generalize tm[d]? = u
      split
      · rename_i b
        constructor
        · intro h
          simp only [Option.some.injEq] at h
          show BR (b == want) True False
          rw [h]; exact BR_iff.2 ⟨fun _ => trivial, fun e => (by cases e)⟩
        · intro h
          simp only [Option.some.injEq] at h
          show BR (b == want) False True
          rw [h]; exact BR_iff.2 ⟨fun e => (by cases e), fun _ => trivial⟩
      · exact ⟨fun h => (by cases h), fun _ => trivial⟩
      · exact ⟨fun h => (by cases h), fun h => (by cases h)⟩
theorem callsSome {f : FuncId} {args : Array Value} {w : World} {R : Ending → World → Prop} (h : Calls P f args w R) : ∃ e w', R e w' := by
  obtain ⟨e, w', _, hR, _⟩ := h []
  exact ⟨e, w', hR⟩
theorem opDone_step {c0 : Cx} {ρ : List Loc} {σ : St} {a : Act} {w : World} {x : Ent} {r : SV} {δ : List (Nat × Ob)} {K : Act → World → Prop} {Q : Exit → Act → World → Prop} (hr : Rel c0 ρ σ a w)
    (h : OpDone P c0 ⟨w, σ.hp, ρ⟩ (fun v hp => v = r ∧ hp = app δ σ.hp) ((execOp a.eval x.o).run P w)) :
    (∃ ρ' a' w', Rel c0 ρ' (act x r δ σ) a' w') ∧ ((∀ ρ' a' w', Rel c0 ρ' (act x r δ σ) a' w' → K a' w') → x.o.wp P a w K Q) := by
  unfold Oper.wp
  generalize (execOp a.eval x.o).run P w = res at h
  cases h with
  | value v w' r' hp' ρ' hk hd hm he =>
    obtain ⟨rfl, rfl⟩ := hk
    have := rel_put hr hd hm he x.o.dst
    exact ⟨⟨_, _, _, this⟩, fun hn => hn _ _ _ this⟩
  | skip w' hp' ρ' hk hm he =>
    obtain ⟨rfl, rfl⟩ := hk
    have := rel_put hr (show den ⟨w', app δ σ.hp, ρ'⟩ .undef Go.undef by unfold den; rfl) hm he x.o.dst
    exact ⟨⟨_, _, _, this⟩, fun hn => hn _ _ _ this⟩
  | enter g vs hc =>
    constructor
    · obtain ⟨e, w', v, r', hp', ρ', rfl, ⟨rfl, rfl⟩, hd, hm, he⟩ := callsSome hc
      exact ⟨_, _, _, rel_put hr hd hm he x.o.dst⟩
    · intro hn
      show Calls P g ⟨vs⟩ w _
      refine hc.mono ?_
      rintro e w' ⟨v, r', hp', ρ', rfl, ⟨rfl, rfl⟩, hd, hm, he⟩
      exact hn _ _ _ (rel_put hr hd hm he x.o.dst)
theorem DOut.step {Γ : FuncId → Option Spec} (hΓ : GammaOK P Γ) {ops : Array Oper} {x : Ent} {σ : St} {r : SV} {δ : List (Nat × Ob)} (h : DOut P Γ ops x σ r δ) {c0 : Cx} {ρ : List Loc} {a : Act} {w : World} (hr : Rel c0 ρ σ a w) :
    (∃ ρ' a' w', Rel c0 ρ' (act x r δ σ) a' w') ∧ ∀ {i : Nat} {K : Act → World → Prop} {Q : Exit → Act → World → Prop}, ops[i]? = some x.o → (∀ ρ' a' w', Rel c0 ρ' (act x r δ σ) a' w' → K a' w') → wpOp P ops Q i K a w := by
  rcases h.2 with ⟨h1, _, h3⟩ | ⟨h1, rfl, rfl⟩
  · have hE : evOp P (callD Γ x.π) x.π σ.tm σ.hp x.o.op (fun v hp => v = r ∧ hp = app δ σ.hp) := h3.2 σ.hp _ (fun _ _ => rfl) ⟨rfl, rfl⟩
    have hdone := evOp_sound (callD_sound hΓ x.π) hr.mem hr.tm hE
    refine ⟨(opDone_step (K := fun _ _ => True) (Q := fun _ _ _ => True) hr hdone).1, fun {i K Q} hi hK => ?_⟩
    unfold wpOp
    rw [hi]
    rcases guardK_sound (gOn_guard.1 h1) hr.tm with ⟨hw, _⟩ | ⟨_, hf⟩
    · simp only [hw, if_true]
      exact .inl ((opDone_step hr hdone).2 hK)
    · exact hf.elim
  · have hrel : Rel c0 ρ (act x .undef [] σ) (a.put x.o.dst Go.undef) w := rel_put (w' := w) (hp' := σ.hp) (ρ' := ρ) hr (show den ⟨w, σ.hp, ρ⟩ .undef Go.undef by unfold den; rfl) hr.mem (Ext.refl _) x.o.dst
    refine ⟨⟨_, _, _, hrel⟩, fun {i K Q} hi hK => ?_⟩
    unfold wpOp
    rw [hi]
    rcases guardK_sound (gOn_guard.2 h1) hr.tm with ⟨_, hf⟩ | ⟨hw, _⟩
    · exact hf.elim
    · simp only [hw]
      exact hK _ _ _ hrel
/-! ## From the evaluator's text order to a chain -/
theorem putK_eq {nm : Nat → Bool} {tm : List SV} {hp : List Ob} {dst : Option Tmp} {r : SV} {K : St → Prop} (h : putK nm tm hp dst r K) : K (St.put ⟨tm, hp⟩ dst r) := by
  unfold putK at h
  split at h
  · rename_i b
    rw [BR_iff] at h
    cases b with
    | true => exact h.1 rfl
    | false => exact h.2 rfl
  · split at h
    · exact putI_sound h
    · exact h
  · split at h
    · exact h _ rfl
    · exact h
  · exact h
theorem opd_okLen {c0 c : Cx} (hm : Mem c0 c) {tm : List SV} {a : Act} (ht : dens c tm a.tmps.toList) (x : Operand) : okLen c.hp (opd tm x) := okLen_of hm (den_opd ht x)
theorem evDraw_chain {Γ : FuncId → Option Spec} (hΓ : GammaOK P Γ) {nm : Nat → Bool} {ops : Array Oper} {c0 : Cx} : ∀ (l : List (Oper × Option Nat)) (σ : St) (log : List LogE) (K : St → List LogE → Prop) (ρ : List Loc) (a : Act) (w : World),
    evDraw P Γ nm ops l σ log K → Rel c0 ρ σ a w → (∀ x ∈ l, makesOb x.1.op = true → x.2.isSome = true) →
    ∃ (ents : List Ent) (σn : St), ents.map (fun x => (x.o, x.π)) = l ∧ Chain P Γ ops ents σ σn ∧ K σn (log ++ ents.map (·.e))
  | [], σ, log, K, ρ, a, w, h, hr, _ => ⟨[], σ, rfl, .nil σ, by unfold evDraw at h; simpa using h⟩
  | (o, π) :: rest, σ, log, K, ρ, a, w, h, hr, hl => by
    unfold evDraw at h
    simp only [forceAt_eq] at h
    split at h
    · rename_i hop
      rcases guardK_on h with ⟨hg, hy⟩ | ⟨hg, hn⟩
      · obtain ⟨r, δ, ho, hk⟩ := evOp_calmAt hΓ hop (hl (o, π) (by simp)) (fun x _ => opd_okLen hr.mem hr.tm x) hy
        have hd : DOut P Γ ops ⟨o, π, logE Γ σ.tm σ.hp π o.op⟩ σ r δ := ⟨hop, .inl ⟨hg, wr_sub, ho⟩⟩
        obtain ⟨⟨ρ', a', w', hr'⟩, _⟩ := hd.step hΓ hr
        obtain ⟨ents, σn, h1, h2, h3⟩ := evDraw_chain hΓ rest _ _ K ρ' a' w' (putK_eq hk) hr' (fun x hx => hl x (List.mem_cons_of_mem _ hx))
        exact ⟨_ :: ents, σn, by simp [h1], .cons r δ hd h2, by simpa using h3⟩
      · have hd : DOut P Γ ops ⟨o, π, ⟨[], []⟩⟩ σ .undef [] := ⟨hop, .inr ⟨hg, rfl, rfl⟩⟩
        obtain ⟨⟨ρ', a', w', hr'⟩, _⟩ := hd.step hΓ hr
        obtain ⟨ents, σn, h1, h2, h3⟩ := evDraw_chain hΓ rest _ _ K ρ' a' w' hn hr' (fun x hx => hl x (List.mem_cons_of_mem _ hx))
        exact ⟨_ :: ents, σn, by simp [h1], .cons .undef [] hd h2, by simpa using h3⟩
    · exact h.elim
theorem places_ok {Γ : FuncId → Option Spec} : ∀ (l : List Oper) (n : Nat), ∀ x ∈ placesFor Γ n l, makesOb x.1.op = true → x.2.isSome = true
  | [], n, x, hx, _ => by simp [placesFor] at hx
  | o :: l, n, x, hx, hm => by
    unfold placesFor at hx
    split at hx
    · rcases List.mem_cons.1 hx with rfl | hx
      · rfl
      · exact places_ok l _ x hx hm
    · rename_i hn
      rcases List.mem_cons.1 hx with rfl | hx
      · exact absurd hm hn
      · exact places_ok l _ x hx hm
theorem places_map {Γ : FuncId → Option Spec} : ∀ (l : List Oper) (n : Nat), (placesFor Γ n l).map (·.1) = l
  | [], n => rfl
  | o :: l, n => by
    unfold placesFor
    split <;> simp [places_map l]
/-! ## Each pair is ordered, or neither feels the other -/
theorem indepRow_get {ops : Array Oper} {i : Nat} {x : Oper} {e : LogE} : ∀ {ys : List Ent}, indepRow ops i x e (ys.map (·.o)) (ys.map (·.e)) = true → ∀ y ∈ ys, beforeB ops i 14 y.o = true ∨ indep ops x y.o e y.e = true
  | [], _, y, hy => by cases hy
  | z :: ys, h, y, hy => by
    simp only [List.map_cons, indepRow, Bool.and_eq_true, Bool.or_eq_true] at h
    rcases List.mem_cons.1 hy with rfl | hy
    · exact h.1.symm
    · exact indepRow_get h.2 y hy
theorem indepAll_get {ops : Array Oper} : ∀ {ents : List Ent} {k : Nat}, indepAll ops k (ents.map (·.o)) (ents.map (·.e)) = true → ∀ (i j : Nat) (x y : Ent), i < j → ents[i]? = some x → ents[j]? = some y → beforeB ops (k + i) 14 y.o = true ∨ indep ops x.o y.o x.e y.e = true
  | [], k, _, i, j, x, y, _, hx, _ => by simp at hx
  | z :: ents, k, h, i, j, x, y, hij, hx, hy => by
    simp only [List.map_cons, indepAll, Bool.and_eq_true] at h
    obtain ⟨j', rfl⟩ : ∃ j', j = j' + 1 := ⟨j - 1, by omega⟩
    simp only [List.getElem?_cons_succ] at hy
    cases i with
    | zero =>
      simp only [List.getElem?_cons_zero, Option.some.injEq] at hx
      subst hx
      exact indepRow_get h.1 y (List.mem_of_getElem? hy)
    | succ i =>
      simp only [List.getElem?_cons_succ] at hx
      rcases indepAll_get h.2 i j' x y (by omega) hx hy with h1 | h1
      · exact .inl (by rw [show k + (i + 1) = k + 1 + i by omega]; exact h1)
      · exact .inr h1
/-- What is listed has all that is ahead of it listed. -/
def ListedOk (ops : Array Oper) (listed : Array Bool) : Prop := ∀ (j : Nat) (y : Oper), ops[j]? = some y → listed.getD j false = true → ∀ ed ∈ y.after.toList, Region.binds .any ed = true → listed.getD ed.on false = true
theorem before_listed {ops : Array Oper} {listed : Array Bool} (hc : ListedOk ops listed) {i : Nat} : ∀ (f : Nat) (y : Oper), beforeB ops i f y = true → (∀ ed ∈ y.after.toList, Region.binds .any ed = true → listed.getD ed.on false = true) → listed.getD i false = true
  | 0, y, h, _ => by cases h
  | f + 1, y, h, hy => by
    unfold beforeB at h
    rw [List.any_eq_true] at h
    obtain ⟨ed, h1, h2⟩ := h
    simp only [Bool.and_eq_true, Bool.or_eq_true, beq_iff_eq] at h2
    obtain ⟨h3, h4⟩ := h2
    have hl := hy ed h1 h3
    rcases h4 with rfl | ⟨_, h5⟩
    · exact hl
    · split at h5
      · rename_i z hz
        exact before_listed hc f z h5 (hc ed.on z hz hl)
      · cases h5
theorem forward_get : ∀ {l : List Oper} {k : Nat}, forward k l = true → ∀ (j : Nat) (y : Oper), l[j]? = some y → ∀ ed ∈ y.after.toList, Region.binds .any ed = true → ed.on < k + j
  | [], k, _, j, y, hy => by simp at hy
  | o :: l, k, h, j, y, hy => by
    simp only [forward, Bool.and_eq_true, List.all_eq_true, Bool.or_eq_true, Bool.not_eq_true', Nat.blt_eq] at h
    cases j with
    | zero =>
      simp only [List.getElem?_cons_zero, Option.some.injEq] at hy
      subst hy
      intro ed hed hb
      rcases h.1 ed hed with h1 | h1
      · rw [hb] at h1; cases h1
      · omega
    | succ j =>
      intro ed hed hb
      have := forward_get h.2 j y (by simpa using hy) ed hed hb
      omega
theorem ready_mem {ops : Array Oper} {listed : Array Bool} {i : Nat} (h : i ∈ Region.ready .any ops listed) : i < ops.size ∧ listed.getD i true = false ∧ ∃ o, ops[i]? = some o ∧ ∀ e ∈ o.after.toList, Region.binds .any e = true → listed.getD e.on false = true := by
  unfold Region.ready at h
  rw [List.mem_filter] at h
  obtain ⟨h1, h2⟩ := h
  have h1 := List.mem_range.1 h1
  rw [Bool.and_eq_true] at h2
  refine ⟨h1, by simpa using h2.1, ops[i], Array.getElem?_eq_getElem h1, ?_⟩
  have h3 := h2.2
  rw [Array.getElem?_eq_getElem h1] at h3
  simp only [Option.map_some, Option.getD_some, Array.all_eq_true'] at h3
  intro e he hb
  have := h3 e (by simpa using he)
  simpa [hb] using this
theorem ready_of {ops : Array Oper} {listed : Array Bool} {i : Nat} (h1 : i < ops.size) (h2 : listed.getD i true = false) (h3 : ∀ e ∈ (ops[i]'h1).after.toList, Region.binds .any e = true → listed.getD e.on false = true) : i ∈ Region.ready .any ops listed := by
  unfold Region.ready
  rw [List.mem_filter]
  refine ⟨List.mem_range.2 h1, ?_⟩
  rw [Bool.and_eq_true]
  refine ⟨by simpa using h2, ?_⟩
  rw [Array.getElem?_eq_getElem h1]
  simp only [Option.map_some, Option.getD_some, Array.all_eq_true']
  intro e he
  cases hb : Region.binds .any e with
  | false => rfl
  | true => rw [h3 e (by simpa using he) hb]; simp
def unl (n : Nat) (listed : Array Bool) : List Nat := (List.range n).filter fun i => !listed.getD i true
theorem unl_split {n : Nat} {listed : Array Bool} {i : Nat} (hi : i < n) (hu : listed.getD i true = false) (hs : listed.size = n) :
    ∃ pre post, unl n listed = pre ++ i :: post ∧ unl n (listed.setIfInBounds i true) = pre ++ post ∧ ∀ p ∈ pre, p < i ∧ listed.getD p true = false := by
  have hr : List.range n = List.range i ++ i :: (List.range (n - i - 1)).map (i + 1 + ·) := by
    apply List.ext_getElem?
    intro k
    rw [List.getElem?_append]
    by_cases h1 : k < i
    · simp [h1, List.getElem?_range, show k < n by omega]
    · simp only [List.length_range, h1, if_false]
      obtain ⟨m, rfl⟩ : ∃ m, k = i + m := ⟨k - i, by omega⟩
      rw [show i + m - i = m by omega]
      cases m with
      | zero => simp [List.getElem?_range, hi]
      | succ m =>
        simp only [List.getElem?_cons_succ, List.getElem?_map]
        by_cases h2 : m < n - i - 1
        · rw [List.getElem?_range (by omega), List.getElem?_range h2]; simp; omega
        · rw [List.getElem?_eq_none (by simp; omega), List.getElem?_eq_none (by simp; omega)]; rfl
  have hne : ∀ k, k ≠ i → (listed.setIfInBounds i true).getD k true = listed.getD k true := by
    intro k hk
    rw [Array.getD_eq_getD_getElem?, Array.getD_eq_getD_getElem?, Array.getElem?_setIfInBounds_ne (Ne.symm hk)]
  have hself : (listed.setIfInBounds i true).getD i true = true := by
    rw [Array.getD_eq_getD_getElem?, Array.getElem?_setIfInBounds_self]
    split <;> rfl
  refine ⟨(List.range i).filter fun k => !listed.getD k true, ((List.range (n - i - 1)).map (i + 1 + ·)).filter fun k => !listed.getD k true, ?_, ?_, fun p hp => ?_⟩
  · unfold unl
    rw [hr, List.filter_append, List.filter_cons_of_pos (by simp [hu])]
  · unfold unl
    rw [hr, List.filter_append, List.filter_cons_of_neg (by simp [hself])]
    congr 1
    · exact List.filter_congr fun k hk => by rw [hne k (by have := List.mem_range.1 hk; omega)]
    · refine List.filter_congr fun k hk => ?_
      obtain ⟨m, _, rfl⟩ := List.mem_map.1 hk
      rw [hne _ (by omega)]
  · rw [List.mem_filter] at hp
    exact ⟨List.mem_range.1 hp.1, by simpa using hp.2⟩
instance : Inhabited Ent := ⟨⟨default, none, ⟨[], []⟩⟩⟩
theorem wpAny_chain {Γ : FuncId → Option Spec} (hΓ : GammaOK P Γ) {ops : Array Oper} {ents : List Ent} (he : ents.map (·.o) = ops.toList) (hi : indepAll ops 0 (ents.map (·.o)) (ents.map (·.e)) = true) (hf : forward 0 ops.toList = true)
    {c0 : Cx} {σn : St} {Q : Exit → Act → World → Prop} (hq : ∀ ρ' a' w', Rel c0 ρ' σn a' w' → Q .normal a' w') : ∀ (fuel : Nat) (listed : Array Bool) (σ : St) (ρ : List Loc) (a : Act) (w : World),
    listed.size = ops.size → ListedOk ops listed → (unl ops.size listed).length ≤ fuel → Chain P Γ ops ((unl ops.size listed).map (fun i => ents.getD i default)) σ σn → Rel c0 ρ σ a w → wpAny P .any ops Q fuel listed a w := by
  have hlen : ents.length = ops.size := by
    have := congrArg List.length he
    simpa using this
  have hget : ∀ i, i < ops.size → ents[i]? = some (ents.getD i default) := by
    intro i h
    rw [List.getD_eq_getElem?_getD, List.getElem?_eq_getElem (by omega)]; rfl
  have hop : ∀ i (h : i < ops.size), ops[i]? = some (ents.getD i default).o := by
    intro i h
    have h1 : (ents.map (·.o))[i]? = some (ents.getD i default).o := by rw [List.getElem?_map, hget i h]; rfl
    rw [he] at h1
    simpa using h1
  have hdone : ∀ (listed : Array Bool) (σ : St) (ρ : List Loc) (a : Act) (w : World), unl ops.size listed = [] → Chain P Γ ops ((unl ops.size listed).map (fun i => ents.getD i default)) σ σn → Rel c0 ρ σ a w → Q .normal a w := by
    intro listed σ ρ a w h0 hc hr
    rw [h0] at hc
    cases hc
    exact hq _ _ _ hr
  have hsub : ∀ (listed : Array Bool) i, i ∈ Region.ready .any ops listed → i ∈ unl ops.size listed := by
    intro listed i h
    obtain ⟨h1, h2, _⟩ := ready_mem h
    unfold unl
    rw [List.mem_filter]
    exact ⟨List.mem_range.2 h1, by simp [h2]⟩
  intro fuel
  induction fuel with
  | zero =>
    intro listed σ ρ a w hs _ hl hc hr
    have h0 : unl ops.size listed = [] := List.eq_nil_of_length_eq_zero (by omega)
    refine ⟨?_, hdone listed σ ρ a w h0 hc hr⟩
    refine List.eq_nil_iff_forall_not_mem.2 fun i h => ?_
    have := hsub listed i h
    rw [h0] at this; cases this
  | succ fuel ih =>
    intro listed σ ρ a w hs hok hl hc hr
    refine ⟨fun hnone => ?_, fun i hready => ?_⟩
    · refine hdone listed σ ρ a w ?_ hc hr
      cases hu : unl ops.size listed with
      | nil => rfl
      | cons i rest =>
        exfalso
        have hmem : i ∈ unl ops.size listed := by rw [hu]; simp
        unfold unl at hmem
        rw [List.mem_filter] at hmem
        have h1 := List.mem_range.1 hmem.1
        have h2 : listed.getD i true = false := by simpa using hmem.2
        obtain ⟨pre, post, e1, _, e3⟩ := unl_split h1 h2 hs
        have hpre : pre = [] := by
          cases pre with
          | nil => rfl
          | cons p pre =>
            rw [hu] at e1
            simp only [List.cons_append, List.cons.injEq] at e1
            have := (e3 p (by simp)).1
            omega
        have hall : ∀ p, p < i → listed.getD p false = true := by
          intro p hp
          have hps : p < listed.size := by omega
          cases hv : listed.getD p true with
          | true =>
            rw [Array.getD_eq_getD_getElem?, Array.getElem?_eq_getElem hps] at hv ⊢
            exact hv
          | false =>
            exfalso
            have hin : p ∈ unl ops.size listed := by
              unfold unl; rw [List.mem_filter]; exact ⟨List.mem_range.2 (by omega), by simp [hv]⟩
            rw [e1, hpre] at hin
            -- the list rises: what is behind i is greater
            have hpw : (unl ops.size listed).Pairwise (· < ·) := List.Pairwise.filter _ List.pairwise_lt_range
            rw [e1, hpre] at hpw
            simp only [List.nil_append, List.mem_cons] at hin
            rcases hin with rfl | hin
            · omega
            · have := (List.pairwise_cons.1 hpw).1 p hin
              omega
        have : i ∈ Region.ready .any ops listed := by
          refine ready_of h1 h2 fun e hee hbe => hall _ ?_
          have := forward_get hf i ops[i] (by simp [h1]) e hee hbe
          omega
        rw [hnone] at this; cases this
    · obtain ⟨h1, h2, o, ho, hedges⟩ := ready_mem hready
      obtain ⟨pre, post, e1, e2, e3⟩ := unl_split h1 h2 hs
      rw [e1, List.map_append, List.map_cons] at hc
      have hoe : o = (ents.getD i default).o := by
        have := hop i h1
        rw [ho] at this
        exact Option.some.inj this
      obtain ⟨r, δ, hd, hc'⟩ := front hc (by
        intro x hx
        obtain ⟨p, hp, rfl⟩ := List.mem_map.1 hx
        obtain ⟨hpi, hpu⟩ := e3 p hp
        rcases indepAll_get hi p i _ _ hpi (hget p (by omega)) (hget i h1) with hb | h
        · exfalso
          have := before_listed hok 14 _ hb (by rw [← hoe]; exact hedges)
          rw [Nat.zero_add] at this
          rw [Array.getD_eq_getD_getElem?, Array.getElem?_eq_getElem (by omega)] at this hpu
          simp only [Option.getD_some] at this hpu
          rw [this] at hpu; cases hpu
        · exact h)
      refine (hd.step hΓ hr).2 (hop i h1) fun ρ' a' w' hr' => ?_
      refine ih _ _ ρ' a' w' (by simp [hs]) ?_ ?_ ?_ hr'
      · intro j y hy hj ed hed hb
        have key : ∀ k, listed.getD k false = true → (listed.setIfInBounds i true).getD k false = true := fun k hk => by
          rw [Array.getD_eq_getD_getElem?] at hk ⊢
          rw [Array.getElem?_setIfInBounds]
          split
          · rename_i h; subst h
            rw [if_pos (by omega)]; rfl
          · exact hk
        by_cases hji : j = i
        · subst hji
          rw [ho] at hy; cases hy
          exact key _ (hedges ed hed hb)
        · refine key _ (hok j y hy ?_ ed hed hb)
          rw [Array.getD_eq_getD_getElem?] at hj ⊢
          rwa [Array.getElem?_setIfInBounds_ne (Ne.symm hji)] at hj
      · rw [e2]; rw [e1] at hl; simp at hl ⊢; omega
      · rw [e2, List.map_append]; exact hc'
/-! ## Places that are kept -/
theorem Mem.holes {c0 c : Cx} (hm : Mem c0 c) (n : Nat) : Mem c0 ⟨c.w, c.hp ++ List.replicate n .hole, c.ρ ++ List.replicate n .none⟩ ∧ Ext c ⟨c.w, c.hp ++ List.replicate n .hole, c.ρ ++ List.replicate n .none⟩ := by
  induction n with
  | zero => simpa using ⟨hm, Ext.refl c⟩
  | succ n ih =>
    obtain ⟨h1, h2⟩ := ih
    obtain ⟨h3, h4⟩ := new_mem (c := ⟨c.w, c.hp ++ List.replicate n .hole, c.ρ ++ List.replicate n .none⟩) h1 (ob := .hole) (loc := .none) (w' := c.w) rfl rfl rfl (Nat.le_refl _) (fun _ _ => rfl) (fun b hb => by cases hb) rfl (fun _ => rfl)
    rw [List.replicate_succ', List.replicate_succ', ← List.append_assoc, ← List.append_assoc]
    exact ⟨h3, h2.trans h4⟩
theorem Rel.holes {c0 : Cx} {ρ : List Loc} {σ : St} {a : Act} {w : World} (hr : Rel c0 ρ σ a w) (n : Nat) : Rel c0 (ρ ++ List.replicate n .none) ⟨σ.tm, σ.hp ++ List.replicate n .hole⟩ a w := by
  obtain ⟨h1, h2⟩ := hr.mem.holes n
  exact ⟨hr.defers, dens_ext h2 _ _ hr.tm, h1, hr.ext.trans h2⟩
theorem Rel.drew {c0 : Cx} {ρ : List Loc} {σ : St} {a : Act} {w : World} (hr : Rel c0 ρ σ a w) (n : Nat) : Rel c0 ρ σ a { w with drawn := n } := by
  have hx : Ext ⟨w, σ.hp, ρ⟩ ⟨{ w with drawn := n }, σ.hp, ρ⟩ :=
    ⟨fun b hb => ⟨hb, rfl⟩, Nat.le_refl _, fun _ _ h => h, fun _ _ _ g h => ⟨g, h⟩, fun _ _ h => h, fun _ v t r _ _ h => ⟨v, t, r, h, Nat.le_refl _, fun _ => ⟨rfl, rfl, rfl⟩⟩, fun _ _ h => h⟩
  exact ⟨hr.defers, dens_ext hx _ _ hr.tm, ⟨hr.mem.len, fun j ob loc h1 h2 => obRel_ext hx (fun b hb => rfl) (hr.mem.obs j ob loc h1 h2), hr.mem.nodup, hr.mem.bnd, ⟨hr.mem.fr.os, hr.mem.fr.tape, hr.mem.fr.output, hr.mem.fr.size, hr.mem.fr.block⟩, hr.mem.dis⟩, hr.ext.trans hx⟩
theorem evRegion_sound {Γ : FuncId → Option Spec} (hΓ : GammaOK P Γ) {nm : Nat → Bool} {c0 : Cx} {id : Nat} {ops : Array Oper} {Q : Exit → Act → World → Prop} {σ : St} {K : St → Prop} {ρ : List Loc} {a : Act} {w : World}
    (h : evRegion P Γ nm ops σ K) (hr : Rel c0 ρ σ a w) (hq : ∀ σ' ρ' a' w', K σ' → Rel c0 ρ' σ' a' w' → Q .normal a' w') : (Code.region id ops true).wp P Q a w := by
  unfold evRegion at h
  split at h
  · rename_i hc
    unfold holesFor at h
    have hr1 := (hr.holes (countPls Γ ops.toList)).drew (w.drawn + 1)
    obtain ⟨ents, σn, h1, h2, h3⟩ := evDraw_chain hΓ _ _ _ _ _ _ _ h hr1 (places_ok _ _)
    split at h3
    · rename_i hi
      have he : ents.map (·.o) = ops.toList := by
        have := congrArg (List.map (·.1)) h1
        rw [places_map, List.map_map] at this
        exact this
      rw [List.nil_append, ← he] at hi
      refine wp_region_any hc.1 (wpAny_chain hΓ he hi hc.2 (fun ρ' a' w' hr' => hq _ _ _ _ h3 hr') ops.size _ _ _ _ _ (by simp) ?_ ?_ ?_ hr1)
      · intro j y _ hj
        rw [Array.getD_eq_getD_getElem?, Array.getElem?_replicate] at hj
        split at hj <;> cases hj
      · exact Nat.le_trans (List.length_filter_le _ _) (by simp)
      · have hu : unl ops.size (Array.replicate ops.size false) = List.range ops.size := by
          unfold unl
          refine List.filter_eq_self.2 fun i hin => ?_
          have := List.mem_range.1 hin
          rw [Array.getD_eq_getD_getElem?, Array.getElem?_replicate, if_pos this]; rfl
        rw [hu]
        have hlen : ents.length = ops.size := by
          have := congrArg List.length he
          simpa using this
        rw [show (List.range ops.size).map (fun i => ents.getD i default) = ents from by
          apply List.ext_getElem?
          intro k
          rw [List.getElem?_map]
          by_cases hk : k < ops.size
          · rw [List.getElem?_range hk, List.getElem?_eq_getElem (by omega)]
            simp [List.getD_eq_getElem?_getD, List.getElem?_eq_getElem (show k < ents.length by omega)]
          · rw [List.getElem?_eq_none (by simp; omega), List.getElem?_eq_none (by omega)]; rfl]
        exact h2
    · exact h3.elim
  · exact h.elim
end
end Go.Proofs.Ytmadffhjgbpojaa.Sx

/- Sx: what is handed to a law, as data. -/
import Derived.Test.YtmadffhjgbpojaaSxLaw
import Derived.ChangeArms
import Derived.OpenShut
namespace Go.Proofs.Ytmadffhjgbpojaa.Sx
open Go Go.RowKit

/-- The shape of a cell. -/
inductive Sh where
  | int (k : IntKind)
  | bool | str | bytes
  | list (ss : List Sh)
def shFields (P : Program) (f : TypeId → Option (List Sh)) : List Field → Nat → Option (List Sh)
  | [], _ => some []
  | fd :: fs, off =>
    match f fd.type, shFields P f fs (off + P.cellsOf fd.type) with
    | some s, some ss => if fd.offset = off ∧ s.length = P.cellsOf fd.type then some (s ++ ss) else none
    | _, _ => none
/-- The cells of a type. -/
def shapes (P : Program) : Nat → TypeId → Option (List Sh)
  | 0, _ => none
  | n + 1, t =>
    match P.underlying t with
    | some .bool => some [.bool]
    | some (.int k) => some [.int k]
    | some .string => some [.str]
    | some (.slice e) =>
      if isByte P e = true then (if P.cellsOf e = 1 then some [.bytes] else none) else
      match shapes P n e with
      | some ss => if ss.length = P.cellsOf e ∧ 0 < ss.length then some [.list ss] else none
      | none => none
    | some (.struct fs) =>
      match shFields P (shapes P n) fs.toList 0 with
      | some ss => if ss.length = P.cellsOf t then some ss else none
      | none => none
    | some (.array m e) =>
      match shapes P n e with
      | some ss => if ss.length = P.cellsOf e ∧ m * ss.length = P.cellsOf t then some (List.replicate m ss).flatten else none
      | none => none
    | _ => none
mutual
def fits : Sh → D → Prop
  | .int k, d => ∃ n, d = .int k n ∧ (Lit.int k n).wf = true
  | .bool, d => ∃ b, d = .bool b
  | .str, d => ∃ l, d = .str l
  | .bytes, d => ∃ l, d = .bytes l
  | .list ss, d => ∃ n g, d = .list ss.length n g ∧ n ≤ maxLen ∧ ∀ i, i < n → fitsAll ss (g i)
def fitsAll : List Sh → (Nat → D) → Prop
  | [], _ => True
  | s :: ss, g => fits s (g 0) ∧ fitsAll ss (fun j => g (j + 1))
end
theorem fitsAll_append : ∀ {s ss : List Sh} {g : Nat → D}, fitsAll s g → fitsAll ss (fun j => g (s.length + j)) → fitsAll (s ++ ss) g
  | [], ss, g, _, h => by simpa using h
  | a :: s, ss, g, h1, h2 => by
    unfold fitsAll at h1
    rw [List.cons_append]
    unfold fitsAll
    refine ⟨h1.1, fitsAll_append h1.2 ?_⟩
    have e : (fun j => g ((a :: s).length + j)) = fun j => g (s.length + j + 1) := by
      funext j; rw [List.length_cons]; congr 1; omega
    rw [e] at h2
    exact h2
theorem fitsAll_congr : ∀ {s : List Sh} {g h : Nat → D}, (∀ j, j < s.length → g j = h j) → fitsAll s g → fitsAll s h
  | [], _, _, _, _ => by unfold fitsAll; trivial
  | a :: s, g, h, he, hf => by
    unfold fitsAll at hf ⊢
    refine ⟨by rw [← he 0 (by simp)]; exact hf.1, fitsAll_congr (fun j hj => he (j + 1) (by simpa using hj)) hf.2⟩
theorem fitsAll_get : ∀ {s : List Sh} {g : Nat → D}, fitsAll s g → ∀ (j : Nat) (a : Sh), s[j]? = some a → fits a (g j)
  | [], _, _, j, a, h => by simp at h
  | b :: s, g, hf, 0, a, h => by
    unfold fitsAll at hf
    simp at h; subst h; exact hf.1
  | b :: s, g, hf, j + 1, a, h => by
    unfold fitsAll at hf
    exact fitsAll_get hf.2 j a (by simpa using h)
section
variable {H : Type} {enc : TypeId × Value → H} {P : Program} {w : World} {base : Nat} {spare : Nat → Bool} {held : Bool}

def Opened (w : World) (ss : List Sh) (cs : List Value) : Prop :=
  cs.length = ss.length ∧ ∃ g : Nat → D, fitsAll ss g ∧ ∀ j u, cs[j]? = some u → (g j).rep w (Cx.ok ⟨w, [], []⟩) u
theorem opened_one {w : World} {s : Sh} {v : Value} (d : D) (h1 : fits s d) (h2 : d.rep w (Cx.ok ⟨w, [], []⟩) v) : Opened w [s] [v] := by
  refine ⟨rfl, fun _ => d, ⟨h1, trivial⟩, fun j u hj => ?_⟩
  cases j with
  | zero => simp at hj; subst hj; exact h2
  | succ j => simp at hj
theorem ok_lt {w : World} {b : Nat} (h : b < w.heap.size) : Cx.ok ⟨w, [], []⟩ b := ⟨h, by simp [occ, foot, bans]⟩
theorem open_fields {f : TypeId → Option (List Sh)} {n : Nat} {cs : List Value} (ih : ∀ t ss, f t = some ss → ∀ cs x, DataW.trod enc P w base spare held n t cs = some x → Opened w ss cs) : ∀ (fs : List Field) (off : Nat) (ss : List Sh), shFields P f fs off = some ss →
    (∀ fd ∈ fs, ∃ y, DataW.trod enc P w base spare held n fd.type ((cs.drop fd.offset).take (P.cellsOf fd.type)) = some y) → ∃ g : Nat → D, fitsAll ss g ∧ ∀ j u, j < ss.length → cs[off + j]? = some u → (g j).rep w (Cx.ok ⟨w, [], []⟩) u
  | [], off, ss, h, _ => by
    unfold shFields at h; cases h
    exact ⟨fun _ => .bool false, trivial, fun j u hj => by simp at hj⟩
  | fd :: fs, off, ss, h, hx => by
    unfold shFields at h
    cases h1 : f fd.type with
    | none => rw [h1] at h; cases h
    | some s =>
      cases h2 : shFields P f fs (off + P.cellsOf fd.type) with
      | none => rw [h1, h2] at h; cases h
      | some ss2 =>
        rw [h1, h2] at h
        simp only at h
        split at h
        · rename_i hc
          cases h
          obtain ⟨y, hy⟩ := hx fd (by simp)
          obtain ⟨hl, g1, f1, r1⟩ := ih fd.type s h1 _ _ hy
          obtain ⟨g2, f2, r2⟩ := open_fields ih fs _ ss2 h2 (fun x hx' => hx x (List.mem_cons_of_mem _ hx'))
          refine ⟨fun j => if j < s.length then g1 j else g2 (j - s.length), fitsAll_append (fitsAll_congr (fun j hj => by rw [if_pos hj]) f1) (fitsAll_congr (fun j hj => by rw [if_neg (by omega)]; congr 1; omega) f2), fun j u hj hu => ?_⟩
          by_cases hjs : j < s.length
          · simp only [if_pos hjs]
            refine r1 j u ?_
            rw [List.getElem?_take, if_pos (by omega), List.getElem?_drop, hc.1]; exact hu
          · simp only [if_neg hjs]
            refine r2 (j - s.length) u (by simp at hj; omega) ?_
            rw [← hu]; congr 1; omega
        · cases h
theorem open_elems {n : Nat} {e : TypeId} {cs : List Value} {ss : List Sh} (hl : ss.length = P.cellsOf e) (ih : ∀ cs x, DataW.trod enc P w base spare held n e cs = some x → Opened w ss cs) : ∀ (m i : Nat),
    (∀ k, k < m → ∃ y, DataW.trod enc P w base spare held n e ((cs.drop ((i + k) * P.cellsOf e)).take (P.cellsOf e)) = some y) → ∃ g : Nat → D, fitsAll (List.replicate m ss).flatten g ∧ ∀ j u, j < m * ss.length → cs[i * ss.length + j]? = some u → (g j).rep w (Cx.ok ⟨w, [], []⟩) u
  | 0, i, _ => ⟨fun _ => .bool false, trivial, fun j u hj => by omega⟩
  | m + 1, i, hx => by
    obtain ⟨y, hy⟩ := hx 0 (by omega)
    obtain ⟨_, g1, f1, r1⟩ := ih _ _ hy
    obtain ⟨g2, f2, r2⟩ := open_elems hl ih m (i + 1) (fun k hk => by
      obtain ⟨y, hy⟩ := hx (k + 1) (by omega)
      exact ⟨y, by rw [show i + 1 + k = i + (k + 1) by omega]; exact hy⟩)
    rw [List.replicate_succ, List.flatten_cons]
    refine ⟨fun j => if j < ss.length then g1 j else g2 (j - ss.length), fitsAll_append (fitsAll_congr (fun j hj => by rw [if_pos hj]) f1) (fitsAll_congr (fun j hj => by rw [if_neg (by omega)]; congr 1; omega) f2), fun j u hj hu => ?_⟩
    by_cases hjs : j < ss.length
    · simp only [if_pos hjs]
      refine r1 j u ?_
      rw [List.getElem?_take, if_pos (by omega), List.getElem?_drop, Nat.add_zero, ← hl]; exact hu
    · simp only [if_neg hjs]
      refine r2 (j - ss.length) u (by rw [Nat.add_mul] at hj; omega) ?_
      rw [← hu]; congr 1; rw [Nat.add_mul]; omega
theorem open_shape : ∀ (F : Nat) (t : TypeId) (ss : List Sh), shapes P F t = some ss → ∀ (fuel : Nat) (cs : List Value) (x : DataW H × List MemPlace), DataW.trod enc P w base spare held fuel t cs = some x → Opened w ss cs
  | 0, t, ss, h => by unfold shapes at h; cases h
  | F + 1, t, ss, h => by
    intro fuel cs x ht
    have ih := open_shape F
    unfold shapes at h
    split at h
    · rename_i hu
      cases h
      obtain ⟨b, rfl, _⟩ := DataW.trod_bool hu ht
      exact opened_one (.bool b) ⟨b, rfl⟩ rfl
    · rename_i k hu
      cases h
      obtain ⟨n, rfl, _, hw⟩ := DataW.trod_int hu ht
      exact opened_one (.int k n) ⟨n, rfl, hw⟩ rfl
    · rename_i hu
      cases h
      obtain ⟨s, rfl, _, hl⟩ := DataW.trod_string hu ht
      refine opened_one (.str s.data.toList) ⟨_, rfl⟩ ⟨by rw [Array.toArray_toList], ?_⟩
      rw [Array.length_toList]; exact hl
    · rename_i e hu
      split at h
      · rename_i hb
        split at h
        · rename_i hc
          cases h
          rcases DataW.trod_slice hu ht with ⟨rfl, _⟩ | ⟨a, len, cap, elems, rest, n, rfl, rfl, _, hb', hl, hm, hlen, hel, _, _⟩
          · exact opened_one (.bytes []) ⟨[], rfl⟩ ⟨none, 0, rfl, by simp, by unfold maxLen; omega, fun h => by simp at h⟩
          · have each : ∀ i, ∃ z : Int, i < len → w.cell? (a.add i) = some (.int .u8 z) ∧ (Lit.int .u8 z).wf = true := by
              intro i
              by_cases hi : i < len
              · have h1 := hel i hi
                rw [List.getElem?_eq_getElem (by omega), Option.bind_eq_some_iff, hc, Nat.mul_one] at h1
                obtain ⟨cs', h2, h3⟩ := h1
                obtain ⟨z, rfl, _, hw⟩ := DataW.trod_int (isByte_und hb) h3
                obtain ⟨_, _, q3⟩ := World.cells?_some h2
                have h4 := q3 0 (by omega)
                have e0 : (a.add i).add 0 = a.add i := by simp [Addr.add]
                rw [e0] at h4
                exact ⟨z, fun _ => ⟨by simpa using h4, hw⟩⟩
              · exact ⟨0, fun h => absurd h hi⟩
            obtain ⟨Z, hZ⟩ := Classical.axiomOfChoice each
            have hll : ((List.range len).map fun i => UInt8.ofNat (Z i).toNat).length = len := by simp
            refine opened_one (.bytes ((List.range len).map fun i => UInt8.ofNat (Z i).toNat)) ⟨_, rfl⟩ ⟨some a, cap, by rw [hll], by rw [hll]; exact hl, hm, fun h0 => ?_⟩
            rw [hll] at h0 ⊢
            obtain ⟨b, off, spot⟩ := a
            have hu0 := (hZ 0 h0).1
            have hspot : spot = none := by
              have := World.cell?_spot hu0
              simpa [Addr.add] using this
            subst hspot
            rw [add_none] at hu0
            refine ⟨b, off, rfl, ok_lt (cell?_lt hu0), fun i hi => ?_⟩
            obtain ⟨h5, h6⟩ := hZ i hi
            rw [add_none] at h5
            rw [h5]
            congr 2
            obtain ⟨h7, h8⟩ := wf_u8' h6
            rw [List.getD_eq_getElem?_getD, List.getElem?_map, List.getElem?_range hi]
            simp only [Option.map_some, Option.getD_some]
            rw [UInt8.toNat_ofNat', Nat.mod_eq_of_lt (by omega)]
            omega
        · cases h
      · cases he : shapes P F e with
        | none => rw [he] at h; cases h
        | some es =>
          rw [he] at h
          simp only at h
          split at h
          · rename_i hc
            cases h
            rcases DataW.trod_slice hu ht with ⟨rfl, _⟩ | ⟨a, len, cap, elems, rest, n, rfl, rfl, _, hb, hl, hm, hlen, hel, _, _⟩
            · exact opened_one (.list es.length 0 (fun _ _ => .bool false)) ⟨0, _, rfl, by omega, fun i hi => by omega⟩ ⟨none, 0, rfl, by omega, by unfold maxLen; omega, fun h => by omega⟩
            · have each : ∀ i, i < len → ∃ cs', w.cells? base (a.add (i * P.cellsOf e)) (P.cellsOf e) = some cs' ∧ Opened w es cs' := by
                intro i hi
                have h1 := hel i hi
                rw [List.getElem?_eq_getElem (by omega)] at h1
                rw [Option.bind_eq_some_iff] at h1
                obtain ⟨cs', h2, h3⟩ := h1
                exact ⟨cs', h2, ih e es he n cs' _ h3⟩
              have hG : ∀ i, ∃ g : Nat → D, i < len → fitsAll es g ∧ ∀ j, j < es.length → ∃ u, w.cell? ((a.add (i * P.cellsOf e)).add j) = some u ∧ (g j).rep w (Cx.ok ⟨w, [], []⟩) u := by
                intro i
                by_cases hi : i < len
                · obtain ⟨cs', h2, hl', g, f1, r1⟩ := each i hi
                  obtain ⟨_, q2, q3⟩ := World.cells?_some h2
                  refine ⟨g, fun _ => ⟨f1, fun j hj => ?_⟩⟩
                  have h4 := q3 j (by omega)
                  rw [List.getElem?_eq_getElem (by omega)] at h4
                  exact ⟨_, h4, r1 j _ (List.getElem?_eq_getElem (by omega))⟩
                · exact ⟨fun _ => .bool false, fun h => absurd h hi⟩
              refine opened_one (.list es.length len (fun i => Classical.choose (hG i))) ⟨len, _, rfl, by omega, fun i hi => (Classical.choose_spec (hG i) hi).1⟩ ⟨some a, cap, rfl, hl, hm, fun h0 => ?_⟩
              obtain ⟨b, off, spot⟩ := a
              obtain ⟨u0, hu0, _⟩ := (Classical.choose_spec (hG 0) h0).2 0 hc.2
              have hspot : spot = none := by
                have := World.cell?_spot hu0
                simpa [Addr.add] using this
              subst hspot
              simp only [add_none] at hu0
              refine ⟨b, off, rfl, ok_lt (cell?_lt hu0), fun i hi j hj => ?_⟩
              obtain ⟨u, hu, hr⟩ := (Classical.choose_spec (hG i) hi).2 j hj
              simp only [add_none] at hu
              refine ⟨u, ?_, hr⟩
              rw [← hu, hc.1]
          · cases h
    · rename_i fs hu
      cases hf : shFields P (shapes P F) fs.toList 0 with
      | none => rw [hf] at h; cases h
      | some s2 =>
        rw [hf] at h
        simp only at h
        split at h
        · rename_i hc
          cases h
          obtain ⟨xs, n, rfl, _, hlen, hxl, hx⟩ := DataW.trod_struct hu ht
          obtain ⟨g, f1, r1⟩ := open_fields (cs := cs) (fun t ss h cs x hx => ih t ss h n cs x hx) fs.toList 0 ss hf (fun fd hfd => by
            obtain ⟨i, hi⟩ := List.getElem?_of_mem hfd
            have hi' : fs[i]? = some fd := by simpa using hi
            have h1 := hx i fd hi'
            have hil : i < xs.length := by rw [hxl]; exact (Array.getElem?_eq_some_iff.1 hi').1
            rw [List.getElem?_eq_getElem hil] at h1
            exact ⟨_, h1⟩)
          refine ⟨by omega, g, f1, fun j u hj => ?_⟩
          have hjl := (List.getElem?_eq_some_iff.1 hj).1
          exact r1 j u (by omega) (by rw [Nat.zero_add]; exact hj)
        · cases h
    · rename_i m e hu
      cases he : shapes P F e with
      | none => rw [he] at h; cases h
      | some es =>
        rw [he] at h
        simp only at h
        split at h
        · rename_i hc
          cases h
          obtain ⟨xs, n, rfl, _, hlen, hxl, hx⟩ := DataW.trod_array hu ht
          obtain ⟨g, f1, r1⟩ := open_elems (cs := cs) hc.1 (fun cs x hx => ih e es he n cs x hx) m 0 (fun k hk => by
            have h1 := hx k hk
            rw [List.getElem?_eq_getElem (by omega)] at h1
            exact ⟨_, by rw [Nat.zero_add]; exact h1⟩)
          refine ⟨by simp; omega, g, f1, fun j u hj => ?_⟩
          have hjl := (List.getElem?_eq_some_iff.1 hj).1
          exact r1 j u (by omega) (by rw [Nat.zero_mul, Nat.zero_add]; exact hj)
        · cases h
    · cases h
end
/-- What a law is handed: cells of a known shape. -/
def argSV (agg : Bool) (ds : List D) : SV :=
  match agg, ds with
  | false, [d] => .d d
  | _, ds => .agg (ds.map .d)
def InArg (P : Program) (w : World) (t : TypeId) (v : Value) : Prop :=
  ∀ ss, shapes P 8 t = some ss → ∃ g : Nat → D, fitsAll ss g ∧ den ⟨w, [], []⟩ (argSV (aggOf P t == some true) ((List.range ss.length).map g)) v
theorem okWide_agg' {P : Program} {w : World} {r : Reach} {b0 : Nat} {t : TypeId} {v : Value} (ha : aggOf P t = some true) (h : Value.okWide P w r b0 t v) : ∃ cs, v = .agg cs := by
  unfold aggOf at ha
  unfold Value.okWide at h
  split at ha
  · simp only [*] at h; obtain ⟨cs, h1, _⟩ := h; exact ⟨cs, h1⟩
  · simp only [*] at h; obtain ⟨cs, h1, _⟩ := h; exact ⟨cs, h1⟩
  · cases ha
  · cases ha
theorem inArg_of {H : Type} {enc : TypeId × Value → H} {P : Program} {w : World} {base : Nat} {spare : Nat → Bool} {held : Bool} {r : Reach} {b0 : Nat} {t : TypeId} {v : Value} {d : DataW H} {ps : List MemPlace}
    (hval : Value.okWide P w r b0 t v) (hd : DataW.Trod enc P w base spare held t v d ps) : InArg P w t v := by
  intro ss hs
  obtain ⟨fuel, hf⟩ := hd
  obtain ⟨hl, g, f1, r1⟩ := open_shape 8 t ss hs fuel _ _ hf
  refine ⟨g, f1, ?_⟩
  have hcells : ∀ cs : List Value, v.cells.toList = cs → dens ⟨w, [], []⟩ (((List.range ss.length).map g).map .d) cs := by
    rintro cs rfl
    refine dens_of_get (by simp; simpa using hl.symm) fun i x u hx hu => ?_
    have hi : i < ss.length := by rw [← hl]; exact (List.getElem?_eq_some_iff.1 hu).1
    rw [List.getElem?_map, List.getElem?_map, List.getElem?_range hi] at hx
    simp only [Option.map_some, Option.some.injEq] at hx
    subst hx
    unfold den
    exact r1 i u hu
  by_cases ha : aggOf P t = some true
  · obtain ⟨cs, rfl⟩ := okWide_agg' ha hval
    rw [ha]
    show den _ (.agg _) _
    unfold den
    exact ⟨cs.toList, rfl, hcells _ rfl⟩
  · have hb : (aggOf P t == some true) = false := by simpa using ha
    rw [hb]
    have h1 : ∃ d0, (List.range ss.length).map g = [d0] ∧ v.cells.toList = [v] := by
      have hone : ss.length = 1 := by
        unfold shapes at hs
        unfold aggOf at ha
        split at hs <;> first
          | (cases hs; rfl)
          | (split at hs
             · split at hs
               · cases hs; rfl
               · cases hs
             · split at hs
               · split at hs
                 · cases hs; rfl
                 · cases hs
               · cases hs)
          | (rename_i hu; rw [hu] at ha; exact absurd rfl ha)
          | cases hs
      refine ⟨g 0, by rw [hone]; rfl, ?_⟩
      rw [hone] at hl
      cases v <;> first | rfl | skip
      rename_i cs
      exfalso
      unfold Value.okWide at hval
      unfold aggOf at ha
      split at hval
      · simp_all
      · simp_all
      · unfold Cell.okWide at hval
        split at hval <;> simp_all [Cell.ok]
    obtain ⟨d0, e1, e2⟩ := h1
    rw [e1]
    have := hcells _ e2
    rw [e1] at this
    unfold dens at this
    obtain ⟨u, us, e3, h2, _⟩ := this
    cases e3
    exact h2
theorem in_one {P : Program} {w : World} {t : TypeId} {v : Value} {s : Sh} (hs : shapes P 8 t = some [s]) (ha : aggOf P t = some false) (h : InArg P w t v) : ∃ d, fits s d ∧ den ⟨w, [], []⟩ (.d d) v := by
  obtain ⟨g, h1, h2⟩ := h _ hs
  unfold fitsAll at h1
  rw [ha] at h2
  exact ⟨g 0, h1.1, h2⟩
theorem in_int {P : Program} {w : World} {t : TypeId} {v : Value} {k : IntKind} (hs : shapes P 8 t = some [.int k]) (ha : aggOf P t = some false) (h : InArg P w t v) : ∃ n, (Lit.int k n).wf = true ∧ den ⟨w, [], []⟩ (.d (.int k n)) v := by
  obtain ⟨d, h1, h2⟩ := in_one hs ha h
  unfold fits at h1
  obtain ⟨n, rfl, hw⟩ := h1
  exact ⟨n, hw, h2⟩
theorem in_bytes {P : Program} {w : World} {t : TypeId} {v : Value} (hs : shapes P 8 t = some [.bytes]) (ha : aggOf P t = some false) (h : InArg P w t v) : ∃ l, den ⟨w, [], []⟩ (.d (.bytes l)) v := by
  obtain ⟨d, h1, h2⟩ := in_one hs ha h
  unfold fits at h1
  obtain ⟨l, rfl⟩ := h1
  exact ⟨l, h2⟩
theorem in_str {P : Program} {w : World} {t : TypeId} {v : Value} (hs : shapes P 8 t = some [.str]) (ha : aggOf P t = some false) (h : InArg P w t v) : ∃ l, den ⟨w, [], []⟩ (.d (.str l)) v := by
  obtain ⟨d, h1, h2⟩ := in_one hs ha h
  unfold fits at h1
  obtain ⟨l, rfl⟩ := h1
  exact ⟨l, h2⟩
theorem in_agg {P : Program} {w : World} {t : TypeId} {v : Value} {ss : List Sh} (hs : shapes P 8 t = some ss) (ha : aggOf P t = some true) (h : InArg P w t v) : ∃ g : Nat → D, fitsAll ss g ∧ den ⟨w, [], []⟩ (.agg (((List.range ss.length).map g).map .d)) v := by
  obtain ⟨g, h1, h2⟩ := h _ hs
  rw [ha] at h2
  exact ⟨g, h1, h2⟩
/-- Data that agrees where it counts. -/
theorem rep_congr {w : World} {ok : Nat → Prop} {sz n : Nat} {g h : Nat → Nat → D} {v : Value} (he : ∀ i, i < n → ∀ j, j < sz → g i j = h i j) (hr : (D.list sz n g).rep w ok v) : (D.list sz n h).rep w ok v := by
  obtain ⟨A, c, rfl, h1, h2, h3⟩ := hr
  refine ⟨A, c, rfl, h1, h2, fun hp => ?_⟩
  obtain ⟨b, o, hA, hb, hc⟩ := h3 hp
  refine ⟨b, o, hA, hb, fun i hi j hj => ?_⟩
  obtain ⟨u, hu, hr⟩ := hc i hi j hj
  exact ⟨u, hu, by rw [← he i hi j hj]; exact hr⟩
end Go.Proofs.Ytmadffhjgbpojaa.Sx

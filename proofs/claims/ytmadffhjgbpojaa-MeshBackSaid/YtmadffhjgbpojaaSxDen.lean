/- Sx: what the evaluator's states say of the model's worlds, and how that is kept from world to world. -/
import Derived.Test.YtmadffhjgbpojaaSxDefs
import Derived.Laws.Cells
import Derived.Laws.Entries
import Derived.Laws.World
namespace Go.Proofs.Ytmadffhjgbpojaa.Sx
open Go

/-! ## Worlds -/
theorem cell?_congr {w w' : World} {a : Addr} (h : w'.heap[a.block]? = w.heap[a.block]?) : w'.cell? a = w.cell? a := by
  unfold World.cell?; rw [h]
theorem cell?_of {w : World} {b off : Nat} {cs : Array Value} {t : TypeId} {fr : Nat × Nat} (h : w.heap[b]? = some (.cells cs t fr)) : w.cell? ⟨b, off, none⟩ = cs[off]? := by
  unfold World.cell?; simp [h]
theorem frozen?_of {w : World} {b off : Nat} {cs : Array Value} {t : TypeId} {fr : Nat × Nat} (h : w.heap[b]? = some (.cells cs t fr)) : w.frozen? ⟨b, off, none⟩ = (decide (fr.1 ≤ off) && decide (off < fr.2)) := by
  unfold World.frozen?; simp [h]
def Unfrozen (n : Nat) (fr : Nat × Nat) : Prop := fr.1 = fr.2 ∨ n ≤ fr.1
theorem Unfrozen.zero (n : Nat) : Unfrozen n (0, 0) := .inl rfl
theorem Unfrozen.at {n : Nat} {fr : Nat × Nat} (h : Unfrozen n fr) {i : Nat} (hi : i < n) : (decide (fr.1 ≤ i) && decide (i < fr.2)) = false := by
  rcases h with h | h
  · by_cases h1 : fr.1 ≤ i
    · simp [show ¬ i < fr.2 by omega]
    · simp [h1]
  · simp [show ¬ fr.1 ≤ i by omega]

/-- One block's cells are others. -/
structure Upd (w : World) (b : Nat) (cs : Array Value) (t : TypeId) (fr : Nat × Nat) (w' : World) : Prop where
  os : w'.os = w.os
  tape : w'.tape = w.tape
  output : w'.output = w.output
  size : w'.heap.size = w.heap.size
  here : w'.heap[b]? = some (.cells cs t fr)
  other : ∀ i, i ≠ b → w'.heap[i]? = w.heap[i]?
/-- A new block. -/
structure New (w : World) (o : Obj) (w' : World) : Prop where
  os : w'.os = w.os
  tape : w'.tape = w.tape
  output : w'.output = w.output
  size : w'.heap.size = w.heap.size + 1
  here : w'.heap[w.heap.size]? = some o
  other : ∀ i, i < w.heap.size → w'.heap[i]? = w.heap[i]?
theorem New.push (w : World) (o : Obj) : New w o { w with heap := w.heap.push o } :=
  ⟨rfl, rfl, rfl, by simp, by simp, fun i hi => by simp [Array.getElem?_push, Nat.ne_of_lt hi]⟩
theorem New.push_drew (w : World) (o : Obj) (n : Nat) : New w o { w with heap := w.heap.push o, drawn := n } :=
  ⟨rfl, rfl, rfl, by simp, by simp, fun i hi => by simp [Array.getElem?_push, Nat.ne_of_lt hi]⟩
theorem Upd.setCell {w : World} {b off : Nat} {cs : Array Value} {t : TypeId} {fr : Nat × Nat} (h : w.heap[b]? = some (.cells cs t fr)) (v : Value) :
    Upd w b (cs.setIfInBounds off v) t fr (w.setCell ⟨b, off, none⟩ v) := by
  refine ⟨rfl, rfl, rfl, by simp [World.setCell], ?_, fun i hi => ?_⟩
  · simp [World.setCell, Array.getElem?_modify, h]
  · simp [World.setCell, Array.getElem?_modify, Ne.symm hi]
theorem Upd.trans {w w1 w2 : World} {b : Nat} {cs cs2 : Array Value} {t t2 : TypeId} {fr fr2 : Nat × Nat} (h : Upd w b cs t fr w1) (h2 : Upd w1 b cs2 t2 fr2 w2) : Upd w b cs2 t2 fr2 w2 :=
  ⟨h2.os.trans h.os, h2.tape.trans h.tape, h2.output.trans h.output, h2.size.trans h.size, h2.here, fun i hi => (h2.other i hi).trans (h.other i hi)⟩

/-! ## What data looks like in memory -/
def D.rep (w : World) (ok : Nat → Prop) : D → Value → Prop
  | .int k n, v => v = .int k n
  | .bool b, v => v = .bool b
  | .str l, v => v = .string ⟨l.toArray⟩ ∧ l.length ≤ maxLen
  | .bytes l, v => ∃ A c, v = .slice A l.length c ∧ l.length ≤ c ∧ c ≤ maxLen ∧
      (0 < l.length → ∃ b o, A = some ⟨b, o, none⟩ ∧ ok b ∧ ∀ i, i < l.length → w.cell? ⟨b, o + i, none⟩ = some (.int .u8 ((l.getD i 0).toNat : Int)))
  | .list sz n get, v => ∃ A c, v = .slice A n c ∧ n ≤ c ∧ c ≤ maxLen ∧
      (0 < n → ∃ b o, A = some ⟨b, o, none⟩ ∧ ok b ∧ ∀ i, i < n → ∀ j, j < sz → ∃ u, w.cell? ⟨b, o + i * sz + j, none⟩ = some u ∧ (get i j).rep w ok u)

theorem rep_mono {w w' : World} {ok ok' : Nat → Prop} (h : ∀ b, ok b → ok' b ∧ w'.heap[b]? = w.heap[b]?) : ∀ (d : D) (v : Value), d.rep w ok v → d.rep w' ok' v := by
  intro d
  induction d with
  | int k n => intro v hv; exact hv
  | bool b => intro v hv; exact hv
  | str l => intro v hv; exact hv
  | bytes l =>
    rintro v ⟨A, c, rfl, hc, hm, hr⟩
    refine ⟨A, c, rfl, hc, hm, fun hp => ?_⟩
    obtain ⟨b, o, hA, hb, hcell⟩ := hr hp
    exact ⟨b, o, hA, (h b hb).1, fun i hi => (cell?_congr (h b hb).2).trans (hcell i hi)⟩
  | list sz n get ih =>
    rintro v ⟨A, c, rfl, hc, hm, hr⟩
    refine ⟨A, c, rfl, hc, hm, fun hp => ?_⟩
    obtain ⟨b, o, hA, hb, hcell⟩ := hr hp
    refine ⟨b, o, hA, (h b hb).1, fun i hi j hj => ?_⟩
    obtain ⟨u, hu, hrep⟩ := hcell i hi j hj
    exact ⟨u, (cell?_congr (h b hb).2).trans hu, ih i j u hrep⟩
theorem rep_oneCell {w : World} {ok : Nat → Prop} {d : D} {v : Value} (h : d.rep w ok v) : v.oneCell' = true ∧ v.cells = #[v] := by
  cases d with
  | int k n => obtain rfl := h; exact ⟨rfl, rfl⟩
  | bool b => obtain rfl := h; exact ⟨rfl, rfl⟩
  | str l => obtain ⟨rfl, _⟩ := h; exact ⟨rfl, rfl⟩
  | bytes l => obtain ⟨A, c, rfl, _⟩ := h; exact ⟨rfl, rfl⟩
  | list sz n g => obtain ⟨A, c, rfl, _⟩ := h; exact ⟨rfl, rfl⟩

/-- Where an object lies. -/
inductive Loc where
  | blk (b : Nat)
  | row (A : Option (Nat × Nat)) (cap : Nat)
  | none
  | frz (b : Nat)
  | ban (F : List Nat)
/-- The block that a pointer to it names. -/
def Loc.ptrAt : Loc → Option Nat
  | .blk b => some b
  | .frz b => some b
  | _ => Option.none
def Loc.foot : Loc → Option Nat
  | .blk b => some b
  | .row (some (b, _)) _ => some b
  | _ => Option.none
def foot (ρ : List Loc) : List Nat := ρ.filterMap Loc.foot
/-- Blocks that belong to somebody else, who is not here. -/
def Loc.bans : Loc → List Nat
  | .ban F => F
  | _ => []
def bans (ρ : List Loc) : List Nat := ρ.flatMap Loc.bans
def occ (ρ : List Loc) : List Nat := foot ρ ++ bans ρ
theorem occ_foot {ρ : List Loc} {b : Nat} (h : b ∈ foot ρ) : b ∈ occ ρ := List.mem_append_left _ h
theorem mem_bans {ρ : List Loc} {b : Nat} : b ∈ bans ρ ↔ ∃ (j : Nat) (F : List Nat), ρ[j]? = some (.ban F) ∧ b ∈ F := by
  unfold bans
  rw [List.mem_flatMap]
  constructor
  · rintro ⟨loc, hm, hf⟩
    obtain ⟨j, hj⟩ := List.getElem?_of_mem hm
    cases loc with
    | ban F => exact ⟨j, F, hj, hf⟩
    | _ => cases hf
  · rintro ⟨j, F, hj, hf⟩
    exact ⟨.ban F, List.mem_of_getElem? hj, hf⟩
theorem mem_occ {ρ : List Loc} {b : Nat} : b ∈ occ ρ ↔ b ∈ foot ρ ∨ b ∈ bans ρ := List.mem_append
theorem bans_append {ρ : List Loc} {loc : Loc} (h : loc.bans = []) : bans (ρ ++ [loc]) = bans ρ := by
  unfold bans; simp [h]
theorem bans_sub {ρ ρ' : List Loc} (h : ∀ (j : Nat) (F : List Nat), ρ'[j]? = some (.ban F) → ρ[j]? = some (.ban F)) {b : Nat} (hb : b ∈ bans ρ') : b ∈ bans ρ := by
  obtain ⟨j, F, h1, h2⟩ := mem_bans.1 hb
  exact mem_bans.2 ⟨j, F, h j F h1, h2⟩
theorem mem_foot {ρ : List Loc} {b : Nat} : b ∈ foot ρ ↔ ∃ (j : Nat) (loc : Loc), ρ[j]? = some loc ∧ loc.foot = some b := by
  unfold foot
  rw [List.mem_filterMap]
  constructor
  · rintro ⟨loc, hm, hf⟩
    obtain ⟨j, hj⟩ := List.getElem?_of_mem hm
    exact ⟨j, loc, hj, hf⟩
  · rintro ⟨j, loc, hj, hf⟩
    exact ⟨loc, List.mem_of_getElem? hj, hf⟩

structure Cx where
  w : World
  hp : List Ob
  ρ : List Loc
def Cx.ok (c : Cx) (b : Nat) : Prop := b < c.w.heap.size ∧ b ∉ occ c.ρ

/-- The head of a part of a row. -/
def Hdr (A : Option (Nat × Nat)) (cap sz lo hi : Nat) (v : Value) : Prop :=
  ∃ A', v = .slice A' (hi - lo) (cap - lo) ∧ (lo < cap → ∃ b o, A = some (b, o) ∧ A' = some ⟨b, o + lo * sz, none⟩)

mutual
def den (c : Cx) : SV → Value → Prop
  | .d x, v => x.rep c.w c.ok v
  | .undef, v => v = Go.undef
  | .dead, _ => True
  | .nils, v => v = .slice none 0 0
  | .nilp, v => v = .pointer none
  | .nili, v => v = .nilIface
  | .nilf, v => v = .nilFunc
  | .nilm, v => v = .map none
  | .view j ver lo hi, v => (j < c.hp.length ∧ c.hp[j]? ≠ some .hole) ∧ (∃ A n cap, v = .slice A n cap) ∧ ∀ v0 t r, c.hp[j]? = some (.row v0 t r) → ver ≤ v0 ∧
      (ver = v0 → lo ≤ hi ∧ hi ≤ r.len ∧ ∃ A cap, c.ρ[j]? = some (.row A cap) ∧ Hdr A cap r.sz lo hi v)
  | .ptr j off, v => ∃ b, (c.ρ[j]?).bind Loc.ptrAt = some b ∧ v = .pointer (some ⟨b, off, none⟩)
  | .aptr j i, v => (∃ t n g, c.hp[j]? = some (.arr t n g) ∧ i < n) ∧ ∃ b, (c.ρ[j]?).bind Loc.ptrAt = some b ∧ v = .pointer (some ⟨b, i, none⟩)
  | .rptr j ver i off, v => (j < c.hp.length ∧ c.hp[j]? ≠ some .hole) ∧ (∃ a, v = .pointer (some a)) ∧ ∀ v0 t r, c.hp[j]? = some (.row v0 t r) → ver ≤ v0 ∧
      (ver = v0 → i < r.len ∧ ∃ b o cap, c.ρ[j]? = some (.row (some (b, o)) cap) ∧ v = .pointer (some ⟨b, o + i * r.sz + off, none⟩))
  | .bptr l i, v => ∃ b o, v = .pointer (some ⟨b, o, none⟩) ∧ c.ok b ∧ c.w.cell? ⟨b, o, none⟩ = some (.int .u8 ((l.getD i 0).toNat : Int))
  | .eptr sz get off, v => ∃ b o, v = .pointer (some ⟨b, o + off, none⟩) ∧ c.ok b ∧ ∀ j, j < sz → ∃ u, c.w.cell? ⟨b, o + j, none⟩ = some u ∧ (get j).rep c.w c.ok u
  | .clo f caps, v => ∃ vs, v = .func (.func f) #[] ⟨vs⟩ ∧ dens c caps vs
  | .agg xs, v => ∃ vs, v = .agg ⟨vs⟩ ∧ dens c xs vs
  | .aggf n get, v => ∃ vs, v = .agg ⟨vs⟩ ∧ vs.length = n ∧ ∀ i, i < n → ∃ u, vs[i]? = some u ∧ (get i).rep c.w c.ok u
  | .tuple xs, v => ∃ vs, v = .tuple ⟨vs⟩ ∧ dens c xs vs
def dens (c : Cx) : List SV → List Value → Prop
  | [], vs => vs = []
  | x :: xs, vs => ∃ u us, vs = u :: us ∧ den c x u ∧ dens c xs us
end

/-- What an object's block holds. -/
def obRel (c : Cx) : Ob → Loc → Prop
  | .fix ty cells, loc => ∃ b cs fr, loc = .blk b ∧ c.w.heap[b]? = some (.cells cs ty fr) ∧ Unfrozen cs.size fr ∧ dens c cells cs.toList ∧ ∀ x ∈ cells, storable x = true
  | .arr ty n get, loc => ∃ b cs fr, loc = .blk b ∧ c.w.heap[b]? = some (.cells cs ty fr) ∧ Unfrozen cs.size fr ∧ cs.size = n ∧ ∀ i, i < n → ∃ u, cs[i]? = some u ∧ (get i).rep c.w c.ok u
  | .row _ ety r, loc => ∃ A cap, loc = .row A cap ∧ r.len ≤ cap ∧ cap ≤ maxLen ∧ 0 < r.sz ∧ (A = none → cap = 0) ∧
      ∀ b o, A = some (b, o) → ∃ cs fr, c.w.heap[b]? = some (.cells cs ety fr) ∧ Unfrozen cs.size fr ∧ o + cap * r.sz ≤ cs.size ∧
        ∀ i, i < r.len → ∀ j, j < r.sz → ∃ u, cs[o + i * r.sz + j]? = some u ∧ (r.cell i j).rep c.w c.ok u
  | .gone, loc => loc = .none
  | .hole, loc => loc = .none
  | .frzn, loc => ∃ b, loc = .frz b
  | .ban, loc => ∃ F, loc = .ban F
  | .ro ty cells, loc => ∃ b cs fr, loc = .frz b ∧ c.ok b ∧ c.w.heap[b]? = some (.cells cs ty fr) ∧ dens c cells cs.toList

/-- Nothing that is known goes lost. -/
structure Ext (c c' : Cx) : Prop where
  ok : ∀ (b : Nat), c.ok b → c'.ok b ∧ c'.w.heap[b]? = c.w.heap[b]?
  len : c.hp.length ≤ c'.hp.length
  blk : ∀ (j b : Nat), (c.ρ[j]?).bind Loc.ptrAt = some b → (c'.ρ[j]?).bind Loc.ptrAt = some b
  arr : ∀ (j : Nat) (t : TypeId) (n : Nat) (g : Nat → D), c.hp[j]? = some (Ob.arr t n g) → ∃ g', c'.hp[j]? = some (Ob.arr t n g')
  hole : ∀ (j : Nat), j < c.hp.length → c'.hp[j]? = some Ob.hole → c.hp[j]? = some Ob.hole
  row : ∀ (j v' : Nat) (t' : TypeId) (r' : RC), j < c.hp.length → c.hp[j]? ≠ some Ob.hole → c'.hp[j]? = some (Ob.row v' t' r') → ∃ (v : Nat) (t : TypeId) (r : RC), c.hp[j]? = some (Ob.row v t r) ∧ v ≤ v' ∧
    (v = v' → c'.ρ[j]? = c.ρ[j]? ∧ r'.len = r.len ∧ r'.sz = r.sz)
  ban : ∀ (j : Nat) (F : List Nat), c.ρ[j]? = some (.ban F) → c'.ρ[j]? = some (.ban F)
theorem Ext.refl (c : Cx) : Ext c c :=
  ⟨fun _ h => ⟨h, rfl⟩, Nat.le_refl _, fun _ _ h => h, fun _ _ _ g h => ⟨g, h⟩, fun _ _ h => h, fun _ v t r _ _ h => ⟨v, t, r, h, Nat.le_refl _, fun _ => ⟨rfl, rfl, rfl⟩⟩, fun _ _ h => h⟩
theorem Ext.trans {a b c : Cx} (h : Ext a b) (k : Ext b c) : Ext a c where
  ok x hx := ⟨(k.ok x (h.ok x hx).1).1, (k.ok x (h.ok x hx).1).2.trans (h.ok x hx).2⟩
  len := Nat.le_trans h.len k.len
  blk j b hj := k.blk j b (h.blk j b hj)
  arr j t n g hj := by
    obtain ⟨g', h1⟩ := h.arr j t n g hj
    exact k.arr j t n g' h1
  hole j hl hj := h.hole j hl (k.hole j (Nat.lt_of_lt_of_le hl h.len) hj)
  row j v' t' r' hl hne hj := by
    obtain ⟨v1, t1, r1, e1, l1, q1⟩ := k.row j v' t' r' (Nat.lt_of_lt_of_le hl h.len) (fun e => hne (h.hole j hl e)) hj
    obtain ⟨v2, t2, r2, e2, l2, q2⟩ := h.row j v1 t1 r1 hl hne e1
    refine ⟨v2, t2, r2, e2, Nat.le_trans l2 l1, fun he => ?_⟩
    obtain ⟨a1, a2, a3⟩ := q1 (by omega)
    obtain ⟨b1, b2, b3⟩ := q2 (by omega)
    exact ⟨a1.trans b1, a2.trans b2, a3.trans b3⟩
  ban j F hj := k.ban j F (h.ban j F hj)
theorem Ext.rep {c c' : Cx} (h : Ext c c') {d : D} {v : Value} (hd : d.rep c.w c.ok v) : d.rep c'.w c'.ok v := rep_mono h.ok d v hd

mutual
theorem den_ext {c c' : Cx} (h : Ext c c') : ∀ (x : SV) (v : Value), den c x v → den c' x v
  | .d x, v, hd => by unfold den at hd ⊢; exact h.rep hd
  | .undef, v, hd => by unfold den at hd ⊢; exact hd
  | .dead, v, hd => by unfold den; trivial
  | .nils, v, hd => by unfold den at hd ⊢; exact hd
  | .nilp, v, hd => by unfold den at hd ⊢; exact hd
  | .nili, v, hd => by unfold den at hd ⊢; exact hd
  | .nilf, v, hd => by unfold den at hd ⊢; exact hd
  | .nilm, v, hd => by unfold den at hd ⊢; exact hd
  | .view j ver lo hi, v, hd => by
    unfold den at hd ⊢
    obtain ⟨⟨hl, hnh⟩, hs, hr⟩ := hd
    refine ⟨⟨Nat.lt_of_lt_of_le hl h.len, fun e => hnh (h.hole j hl e)⟩, hs, fun v0 t r hj => ?_⟩
    obtain ⟨v1, t1, r1, e1, l1, q1⟩ := h.row j v0 t r hl hnh hj
    obtain ⟨a1, a2⟩ := hr v1 t1 r1 e1
    refine ⟨Nat.le_trans a1 l1, fun he => ?_⟩
    obtain ⟨b1, b2, b3⟩ := q1 (by omega)
    obtain ⟨c1, c2, A, cap, c3, c4⟩ := a2 (by omega)
    exact ⟨c1, by omega, A, cap, b1.trans c3, by rw [b3]; exact c4⟩
  | .ptr j off, v, hd => by
    unfold den at hd ⊢
    obtain ⟨b, hb, rfl⟩ := hd
    exact ⟨b, h.blk j b hb, rfl⟩
  | .aptr j i, v, hd => by
    unfold den at hd ⊢
    obtain ⟨⟨t, n, g, hj, hi⟩, b, hb, rfl⟩ := hd
    obtain ⟨g', hg'⟩ := h.arr j t n g hj
    exact ⟨⟨t, n, g', hg', hi⟩, b, h.blk j b hb, rfl⟩
  | .rptr j ver i off, v, hd => by
    unfold den at hd ⊢
    obtain ⟨⟨hl, hnh⟩, hs, hr⟩ := hd
    refine ⟨⟨Nat.lt_of_lt_of_le hl h.len, fun e => hnh (h.hole j hl e)⟩, hs, fun v0 t r hj => ?_⟩
    obtain ⟨v1, t1, r1, e1, l1, q1⟩ := h.row j v0 t r hl hnh hj
    obtain ⟨a1, a2⟩ := hr v1 t1 r1 e1
    refine ⟨Nat.le_trans a1 l1, fun he => ?_⟩
    obtain ⟨b1, b2, b3⟩ := q1 (by omega)
    obtain ⟨c1, b, o, cap, c3, c4⟩ := a2 (by omega)
    exact ⟨by omega, b, o, cap, b1.trans c3, by rw [b3]; exact c4⟩
  | .bptr l i, v, hd => by
    unfold den at hd ⊢
    obtain ⟨b, o, rfl, hb, hc⟩ := hd
    exact ⟨b, o, rfl, (h.ok b hb).1, (cell?_congr (h.ok b hb).2).trans hc⟩
  | .eptr sz get off, v, hd => by
    unfold den at hd ⊢
    obtain ⟨b, o, rfl, hb, hc⟩ := hd
    refine ⟨b, o, rfl, (h.ok b hb).1, fun j hj => ?_⟩
    obtain ⟨u, hu, hr⟩ := hc j hj
    exact ⟨u, (cell?_congr (h.ok b hb).2).trans hu, h.rep hr⟩
  | .clo f caps, v, hd => by
    unfold den at hd ⊢
    obtain ⟨vs, rfl, hv⟩ := hd
    exact ⟨vs, rfl, dens_ext h caps vs hv⟩
  | .agg xs, v, hd => by
    unfold den at hd ⊢
    obtain ⟨vs, rfl, hv⟩ := hd
    exact ⟨vs, rfl, dens_ext h xs vs hv⟩
  | .aggf n get, v, hd => by
    unfold den at hd ⊢
    obtain ⟨vs, rfl, hl, hv⟩ := hd
    refine ⟨vs, rfl, hl, fun i hi => ?_⟩
    obtain ⟨u, hu, hr⟩ := hv i hi
    exact ⟨u, hu, h.rep hr⟩
  | .tuple xs, v, hd => by
    unfold den at hd ⊢
    obtain ⟨vs, rfl, hv⟩ := hd
    exact ⟨vs, rfl, dens_ext h xs vs hv⟩
theorem dens_ext {c c' : Cx} (h : Ext c c') : ∀ (xs : List SV) (vs : List Value), dens c xs vs → dens c' xs vs
  | [], vs, hd => by unfold dens at hd ⊢; exact hd
  | x :: xs, vs, hd => by
    unfold dens at hd ⊢
    obtain ⟨u, us, rfl, h1, h2⟩ := hd
    exact ⟨u, us, rfl, den_ext h x u h1, dens_ext h xs us h2⟩
end

/-! ## Lists -/
theorem dens_length {c : Cx} : ∀ {xs : List SV} {vs : List Value}, dens c xs vs → xs.length = vs.length
  | [], vs, h => by unfold dens at h; subst h; rfl
  | x :: xs, vs, h => by
    unfold dens at h
    obtain ⟨u, us, rfl, _, h2⟩ := h
    simp [dens_length h2]
theorem dens_get {c : Cx} : ∀ {xs : List SV} {vs : List Value}, dens c xs vs → ∀ (i : Nat) (x : SV), xs[i]? = some x → ∃ v, vs[i]? = some v ∧ den c x v
  | [], vs, h, i, x, hx => by simp at hx
  | y :: xs, vs, h, i, x, hx => by
    unfold dens at h
    obtain ⟨u, us, rfl, h1, h2⟩ := h
    cases i with
    | zero => simp at hx; subst hx; exact ⟨u, rfl, h1⟩
    | succ i => simp at hx ⊢; exact dens_get h2 i x hx
theorem dens_nil {c : Cx} : dens c [] [] := by unfold dens; rfl
theorem dens_cons {c : Cx} {x : SV} {xs : List SV} {v : Value} {vs : List Value} (h : den c x v) (h2 : dens c xs vs) : dens c (x :: xs) (v :: vs) := by
  unfold dens; exact ⟨v, vs, rfl, h, h2⟩
theorem dens_of_get {c : Cx} : ∀ {xs : List SV} {vs : List Value}, xs.length = vs.length → (∀ (i : Nat) (x : SV) (v : Value), xs[i]? = some x → vs[i]? = some v → den c x v) → dens c xs vs
  | [], [], _, _ => dens_nil
  | x :: xs, v :: vs, hl, h => dens_cons (h 0 x v rfl rfl) (dens_of_get (by simpa using hl) fun i a b ha hb => h (i + 1) a b (by simpa using ha) (by simpa using hb))
theorem dens_append {c : Cx} {xs ys : List SV} {vs us : List Value} (h : dens c xs vs) (h2 : dens c ys us) : dens c (xs ++ ys) (vs ++ us) := by
  induction xs generalizing vs with
  | nil => unfold dens at h; subst h; exact h2
  | cons x xs ih =>
    unfold dens at h
    obtain ⟨u, us', rfl, h1, h3⟩ := h
    exact dens_cons h1 (ih h3)
theorem dens_set {c : Cx} {xs : List SV} {vs : List Value} (h : dens c xs vs) (i : Nat) {x : SV} {v : Value} (hx : den c x v) : dens c (xs.set i x) (vs.set i v) := by
  refine dens_of_get (by simp [dens_length h]) fun j a b ha hb => ?_
  rw [List.getElem?_set] at ha hb
  by_cases hij : i = j
  · subst hij
    rw [if_pos rfl] at ha hb
    by_cases hl : i < xs.length
    · rw [if_pos hl] at ha
      rw [if_pos (by rw [← dens_length h]; exact hl)] at hb
      cases ha; cases hb; exact hx
    · rw [if_neg hl] at ha; cases ha
  · rw [if_neg hij] at ha hb
    obtain ⟨b', hb', hd⟩ := dens_get h j a ha
    rw [hb] at hb'
    cases hb'
    exact hd
theorem dens_take {c : Cx} {xs : List SV} {vs : List Value} (h : dens c xs vs) (n : Nat) : dens c (xs.take n) (vs.take n) := by
  refine dens_of_get (by simp [dens_length h]) fun j a b ha hb => ?_
  rw [List.getElem?_take] at ha hb
  by_cases hj : j < n
  · rw [if_pos hj] at ha hb
    obtain ⟨b', hb', hd⟩ := dens_get h j a ha
    rw [hb] at hb'; cases hb'; exact hd
  · rw [if_neg hj] at ha; cases ha
theorem dens_drop {c : Cx} {xs : List SV} {vs : List Value} (h : dens c xs vs) (n : Nat) : dens c (xs.drop n) (vs.drop n) := by
  refine dens_of_get (by simp [dens_length h]) fun j a b ha hb => ?_
  rw [List.getElem?_drop] at ha hb
  obtain ⟨b', hb', hd⟩ := dens_get h _ a ha
  rw [hb] at hb'; cases hb'; exact hd
theorem dens_splice {c : Cx} {xs ys : List SV} {vs us : List Value} (h : dens c xs vs) (h2 : dens c ys us) (off : Nat) :
    dens c (splice xs off ys) (vs.take off ++ us ++ vs.drop (off + us.length)) := by
  unfold splice
  rw [dens_length h2]
  exact dens_append (dens_append (dens_take h off) h2) (dens_drop h _)
theorem dens_getD {c : Cx} {xs : List SV} {vs : List Value} (h : dens c xs vs) (i : Nat) : den c (xs.getD i .undef) (vs.getD i Go.undef) := by
  rw [List.getD_eq_getElem?_getD, List.getD_eq_getElem?_getD]
  cases hx : xs[i]? with
  | none =>
    have : vs[i]? = none := by
      rw [List.getElem?_eq_none_iff] at hx ⊢
      rw [← dens_length h]; exact hx
    rw [this]
    simp only [Option.getD_none]
    unfold den; rfl
  | some x =>
    obtain ⟨v, hv, hd⟩ := dens_get h i x hx
    rw [hv]
    exact hd
theorem den_storable {c : Cx} {x : SV} {v : Value} (hs : storable x = true) (h : den c x v) : v.oneCell' = true ∧ v.cells = #[v] := by
  cases x <;> simp only [storable, Bool.false_eq_true] at hs <;> unfold den at h
  case d x => exact rep_oneCell h
  case nils => subst h; exact ⟨rfl, rfl⟩
  case nilp => subst h; exact ⟨rfl, rfl⟩
  case nili => subst h; exact ⟨rfl, rfl⟩
  case nilf => subst h; exact ⟨rfl, rfl⟩
  case nilm => subst h; exact ⟨rfl, rfl⟩
  case view => obtain ⟨_, ⟨A, n, cap, rfl⟩, _⟩ := h; exact ⟨rfl, rfl⟩
  case ptr => obtain ⟨b, _, rfl⟩ := h; exact ⟨rfl, rfl⟩
  case aptr => obtain ⟨_, b, _, rfl⟩ := h; exact ⟨rfl, rfl⟩
  case rptr => obtain ⟨_, ⟨a, rfl⟩, _⟩ := h; exact ⟨rfl, rfl⟩
  case bptr => obtain ⟨b, o, rfl, _⟩ := h; exact ⟨rfl, rfl⟩
  case eptr => obtain ⟨b, o, rfl, _⟩ := h; exact ⟨rfl, rfl⟩
  case clo => obtain ⟨vs, rfl, _⟩ := h; exact ⟨rfl, rfl⟩
theorem den_cells {c : Cx} {x : SV} {v : Value} (hs : (svCells x).all storable = true) (h : den c x v) : dens c (svCells x) v.cells.toList ∧ ∀ u ∈ v.cells.toList, u.oneCell' = true := by
  have main : ∀ x : SV, svCells x = [x] → storable x = true → den c x v → dens c (svCells x) v.cells.toList ∧ ∀ u ∈ v.cells.toList, u.oneCell' = true := by
    intro x hx hs h
    obtain ⟨h1, h2⟩ := den_storable hs h
    rw [hx, h2]
    exact ⟨dens_cons h dens_nil, fun u hu => by simp at hu; subst hu; exact h1⟩
  cases x with
  | agg xs =>
    unfold den at h
    obtain ⟨vs, rfl, hv⟩ := h
    refine ⟨hv, fun u hu => ?_⟩
    obtain ⟨i, hi⟩ := List.getElem?_of_mem hu
    simp only [svCells, List.all_eq_true] at hs
    have hl := dens_length hv
    have hi' : i < xs.length := by
      rw [hl]
      exact (List.getElem?_eq_some_iff.1 hi).1
    obtain ⟨u', hu', hd⟩ := dens_get hv i xs[i] (List.getElem?_eq_getElem hi')
    have e : (Value.agg ⟨vs⟩).cells.toList[i]? = vs[i]? := rfl
    rw [e, hu'] at hi
    cases hi
    exact (den_storable (hs _ (List.getElem_mem hi')) hd).1
  | _ => exact main _ rfl (by simpa [svCells] using hs) h

/-! ## Objects and the frame -/
structure Fr (F : List Nat) (w0 w : World) : Prop where
  os : w.os = w0.os
  tape : w.tape = w0.tape
  output : w.output = w0.output
  size : w0.heap.size ≤ w.heap.size
  block : ∀ b, b < w0.heap.size → b ∉ F → w.heap[b]? = w0.heap[b]?
theorem Fr.refl (F : List Nat) (w : World) : Fr F w w := ⟨rfl, rfl, rfl, Nat.le_refl _, fun _ _ _ => rfl⟩
structure Mem (c0 c : Cx) : Prop where
  len : c.ρ.length = c.hp.length
  obs : ∀ (j : Nat) (ob : Ob) (loc : Loc), c.hp[j]? = some ob → c.ρ[j]? = some loc → obRel c ob loc
  nodup : ∀ (i j : Nat) (loc loc' : Loc) (b : Nat), c.ρ[i]? = some loc → c.ρ[j]? = some loc' → loc.foot = some b → loc'.foot = some b → i = j
  bnd : ∀ b, b ∈ foot c.ρ → b < c.w.heap.size ∧ (b ∈ foot c0.ρ ∨ c0.w.heap.size ≤ b)
  fr : Fr (foot c0.ρ) c0.w c.w
  dis : ∀ b, b ∈ bans c.ρ → b < c.w.heap.size ∧ b ∉ foot c.ρ
theorem Mem.start {c c1 : Cx} (h : Mem c1 c) : Mem c c :=
  ⟨h.len, h.obs, h.nodup, fun b hb => ⟨(h.bnd b hb).1, .inl hb⟩, Fr.refl _ _, h.dis⟩
theorem Mem.trans {c0 c1 c2 : Cx} (h : Mem c0 c1) (k : Mem c1 c2) : Mem c0 c2 where
  len := k.len
  obs := k.obs
  nodup := k.nodup
  bnd b hb := by
    obtain ⟨h1, h2⟩ := k.bnd b hb
    refine ⟨h1, ?_⟩
    rcases h2 with h2 | h2
    · exact (h.bnd b h2).2
    · exact .inr (Nat.le_trans h.fr.size h2)
  fr := ⟨k.fr.os.trans h.fr.os, k.fr.tape.trans h.fr.tape, k.fr.output.trans h.fr.output, Nat.le_trans h.fr.size k.fr.size, fun b hb hF => by
    have hb1 : b ∉ foot c1.ρ := fun hm => by
      rcases (h.bnd b hm).2 with h2 | h2
      · exact hF h2
      · omega
    exact (k.fr.block b (Nat.lt_of_lt_of_le hb h.fr.size) hb1).trans (h.fr.block b hb hF)⟩
  dis := k.dis
/-- An object stays what it is where its block stays. -/
theorem obRel_ext {c c' : Cx} (h : Ext c c') {ob : Ob} {loc : Loc} (hb : ∀ b, loc.foot = some b → c'.w.heap[b]? = c.w.heap[b]?) (ho : obRel c ob loc) : obRel c' ob loc := by
  cases ob with
  | fix ty cells =>
    obtain ⟨b, cs, fr, rfl, h1, h2, h3, h4⟩ := ho
    exact ⟨b, cs, fr, rfl, (hb b rfl).trans h1, h2, dens_ext h _ _ h3, h4⟩
  | arr ty n get =>
    obtain ⟨b, cs, fr, rfl, h1, h2, h3, h4⟩ := ho
    refine ⟨b, cs, fr, rfl, (hb b rfl).trans h1, h2, h3, fun i hi => ?_⟩
    obtain ⟨u, hu, hr⟩ := h4 i hi
    exact ⟨u, hu, h.rep hr⟩
  | row v ety r =>
    obtain ⟨A, cap, rfl, h1, h2, h3, h4, h5⟩ := ho
    refine ⟨A, cap, rfl, h1, h2, h3, h4, fun b o hA => ?_⟩
    obtain ⟨cs, fr, g1, g2, g3, g4⟩ := h5 b o hA
    refine ⟨cs, fr, (hb b (by rw [hA]; rfl)).trans g1, g2, g3, fun i hi j hj => ?_⟩
    obtain ⟨u, hu, hr⟩ := g4 i hi j hj
    exact ⟨u, hu, h.rep hr⟩
  | gone => exact ho
  | hole => exact ho
  | frzn => exact ho
  | ban => exact ho
  | ro ty cells =>
    obtain ⟨b, cs, fr, rfl, h1, h2, h3⟩ := ho
    exact ⟨b, cs, fr, rfl, (h.ok b h1).1, (h.ok b h1).2.trans h2, dens_ext h _ _ h3⟩

/-! ### An object is written in its place -/
def sameKind : Ob → Ob → Prop
  | .fix .., .fix .. => True
  | .arr t n _, .arr t' n' _ => t = t' ∧ n = n'
  | .row v _ r, .row v' _ r' => v = v' ∧ r'.len = r.len ∧ r'.sz = r.sz
  | _, _ => False
theorem upd_ext {c : Cx} {j b : Nat} {ob ob' : Ob} {loc : Loc} {w' : World} {cs : Array Value} {t : TypeId} {fr : Nat × Nat} (hlen : c.ρ.length = c.hp.length)
    (hj : c.hp[j]? = some ob) (hl : c.ρ[j]? = some loc) (hf : loc.foot = some b) (hu : Upd c.w b cs t fr w') (hk : sameKind ob ob') : Ext c ⟨w', c.hp.set j ob', c.ρ⟩ := by
  have hin : b ∈ foot c.ρ := mem_foot.2 ⟨j, loc, hl, hf⟩
  have hjl : j < c.hp.length := (List.getElem?_eq_some_iff.1 hj).1
  refine ⟨fun x hx => ⟨⟨by show x < w'.heap.size; rw [hu.size]; exact hx.1, hx.2⟩, hu.other x (fun e => hx.2 (occ_foot (e ▸ hin)))⟩, by simp, fun _ _ h => h, fun i t n g hi => ?_, fun i hil hi => ?_, fun i v' t' r' hil _ hi => ?_, fun _ _ h => h⟩
  · by_cases hij : j = i
    · subst hij
      rw [hj] at hi
      cases hi
      cases ob' with
      | arr t' n' g' => obtain ⟨rfl, rfl⟩ := hk; exact ⟨g', by simp [hjl]⟩
      | _ => exact hk.elim
    · exact ⟨g, by simp [List.getElem?_set, hij, hi]⟩
  · by_cases hij : j = i
    · subst hij
      simp only [List.getElem?_set, hjl, if_true] at hi
      cases hi
      cases ob <;> exact hk.elim
    · simp only [List.getElem?_set, hij, if_false] at hi
      exact hi
  · by_cases hij : j = i
    · subst hij
      simp only [List.getElem?_set, hjl, if_true] at hi
      cases hi
      cases ob with
      | row v t r => obtain ⟨rfl, h2, h3⟩ := hk; exact ⟨_, _, _, hj, Nat.le_refl _, fun _ => ⟨rfl, h2, h3⟩⟩
      | _ => exact hk.elim
    · simp only [List.getElem?_set, hij, if_false] at hi
      exact ⟨v', t', r', hi, Nat.le_refl _, fun _ => ⟨rfl, rfl, rfl⟩⟩
theorem upd_mem {c0 c : Cx} (hm : Mem c0 c) {j b : Nat} {ob ob' : Ob} {loc : Loc} {w' : World} {cs : Array Value} {t : TypeId} {fr : Nat × Nat}
    (hj : c.hp[j]? = some ob) (hl : c.ρ[j]? = some loc) (hf : loc.foot = some b) (hu : Upd c.w b cs t fr w') (hk : sameKind ob ob')
    (hnew : Ext c ⟨w', c.hp.set j ob', c.ρ⟩ → obRel ⟨w', c.hp.set j ob', c.ρ⟩ ob' loc) : Mem c0 ⟨w', c.hp.set j ob', c.ρ⟩ ∧ Ext c ⟨w', c.hp.set j ob', c.ρ⟩ := by
  have he := upd_ext hm.len hj hl hf hu hk
  have hjl : j < c.hp.length := (List.getElem?_eq_some_iff.1 hj).1
  have hin : b ∈ foot c.ρ := mem_foot.2 ⟨j, loc, hl, hf⟩
  refine ⟨⟨by simp [hm.len], fun i o l hi hil => ?_, hm.nodup, fun x hx => ?_, ?_, fun x hx => ⟨by show x < w'.heap.size; rw [hu.size]; exact (hm.dis x hx).1, (hm.dis x hx).2⟩⟩, he⟩
  · by_cases hij : j = i
    · subst hij
      simp only [List.getElem?_set, hjl, if_true] at hi
      cases hi
      rw [show (⟨w', c.hp.set j ob', c.ρ⟩ : Cx).ρ[j]? = c.ρ[j]? from rfl, hl] at hil
      cases hil
      exact hnew he
    · simp only [List.getElem?_set, hij, if_false] at hi
      refine obRel_ext he (fun x hx => hu.other x (fun e => hij ?_)) (hm.obs i o l hi hil)
      subst e
      exact hm.nodup j i loc l x hl hil hf hx
  · obtain ⟨h1, h2⟩ := hm.bnd x hx
    exact ⟨by show x < w'.heap.size; rw [hu.size]; exact h1, h2⟩
  · refine ⟨hu.os.trans hm.fr.os, hu.tape.trans hm.fr.tape, hu.output.trans hm.fr.output, by show _ ≤ w'.heap.size; rw [hu.size]; exact hm.fr.size, fun x hx hF => ?_⟩
    refine (hu.other x (fun e => ?_)).trans (hm.fr.block x hx hF)
    subst e
    rcases (hm.bnd x hin).2 with h | h
    · exact hF h
    · omega

/-! ### A new object -/
theorem foot_append (ρ : List Loc) (loc : Loc) : ∀ b, b ∈ foot (ρ ++ [loc]) ↔ b ∈ foot ρ ∨ loc.foot = some b := by
  intro b
  unfold foot
  rw [List.filterMap_append, List.mem_append]
  cases h : loc.foot <;> simp [List.filterMap, h, eq_comm]
theorem new_ext {c : Cx} {ob : Ob} {loc : Loc} {w' : World} (hlen : c.ρ.length = c.hp.length) (hbnd : ∀ b, b ∈ foot c.ρ → b < c.w.heap.size)
    (hs : c.w.heap.size ≤ w'.heap.size) (ho : ∀ i, i < c.w.heap.size → w'.heap[i]? = c.w.heap[i]?) (hf : ∀ b, loc.foot = some b → c.w.heap.size ≤ b) (hban : loc.bans = []) : Ext c ⟨w', c.hp ++ [ob], c.ρ ++ [loc]⟩ := by
  have hget : ∀ {j : Nat} {l : Loc}, c.ρ[j]? = some l → (c.ρ ++ [loc])[j]? = some l := fun {j l} h => by
    rw [List.getElem?_append_left (List.getElem?_eq_some_iff.1 h).1]; exact h
  refine ⟨fun x hx => ⟨⟨Nat.lt_of_lt_of_le hx.1 hs, fun hm => ?_⟩, ho x hx.1⟩, by simp, fun j b h => by
    cases e : c.ρ[j]? with
    | none => rw [e] at h; cases h
    | some l => rw [e] at h; show ((c.ρ ++ [loc])[j]?).bind Loc.ptrAt = _; rw [hget e]; exact h, fun j t n g h => ⟨g, ?_⟩, fun j hj h => ?_, fun j v t r hj _ h => ?_, fun j F h => hget h⟩
  · rcases mem_occ.1 hm with hm | hm
    · rcases (foot_append c.ρ loc x).1 hm with h | h
      · exact hx.2 (occ_foot h)
      · have := hf x h; have := hx.1; omega
    · rw [show bans (⟨w', c.hp ++ [ob], c.ρ ++ [loc]⟩ : Cx).ρ = bans c.ρ from bans_append hban] at hm
      exact hx.2 (mem_occ.2 (.inr hm))
  · show (c.hp ++ [ob])[j]? = _
    rw [List.getElem?_append_left (List.getElem?_eq_some_iff.1 h).1]; exact h
  · rw [← List.getElem?_append_left (l₂ := [ob]) hj]; exact h
  · have h' : c.hp[j]? = some (.row v t r) := by
      rw [← List.getElem?_append_left (l₂ := [ob]) hj]; exact h
    exact ⟨v, t, r, h', Nat.le_refl _, fun _ => ⟨by show (c.ρ ++ [loc])[j]? = _; rw [List.getElem?_append_left (by rw [hlen]; exact hj)], rfl, rfl⟩⟩
theorem new_mem {c0 c : Cx} (hm : Mem c0 c) {ob : Ob} {loc : Loc} {w' : World} (hos : w'.os = c.w.os) (htp : w'.tape = c.w.tape) (hout : w'.output = c.w.output)
    (hs : c.w.heap.size ≤ w'.heap.size) (ho : ∀ i, i < c.w.heap.size → w'.heap[i]? = c.w.heap[i]?) (hf : ∀ b, loc.foot = some b → c.w.heap.size ≤ b ∧ b < w'.heap.size) (hban : loc.bans = [])
    (hnew : Ext c ⟨w', c.hp ++ [ob], c.ρ ++ [loc]⟩ → obRel ⟨w', c.hp ++ [ob], c.ρ ++ [loc]⟩ ob loc) :
    Mem c0 ⟨w', c.hp ++ [ob], c.ρ ++ [loc]⟩ ∧ Ext c ⟨w', c.hp ++ [ob], c.ρ ++ [loc]⟩ := by
  have he := new_ext (ob := ob) hm.len (fun b hb => (hm.bnd b hb).1) hs ho (fun b hb => (hf b hb).1) hban
  refine ⟨⟨by simp [hm.len], fun i o l hi hil => ?_, fun i k l l' b hi hk hfi hfk => ?_, fun x hx => ?_, ?_, fun x hx => ?_⟩, he⟩
  rotate_right
  · rw [show bans (⟨w', c.hp ++ [ob], c.ρ ++ [loc]⟩ : Cx).ρ = bans c.ρ from bans_append hban] at hx
    obtain ⟨h1, h2⟩ := hm.dis x hx
    refine ⟨Nat.lt_of_lt_of_le h1 hs, fun h3 => ?_⟩
    rcases (foot_append c.ρ loc x).1 h3 with h | h
    · exact h2 h
    · have := (hf x h).1; omega
  · by_cases hil' : i < c.hp.length
    · rw [show (⟨w', c.hp ++ [ob], c.ρ ++ [loc]⟩ : Cx).hp[i]? = c.hp[i]? from List.getElem?_append_left hil'] at hi
      rw [show (⟨w', c.hp ++ [ob], c.ρ ++ [loc]⟩ : Cx).ρ[i]? = c.ρ[i]? from List.getElem?_append_left (by rw [hm.len]; exact hil')] at hil
      exact obRel_ext he (fun x hx => ho x (hm.bnd x (mem_foot.2 ⟨i, l, hil, hx⟩)).1) (hm.obs i o l hi hil)
    · have h1 : i = c.hp.length := by
        have := (List.getElem?_eq_some_iff.1 hi).1
        simp at this; omega
      subst h1
      rw [show (⟨w', c.hp ++ [ob], c.ρ ++ [loc]⟩ : Cx).hp[c.hp.length]? = some ob from by simp] at hi
      rw [show (⟨w', c.hp ++ [ob], c.ρ ++ [loc]⟩ : Cx).ρ[c.hp.length]? = some loc from by simp [← hm.len]] at hil
      cases hi; cases hil
      exact hnew he
  · have key : ∀ (i : Nat) (l : Loc), (c.ρ ++ [loc])[i]? = some l → (i < c.ρ.length ∧ c.ρ[i]? = some l) ∨ (i = c.ρ.length ∧ l = loc) := by
      intro i l h
      by_cases hi : i < c.ρ.length
      · exact .inl ⟨hi, by rw [← List.getElem?_append_left (l₂ := [loc]) hi]; exact h⟩
      · have : i = c.ρ.length := by have := (List.getElem?_eq_some_iff.1 h).1; simp at this; omega
        subst this
        simp at h
        exact .inr ⟨rfl, h.symm⟩
    rcases key i l hi with ⟨a1, a2⟩ | ⟨a1, a2⟩ <;> rcases key k l' hk with ⟨b1, b2⟩ | ⟨b1, b2⟩
    · exact hm.nodup i k l l' b a2 b2 hfi hfk
    · subst b2
      have := (hm.bnd b (mem_foot.2 ⟨i, l, a2, hfi⟩)).1
      have := (hf b hfk).1
      omega
    · subst a2
      have := (hm.bnd b (mem_foot.2 ⟨k, l', b2, hfk⟩)).1
      have := (hf b hfi).1
      omega
    · omega
  · rcases (foot_append c.ρ loc x).1 hx with h | h
    · obtain ⟨h1, h2⟩ := hm.bnd x h
      exact ⟨Nat.lt_of_lt_of_le h1 hs, h2⟩
    · exact ⟨(hf x h).2, .inr (Nat.le_trans hm.fr.size (hf x h).1)⟩
  · exact ⟨hos.trans hm.fr.os, htp.trans hm.fr.tape, hout.trans hm.fr.output, Nat.le_trans hm.fr.size hs, fun x hx hF => (ho x (Nat.lt_of_lt_of_le hx hm.fr.size)).trans (hm.fr.block x hx hF)⟩


/-! ### A place that was kept is filled -/
theorem isHole_some {o : Option Ob} (h : isHole o = true) : o = some .hole := by
  unfold isHole at h
  split at h
  · rfl
  · cases h
theorem fill_mem {c0 c : Cx} (hm : Mem c0 c) {j : Nat} {ob : Ob} {loc : Loc} {w' : World} (hj : c.hp[j]? = some .hole) (hob : ob ≠ .hole) (hos : w'.os = c.w.os) (htp : w'.tape = c.w.tape) (hout : w'.output = c.w.output)
    (hs : c.w.heap.size ≤ w'.heap.size) (ho : ∀ i, i < c.w.heap.size → w'.heap[i]? = c.w.heap[i]?) (hf : ∀ b, loc.foot = some b → c.w.heap.size ≤ b ∧ b < w'.heap.size) (hban : loc.bans = [])
    (hnew : Ext c ⟨w', c.hp.set j ob, c.ρ.set j loc⟩ → obRel ⟨w', c.hp.set j ob, c.ρ.set j loc⟩ ob loc) :
    Mem c0 ⟨w', c.hp.set j ob, c.ρ.set j loc⟩ ∧ Ext c ⟨w', c.hp.set j ob, c.ρ.set j loc⟩ := by
  have hjl : j < c.hp.length := (List.getElem?_eq_some_iff.1 hj).1
  have hjr : j < c.ρ.length := by rw [hm.len]; exact hjl
  obtain ⟨l0, hl0⟩ : ∃ l0, c.ρ[j]? = some l0 := ⟨c.ρ[j], List.getElem?_eq_getElem hjr⟩
  have hnone : l0 = .none := hm.obs j _ _ hj hl0
  subst hnone
  have key : ∀ (i : Nat) (l : Loc), (c.ρ.set j loc)[i]? = some l → (i = j ∧ l = loc) ∨ (i ≠ j ∧ c.ρ[i]? = some l) := by
    intro i l h
    rw [List.getElem?_set] at h
    by_cases hij : j = i
    · subst hij; rw [if_pos rfl, if_pos hjr] at h; cases h; exact .inl ⟨rfl, rfl⟩
    · rw [if_neg hij] at h; exact .inr ⟨Ne.symm hij, h⟩
  have hfoot : ∀ x, x ∈ foot (c.ρ.set j loc) → x ∈ foot c.ρ ∨ (c.w.heap.size ≤ x ∧ x < w'.heap.size) := by
    intro x hx
    obtain ⟨i, l, hi, hfl⟩ := mem_foot.1 hx
    rcases key i l hi with ⟨_, rfl⟩ | ⟨_, h2⟩
    · exact .inr (hf x hfl)
    · exact .inl (mem_foot.2 ⟨i, l, h2, hfl⟩)
  have hbans : ∀ x, x ∈ bans (c.ρ.set j loc) → x ∈ bans c.ρ := by
    intro x hx
    obtain ⟨i, F, h, hb⟩ := mem_bans.1 hx
    rcases key i _ h with ⟨_, rfl⟩ | ⟨_, h2⟩
    · simp only [Loc.bans] at hban; subst hban; cases hb
    · exact mem_bans.2 ⟨i, F, h2, hb⟩
  have he : Ext c ⟨w', c.hp.set j ob, c.ρ.set j loc⟩ := by
    refine ⟨fun x hx => ⟨⟨Nat.lt_of_lt_of_le hx.1 hs, fun hmm => ?_⟩, ho x hx.1⟩, by simp, fun i b hi => ?_, fun i ty n g hi => ⟨g, ?_⟩, fun i hil hi => ?_, fun i v2 t2 r2 hil hne hi => ?_, fun i F hi => by
      show (c.ρ.set j loc)[i]? = _
      rw [List.getElem?_set]
      by_cases hij : j = i
      · subst hij; rw [hl0] at hi; cases hi
      · rw [if_neg hij]; exact hi⟩
    · rcases mem_occ.1 hmm with hmm | hmm
      · rcases hfoot x hmm with h | h
        · exact hx.2 (occ_foot h)
        · have := hx.1; omega
      · exact hx.2 (mem_occ.2 (.inr (hbans x hmm)))
    · show ((c.ρ.set j loc)[i]?).bind Loc.ptrAt = _
      rw [List.getElem?_set]
      by_cases hij : j = i
      · subst hij; rw [hl0] at hi; cases hi
      · rw [if_neg hij]; exact hi
    · show (c.hp.set j ob)[i]? = _
      rw [List.getElem?_set]
      by_cases hij : j = i
      · subst hij; rw [hj] at hi; cases hi
      · rw [if_neg hij]; exact hi
    · by_cases hij : j = i
      · subst hij; exact hj
      · rw [show (⟨w', c.hp.set j ob, c.ρ.set j loc⟩ : Cx).hp[i]? = c.hp[i]? from by simp [List.getElem?_set, hij]] at hi
        exact hi
    · by_cases hij : j = i
      · subst hij; exact (hne hj).elim
      · rw [show (⟨w', c.hp.set j ob, c.ρ.set j loc⟩ : Cx).hp[i]? = c.hp[i]? from by simp [List.getElem?_set, hij]] at hi
        exact ⟨v2, t2, r2, hi, Nat.le_refl _, fun _ => ⟨by show (c.ρ.set j loc)[i]? = _; rw [List.getElem?_set, if_neg hij], rfl, rfl⟩⟩
  refine ⟨⟨by simp [hm.len], fun i o l hi hil => ?_, fun i k l l' b hi hk hfi hfk => ?_, fun x hx => ?_, ?_, fun x hx => ?_⟩, he⟩
  rotate_right
  · obtain ⟨h1, h2⟩ := hm.dis x (hbans x hx)
    refine ⟨Nat.lt_of_lt_of_le h1 hs, fun h3 => ?_⟩
    rcases hfoot x h3 with h | h
    · exact h2 h
    · have := h.1; omega
  · by_cases hij : j = i
    · subst hij
      rw [show (⟨w', c.hp.set j ob, c.ρ.set j loc⟩ : Cx).hp[j]? = some ob from by simp [hjl]] at hi
      rw [show (⟨w', c.hp.set j ob, c.ρ.set j loc⟩ : Cx).ρ[j]? = some loc from by simp [hjr]] at hil
      cases hi; cases hil
      exact hnew he
    · rw [show (⟨w', c.hp.set j ob, c.ρ.set j loc⟩ : Cx).hp[i]? = c.hp[i]? from by simp [List.getElem?_set, hij]] at hi
      rw [show (⟨w', c.hp.set j ob, c.ρ.set j loc⟩ : Cx).ρ[i]? = c.ρ[i]? from by simp [List.getElem?_set, hij]] at hil
      exact obRel_ext he (fun x hx => ho x (hm.bnd x (mem_foot.2 ⟨i, l, hil, hx⟩)).1) (hm.obs i o l hi hil)
  · rcases key i l hi with ⟨a1, a2⟩ | ⟨a1, a2⟩ <;> rcases key k l' hk with ⟨b1, b2⟩ | ⟨b1, b2⟩
    · omega
    · subst a2
      have := (hf b hfi).1
      have := (hm.bnd b (mem_foot.2 ⟨k, l', b2, hfk⟩)).1
      omega
    · subst b2
      have := (hf b hfk).1
      have := (hm.bnd b (mem_foot.2 ⟨i, l, a2, hfi⟩)).1
      omega
    · exact hm.nodup i k l l' b a2 b2 hfi hfk
  · rcases hfoot x hx with h | h
    · obtain ⟨h1, h2⟩ := hm.bnd x h
      exact ⟨Nat.lt_of_lt_of_le h1 hs, h2⟩
    · exact ⟨h.2, .inr (Nat.le_trans hm.fr.size h.1)⟩
  · exact ⟨hos.trans hm.fr.os, htp.trans hm.fr.tape, hout.trans hm.fr.output, Nat.le_trans hm.fr.size hs, fun x hx hF => (ho x (Nat.lt_of_lt_of_le hx hm.fr.size)).trans (hm.fr.block x hx hF)⟩
/-- A new object, wherever it is kept. -/
def plRho (pl : Option Nat) (ρ : List Loc) (loc : Loc) : List Loc :=
  match pl with
  | none => ρ ++ [loc]
  | some i => ρ.set i loc
theorem pl_mem {c0 c : Cx} (hm : Mem c0 c) {pl : Option Nat} (hpl : plOk pl c.hp = true) {ob : Ob} {loc : Loc} {w' : World} (hob : ob ≠ .hole) (hos : w'.os = c.w.os) (htp : w'.tape = c.w.tape) (hout : w'.output = c.w.output)
    (hs : c.w.heap.size ≤ w'.heap.size) (ho : ∀ i, i < c.w.heap.size → w'.heap[i]? = c.w.heap[i]?) (hf : ∀ b, loc.foot = some b → c.w.heap.size ≤ b ∧ b < w'.heap.size) (hban : loc.bans = [])
    (hnew : Ext c ⟨w', plHp pl c.hp ob, plRho pl c.ρ loc⟩ → obRel ⟨w', plHp pl c.hp ob, plRho pl c.ρ loc⟩ ob loc) :
    Mem c0 ⟨w', plHp pl c.hp ob, plRho pl c.ρ loc⟩ ∧ Ext c ⟨w', plHp pl c.hp ob, plRho pl c.ρ loc⟩ ∧ (plHp pl c.hp ob)[plIdx pl c.hp]? = some ob ∧ (plRho pl c.ρ loc)[plIdx pl c.hp]? = some loc := by
  cases pl with
  | none =>
    obtain ⟨h1, h2⟩ := new_mem hm hos htp hout hs ho hf hban hnew
    refine ⟨h1, h2, by simp [plHp, plIdx], ?_⟩
    show (c.ρ ++ [loc])[c.hp.length]? = _
    rw [← hm.len]; simp
  | some i =>
    have hj := isHole_some hpl
    obtain ⟨h1, h2⟩ := fill_mem hm hj hob hos htp hout hs ho hf hban hnew
    have hjl : i < c.hp.length := (List.getElem?_eq_some_iff.1 hj).1
    exact ⟨h1, h2, by simp [plHp, plIdx, hjl], by simp [plRho, plIdx, hm.len, hjl]⟩

end Go.Proofs.Ytmadffhjgbpojaa.Sx

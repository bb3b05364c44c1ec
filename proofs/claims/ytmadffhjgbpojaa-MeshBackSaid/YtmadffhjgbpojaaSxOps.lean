/- Sx: each single operation does what the evaluator says. -/
import Derived.Test.YtmadffhjgbpojaaSxDen
import Derived.Laws.Strings
import Derived.Laws.Entries
import Derived.Laws.CopyRow
namespace Go.Proofs.Ytmadffhjgbpojaa.Sx
open Go

theorem BR_iff {b : Bool} {A B : Prop} : BR b A B ↔ (b = true → A) ∧ (b = false → B) := by cases b <;> simp [BR]
theorem BR_req {p : Prop} [Decidable p] {A : Prop} (h : BR (decide p) A False) : p ∧ A := by
  rw [BR_iff] at h
  by_cases hp : p
  · exact ⟨hp, h.1 (by simpa using hp)⟩
  · exact (h.2 (by simpa using hp)).elim
theorem BR_not {p : Prop} [Decidable p] {A : Prop} (h : BR (decide p) False A) : ¬ p ∧ A := by
  rw [BR_iff] at h
  by_cases hp : p
  · exact (h.1 (by simpa using hp)).elim
  · exact ⟨hp, h.2 (by simpa using hp)⟩

theorem add_none (b o j : Nat) : (⟨b, o, none⟩ : Addr).add j = ⟨b, o + j, none⟩ := by
  unfold Addr.add; split <;> simp_all

section types
variable {P : Program}
theorem info_of_und {t : TypeId} {d : TypeDesc} (h : P.underlying t = some d) : ∃ i, P.info? t = some i := by
  unfold Program.underlying at h
  split at h
  · exact ⟨_, by assumption⟩
  · exact ⟨_, by assumption⟩
  · cases h
theorem run_sizeOf' {t : TypeId} {i : TypeInfo} (h : P.info? t = some i) (w : World) : (sizeOf t).run P w = .ok (szOf P t) w := by
  simp [sizeOf, typeInfo, h, szOf, Program.cellsOf]
theorem run_isAgg' {t : TypeId} {b : Bool} (h : aggOf P t = some b) (w : World) : (isAgg t).run P w = .ok b w := by
  unfold aggOf at h
  split at h
  · rename_i hd; simp at h; subst h; simp [isAgg, run_underlying hd]
  · rename_i hd; simp at h; subst h; simp [isAgg, run_underlying hd]
  · rename_i d hn1 hn2 hd
    simp at h; subst h
    simp only [isAgg, Sem.run_bind, run_underlying hd, Result.andThen_ok]
    cases d <;> first | rfl | exact (hn1 _ rfl).elim | exact (hn2 _ _ rfl).elim
  · cases h
theorem info_of_agg {t : TypeId} {b : Bool} (h : aggOf P t = some b) : ∃ i, P.info? t = some i := by
  unfold aggOf at h
  split at h
  · exact info_of_und (by assumption)
  · exact info_of_und (by assumption)
  · exact info_of_und (by assumption)
  · cases h
theorem run_zeroValue' {t : TypeId} {z : Value} (h : zeroOf P t = some z) (w : World) : (zeroValue t).run P w = .ok z w := by
  unfold zeroOf at h
  cases hi : P.info? t with
  | none => rw [hi] at h; cases h
  | some i =>
    rw [hi] at h
    simp only [Option.bind_some] at h
    simp [zeroValue, typeInfo, hi, h]
theorem info_of_zero {t : TypeId} {z : Value} (h : zeroOf P t = some z) : ∃ i, P.info? t = some i ∧ i.zero = some z := by
  unfold zeroOf at h
  cases hi : P.info? t with
  | none => rw [hi] at h; cases h
  | some i => rw [hi] at h; exact ⟨i, rfl, h⟩
end types

/-! ## Values -/
theorem den_ofCell (c : Cx) (v : Value) : den c (ofCell v) v := by
  unfold ofCell
  split
  all_goals first
    | (split
       · unfold den D.rep; exact ⟨rfl, by unfold maxLen; omega⟩
       · unfold den; trivial)
    | (unfold den D.rep; rfl)
    | (unfold den; rfl)
    | (unfold den; exact ⟨[], rfl, dens_nil⟩)
    | (unfold den; trivial)
theorem dens_ofCells (c : Cx) : ∀ vs : List Value, dens c (vs.map ofCell) vs
  | [] => dens_nil
  | v :: vs => dens_cons (den_ofCell c v) (dens_ofCells c vs)
theorem den_ofValue (c : Cx) (v : Value) : den c (ofValue v) v := by
  unfold ofValue
  split
  · rename_i cs
    unfold den
    exact ⟨cs.toList, rfl, dens_ofCells c cs.toList⟩
  · exact den_ofCell c v
theorem den_opd {c : Cx} {tm : List SV} {a : Act} (h : dens c tm a.tmps.toList) (x : Operand) : den c (opd tm x) (a.eval x) := by
  cases x with
  | tmp t =>
    have := dens_getD h t
    simpa [opd, Act.eval, Array.getD_eq_getD_getElem?] using this
  | const v => exact den_ofValue c v
  | global g => unfold opd den; trivial
  | func f =>
    unfold opd den
    exact ⟨[], rfl, dens_nil⟩
theorem dens_opds {c : Cx} {tm : List SV} {a : Act} (h : dens c tm a.tmps.toList) (xs : List Operand) : dens c (xs.map (opd tm)) (xs.map a.eval) := by
  induction xs with
  | nil => exact dens_nil
  | cons x xs ih => exact dens_cons (den_opd h x) ih

section
variable {P : Program}

/-! ## Numbers -/
theorem den_int {c : Cx} {k : IntKind} {n : Int} {v : Value} (h : den c (.d (.int k n)) v) : v = .int k n := by unfold den D.rep at h; exact h
theorem den_bool {c : Cx} {b : Bool} {v : Value} (h : den c (.d (.bool b)) v) : v = .bool b := by unfold den D.rep at h; exact h
theorem den_str {c : Cx} {l : List UInt8} {v : Value} (h : den c (.d (.str l)) v) : v = .string ⟨l.toArray⟩ ∧ l.length ≤ maxLen := by unfold den D.rep at h; exact h
theorem int_den (c : Cx) (k : IntKind) (n : Int) : den c (.d (.int k n)) (.int k n) := by unfold den D.rep; rfl
theorem bool_den (c : Cx) (b : Bool) : den c (.d (.bool b)) (.bool b) := by unfold den D.rep; rfl
theorem str_den (c : Cx) {l : List UInt8} (h : l.length ≤ maxLen) : den c (.d (.str l)) (.string ⟨l.toArray⟩) := by unfold den D.rep; exact ⟨rfl, h⟩
theorem toList_mk (l : List UInt8) : (⟨l.toArray⟩ : ByteArray).toList = l := by simp
theorem size_mk (l : List UInt8) : (⟨l.toArray⟩ : ByteArray).size = l.length := by simp [ByteArray.size]
theorem mk_append (a b : List UInt8) : ((⟨a.toArray⟩ : ByteArray) ++ ⟨b.toArray⟩) = ⟨(a ++ b).toArray⟩ := by
  apply ByteArray.ext; simp
theorem eqGuard_int {op : BinOp} {t : TypeId} {X Y : Operand} {k k' : IntKind} {a b : Int} (w : World) : (eqGuard op t X Y (.int k a) (.int k' b)).run P w = .ok () w := by
  unfold eqGuard; cases op <;> simp
theorem eqGuard_bool {op : BinOp} {t : TypeId} {X Y : Operand} {a b : Bool} (w : World) : (eqGuard op t X Y (.bool a) (.bool b)).run P w = .ok () w := by
  unfold eqGuard; cases op <;> simp
theorem eqGuard_str {op : BinOp} {t : TypeId} {X Y : Operand} {a b : ByteArray} (w : World) : (eqGuard op t X Y (.string a) (.string b)).run P w = .ok () w := by
  unfold eqGuard; cases op <;> simp
theorem isBool_und {t : TypeId} (h : isBool P t = true) : P.underlying t = some .bool := by
  unfold isBool at h; split at h <;> first | assumption | cases h
theorem isByte_und {t : TypeId} (h : isByte P t = true) : P.underlying t = some (.int .u8) := by
  unfold isByte at h; split at h <;> first | assumption | cases h
theorem isStr_und {t : TypeId} (h : isStr P t = true) : P.underlying t = some .string := by
  unfold isStr at h; split at h <;> first | assumption | cases h

theorem equalIn_bool {t : TypeId} (hu : P.underlying t = some .bool) (d : Nat) (a b : Bool) (w : World) : (Op.equalIn (d + 1) t (.bool a) (.bool b)).run P w = .ok (a == b) w := by
  simp [Op.equalIn, run_underlying hu]
theorem evBin_sound {c : Cx} {t : TypeId} {op : BinOp} {x y : SV} {k : SV → Prop} {X Y : Operand} {vx vy : Value} (h : evBin P t op x y k) (hx : den c x vx) (hy : den c y vy) :
    ∃ u r, (do eqGuard op t X Y vx vy; binOp op t vx vy : Sem Value).run P c.w = .ok u c.w ∧ k r ∧ den c r u := by
  unfold evBin at h
  split at h
  · obtain rfl := den_int hx; obtain rfl := den_int hy
    obtain ⟨hb, hk⟩ := BR_not h
    exact ⟨_, _, by simp [Sem.run_bind, eqGuard_int, binOp, Op.shift, hb], hk, int_den c _ _⟩
  · obtain rfl := den_int hx; obtain rfl := den_int hy
    obtain ⟨hb, hk⟩ := BR_not h
    exact ⟨_, _, by simp [Sem.run_bind, eqGuard_int, binOp, Op.shift, hb], hk, int_den c _ _⟩
  · obtain rfl := den_int hx; obtain rfl := den_int hy
    rename_i kk a kk' b hn1 hn2
    by_cases hkk : kk = kk'
    · subst hkk
      rw [if_neg (by simp)] at h
      cases op <;> simp only at h
      case add => exact ⟨_, _, by simp [Sem.run_bind, eqGuard_int, binOp, Op.intArith], h, int_den c _ _⟩
      case sub => exact ⟨_, _, by simp [Sem.run_bind, eqGuard_int, binOp, Op.intArith], h, int_den c _ _⟩
      case mul => exact ⟨_, _, by simp [Sem.run_bind, eqGuard_int, binOp, Op.intArith], h, int_den c _ _⟩
      case quo =>
        obtain ⟨hb, hk⟩ := BR_not h
        exact ⟨_, _, by simp [Sem.run_bind, eqGuard_int, binOp, Op.intDiv, hb], hk, int_den c _ _⟩
      case rem =>
        obtain ⟨hb, hk⟩ := BR_not h
        exact ⟨_, _, by simp [Sem.run_bind, eqGuard_int, binOp, Op.intDiv, hb], hk, int_den c _ _⟩
      case and => exact ⟨_, _, by simp [Sem.run_bind, eqGuard_int, binOp, intBits_and], h, int_den c _ _⟩
      case or => exact ⟨_, _, by simp [Sem.run_bind, eqGuard_int, binOp, intBits_or], h, int_den c _ _⟩
      case xor => exact ⟨_, _, by simp [Sem.run_bind, eqGuard_int, binOp, intBits_xor], h, int_den c _ _⟩
      case andNot => exact ⟨_, _, by simp [Sem.run_bind, eqGuard_int, binOp, intBits_andNot], h, int_den c _ _⟩
      case eql => exact ⟨_, _, by simp [Sem.run_bind, eqGuard_int, binOp, Op.intCmp]; rfl, h, bool_den c _⟩
      case neq => exact ⟨_, _, by simp [Sem.run_bind, eqGuard_int, binOp, Op.intCmp, bne]; rfl, h, bool_den c _⟩
      case lss => exact ⟨_, _, by simp [Sem.run_bind, eqGuard_int, binOp, Op.intCmp], h, bool_den c _⟩
      case leq => exact ⟨_, _, by simp [Sem.run_bind, eqGuard_int, binOp, Op.intCmp], h, bool_den c _⟩
      case gtr => exact ⟨_, _, by simp [Sem.run_bind, eqGuard_int, binOp, Op.intCmp], h, bool_den c _⟩
      case geq => exact ⟨_, _, by simp [Sem.run_bind, eqGuard_int, binOp, Op.intCmp], h, bool_den c _⟩
      all_goals exact h.elim
    · rw [if_pos hkk] at h; exact h.elim
  · obtain rfl := den_bool hx; obtain rfl := den_bool hy
    split at h
    · rename_i hb
      exact ⟨_, _, by simp only [Sem.run_bind, eqGuard_bool, binOp, Op.equal, Op.maxDepth, equalIn_bool (isBool_und hb) 9999, Result.andThen_ok, Sem.run_pure], h, bool_den c _⟩
    · exact h.elim
  · obtain rfl := den_bool hx; obtain rfl := den_bool hy
    split at h
    · rename_i hb
      exact ⟨_, _, by simp only [Sem.run_bind, eqGuard_bool, binOp, Op.equal, Op.maxDepth, equalIn_bool (isBool_und hb) 9999, Result.andThen_ok, Sem.run_pure], h, bool_den c _⟩
    · exact h.elim
  · obtain ⟨rfl, _⟩ := den_str hx; obtain ⟨rfl, _⟩ := den_str hy
    exact ⟨_, _, by simp [Sem.run_bind, eqGuard_str, binOp, Op.stringOp, toList_mk], h, bool_den c _⟩
  · obtain ⟨rfl, _⟩ := den_str hx; obtain ⟨rfl, _⟩ := den_str hy
    exact ⟨_, _, by simp [Sem.run_bind, eqGuard_str, binOp, Op.stringOp, toList_mk], h, bool_den c _⟩
  · obtain ⟨rfl, ha⟩ := den_str hx; obtain ⟨rfl, hb⟩ := den_str hy
    obtain ⟨hl, hk⟩ := BR_req h
    rename_i a b
    refine ⟨_, _, ?_, hk, str_den c (by unfold maxLen; simp; omega)⟩
    have hi : ¬ (((a.length + b.length : Nat) : Int) > IntKind.i64.max) := by simp [IntKind.max, IntKind.bits, IntKind.signed]; omega
    simp only [Sem.run_bind, eqGuard_str, Result.andThen_ok, binOp, Op.stringOp, size_mk, if_neg hi, Sem.run_pure, mk_append]
  · exact h.elim
theorem evUn_sound {c : Cx} {op : UnOp} {x : SV} {k : SV → Prop} {v : Value} (h : evUn op x k) (hx : den c x v) : ∃ u r, (Op.unary op v).run P c.w = .ok u c.w ∧ k r ∧ den c r u := by
  unfold evUn at h
  split at h
  · obtain rfl := den_int hx
    exact ⟨_, _, by simp [Op.unary, Op.intArith], h, int_den c _ _⟩
  · obtain rfl := den_int hx
    exact ⟨_, _, by simp [Op.unary, intBits_xor], h, int_den c _ _⟩
  · obtain rfl := den_bool hx
    exact ⟨_, _, by simp [Op.unary], h, bool_den c _⟩
  · exact h.elim

/-! ## Memory is read -/
theorem fix_blk {c0 c : Cx} (hm : Mem c0 c) {j b : Nat} {ty : TypeId} {cells : List SV} (hj : c.hp[j]? = some (.fix ty cells)) (hl : (c.ρ[j]?).bind Loc.ptrAt = some b) : c.ρ[j]? = some (.blk b) := by
  cases e : c.ρ[j]? with
  | none => rw [e] at hl; cases hl
  | some l =>
    obtain ⟨b', cs, fr, he, _⟩ := hm.obs j _ _ hj e
    subst he
    rw [e] at hl
    cases hl; rfl
theorem arr_blk {c0 c : Cx} (hm : Mem c0 c) {j b n : Nat} {ty : TypeId} {get : Nat → D} (hj : c.hp[j]? = some (.arr ty n get)) (hl : (c.ρ[j]?).bind Loc.ptrAt = some b) : c.ρ[j]? = some (.blk b) := by
  cases e : c.ρ[j]? with
  | none => rw [e] at hl; cases hl
  | some l =>
    obtain ⟨b', cs, fr, he, _⟩ := hm.obs j _ _ hj e
    subst he
    rw [e] at hl
    cases hl; rfl
theorem mem_ro {c0 c : Cx} (hm : Mem c0 c) {j b : Nat} {ty : TypeId} {cells : List SV} (hj : c.hp[j]? = some (.ro ty cells)) (hl : (c.ρ[j]?).bind Loc.ptrAt = some b) :
    ∃ cs fr, c.w.heap[b]? = some (.cells cs ty fr) ∧ dens c cells cs.toList := by
  cases e : c.ρ[j]? with
  | none => rw [e] at hl; cases hl
  | some l =>
    obtain ⟨b', cs, fr, he, _, h1, h2⟩ := hm.obs j _ _ hj e
    subst he
    rw [e] at hl
    cases hl
    exact ⟨cs, fr, h1, h2⟩
theorem mem_fix {c0 c : Cx} (hm : Mem c0 c) {j b : Nat} {ty : TypeId} {cells : List SV} (hj : c.hp[j]? = some (.fix ty cells)) (hl : (c.ρ[j]?).bind Loc.ptrAt = some b) :
    ∃ cs fr, c.w.heap[b]? = some (.cells cs ty fr) ∧ Unfrozen cs.size fr ∧ dens c cells cs.toList ∧ ∀ x ∈ cells, storable x = true := by
  obtain ⟨b', cs, fr, he, h1, h2, h3, h4⟩ := hm.obs j _ _ hj (fix_blk hm hj hl)
  cases he
  exact ⟨cs, fr, h1, h2, h3, h4⟩
theorem mem_arr {c0 c : Cx} (hm : Mem c0 c) {j b n : Nat} {ty : TypeId} {get : Nat → D} (hj : c.hp[j]? = some (.arr ty n get)) (hl : (c.ρ[j]?).bind Loc.ptrAt = some b) :
    ∃ cs fr, c.w.heap[b]? = some (.cells cs ty fr) ∧ Unfrozen cs.size fr ∧ cs.size = n ∧ ∀ i, i < n → ∃ u, cs[i]? = some u ∧ (get i).rep c.w c.ok u := by
  obtain ⟨b', cs, fr, he, h1, h2, h3, h4⟩ := hm.obs j _ _ hj (arr_blk hm hj hl)
  cases he
  exact ⟨cs, fr, h1, h2, h3, h4⟩
theorem mem_row {c0 c : Cx} (hm : Mem c0 c) {j v : Nat} {ty : TypeId} {r : RC} {A : Option (Nat × Nat)} {cap : Nat} (hj : c.hp[j]? = some (.row v ty r)) (hl : c.ρ[j]? = some (.row A cap)) :
    r.len ≤ cap ∧ cap ≤ maxLen ∧ 0 < r.sz ∧ (A = none → cap = 0) ∧
      ∀ b o, A = some (b, o) → ∃ cs fr, c.w.heap[b]? = some (.cells cs ty fr) ∧ Unfrozen cs.size fr ∧ o + cap * r.sz ≤ cs.size ∧
        ∀ i, i < r.len → ∀ j, j < r.sz → ∃ u, cs[o + i * r.sz + j]? = some u ∧ (r.cell i j).rep c.w c.ok u := by
  obtain ⟨A', cap', he, h1, h2, h3, h4, h5⟩ := hm.obs j _ _ hj hl
  cases he
  exact ⟨h1, h2, h3, h4, h5⟩
theorem rowAt_some {hp : List Ob} {j ver : Nat} {r : RC} (h : rowAt hp j ver = some r) : ∃ t, hp[j]? = some (.row ver t r) := by
  unfold rowAt at h
  split at h
  · rename_i v t r' hj
    split at h
    · rename_i hv; subst hv; cases h; exact ⟨t, hj⟩
    · cases h
  · cases h
theorem run_loadVar_agg {t : TypeId} (ha : aggOf P t = some true) (w : World) (b o : Nat) (cs : List Value) (hn : cs.length = szOf P t) (hc : ∀ (j : Nat) (v : Value), cs[j]? = some v → w.cell? ⟨b, o + j, none⟩ = some v) :
    (loadVar t ⟨b, o, none⟩).run P w = .ok (.agg ⟨cs⟩) w := by
  obtain ⟨i, hi⟩ := info_of_agg ha
  have := run_loadCells_list (P := P) w ⟨b, o, none⟩ cs (fun j v hj => by rw [add_none]; exact hc j v hj)
  rw [hn] at this
  simp [loadVar, run_isAgg' ha, run_sizeOf' hi, this]
theorem run_loadVar_one {t : TypeId} (ha : aggOf P t = some false) (w : World) (a : Addr) (v : Value) (hc : w.cell? a = some v) :
    (loadVar t a).run P w = .ok v w := by
  simp [loadVar, run_isAgg' ha, hc]
theorem cells_exist {n : Nat} {f : Nat → Option Value} {R : Nat → Value → Prop} (h : ∀ j, j < n → ∃ u, f j = some u ∧ R j u) :
    ∃ cs : List Value, cs.length = n ∧ ∀ (j : Nat) (v : Value), cs[j]? = some v → f j = some v ∧ R j v := by
  induction n with
  | zero => exact ⟨[], rfl, fun j v hj => by simp at hj⟩
  | succ n ih =>
    obtain ⟨cs, hl, hc⟩ := ih (fun j hj => h j (by omega))
    obtain ⟨u, hu, hr⟩ := h n (by omega)
    refine ⟨cs ++ [u], by simp [hl], fun j v hj => ?_⟩
    by_cases hjn : j < cs.length
    · rw [List.getElem?_append_left hjn] at hj; exact hc j v hj
    · have : j = cs.length := by have := (List.getElem?_eq_some_iff.1 hj).1; simp at this; omega
      subst this
      simp at hj
      subst hj
      rw [hl]
      exact ⟨hu, hr⟩
theorem dens_range {c : Cx} {n : Nat} {g : Nat → D} {cs : List Value} (hl : cs.length = n) (h : ∀ (j : Nat) (v : Value), cs[j]? = some v → (g j).rep c.w c.ok v) :
    dens c ((List.range n).map fun m => .d (g m)) cs := by
  refine dens_of_get (by simp [hl]) fun i x v hx hv => ?_
  rw [List.getElem?_map] at hx
  have hi : i < n := by rw [← hl]; exact (List.getElem?_eq_some_iff.1 hv).1
  rw [List.getElem?_range hi] at hx
  simp at hx
  subst hx
  unfold den
  exact h i v hv
theorem evLoad_sound {c0 c : Cx} (hm : Mem c0 c) {t : TypeId} {x : SV} {k : SV → Prop} {v : Value} (h : evLoad P c.hp t x k) (hx : den c x v) :
    ∃ u r, (Instr.loadAt t v).run P c.w = .ok u c.w ∧ k r ∧ den c r u := by
  have key : ∀ a u, (loadVar t a).run P c.w = .ok u c.w → (Instr.loadAt t (.pointer (some a))).run P c.w = .ok u c.w := fun a u hu => by
    simp [Instr.loadAt, Instr.sureAddr, hu]
  unfold evLoad at h
  split at h
  · -- a known block
    rename_i j off
    unfold den at hx
    obtain ⟨b, hb, rfl⟩ := hx
    split at h
    · rename_i ty cells hj ha
      obtain ⟨cs, fr, h1, _, h3, _⟩ := mem_fix hm hj hb
      split at h
      · rename_i hle
        have hl := dens_length h3
        refine ⟨_, _, key _ _ (run_loadVar_agg ha c.w b off ((cs.toList.drop off).take (szOf P t)) (by simp at hl ⊢; omega) (fun i u hi => ?_)), h, ?_⟩
        · rw [cell?_of h1]
          rw [List.getElem?_take] at hi
          split at hi
          · rw [List.getElem?_drop] at hi; simpa using hi
          · cases hi
        · unfold den; exact ⟨_, rfl, dens_take (dens_drop h3 _) _⟩
      · exact h.elim
    · rename_i ty cells hj ha
      obtain ⟨cs, fr, h1, _, h3, _⟩ := mem_fix hm hj hb
      split at h
      · rename_i x hx
        obtain ⟨u, hu, hd⟩ := dens_get h3 off x hx
        exact ⟨u, x, key _ _ (run_loadVar_one ha c.w _ u (by rw [cell?_of h1]; simpa using hu)), h, hd⟩
      · exact h.elim
    · rename_i ty n get hj ha
      obtain ⟨cs, fr, h1, _, h3, h4⟩ := mem_arr hm hj hb
      split at h
      · rename_i hc
        obtain ⟨rfl, hsz⟩ := hc
        refine ⟨_, _, key _ _ (run_loadVar_agg ha c.w b 0 cs.toList (by simp [h3, hsz]) (fun i u hi => ?_)), h, ?_⟩
        · rw [cell?_of h1]; simpa using hi
        · unfold den
          refine ⟨_, rfl, by simp [h3], fun i hi => ?_⟩
          obtain ⟨u, hu, hr⟩ := h4 i hi
          exact ⟨u, by simpa using hu, hr⟩
      · exact h.elim
    · rename_i ty cells hj ha
      obtain ⟨cs, fr, h1, h3⟩ := mem_ro hm hj hb
      split at h
      · rename_i hle
        have hl := dens_length h3
        refine ⟨_, _, key _ _ (run_loadVar_agg ha c.w b off ((cs.toList.drop off).take (szOf P t)) (by simp at hl ⊢; omega) (fun i u hi => ?_)), h, ?_⟩
        · rw [cell?_of h1]
          rw [List.getElem?_take] at hi
          split at hi
          · rw [List.getElem?_drop] at hi; simpa using hi
          · cases hi
        · unfold den; exact ⟨_, rfl, dens_take (dens_drop h3 _) _⟩
      · exact h.elim
    · rename_i ty cells hj ha
      obtain ⟨cs, fr, h1, h3⟩ := mem_ro hm hj hb
      split at h
      · rename_i x hx
        obtain ⟨u, hu, hd⟩ := dens_get h3 off x hx
        exact ⟨u, x, key _ _ (run_loadVar_one ha c.w _ u (by rw [cell?_of h1]; simpa using hu)), h, hd⟩
      · exact h.elim
    · exact h.elim
  · rename_i j i
    unfold den at hx
    obtain ⟨⟨t', n', g', hj', hi⟩, b, hb, rfl⟩ := hx
    split at h
    · rename_i ty n get hj ha
      rw [hj] at hj'
      cases hj'
      obtain ⟨cs, fr, h1, _, h3, h4⟩ := mem_arr hm hj hb
      obtain ⟨u, hu, hr⟩ := h4 i hi
      exact ⟨u, _, key _ _ (run_loadVar_one ha c.w _ u (by rw [cell?_of h1]; exact hu)), h, by unfold den; exact hr⟩
    · exact h.elim
  · rename_i j ver i off
    unfold den at hx
    obtain ⟨_, _, hx⟩ := hx
    split at h
    · rename_i r hr ha
      obtain ⟨ty, hj⟩ := rowAt_some hr
      obtain ⟨_, hx⟩ := hx _ _ _ hj
      obtain ⟨hi, b, o, cap, hl, rfl⟩ := hx rfl
      obtain ⟨g1, g2, g3, g4, g5⟩ := mem_row hm hj hl
      obtain ⟨cs, fr, q1, _, _, q4⟩ := g5 b o rfl
      split at h
      · rename_i hle
        obtain ⟨vs, hvl, hvs⟩ := cells_exist (n := szOf P t) (f := fun m => cs[o + i * r.sz + off + m]?) (R := fun m u => (r.cell i (off + m)).rep c.w c.ok u) (fun m hm' => by
          obtain ⟨u, hu, hr'⟩ := q4 i hi (off + m) (by omega)
          exact ⟨u, by rw [← hu]; congr 1; omega, hr'⟩)
        refine ⟨_, _, key _ _ (run_loadVar_agg ha c.w b _ vs hvl (fun m u hm' => ?_)), h, ?_⟩
        · rw [cell?_of q1]; exact (hvs m u hm').1
        · unfold den; exact ⟨_, rfl, dens_range hvl fun m u hm' => (hvs m u hm').2⟩
      · exact h.elim
    · rename_i r hr ha
      obtain ⟨ty, hj⟩ := rowAt_some hr
      obtain ⟨_, hx⟩ := hx _ _ _ hj
      obtain ⟨hi, b, o, cap, hl, rfl⟩ := hx rfl
      obtain ⟨g1, g2, g3, g4, g5⟩ := mem_row hm hj hl
      obtain ⟨cs, fr, q1, _, _, q4⟩ := g5 b o rfl
      split at h
      · rename_i hle
        obtain ⟨u, hu, hr'⟩ := q4 i hi off hle
        exact ⟨u, _, key _ _ (run_loadVar_one ha c.w _ u (by rw [cell?_of q1]; exact hu)), h, by unfold den; exact hr'⟩
      · exact h.elim
    · exact h.elim
  · rename_i l i
    unfold den at hx
    obtain ⟨b, o, rfl, _, hc⟩ := hx
    split at h
    · rename_i ha
      exact ⟨_, _, key _ _ (run_loadVar_one ha c.w _ _ hc), h, int_den c _ _⟩
    · exact h.elim
  · rename_i sz get off
    unfold den at hx
    obtain ⟨b, o, rfl, _, hc⟩ := hx
    split at h
    · rename_i ha
      split at h
      · rename_i hle
        obtain ⟨vs, hvl, hvs⟩ := cells_exist (n := szOf P t) (f := fun m => c.w.cell? ⟨b, o + off + m, none⟩) (R := fun m u => (get (off + m)).rep c.w c.ok u) (fun m hm' => by
          obtain ⟨u, hu, hr'⟩ := hc (off + m) (by omega)
          exact ⟨u, by rw [← hu]; congr 2; omega, hr'⟩)
        refine ⟨_, _, key _ _ (run_loadVar_agg ha c.w b _ vs hvl (fun m u hm' => (hvs m u hm').1)), h, ?_⟩
        unfold den; exact ⟨_, rfl, dens_range hvl fun m u hm' => (hvs m u hm').2⟩
      · exact h.elim
    · rename_i ha
      split at h
      · rename_i hle
        obtain ⟨u, hu, hr'⟩ := hc off hle
        exact ⟨u, _, key _ _ (run_loadVar_one ha c.w _ u hu), h, by unfold den; exact hr'⟩
      · exact h.elim
    · exact h.elim
  · exact h.elim

end
end Go.Proofs.Ytmadffhjgbpojaa.Sx

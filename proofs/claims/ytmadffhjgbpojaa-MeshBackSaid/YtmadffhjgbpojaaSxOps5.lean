/- Sx: conversions and append. -/
import Derived.Test.YtmadffhjgbpojaaSxOps4
namespace Go.Proofs.Ytmadffhjgbpojaa.Sx
open Go
section
variable {P : Program}

theorem sub_len {r : RC} {lo hi : Nat} (h2 : hi ≤ r.len) : (r.sub lo hi).len = hi - lo := by
  cases r with
  | bytes l => simp only [RC.len] at h2; simp [RC.sub, RC.len]; omega
  | list sz n g => rfl
theorem sub_sz {r : RC} {lo hi : Nat} : (r.sub lo hi).sz = r.sz := by cases r <;> rfl
theorem sub_cell {r : RC} {lo hi i j : Nat} (h1 : i < hi - lo) : (r.sub lo hi).cell i j = r.cell (lo + i) j := by
  cases r with
  | bytes l =>
    simp only [RC.sub, RC.cell, List.getD_eq_getElem?_getD, List.getElem?_drop, List.getElem?_take]
    rw [if_pos (by omega)]
  | list sz n g => rfl
theorem nmRC_elim {c : RC} {k : RC → Prop} (h : nmRC c k) : k c := by
  cases c with
  | bytes l => exact h _ rfl
  | list sz n g => exact h
/-- What a slice shows, in memory. -/
structure Shows (c : Cx) (rc : RC) (A : Option Addr) (cap : Nat) : Prop where
  le : rc.len ≤ cap
  max : cap ≤ maxLen
  cells : 0 < rc.len → ∃ b o, A = some ⟨b, o, none⟩ ∧ ∀ i, i < rc.len → ∀ j, j < rc.sz → ∃ u, c.w.cell? ⟨b, o + i * rc.sz + j, none⟩ = some u ∧ (rc.cell i j).rep c.w c.ok u
theorem rowOf_sound {c0 c : Cx} (hm : Mem c0 c) {e : TypeId} {x : SV} {rc : RC} {v : Value} (h : rowOf P c.hp e x = some rc) (hx : den c x v) :
    (∃ A cap, v = .slice A rc.len cap ∧ Shows c rc A cap) ∨ (∃ l, rc = .bytes l ∧ v = .string ⟨l.toArray⟩ ∧ l.length ≤ maxLen) := by
  unfold rowOf at h
  split at h
  · unfold den at hx
    subst hx
    have hl : rc.len = 0 := by
      split at h <;> cases h <;> rfl
    exact .inl ⟨none, 0, by rw [hl], ⟨by omega, by unfold maxLen; omega, fun h => by omega⟩⟩
  · cases h
    unfold den at hx
    obtain ⟨A, cap, rfl, h1, h2, h3⟩ := hx
    refine .inl ⟨A, cap, rfl, ⟨h1, h2, fun hp => ?_⟩⟩
    obtain ⟨b, o, hA, _, hc⟩ := h3 hp
    refine ⟨b, o, hA, fun i hi j hj => ?_⟩
    simp only [RC.sz, RC.len] at hi hj ⊢
    obtain rfl : j = 0 := by omega
    exact ⟨_, by rw [Nat.mul_one, Nat.add_zero]; exact hc i hi, rfl⟩
  · cases h
    unfold den at hx
    obtain ⟨A, cap, rfl, h1, h2, h3⟩ := hx
    refine .inl ⟨A, cap, rfl, ⟨h1, h2, fun hp => ?_⟩⟩
    obtain ⟨b, o, hA, _, hc⟩ := h3 hp
    exact ⟨b, o, hA, fun i hi j hj => hc i hi j hj⟩
  · cases h
    obtain ⟨rfl, hl⟩ := den_str hx
    exact .inr ⟨_, rfl, rfl, hl⟩
  · rename_i j ver lo hi
    cases hr : rowAt c.hp j ver with
    | none => rw [hr] at h; cases h
    | some r =>
      rw [hr] at h
      cases h
      obtain ⟨ty, A, cap, hj, l1, l2, hlc, A', rfl, hA⟩ := den_view hx hr
      obtain ⟨g1, g2, g3, g4, g5⟩ := mem_row hm hj hlc
      refine .inl ⟨A', cap - lo, by rw [sub_len l2], ⟨by rw [sub_len l2]; omega, by omega, fun hp => ?_⟩⟩
      rw [sub_len l2] at hp
      obtain ⟨b, o, rfl, rfl⟩ := hA (by omega)
      obtain ⟨cs, fr, q1, q2, q3, q4⟩ := g5 b o rfl
      refine ⟨b, o + lo * r.sz, rfl, fun i hi j hj => ?_⟩
      rw [sub_len l2] at hi
      rw [sub_sz] at hj ⊢
      rw [sub_cell hi]
      obtain ⟨u, hu, hr'⟩ := q4 (lo + i) (by omega) j hj
      refine ⟨u, ?_, hr'⟩
      rw [cell?_of q1, ← hu, Nat.add_mul]
      congr 1; omega
  · cases h
/-- The cells that a slice shows, read. -/
theorem Shows.read {c : Cx} {rc : RC} {A : Option Addr} {cap : Nat} (h : Shows c rc A cap) (hsz : 0 < rc.sz) :
    ∃ cs : List Value, (∀ n c', (Builtin.firstCells rc.sz rc.len (.slice A n c')).run P c.w = .ok ⟨cs⟩ c.w) ∧ cs.length = rc.len * rc.sz ∧ (∀ v ∈ cs, v.oneCell' = true) ∧
      ∀ i, i < rc.len → ∀ j, j < rc.sz → ∃ u, cs[i * rc.sz + j]? = some u ∧ (rc.cell i j).rep c.w c.ok u := by
  by_cases h0 : 0 < rc.len
  · obtain ⟨b, o, rfl, hc⟩ := h.cells h0
    obtain ⟨cs, hl, hcs⟩ := cells_exist (n := rc.len * rc.sz) (f := fun m => c.w.cell? ⟨b, o + m, none⟩) (R := fun m u => (rc.cell (m / rc.sz) (m % rc.sz)).rep c.w c.ok u) (fun m hm => by
      have h1 : m / rc.sz < rc.len := Nat.div_lt_of_lt_mul (by rw [Nat.mul_comm]; exact hm)
      have h2 : m % rc.sz < rc.sz := Nat.mod_lt _ hsz
      obtain ⟨u, hu, hr⟩ := hc _ h1 _ h2
      refine ⟨u, ?_, hr⟩
      rw [← hu]
      have := Nat.div_add_mod m rc.sz
      rw [Nat.mul_comm] at this
      congr 2; omega)
    refine ⟨cs, fun n c' => ?_, hl, fun v hv => ?_, fun i hi j hj => ?_⟩
    · have := run_loadCells_list (P := P) c.w ⟨b, o, none⟩ cs (fun j v hj => by rw [add_none]; exact (hcs j v hj).1)
      rw [hl] at this
      simpa [Builtin.firstCells] using this
    · obtain ⟨i, hi⟩ := List.getElem?_of_mem hv
      exact (rep_oneCell (hcs i v hi).2).1
    · have hlt : i * rc.sz + j < cs.length := by rw [hl]; exact pos_lt hi hj
      have := (hcs _ _ (List.getElem?_eq_getElem hlt)).2
      refine ⟨_, List.getElem?_eq_getElem hlt, ?_⟩
      have e1 : (i * rc.sz + j) / rc.sz = i := by
        rw [Nat.mul_comm, Nat.mul_add_div hsz, Nat.div_eq_of_lt hj, Nat.add_zero]
      have e2 : (i * rc.sz + j) % rc.sz = j := by
        rw [Nat.mul_comm, Nat.mul_add_mod]; exact Nat.mod_eq_of_lt hj
      rw [e1, e2] at this
      exact this
  · have hz : rc.len = 0 := by omega
    refine ⟨[], fun n c' => ?_, by simp [hz], (fun v hv => by cases hv), fun i hi => by omega⟩
    cases A with
    | none => rfl
    | some a => simp [Builtin.firstCells, hz, loadCells, loadCellsFrom]
/-- Likewise, of a string too: what append takes. -/
theorem src_read {c0 c : Cx} (hm : Mem c0 c) {e : TypeId} {x : SV} {rc : RC} {v : Value} (h : rowOf P c.hp e x = some rc) (hx : den c x v) (hsz : 0 < rc.sz) :
    (Builtin.lenOf v).run P c.w = .ok rc.len c.w ∧ ∃ cs : List Value, (Builtin.firstCells rc.sz rc.len v).run P c.w = .ok ⟨cs⟩ c.w ∧ cs.length = rc.len * rc.sz ∧ (∀ v ∈ cs, v.oneCell' = true) ∧
      ∀ i, i < rc.len → ∀ j, j < rc.sz → ∃ u, cs[i * rc.sz + j]? = some u ∧ (rc.cell i j).rep c.w c.ok u := by
  rcases rowOf_sound hm h hx with ⟨A, cap, rfl, hs⟩ | ⟨l, rfl, rfl, hl⟩
  · obtain ⟨cs, h1, h2, h3, h4⟩ := hs.read (P := P) hsz
    exact ⟨rfl, cs, h1 _ _, h2, h3, h4⟩
  · refine ⟨by simp [Builtin.lenOf, RC.len, size_mk], l.map (fun b => .int .u8 (b.toNat : Int)), ?_, by simp [RC.len, RC.sz], fun v hv => ?_, fun i hi j hj => ?_⟩
    · simp only [Builtin.firstCells, RC.len, extract_mk, List.take_length, List.drop_zero, Sem.run_pure]
      simp
    · simp at hv; obtain ⟨b, _, rfl⟩ := hv; rfl
    · simp only [RC.len, RC.sz] at hi hj
      obtain rfl : j = 0 := by omega
      simp only [RC.sz, Nat.mul_one, Nat.add_zero]
      exact ⟨.int .u8 (l[i].toNat : Int), by simp [hi], by simp [RC.cell, D.rep, List.getD, hi]⟩

/-! ## Conversions -/
theorem fold_push (l : List UInt8) : ∀ acc : List UInt8, ((l.map fun b => (b.toNat : Int)).foldl (fun (r : ByteArray) n => r.push (UInt8.ofNat n.toNat)) ⟨acc.toArray⟩) = ⟨(acc ++ l).toArray⟩ := by
  induction l with
  | nil => intro acc; simp
  | cons x l ih =>
    intro acc
    simp only [List.map_cons, List.foldl_cons]
    have : (⟨acc.toArray⟩ : ByteArray).push (UInt8.ofNat ((x.toNat : Int)).toNat) = ⟨(acc ++ [x]).toArray⟩ := by
      apply ByteArray.ext; simp [ByteArray.push]
    rw [this, ih]; simp
theorem freeze_here {w : World} {b n : Nat} {cs : Array Value} {t : TypeId} {fr : Nat × Nat} (h : w.heap[b]? = some (.cells cs t fr)) :
    (w.freeze ⟨b, n, none⟩ 1).heap[b]? = some (.cells cs t (if fr.1 = fr.2 then (n, n + 1) else (min fr.1 n, max fr.2 (n + 1)))) := by
  obtain ⟨f1, f2⟩ := fr
  have e : (w.freeze ⟨b, n, none⟩ 1).heap = w.heap.modify b fun
      | .cells c elem (lo, hi) => .cells c elem (if lo == hi then (n, n + 1) else (min lo n, max hi (n + 1)))
      | o => o := rfl
  rw [e, Array.getElem?_modify, if_pos rfl, h]
  simp
theorem freeze_other {w : World} {b n i : Nat} (h : i ≠ b) : (w.freeze ⟨b, n, none⟩ 1).heap[i]? = w.heap[i]? := by
  have e : (w.freeze ⟨b, n, none⟩ 1).heap = w.heap.modify b fun
      | .cells c elem (lo, hi) => .cells c elem (if lo == hi then (n, n + 1) else (min lo n, max hi (n + 1)))
      | o => o := rfl
  rw [e, Array.getElem?_modify, if_neg (Ne.symm h)]
theorem freeze_size {w : World} {b n : Nat} : (w.freeze ⟨b, n, none⟩ 1).heap.size = w.heap.size := by simp [World.freeze]
theorem evConvert_sound {c0 c : Cx} (hm : Mem c0 c) {pl : Option Nat} {src dst : TypeId} {x : SV} {k : SV → List Ob → Prop} {v : Value} (h : evConvert P pl c.hp src dst x k) (hx : den c x v) : Made P c0 c k (convert src dst v) := by
  unfold evConvert at h
  split at h
  · rename_i k1 kk k2 n hs hd
    obtain rfl := den_int hx
    exact .of_pure hm ⟨_, _, by simp [convert, run_underlying hs, run_underlying hd, Conv.intToInt], h, int_den c _ _⟩
  · rename_i l hs hd
    obtain ⟨rfl, hl⟩ := den_str hx
    exact .of_pure hm ⟨_, _, by simp [convert, run_underlying hs, run_underlying hd], h, str_den c hl⟩
  · rename_i e hs hd
    split at h
    · rename_i hb
      have hb' := isByte_und hb
      split at h
      · rename_i l hr
        refine .of_pure hm ?_
        rcases rowOf_sound hm hr hx with ⟨A, cap, rfl, hsh⟩ | ⟨l', he, rfl, hl⟩
        · refine ⟨.string ⟨l.toArray⟩, _, ?_, h, str_den c (Nat.le_trans hsh.le hsh.max)⟩
          have h0 : (convert src dst (.slice A (RC.bytes l).len cap)).run P c.w = (Conv.bytesToString (.slice A (RC.bytes l).len cap)).run P c.w := by
            simp [convert, run_underlying hs, run_underlying hd, run_underlying hb']
          rw [h0]
          cases A with
          | none =>
            have : l = [] := by
              cases l with
              | nil => rfl
              | cons a l => obtain ⟨b, o, hA, _⟩ := hsh.cells (by simp [RC.len]); cases hA
            subst this
            rfl
          | some a =>
            have hload : (loadCells a l.length).run P c.w = .ok ((l.map fun b => (b.toNat : Int)).map (Value.int .u8)).toArray c.w := by
              have := run_loadCells_list (P := P) c.w a ((l.map fun b => (b.toNat : Int)).map (Value.int .u8)) (fun j u hj => by
                have hlt : j < l.length := by have := (List.getElem?_eq_some_iff.1 hj).1; simpa using this
                obtain ⟨b, o, hA, hc⟩ := hsh.cells (by simp [RC.len]; omega)
                cases hA
                obtain ⟨u', hu', hr'⟩ := hc j hlt 0 (by simp [RC.sz])
                simp only [RC.cell, RC.sz, Nat.mul_one, Nat.add_zero] at hu' hr'
                rw [add_none, hu']
                simp [hlt] at hj
                rw [← hj, hr']
                simp [List.getD, hlt])
              simpa using this
            rw [show (RC.bytes l).len = l.length from rfl, run_bytesToString c.w a l.length cap _ hload]
            have := fold_push l []
            simp only [List.nil_append] at this
            rw [← this]
            rfl
        · cases he
          exact ⟨_, _, by simp [convert, run_underlying hs, run_underlying hd], h, str_den c hl⟩
      · exact h.elim
    · exact h.elim
  · rename_i e l hs hd
    split at h
    · rename_i hb
      obtain ⟨hpl, hb⟩ := hb
      have hb' := isByte_und hb
      obtain ⟨rfl, hl⟩ := den_str hx
      have hcap : ∃ cap, l.length ≤ cap ∧ cap ≤ maxLen ∧ (choose (.appendCap l.length 0 e)).run P c.w = .ok cap { c.w with drawn := c.w.drawn + 1 } := by
        refine ⟨_, ?_, ?_, by simp [Question.forced]; rfl⟩
        · simp [Question.cut]
        · simp only [Question.cut]
          unfold maxLen at hl ⊢
          have := Nat.mod_lt (c.w.tape c.w.drawn (.appendCap l.length 0 e)) (show 0 < 2 ^ 63 - l.length by omega)
          omega
      obtain ⟨cap, hc1, hc2, hch⟩ := hcap
      let cs : Array Value := (l.map fun b => Value.int .u8 (b.toNat : Int)).toArray ++ Array.replicate (cap - l.length) (.int .u8 0)
      have hsize : cs.size = cap := by simp [cs]; omega
      let w1 : World := { c.w with heap := c.w.heap.push (.cells cs e), drawn := c.w.drawn + 1 }
      have hn1 : New c.w (.cells cs e) w1 := New.push_drew _ _ _
      let w' : World := w1.freeze ⟨c.w.heap.size, cs.size, none⟩ 1
      have hn : New c.w (.cells cs e (cs.size, cs.size + 1)) w' := by
        refine ⟨rfl, rfl, rfl, by rw [show w'.heap.size = w1.heap.size from freeze_size]; exact hn1.size, ?_, fun i hi => ?_⟩
        · have := freeze_here (n := cs.size) hn1.here
          simpa using this
        · exact (freeze_other (by omega)).trans (hn1.other i hi)
      have hrun : (convert src dst (.string ⟨l.toArray⟩)).run P c.w = .ok (.slice (some ⟨c.w.heap.size, 0, none⟩) l.length cap) w' := by
        have hshape : w1.shape? c.w.heap.size = some (e, cs.size) := by
          unfold World.shape?; rw [hn1.here]
        have hmk : (markStringish ⟨c.w.heap.size, 0, none⟩).run P w1 = .ok () w' := by
          simp only [markStringish, Sem.run_bind, run_shape, hshape, Result.andThen_ok, run_freeze]
          rfl
        simp only [convert, Sem.run_bind, run_underlying hs, run_underlying hd, Result.andThen_ok, run_underlying hb', Conv.stringToBytes, size_mk, hch]
        have e1 : ((⟨l.toArray⟩ : ByteArray).data.map fun b => Value.int .u8 b.toNat) = (l.map fun b => Value.int .u8 (b.toNat : Int)).toArray := by simp
        simp only [e1, newRow, Sem.run_bind, run_newObj, Result.andThen_ok, Sem.run_pure]
        have : (markStringish ⟨c.w.heap.size, 0, none⟩).run P ({ c.w with heap := c.w.heap.push (.cells cs e), drawn := c.w.drawn + 1 } : World) = .ok () w' := hmk
        simp only [cs] at this
        rw [this]
        rfl
      refine made_row hm hpl (rc := .bytes l) (cap := cap) hn hrun (.inr (Nat.le_refl _)) hc1 hc2 (by simp [RC.sz]) (by simp [RC.sz, hsize]) (fun i hi j hj => ?_) h
      simp only [RC.len, RC.sz] at hi hj
      obtain rfl : j = 0 := by omega
      simp only [RC.sz, Nat.mul_one, Nat.add_zero]
      exact ⟨.int .u8 (l[i].toNat : Int), by simp [cs, Array.getElem?_append, hi], by simp [RC.cell, D.rep, List.getD, hi]⟩
    · exact h.elim
  · rename_i e0 e j ver lo hi hs hd
    split at h
    · rename_i hc
      obtain ⟨hb, rfl, hlt, hra⟩ := hc
      obtain ⟨r, hr⟩ := Option.isSome_iff_exists.1 hra
      have hb' := isByte_und hb
      obtain rfl : e = e0 := by rw [hs] at hd; injection hd with hd; injection hd with hd; exact hd.symm
      obtain ⟨ty, A, cap, hj, l1, l2, hlc, A', rfl, hA⟩ := den_view hx hr
      obtain ⟨g1, g2, g3, g4, g5⟩ := mem_row hm hj hlc
      obtain ⟨b, o, rfl, rfl⟩ := hA (by omega)
      obtain ⟨cs, fr, q1, q2, q3, q4⟩ := g5 b o rfl
      let fr' : Nat × Nat := if fr.1 = fr.2 then (cs.size, cs.size + 1) else (min fr.1 cs.size, max fr.2 (cs.size + 1))
      let w' : World := c.w.freeze ⟨b, cs.size, none⟩ 1
      have hu : Upd c.w b cs ty fr' w' := by
        refine ⟨rfl, rfl, rfl, freeze_size, freeze_here q1, fun i hi => freeze_other hi⟩
      have hf' : Unfrozen cs.size fr' := by
        simp only [fr']
        split
        · exact .inr (Nat.le_refl _)
        · rename_i hne
          rcases q2 with h | h
          · exact (hne h).elim
          · exact .inr (by simp; omega)
      obtain ⟨m1, m2⟩ := upd_mem hm (ob' := .row ver ty r) hj hlc rfl hu ⟨rfl, rfl, rfl⟩ (fun he => by
        refine ⟨some (b, o), cap, rfl, g1, g2, g3, (fun h => by cases h), fun b' o' hA => ?_⟩
        cases hA
        refine ⟨cs, fr', hu.here, hf', q3, fun i hi j hj => ?_⟩
        obtain ⟨u, hu', hr'⟩ := q4 i hi j hj
        exact ⟨u, hu', he.rep hr'⟩)
      have hset : c.hp.set j (.row ver ty r) = c.hp := by
        apply List.ext_getElem?
        intro i
        rw [List.getElem?_set]
        by_cases hij : j = i
        · subst hij; rw [if_pos rfl, if_pos (List.getElem?_eq_some_iff.1 hj).1, hj]
        · rw [if_neg hij]
      rw [hset] at m1 m2
      refine ⟨_, w', _, c.hp, c.ρ, ?_, h, den_ext m2 _ _ hx, m1, m2⟩
      have hshape : c.w.shape? b = some (ty, cs.size) := by unfold World.shape?; rw [q1]
      simp only [convert, Sem.run_bind, run_underlying hs, run_underlying hd, Result.andThen_ok]
      simp only [run_underlying hb', Result.andThen_ok, Sem.run_bind, beq_self_eq_true]
      simp only [markStringish, Sem.run_bind, run_shape, hshape, Result.andThen_ok, run_freeze]
      rfl
    · exact h.elim
  · exact h.elim


/-! ## append -/
theorem notInt {t t' e : TypeId} (ht : P.underlying t = some (.slice e)) (ht' : t' = t ∨ isStr P t' = true) : ∃ d, P.underlying t' = some d ∧ ∀ k, d ≠ .int k := by
  rcases ht' with rfl | h
  · exact ⟨_, ht, fun k h => by cases h⟩
  · exact ⟨_, isStr_und h, fun k h => by cases h⟩
theorem append_room {t t' ty e : TypeId} (ht : P.underlying t = some (.slice e)) (ht' : t' = t ∨ isStr P t' = true) {inf : TypeInfo} (hinf : P.info? e = some inf) (w : World) (A : Option Addr) (n cap m : Nat) (x : Value) (cs : List Value)
    (hx : (Builtin.lenOf x).run P w = .ok m w) (hc : (Builtin.firstCells (szOf P e) m x).run P w = .ok ⟨cs⟩ w) (hroom : n + m ≤ cap) :
    (Builtin.append_ #[t, t'] ty #[.slice A n cap, x]).run P w =
      (((match A with | some a => storeCells (a.add (n * szOf P e)) cs | none => pure ()) : Sem Unit).run P w).andThen fun _ w' => .ok (.slice A (n + m) cap) w' := by
  obtain ⟨d, hd, hdi⟩ := notInt ht ht'
  unfold Builtin.append_
  simp only [List.getElem?_toArray, List.getElem?_cons_zero, List.getElem?_cons_succ, Sem.run_bind, run_underlying ht, Result.andThen_ok, run_sizeOf' hinf, run_underlying hd, Sem.run_pure]
  cases d <;> first
    | exact (hdi _ rfl).elim
    | (simp only [Bool.false_eq_true, if_false, hx, Result.andThen_ok, Sem.run_bind, if_pos hroom, Bool.not_false, if_true, hc]
       cases A <;> simp)
theorem append_grow {t t' ty e : TypeId} (ht : P.underlying t = some (.slice e)) (ht' : t' = t ∨ isStr P t' = true) {inf : TypeInfo} (hinf : P.info? e = some inf) {z : Value} (hz : inf.zero = some z) (w : World) (A : Option Addr) (n cap m : Nat) (x : Value) (old cs : List Value)
    (hx : (Builtin.lenOf x).run P w = .ok m w) (ho : (Builtin.firstCells (szOf P e) n (.slice A n cap)).run P { w with drawn := w.drawn + 1 } = .ok ⟨old⟩ { w with drawn := w.drawn + 1 })
    (hc : (Builtin.firstCells (szOf P e) m x).run P { w with drawn := w.drawn + 1 } = .ok ⟨cs⟩ { w with drawn := w.drawn + 1 }) (hroom : cap < n + m)
    (hby : (n + m) * P.bytesOf e ≤ 140737488355328) (hb0 : P.bytesOf e ≠ 0) :
    ∃ newCap, n + m ≤ newCap ∧ newCap ≤ maxLen ∧ (Builtin.append_ #[t, t'] ty #[.slice A n cap, x]).run P w =
      .ok (.slice (some ⟨w.heap.size, 0, none⟩) (n + m) newCap) { w with heap := w.heap.push (.cells (⟨old⟩ ++ ⟨cs⟩ ++ Builtin.zeroCells z.cells (newCap - (n + m))) e), drawn := w.drawn + 1 } := by
  obtain ⟨d, hd, hdi⟩ := notInt ht ht'
  have hbi : inf.bytes = P.bytesOf e := by simp [Program.bytesOf, hinf]
  have hle : n + m ≤ 140737488355328 := Nat.le_trans (Nat.le_mul_of_pos_right _ (by omega)) hby
  refine ⟨(Question.appendCap (n + m) cap e).cut (w.tape w.drawn (.appendCap (n + m) cap e)), ?_, ?_, ?_⟩
  · simp [Question.cut]
  · simp only [Question.cut]
    have := Nat.mod_lt (w.tape w.drawn (.appendCap (n + m) cap e)) (show 0 < 2 ^ 63 - (n + m) by omega)
    unfold maxLen
    omega
  · have g1 : ¬ (((n + m : Nat) : Int) > IntKind.i64.max ∧ (false = true ∨ P.bytesOf e = 0)) := by
      intro ⟨h1, _⟩
      simp [IntKind.max, IntKind.bits, IntKind.signed] at h1
      omega
    have g2 : ¬ Builtin.nextslicecap (n + m) cap * P.bytesOf e > 2 ^ 48 := by
      have := growslice_fits hroom hby
      omega
    have hti : (typeInfo e).run P w = .ok inf w := by simp [typeInfo, hinf]
    unfold Builtin.append_
    simp only [List.getElem?_toArray, List.getElem?_cons_zero, List.getElem?_cons_succ, Sem.run_bind, run_underlying ht, Result.andThen_ok, run_sizeOf' hinf, run_underlying hd, Sem.run_pure]
    cases d <;> first
      | exact (hdi _ rfl).elim
      | (simp only [Bool.false_eq_true, if_false, hx, Result.andThen_ok, Sem.run_bind, if_neg (Nat.not_le.2 hroom), Bool.not_false, if_true, hti, hbi]
         rw [if_neg (by simpa using g1)]
         simp only [Sem.run_bind, hti, Result.andThen_ok, hbi]
         rw [if_neg g2]
         simp only [Sem.run_bind, run_choose, Question.forced, Bool.false_eq_true, if_false, Result.andThen_ok]
         have hti' : (typeInfo e).run P { w with drawn := w.drawn + 1 } = .ok inf { w with drawn := w.drawn + 1 } := by simp [typeInfo, hinf]
         have hzv : (zeroValue e).run P { w with drawn := w.drawn + 1 } = .ok z { w with drawn := w.drawn + 1 } := by simp [zeroValue, typeInfo, hinf, hz]
         simp only [hti', Result.andThen_ok, run_askRoom, ho, hc, hzv, newRow, Sem.run_bind, run_newObj, Sem.run_pure])

/-- A row moves. -/
theorem move_mem {c0 c : Cx} (hm : Mem c0 c) {j v v' : Nat} {t t' : TypeId} {r r' : RC} {loc loc' : Loc} {w' : World}
    (hj : c.hp[j]? = some (.row v t r)) (hl : c.ρ[j]? = some loc) (hv : v < v') (hos : w'.os = c.w.os) (htp : w'.tape = c.w.tape) (hout : w'.output = c.w.output)
    (hs : c.w.heap.size ≤ w'.heap.size) (ho : ∀ i, i < c.w.heap.size → loc.foot ≠ some i → w'.heap[i]? = c.w.heap[i]?)
    (hf : ∀ b, loc'.foot = some b → (loc.foot = some b ∨ c.w.heap.size ≤ b) ∧ b < w'.heap.size) (hban : loc'.bans = [])
    (hnew : Ext c ⟨w', c.hp.set j (.row v' t' r'), c.ρ.set j loc'⟩ → obRel ⟨w', c.hp.set j (.row v' t' r'), c.ρ.set j loc'⟩ (.row v' t' r') loc') :
    Mem c0 ⟨w', c.hp.set j (.row v' t' r'), c.ρ.set j loc'⟩ ∧ Ext c ⟨w', c.hp.set j (.row v' t' r'), c.ρ.set j loc'⟩ := by
  have hjl : j < c.hp.length := (List.getElem?_eq_some_iff.1 hj).1
  have hjr : j < c.ρ.length := by rw [hm.len]; exact hjl
  have hfoot : ∀ x, x ∈ foot (c.ρ.set j loc') → x ∈ foot c.ρ ∨ (c.w.heap.size ≤ x ∧ x < w'.heap.size) := by
    intro x hx
    obtain ⟨i, l, hi, hfl⟩ := mem_foot.1 hx
    by_cases hij : j = i
    · subst hij
      rw [List.getElem?_set, if_pos rfl, if_pos hjr] at hi
      cases hi
      obtain ⟨h1, h2⟩ := hf x hfl
      rcases h1 with h1 | h1
      · exact .inl (mem_foot.2 ⟨j, loc, hl, h1⟩)
      · exact .inr ⟨h1, h2⟩
    · rw [List.getElem?_set, if_neg hij] at hi
      exact .inl (mem_foot.2 ⟨i, l, hi, hfl⟩)
  have hbans : ∀ x, x ∈ bans (c.ρ.set j loc') → x ∈ bans c.ρ := by
    intro x hx
    obtain ⟨i, F, h, hb⟩ := mem_bans.1 hx
    by_cases hij : j = i
    · subst hij
      rw [List.getElem?_set, if_pos rfl, if_pos hjr] at h
      cases h
      simp only [Loc.bans] at hban; subst hban; cases hb
    · rw [List.getElem?_set, if_neg hij] at h
      exact mem_bans.2 ⟨i, F, h, hb⟩
  have he : Ext c ⟨w', c.hp.set j (.row v' t' r'), c.ρ.set j loc'⟩ := by
    refine ⟨fun x hx => ⟨⟨Nat.lt_of_lt_of_le hx.1 hs, fun hmm => ?_⟩, ho x hx.1 (fun e => hx.2 (occ_foot (mem_foot.2 ⟨j, loc, hl, e⟩)))⟩, by simp, fun i b hi => ?_, fun i ty n g hi => ⟨g, ?_⟩, fun i hil hi => ?_, fun i v2 t2 r2 hil _ hi => ?_, fun i F hi => by
      show (c.ρ.set j loc')[i]? = _
      rw [List.getElem?_set]
      by_cases hij : j = i
      · subst hij
        obtain ⟨A, cap, hrow, _⟩ := hm.obs j _ _ hj hl
        rw [hl, hrow] at hi; cases hi
      · rw [if_neg hij]; exact hi⟩
    · rcases mem_occ.1 hmm with hmm | hmm
      · rcases hfoot x hmm with h | h
        · exact hx.2 (occ_foot h)
        · have := hx.1; omega
      · exact hx.2 (mem_occ.2 (.inr (hbans x hmm)))
    · show ((c.ρ.set j loc')[i]?).bind Loc.ptrAt = _
      rw [List.getElem?_set]
      by_cases hij : j = i
      · subst hij
        obtain ⟨A, cap, hrow, _⟩ := hm.obs j _ _ hj hl
        rw [hl, hrow] at hi; cases hi
      · rw [if_neg hij]; exact hi
    · show (c.hp.set j _)[i]? = _
      rw [List.getElem?_set]
      by_cases hij : j = i
      · subst hij; rw [hj] at hi; cases hi
      · rw [if_neg hij]; exact hi
    · by_cases hij : j = i
      · subst hij
        rw [show (⟨w', c.hp.set j (.row v' t' r'), c.ρ.set j loc'⟩ : Cx).hp[j]? = some (.row v' t' r') from by simp [hjl]] at hi
        cases hi
      · rw [show (⟨w', c.hp.set j (.row v' t' r'), c.ρ.set j loc'⟩ : Cx).hp[i]? = c.hp[i]? from by simp [List.getElem?_set, hij]] at hi
        exact hi
    · by_cases hij : j = i
      · subst hij
        rw [show (⟨w', c.hp.set j (.row v' t' r'), c.ρ.set j loc'⟩ : Cx).hp[j]? = some (.row v' t' r') from by simp [hjl]] at hi
        cases hi
        exact ⟨v, t, r, hj, by omega, fun h => by omega⟩
      · rw [show (⟨w', c.hp.set j (.row v' t' r'), c.ρ.set j loc'⟩ : Cx).hp[i]? = c.hp[i]? from by simp [List.getElem?_set, hij]] at hi
        exact ⟨v2, t2, r2, hi, Nat.le_refl _, fun _ => ⟨by show (c.ρ.set j loc')[i]? = _; rw [List.getElem?_set, if_neg hij], rfl, rfl⟩⟩
  refine ⟨⟨by simp [hm.len], fun i o l hi hil => ?_, fun i k l l' b hi hk hfi hfk => ?_, fun x hx => ?_, ?_, fun x hx => ?_⟩, he⟩
  rotate_right
  · obtain ⟨h1, h2⟩ := hm.dis x (hbans x hx)
    refine ⟨Nat.lt_of_lt_of_le h1 hs, fun h3 => ?_⟩
    rcases hfoot x h3 with h | h
    · exact h2 h
    · have := h.1; omega
  · by_cases hij : j = i
    · subst hij
      rw [show (⟨w', c.hp.set j (.row v' t' r'), c.ρ.set j loc'⟩ : Cx).hp[j]? = some (.row v' t' r') from by simp [hjl]] at hi
      rw [show (⟨w', c.hp.set j (.row v' t' r'), c.ρ.set j loc'⟩ : Cx).ρ[j]? = some loc' from by simp [hjr]] at hil
      cases hi; cases hil
      exact hnew he
    · rw [show (⟨w', c.hp.set j (.row v' t' r'), c.ρ.set j loc'⟩ : Cx).hp[i]? = c.hp[i]? from by simp [List.getElem?_set, hij]] at hi
      rw [show (⟨w', c.hp.set j (.row v' t' r'), c.ρ.set j loc'⟩ : Cx).ρ[i]? = c.ρ[i]? from by simp [List.getElem?_set, hij]] at hil
      refine obRel_ext he (fun x hx => ho x (hm.bnd x (mem_foot.2 ⟨i, l, hil, hx⟩)).1 (fun e => hij ?_)) (hm.obs i o l hi hil)
      exact hm.nodup j i loc l x hl hil e hx
  · have key : ∀ (i : Nat) (l : Loc), (c.ρ.set j loc')[i]? = some l → (i = j ∧ l = loc') ∨ (i ≠ j ∧ c.ρ[i]? = some l) := by
      intro i l h
      rw [List.getElem?_set] at h
      by_cases hij : j = i
      · subst hij; rw [if_pos rfl, if_pos hjr] at h; cases h; exact .inl ⟨rfl, rfl⟩
      · rw [if_neg hij] at h; exact .inr ⟨Ne.symm hij, h⟩
    rcases key i l hi with ⟨a1, a2⟩ | ⟨a1, a2⟩ <;> rcases key k l' hk with ⟨b1, b2⟩ | ⟨b1, b2⟩
    · omega
    · subst a1; subst a2
      rcases (hf b hfi).1 with h | h
      · exact (b1 (hm.nodup i k loc l' b hl b2 h hfk).symm).elim
      · have := (hm.bnd b (mem_foot.2 ⟨k, l', b2, hfk⟩)).1; omega
    · subst b1; subst b2
      rcases (hf b hfk).1 with h | h
      · exact (a1 (hm.nodup i k l loc b a2 hl hfi h)).elim
      · have := (hm.bnd b (mem_foot.2 ⟨i, l, a2, hfi⟩)).1; omega
    · exact hm.nodup i k l l' b a2 b2 hfi hfk
  · rcases hfoot x hx with h | h
    · obtain ⟨h1, h2⟩ := hm.bnd x h
      exact ⟨Nat.lt_of_lt_of_le h1 hs, h2⟩
    · exact ⟨h.2, .inr (Nat.le_trans hm.fr.size h.1)⟩
  · refine ⟨hos.trans hm.fr.os, htp.trans hm.fr.tape, hout.trans hm.fr.output, Nat.le_trans hm.fr.size hs, fun x hx hF => ?_⟩
    refine (ho x (Nat.lt_of_lt_of_le hx hm.fr.size) (fun e => ?_)).trans (hm.fr.block x hx hF)
    rcases (hm.bnd x (mem_foot.2 ⟨j, loc, hl, e⟩)).2 with h | h
    · exact hF h
    · omega

/-- Two rows, one behind the other. -/
theorem appendC_sound {a b r : RC} (h : appendC a b = some r) : r.len = a.len + b.len ∧ r.sz = a.sz ∧ b.sz = a.sz ∧ (∀ i j, i < a.len → r.cell i j = a.cell i j) ∧ ∀ i j, r.cell (a.len + i) j = b.cell i j := by
  cases a with
  | bytes l =>
    cases b with
    | bytes m =>
      cases h
      refine ⟨by simp [RC.len], rfl, rfl, fun i j hi => ?_, fun i j => ?_⟩
      · simp only [RC.len] at hi
        simp [RC.cell, List.getD, List.getElem?_append_left hi]
      · have : (l ++ m)[l.length + i]? = m[i]? := by rw [List.getElem?_append_right (by omega)]; congr 1; omega
        simp [RC.cell, RC.len, List.getD, this]
    | list => cases h
  | list sz n g =>
    cases b with
    | bytes => cases h
    | list sz' m g' =>
      simp only [appendC] at h
      split at h
      · rename_i hs
        cases h
        exact ⟨rfl, rfl, hs.symm, fun i j hi => by simp only [RC.cell, RC.len] at hi ⊢; rw [if_pos hi], fun i j => by
          show (if n + i < n then g (n + i) j else g' (n + i - n) j) = g' i j
          rw [if_neg (by omega), show n + i - n = i by omega]⟩
      · cases h
theorem mem_drew {c0 c : Cx} (hm : Mem c0 c) (n : Nat) : Mem c0 ⟨{ c.w with drawn := n }, c.hp, c.ρ⟩ ∧ Ext c ⟨{ c.w with drawn := n }, c.hp, c.ρ⟩ := by
  have he : Ext c ⟨{ c.w with drawn := n }, c.hp, c.ρ⟩ :=
    ⟨fun b hb => ⟨hb, rfl⟩, Nat.le_refl _, fun _ _ h => h, fun _ _ _ g h => ⟨g, h⟩, fun _ _ h => h, fun _ v t r _ _ h => ⟨v, t, r, h, Nat.le_refl _, fun _ => ⟨rfl, rfl, rfl⟩⟩, fun _ _ h => h⟩
  exact ⟨⟨hm.len, fun j ob loc h1 h2 => obRel_ext he (fun _ _ => rfl) (hm.obs j ob loc h1 h2), hm.nodup, hm.bnd, ⟨hm.fr.os, hm.fr.tape, hm.fr.output, hm.fr.size, hm.fr.block⟩, hm.dis⟩, he⟩
/-- The cells of a row that has grown. -/
theorem grown_cells {c : Cx} {a b r : RC} (h : appendC a b = some r) (hsz : 0 < a.sz) {old cs : List Value} {rest : Array Value} (ho : old.length = a.len * a.sz) (hc : cs.length = b.len * b.sz)
    (h1 : ∀ i, i < a.len → ∀ j, j < a.sz → ∃ u, old[i * a.sz + j]? = some u ∧ (a.cell i j).rep c.w c.ok u)
    (h2 : ∀ i, i < b.len → ∀ j, j < b.sz → ∃ u, cs[i * b.sz + j]? = some u ∧ (b.cell i j).rep c.w c.ok u) :
    ∀ i, i < r.len → ∀ j, j < r.sz → ∃ u, ((⟨old⟩ ++ ⟨cs⟩ ++ rest : Array Value))[i * r.sz + j]? = some u ∧ (r.cell i j).rep c.w c.ok u := by
  obtain ⟨e1, e2, e3, e4, e5⟩ := appendC_sound h
  intro i hi j hj
  rw [e2] at hj ⊢
  by_cases hia : i < a.len
  · obtain ⟨u, hu, hr⟩ := h1 i hia j hj
    have hlt : i * a.sz + j < old.length := by rw [ho]; exact pos_lt hia hj
    refine ⟨u, ?_, by rw [e4 i j hia]; exact hr⟩
    rw [Array.getElem?_append_left (by simp; omega), Array.getElem?_append_left (by simpa using hlt)]
    simpa using hu
  · obtain ⟨q, rfl⟩ : ∃ q, i = a.len + q := ⟨i - a.len, by omega⟩
    have hq : q < b.len := by omega
    rw [← e3] at hj
    obtain ⟨u, hu, hr⟩ := h2 q hq j hj
    have hlt : q * b.sz + j < cs.length := by rw [hc]; exact pos_lt hq hj
    have hpos : (a.len + q) * a.sz + j = old.length + (q * b.sz + j) := by rw [ho, e3, Nat.add_mul]; omega
    refine ⟨u, ?_, by rw [e5 q j]; exact hr⟩
    rw [hpos, Array.getElem?_append_left (by simp; omega), Array.getElem?_append_right (by simp)]
    simpa using hu
theorem evAppend_sound {c0 c : Cx} (hm : Mem c0 c) {pl : Option Nat} {t t' ty : TypeId} {s x : SV} {k : SV → List Ob → Prop} {vs vx : Value} (h : evAppend P pl c.hp t s x k) (ht' : t' = t ∨ isStr P t' = true)
    (hs : den c s vs) (hx : den c x vx) : Made P c0 c k (Builtin.append_ #[t, t'] ty #[vs, vx]) := by
  unfold evAppend at h
  split at h
  · rename_i e ht
    split at h
    · exact h.elim
    rename_i z hz
    obtain ⟨inf, hinf, hzero⟩ := info_of_zero hz
    split at h
    · rename_i a b ha hb
      split at h
      · rename_i r hr
        replace h := nmRC_elim h
        split at h
        · exact h.elim
        rename_i hc
        simp only [not_or, Decidable.not_not] at hc
        obtain ⟨q1, q2, q3, q4, q5⟩ := hc
        obtain ⟨hby, hk⟩ := BR_req h
        obtain ⟨e1, e2, e3, e4, e5⟩ := appendC_sound hr
        have hasz : 0 < a.sz := by omega
        have hmax : r.len ≤ 140737488355328 := Nat.le_trans (Nat.le_mul_of_pos_right _ (by omega)) hby
        obtain ⟨hm', hext'⟩ := mem_drew hm (c.w.drawn + 1)
        obtain ⟨xl, cs, xc, xcl, xone, xrep⟩ := src_read (P := P) hm hb hx (by omega)
        obtain ⟨_, cs', xc', xcl', _, xrep'⟩ := src_read (P := P) hm' (c := ⟨{ c.w with drawn := c.w.drawn + 1 }, c.hp, c.ρ⟩) hb (den_ext hext' _ _ hx) (by omega)
        rw [q3] at xc xc'
        split at hk
        · -- nothing yet
          split at hk
          rotate_left
          · exact hk.elim
          rename_i hpl
          unfold den at hs
          subst hs
          have hal : a.len = 0 := by
            unfold rowOf at ha
            simp only [Option.some.injEq] at ha
            subst ha
            split <;> rfl
          by_cases hb0 : b.len = 0
          · have hrl : r.len = 0 := by omega
            have hrun := append_room (P := P) (ty := ty) ht ht' hinf c.w none 0 0 b.len vx cs xl xc (by omega)
            rw [hb0] at hrun
            obtain ⟨m1, m2, m3, m4⟩ := pl_mem hm hpl (ob := .row 0 e r) (loc := .row none 0) (w' := c.w) (by simp) rfl rfl rfl (Nat.le_refl _) (fun _ _ => rfl) (fun b hb => by cases hb) rfl (fun he =>
              ⟨none, 0, rfl, by omega, by unfold maxLen; omega, by omega, fun _ => rfl, fun b o hA => by cases hA⟩)
            refine ⟨_, c.w, _, _, _, hrun, hk, view_den m3 (Nat.zero_le _) (Nat.le_refl _) m4 ⟨none, ?_, fun h => by omega⟩, m1, m2⟩
            rw [hrl]
          · obtain ⟨nc, n1, n2, hrun⟩ := append_grow (P := P) (ty := ty) ht ht' hinf hzero c.w none 0 0 b.len vx [] cs' xl rfl xc' (by omega) (by rw [show 0 + b.len = r.len by omega]; exact hby) q5
            have hC := grown_cells (c := ⟨{ c.w with drawn := c.w.drawn + 1 }, c.hp, c.ρ⟩) (old := []) (rest := Builtin.zeroCells z.cells (nc - (0 + b.len))) hr hasz (by simp [hal]) xcl' (fun i hi => by omega) xrep'
            rw [show 0 + b.len = r.len by omega] at n1 hrun hC
            refine made_row hm hpl (rc := r) (cap := nc) (New.push_drew _ _ _) hrun (Unfrozen.zero _) n1 n2 (by omega) ?_ (fun i hi j hj => ?_) hk
            · simp [Builtin.zeroCells, q1, xcl', q3, e2, q2, ← Nat.add_mul]
              exact Nat.mul_le_mul_right _ (by omega)
            · obtain ⟨u, hu, hr'⟩ := hC i hi j hj
              refine ⟨u, hu, ?_⟩
              exact rep_mono (w := { c.w with drawn := c.w.drawn + 1 }) (ok := Cx.ok ⟨{ c.w with drawn := c.w.drawn + 1 }, c.hp, c.ρ⟩) (w' := c.w) (ok' := c.ok) (fun b hb => ⟨hb, rfl⟩) _ _ hr'
        · rename_i j ver lo hi
          split at hk
          · rename_i v0 t0 r0 hj
            split at hk
            · rename_i hcond
              obtain ⟨rfl, rfl⟩ := hcond
              obtain ⟨hhi, hk2⟩ := BR_req hk
              clear hk
              subst hhi
              have hk := hk2
              have hra : rowAt c.hp j v0 = some r0 := by unfold rowAt; rw [hj]; simp
              obtain ⟨ty0, A, cap, hj', l1, l2, hlc, A', rfl, hA⟩ := den_view hs hra
              rw [hj] at hj'
              cases hj'
              obtain ⟨g1, g2, g3, g4, g5⟩ := mem_row hm hj hlc
              have hra' : a = r0.sub lo r0.len := by
                simp only [rowOf] at ha
                rw [hra] at ha
                cases ha; rfl
              have hal : a.len = r0.len - lo := by rw [hra']; exact sub_len (Nat.le_refl _)
              have has : a.sz = r0.sz := by rw [hra']; exact sub_sz
              by_cases hroom : r0.len - lo + b.len ≤ cap - lo
              · have hrun := append_room (P := P) (ty := ty) ht ht' hinf c.w A' (r0.len - lo) (cap - lo) b.len vx cs xl xc hroom
                by_cases hlo : lo < cap
                · obtain ⟨bb, o, rfl, rfl⟩ := hA hlo
                  obtain ⟨cur, fr, p1, p2, p3, p4⟩ := g5 bb o rfl
                  have hsz0 : szOf P t0 = r0.sz := by omega
                  have hposn : o + lo * r0.sz + (r0.len - lo) * r0.sz = o + r0.len * r0.sz := by
                    rw [Nat.add_assoc, ← Nat.add_mul]; congr 2; omega
                  have hend : o + r0.len * r0.sz + cs.length ≤ cur.size := by
                    have h1 : (r0.len + b.len) * r0.sz ≤ cap * r0.sz := Nat.mul_le_mul_right _ (by omega)
                    rw [Nat.add_mul] at h1
                    rw [xcl, q3, hsz0]; omega
                  obtain ⟨w', cur', hst, hu, he'⟩ := run_storeCells' (P := P) bb (o + r0.len * r0.sz) t0 fr cs 0 cur c.w p1 p2 (by omega) xone
                  simp only [add_none, hsz0, hposn, hst] at hrun
                  simp only [Result.andThen_ok] at hrun
                  have hget : ∀ m : Nat, cur'[m]? = if o + r0.len * r0.sz ≤ m ∧ m < o + r0.len * r0.sz + cs.length then cs[m - (o + r0.len * r0.sz)]? else cur[m]? := by
                    intro m
                    rw [← Array.getElem?_toList, he']
                    have := splice_get cur.toList cs (o + r0.len * r0.sz) m (by simp; omega)
                    simpa using this
                  have hsz' : cur'.size = cur.size := by
                    have := congrArg List.length he'
                    simp at this; omega
                  obtain ⟨m1, m2⟩ := move_mem hm (v' := v0 + 1) (t' := t0) (r' := r) (loc' := .row (some (bb, o + lo * r0.sz)) (cap - lo)) hj hlc (by omega) hu.os hu.tape hu.output (by rw [hu.size]; omega)
                    (fun i hi hne => hu.other i (fun e => hne (by rw [e]; rfl))) (fun b' hb' => by cases hb'; exact ⟨.inl rfl, by rw [hu.size]; exact (hm.bnd bb (mem_foot.2 ⟨j, _, hlc, rfl⟩)).1⟩) rfl (fun hext => by
                      refine ⟨_, _, rfl, by omega, by omega, by omega, (fun h => by cases h), fun b' o' hA => ?_⟩
                      cases hA
                      refine ⟨cur', fr, hu.here, by rw [hsz']; exact p2, ?_, fun i hi j' hj' => ?_⟩
                      · rw [hsz', e2, has]
                        have : lo * r0.sz + (cap - lo) * r0.sz = cap * r0.sz := by rw [← Nat.add_mul]; congr 1; omega
                        omega
                      · rw [e2, has] at hj' ⊢
                        rw [hget]
                        by_cases hia : i < a.len
                        · have hlt : (lo + i) * r0.sz + j' < r0.len * r0.sz := pos_lt (by omega) hj'
                          have hq : o + lo * r0.sz + i * r0.sz + j' = o + (lo + i) * r0.sz + j' := by rw [Nat.add_mul]; omega
                          rw [hq, if_neg (by omega)]
                          obtain ⟨u, hu', hr'⟩ := p4 (lo + i) (by omega) j' hj'
                          refine ⟨u, hu', ?_⟩
                          rw [e4 i j' hia, hra', sub_cell (by omega)]
                          exact hext.rep hr'
                        · obtain ⟨q, rfl⟩ : ∃ q, i = a.len + q := ⟨i - a.len, by omega⟩
                          have hq : q < b.len := by omega
                          have hbs : b.sz = r0.sz := by omega
                          obtain ⟨u, hu', hr'⟩ := xrep q hq j' (by omega)
                          have hlt : q * b.sz + j' < cs.length := by rw [xcl]; exact pos_lt hq (by omega)
                          have hp : o + lo * r0.sz + (a.len + q) * r0.sz + j' = o + r0.len * r0.sz + (q * b.sz + j') := by
                            rw [Nat.add_mul, hal, hbs]
                            have : lo * r0.sz + (r0.len - lo) * r0.sz = r0.len * r0.sz := by rw [← Nat.add_mul]; congr 1; omega
                            omega
                          rw [hp, if_pos (by omega)]
                          refine ⟨u, ?_, ?_⟩
                          · rw [← hu']; congr 1; omega
                          · rw [e5 q j']; exact hext.rep hr')
                  have hjl : j < c.hp.length := (List.getElem?_eq_some_iff.1 hj).1
                  refine ⟨_, w', _, _, _, hrun, hk, view_den (t := t0) (r := r) (A := some (bb, o + lo * r0.sz)) (cap := cap - lo) (by simp [hjl]) (Nat.zero_le _) (Nat.le_refl _) (by simp [hm.len, hjl]) ⟨some ⟨bb, o + lo * r0.sz, none⟩, ?_, fun _ => ⟨bb, o + lo * r0.sz, rfl, by simp⟩⟩, m1, m2⟩
                  rw [e1, hal, Nat.sub_zero, Nat.sub_zero]
                · -- no room, and nothing to put there
                  have hb0 : b.len = 0 := by omega
                  have hcs : cs = [] := List.eq_nil_of_length_eq_zero (by rw [xcl, hb0]; simp)
                  subst hcs
                  have hrun' : (Builtin.append_ #[t, t'] ty #[.slice A' (r0.len - lo) (cap - lo), vx]).run P c.w = .ok (.slice A' (r0.len - lo + b.len) (cap - lo)) c.w := by
                    rw [hrun]
                    cases A' <;> rfl
                  obtain ⟨m1, m2⟩ := move_mem hm (v' := v0 + 1) (t' := t0) (r' := r) (loc' := .row none 0) (w' := c.w) hj hlc (by omega) rfl rfl rfl (Nat.le_refl _) (fun _ _ _ => rfl) (fun b' hb' => by cases hb') rfl (fun hext =>
                    ⟨none, 0, rfl, by omega, by unfold maxLen; omega, by omega, fun _ => rfl, fun b o hA => by cases hA⟩)
                  have hjl : j < c.hp.length := (List.getElem?_eq_some_iff.1 hj).1
                  refine ⟨_, c.w, _, _, _, hrun', hk, view_den (t := t0) (r := r) (A := none) (cap := 0) (by simp [hjl]) (Nat.zero_le _) (Nat.le_refl _) (by simp [hm.len, hjl]) ⟨A', ?_, fun h => by omega⟩, m1, m2⟩
                  congr 1 <;> omega
              · -- a new array
                obtain ⟨_, olds, oc, ocl, _, orep⟩ := src_read (P := P) hm' (c := ⟨{ c.w with drawn := c.w.drawn + 1 }, c.hp, c.ρ⟩) ha (den_ext hext' _ _ hs) hasz
                rw [q2, hal] at oc
                obtain ⟨nc, n1, n2, hrun⟩ := append_grow (P := P) (ty := ty) ht ht' hinf hzero c.w A' (r0.len - lo) (cap - lo) b.len vx olds cs' xl oc xc' (by omega) (by rw [show r0.len - lo + b.len = r.len by omega]; exact hby) q5
                have hC := grown_cells (c := ⟨{ c.w with drawn := c.w.drawn + 1 }, c.hp, c.ρ⟩) (rest := Builtin.zeroCells z.cells (nc - (r0.len - lo + b.len))) hr hasz ocl xcl' orep xrep'
                rw [show r0.len - lo + b.len = r.len by omega] at n1 hrun hC
                have hn := New.push_drew c.w (.cells (⟨olds⟩ ++ ⟨cs'⟩ ++ Builtin.zeroCells z.cells (nc - r.len)) t0) (c.w.drawn + 1)
                obtain ⟨m1, m2⟩ := move_mem hm (v' := v0 + 1) (t' := t0) (r' := r) (loc' := .row (some (c.w.heap.size, 0)) nc) hj hlc (by omega) hn.os hn.tape hn.output (by rw [hn.size]; omega)
                  (fun i hi _ => hn.other i hi) (fun b' hb' => by cases hb'; exact ⟨.inr (Nat.le_refl _), by rw [hn.size]; omega⟩) rfl (fun hext => by
                    refine ⟨_, _, rfl, n1, n2, by omega, (fun h => by cases h), fun b' o' hA => ?_⟩
                    cases hA
                    refine ⟨_, _, hn.here, Unfrozen.zero _, ?_, fun i hi j' hj' => ?_⟩
                    · simp [Builtin.zeroCells, q1, xcl', ocl, q3, e2, q2, ← Nat.add_mul]
                      exact Nat.mul_le_mul_right _ (by omega)
                    · obtain ⟨u, hu, hr'⟩ := hC i hi j' hj'
                      refine ⟨u, by rw [← hu]; congr 1; omega, hext.rep ?_⟩
                      exact rep_mono (w := { c.w with drawn := c.w.drawn + 1 }) (ok := Cx.ok ⟨{ c.w with drawn := c.w.drawn + 1 }, c.hp, c.ρ⟩) (w' := c.w) (ok' := c.ok) (fun b hb => ⟨hb, rfl⟩) _ _ hr')
                have hjl : j < c.hp.length := (List.getElem?_eq_some_iff.1 hj).1
                refine ⟨_, _, _, _, _, hrun, hk, view_den (t := t0) (r := r) (A := some (c.w.heap.size, 0)) (cap := nc) (by simp [hjl]) (Nat.zero_le _) (Nat.le_refl _) (by simp [hm.len, hjl]) ⟨_, rfl, fun _ => ⟨_, _, rfl, by simp⟩⟩, m1, m2⟩
            · exact hk.elim
          · exact hk.elim
        · exact hk.elim
      · exact h.elim
    · exact h.elim
  · exact h.elim

end
end Go.Proofs.Ytmadffhjgbpojaa.Sx

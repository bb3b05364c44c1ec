/- Sx: operations that write, and those on rows. -/
import Derived.Test.YtmadffhjgbpojaaSxOps
namespace Go.Proofs.Ytmadffhjgbpojaa.Sx
open Go
section
variable {P : Program}

theorem run_storeCells' (b o : Nat) (ty : TypeId) (fr : Nat × Nat) : ∀ (vs : List Value) (i : Nat) (cs : Array Value) (w : World), w.heap[b]? = some (.cells cs ty fr) → Unfrozen cs.size fr →
    o + i + vs.length ≤ cs.size → (∀ v ∈ vs, v.oneCell' = true) →
    ∃ w' cs', (storeCells ⟨b, o, none⟩ vs i).run P w = .ok () w' ∧ Upd w b cs' ty fr w' ∧ cs'.toList = cs.toList.take (o + i) ++ vs ++ cs.toList.drop (o + i + vs.length)
  | [], i, cs, w, hg, _, _, _ => ⟨w, cs, rfl, ⟨rfl, rfl, rfl, rfl, hg, fun _ _ => rfl⟩, by simp⟩
  | v :: rest, i, cs, w, hg, hf, hl, h1 => by
    have hi : o + i < cs.size := by simp at hl; omega
    have hcell : w.cell? ⟨b, o + i, none⟩ = some cs[o + i] := by rw [cell?_of hg]; simp [hi]
    have hfro : w.frozen? ⟨b, o + i, none⟩ = false := by rw [frozen?_of hg]; exact hf.at hi
    have hst : (store ((⟨b, o, none⟩ : Addr).add i) v).run P w = .ok () (w.setCell ⟨b, o + i, none⟩ v) := by
      rw [add_none, run_store P w _ v _ (h1 v (by simp)), hcell]
      simp [hfro]
    have hu := Upd.setCell (off := o + i) hg v
    obtain ⟨w', cs', hr, hu', hc⟩ := run_storeCells' b o ty fr rest (i + 1) (cs.setIfInBounds (o + i) v) (w.setCell ⟨b, o + i, none⟩ v) hu.here (by simpa using hf) (by simp at hl ⊢; omega) (fun x hx => h1 x (by simp [hx]))
    refine ⟨w', cs', by simp only [storeCells, Sem.run_bind, hst, Result.andThen_ok, hr], hu.trans hu', ?_⟩
    rw [hc]
    apply List.ext_getElem?
    intro m
    have e1 : (cs.setIfInBounds (o + i) v).toList = cs.toList.set (o + i) v := by simp
    rw [e1]
    simp only [List.append_assoc, List.getElem?_append, List.getElem?_take, List.getElem?_drop, List.getElem?_set, List.length_take, List.length_set, List.length_cons, Array.length_toList]
    have hmin : min (o + (i + 1)) cs.size = o + i + 1 := by omega
    have hmin2 : min (o + i) cs.size = o + i := by omega
    rw [hmin, hmin2]
    by_cases h1 : m < o + i
    · simp [h1, show m < o + i + 1 by omega, show m < o + (i + 1) by omega, show ¬ o + i = m by omega]
    · by_cases h2 : m = o + i
      · subst h2
        simp [show o + i < o + (i + 1) by omega, hi]
      · have h3 : ¬ m < o + i + 1 := by omega
        obtain ⟨q, hq⟩ : ∃ q, m - (o + i) = q + 1 := ⟨m - (o + i) - 1, by omega⟩
        have hq' : m - (o + i + 1) = q := by omega
        simp only [h1, h3, if_false, hq, hq', List.getElem?_cons_succ]
        by_cases h4 : q < rest.length
        · simp [h4]
        · simp only [h4, if_false, show ¬ q + 1 < rest.length + 1 by omega]
          have a1 : ¬ (o + i = o + (i + 1) + rest.length + (q - rest.length)) := by omega
          simp only [a1, if_false]
          congr 1
          omega
theorem storeVar_run {t : TypeId} (ht : (P.info? t).isSome = true) (w : World) (b o : Nat) (v : Value) (cs : Array Value) (ty : TypeId) (fr : Nat × Nat) (hg : w.heap[b]? = some (.cells cs ty fr)) (hf : Unfrozen cs.size fr)
    (hs : v.cells.size = szOf P t) (hl : o + v.cells.size ≤ cs.size) (h1 : ∀ u ∈ v.cells.toList, u.oneCell' = true) :
    ∃ w' cs', (Instr.storeAt t (.pointer (some ⟨b, o, none⟩)) v).run P w = .ok () w' ∧ Upd w b cs' ty fr w' ∧ cs'.toList = cs.toList.take o ++ v.cells.toList ++ cs.toList.drop (o + v.cells.size) := by
  obtain ⟨i, hi⟩ := Option.isSome_iff_exists.1 ht
  obtain ⟨w', cs', hr, hu, hc⟩ := run_storeCells' (P := P) b o ty fr v.cells.toList 0 cs w hg hf (by simpa using hl) h1
  refine ⟨w', cs', ?_, hu, by simpa using hc⟩
  simp [Instr.storeAt, Instr.sureAddr, storeVar, run_sizeOf' hi, hs, hr]
theorem cellsD_rep {c : Cx} : ∀ {xs : List SV} {ds : List D} {vs : List Value}, cellsD xs = some ds → dens c xs vs →
    ds.length = vs.length ∧ ∀ (i : Nat) (u : Value), vs[i]? = some u → (ds.getD i (.bool false)).rep c.w c.ok u
  | [], ds, vs, h, hd => by
    unfold dens at hd; subst hd
    simp [cellsD] at h; subst h
    exact ⟨rfl, fun i u hu => by simp at hu⟩
  | x :: xs, ds, vs, h, hd => by
    unfold dens at hd
    obtain ⟨u, us, rfl, h1, h2⟩ := hd
    unfold cellsD at h
    split at h
    · rename_i d ds' hx hxs
      cases h
      obtain ⟨a1, a2⟩ := cellsD_rep hxs h2
      refine ⟨by simp [a1], fun i v hv => ?_⟩
      cases i with
      | zero =>
        simp at hv; subst hv
        simp only [List.getD_cons_zero]
        unfold cellD at hx
        split at hx
        · cases hx; unfold den at h1; exact h1
        · cases hx
          unfold den at h1; subst h1
          exact ⟨none, 0, rfl, Nat.le_refl _, by unfold maxLen; omega, fun h => absurd h (by omega)⟩
        · cases hx
      | succ i => simp at hv ⊢; simpa using a2 i v hv
    · cases h
theorem cellsD_storable : ∀ {xs : List SV} {ds : List D}, cellsD xs = some ds → ∀ x ∈ xs, storable x = true
  | [], _, _, x, hx => by cases hx
  | y :: xs, ds, h, x, hx => by
    unfold cellsD at h
    split at h
    · rename_i d ds' hy hxs
      rcases List.mem_cons.1 hx with rfl | hx
      · unfold cellD at hy; split at hy <;> first | rfl | cases hy
      · exact cellsD_storable hxs x hx
    · cases h
theorem mul_pos_inj {i i' sz a b : Nat} (ha : a < sz) (hb : b < sz) (h : i * sz + a = i' * sz + b) : i = i' ∧ a = b := by
  rcases Nat.lt_trichotomy i i' with hlt | rfl | hlt
  · have : (i + 1) * sz ≤ i' * sz := Nat.mul_le_mul_right _ hlt
    rw [Nat.add_mul, Nat.one_mul] at this; omega
  · exact ⟨rfl, by omega⟩
  · have : (i' + 1) * sz ≤ i * sz := Nat.mul_le_mul_right _ hlt
    rw [Nat.add_mul, Nat.one_mul] at this; omega
theorem pos_lt {i n sz j : Nat} (hi : i < n) (hj : j < sz) : i * sz + j < n * sz := by
  have : (i + 1) * sz ≤ n * sz := Nat.mul_le_mul_right _ hi
  rw [Nat.add_mul, Nat.one_mul] at this; omega
theorem splice_get {α : Type} (l new : List α) (o m : Nat) (h : o + new.length ≤ l.length) : (l.take o ++ new ++ l.drop (o + new.length))[m]? = if o ≤ m ∧ m < o + new.length then new[m - o]? else l[m]? := by
  simp only [List.append_assoc, List.getElem?_append, List.getElem?_take, List.getElem?_drop, List.length_take]
  rw [show min o l.length = o by omega]
  by_cases h1 : m < o
  · simp [h1, show ¬ (o ≤ m ∧ m < o + new.length) by omega]
  · by_cases h2 : m < o + new.length
    · simp [h1, show m - o < new.length by omega, show o ≤ m ∧ m < o + new.length by omega]
    · simp only [h1, if_false, show ¬ m - o < new.length by omega, show ¬ (o ≤ m ∧ m < o + new.length) by omega]
      congr 1; omega
theorem ofNat_toNat_u8 {n : Int} (h0 : 0 ≤ n) (h1 : n < 256) : ((UInt8.ofNat n.toNat).toNat : Int) = n := by
  have : (UInt8.ofNat n.toNat).toNat = n.toNat := by simp [UInt8.toNat_ofNat']; omega
  rw [this]; omega

theorem evStore_sound {c0 c : Cx} (hm : Mem c0 c) {t : TypeId} {a x : SV} {k : List Ob → Prop} {va vx : Value} (h : evStore P c.hp t a x k) (ha : den c a va) (hx : den c x vx) :
    ∃ w' hp', (Instr.storeAt t va vx).run P c.w = .ok () w' ∧ k hp' ∧ Mem c0 ⟨w', hp', c.ρ⟩ ∧ Ext c ⟨w', hp', c.ρ⟩ := by
  unfold evStore at h
  split at h
  · exact h.elim
  rename_i ht
  have ht : (P.info? t).isSome = true := by
    cases hh : (P.info? t).isSome with
    | true => rfl
    | false => exact (ht hh).elim
  split at h
  · rename_i j off
    unfold den at ha
    obtain ⟨b, hb, rfl⟩ := ha
    split at h
    · rename_i ty cells hj
      obtain ⟨cs, fr, h1, h2, h3, h4⟩ := mem_fix hm hj hb
      split at h
      · rename_i hc
        obtain ⟨hc1, hc2, hc3⟩ := hc
        obtain ⟨d1, d2⟩ := den_cells hc3 hx
        have hl := dens_length d1
        have hl3 := dens_length h3
        simp only [Array.length_toList] at hl hl3
        obtain ⟨w', cs', hr, hu, he⟩ := storeVar_run ht c.w b off vx cs ty fr h1 h2 (by omega) (by omega) d2
        have hsz : cs'.size = cs.size := by
          have := congrArg List.length he
          simp at this
          omega
        obtain ⟨m1, m2⟩ := upd_mem hm (ob' := .fix ty (splice cells off (svCells x))) hj (fix_blk hm hj hb) rfl hu trivial (fun hext => by
          refine ⟨b, cs', fr, rfl, hu.here, by rw [hsz]; exact h2, ?_, fun y hy => ?_⟩
          · rw [he]
            have := dens_splice (dens_ext hext _ _ h3) (dens_ext hext _ _ d1) off
            simpa using this
          · unfold splice at hy
            simp only [List.mem_append] at hy
            rcases hy with (hy | hy) | hy
            · exact h4 y (List.mem_of_mem_take hy)
            · exact List.all_eq_true.1 hc3 y hy
            · exact h4 y (List.mem_of_mem_drop hy))
        exact ⟨w', _, hr, h, m1, m2⟩
      · exact h.elim
    · rename_i ty n get hj
      obtain ⟨cs, fr, h1, h2, h3, h4⟩ := mem_arr hm hj hb
      split at h
      · rename_i m get'
        split at h
        · rename_i hc
          obtain ⟨rfl, rfl, hc3⟩ := hc
          unfold den at hx
          obtain ⟨vs, rfl, hvl, hvs⟩ := hx
          obtain ⟨w', cs', hr, hu, he⟩ := storeVar_run ht c.w b 0 (.agg ⟨vs⟩) cs ty fr h1 h2 (by simp [Value.cells]; omega) (by simp [Value.cells]; omega) (fun u hu => by
            simp only [Value.cells] at hu
            obtain ⟨i, hi⟩ := List.getElem?_of_mem hu
            have hlt : i < m := by rw [← hvl]; exact (List.getElem?_eq_some_iff.1 hi).1
            obtain ⟨u', hu', hr'⟩ := hvs i hlt
            rw [hu'] at hi; cases hi
            exact (rep_oneCell hr').1)
          have hcs : cs'.toList = vs := by
            rw [he]
            simp only [Value.cells, List.take_zero, List.nil_append, Nat.zero_add]
            rw [List.drop_eq_nil_of_le (by simp; omega), List.append_nil]
          obtain ⟨m1, m2⟩ := upd_mem hm (ob' := .arr ty m get') hj (arr_blk hm hj hb) rfl hu ⟨rfl, rfl⟩ (fun hext => by
            have hsz : cs'.size = m := by rw [← Array.length_toList, hcs, hvl]
            refine ⟨b, cs', fr, rfl, hu.here, by rw [hsz, ← h3]; exact h2, hsz, fun i hi => ?_⟩
            obtain ⟨u, hu', hr'⟩ := hvs i hi
            refine ⟨u, ?_, hext.rep hr'⟩
            rw [← hcs] at hu'
            simpa using hu')
          exact ⟨w', _, hr, h, m1, m2⟩
        · exact h.elim
      · exact h.elim
    · exact h.elim
  · rename_i j i
    unfold den at ha
    obtain ⟨⟨t', n', g', hj', hi⟩, b, hb, rfl⟩ := ha
    split at h
    · rename_i ty n get dv hj
      rw [hj] at hj'
      obtain ⟨rfl, rfl, rfl⟩ : ty = t' ∧ n = n' ∧ get = g' := by cases hj'; exact ⟨rfl, rfl, rfl⟩
      obtain ⟨cs, fr, h1, h2, h3, h4⟩ := mem_arr hm hj hb
      split at h
      · rename_i hsz
        unfold den at hx
        obtain ⟨o1, o2⟩ := rep_oneCell hx
        obtain ⟨w', cs', hr, hu, he⟩ := storeVar_run ht c.w b i vx cs ty fr h1 h2 (by rw [o2]; simpa using hsz.symm) (by rw [o2]; simp; omega) (fun u hu => by rw [o2] at hu; simp at hu; subst hu; exact o1)
        have hget : ∀ m : Nat, cs'[m]? = if m = i then some vx else cs[m]? := by
          intro m
          rw [← Array.getElem?_toList, he, o2]
          have := splice_get cs.toList [vx] i m (by simp; omega)
          simp only [List.length_cons, List.length_nil, Nat.zero_add, Array.getElem?_toList] at this
          rw [show (#[vx] : Array Value).toList = [vx] from rfl, show (#[vx] : Array Value).size = 1 from rfl, this]
          by_cases hmi : m = i
          · subst hmi; simp
          · simp [hmi, show ¬ (i ≤ m ∧ m < i + 1) by omega]
        have hsz' : cs'.size = cs.size := by
          have := congrArg List.length he
          rw [o2] at this
          simp at this; omega
        obtain ⟨m1, m2⟩ := upd_mem hm (ob' := .arr ty n (fun m => if m = i then dv else get m)) hj (arr_blk hm hj hb) rfl hu ⟨rfl, rfl⟩ (fun hext => by
          refine ⟨b, cs', fr, rfl, hu.here, by rw [hsz']; exact h2, by omega, fun m hmn => ?_⟩
          rw [hget m]
          by_cases hmi : m = i
          · simp only [hmi, if_true]; exact ⟨vx, rfl, hext.rep hx⟩
          · simp only [hmi, if_false]
            obtain ⟨u, hu', hr'⟩ := h4 m hmn
            exact ⟨u, hu', hext.rep hr'⟩)
        exact ⟨w', _, hr, h, m1, m2⟩
      · exact h.elim
    · exact h.elim
  · rename_i j ver i off
    unfold den at ha
    obtain ⟨_, _, ha⟩ := ha
    split at h
    · rename_i v ety l hj
      split at h
      · rename_i n
        split at h
        · rename_i hc
          obtain ⟨rfl, hsz, rfl⟩ := hc
          obtain ⟨⟨n0, n1⟩, hk⟩ := BR_req h
          replace hk := hk _ rfl
          obtain ⟨_, ha⟩ := ha _ _ _ hj
          obtain ⟨hi, b, o, cap, hl, rfl⟩ := ha rfl
          obtain ⟨g1, g2, g3, g4, g5⟩ := mem_row hm hj hl
          obtain ⟨cs, fr, q1, q2, q3, q4⟩ := g5 b o rfl
          simp only [RC.len, RC.sz, Nat.mul_one, Nat.add_zero] at *
          obtain rfl := den_int hx
          obtain ⟨w', cs', hr, hu, he⟩ := storeVar_run ht c.w b (o + i) (.int .u8 n) cs ety fr q1 q2 (by simpa [Value.cells] using hsz.symm) (by simp [Value.cells]; omega) (fun u hu => by simp [Value.cells] at hu; subst hu; rfl)
          have hget : ∀ m : Nat, cs'[m]? = if m = o + i then some (.int .u8 n) else cs[m]? := by
            intro m
            rw [← Array.getElem?_toList, he]
            have := splice_get cs.toList [.int .u8 n] (o + i) m (by simp; omega)
            simp only [List.length_cons, List.length_nil, Nat.zero_add, Array.getElem?_toList] at this
            rw [show (Value.int .u8 n).cells.toList = [.int .u8 n] from rfl, show (Value.int .u8 n).cells.size = 1 from rfl, this]
            by_cases hmi : m = o + i
            · subst hmi; simp
            · simp [hmi, show ¬ (o + i ≤ m ∧ m < o + i + 1) by omega]
          have hsz' : cs'.size = cs.size := by
            have := congrArg List.length he
            simp [Value.cells] at this; omega
          obtain ⟨m1, m2⟩ := upd_mem hm (ob' := .row v ety (.bytes (l.set i (UInt8.ofNat n.toNat)))) hj hl rfl hu ⟨rfl, by simp [RC.len], rfl⟩ (fun hext => by
            refine ⟨some (b, o), cap, rfl, by simpa [RC.len] using g1, g2, by simp [RC.sz], (fun h => by cases h), fun b' o' hA => ?_⟩
            cases hA
            refine ⟨cs', fr, hu.here, by rw [hsz']; exact q2, by simp [RC.sz]; omega, fun m hmn j' hj' => ?_⟩
            simp only [RC.len, List.length_set, RC.sz, Nat.mul_one] at hmn hj' ⊢
            obtain rfl : j' = 0 := by omega
            rw [Nat.add_zero, hget]
            by_cases hmi : m = i
            · subst hmi
              refine ⟨_, by rw [if_pos rfl], ?_⟩
              show _ = _
              simp [List.getD, hi]
              omega
            · rw [if_neg (by omega)]
              obtain ⟨u, hu', hr'⟩ := q4 m hmn 0 (by omega)
              refine ⟨u, by simpa using hu', ?_⟩
              have hr'' := hext.rep hr'
              simp only [RC.cell] at hr'' ⊢
              have e : (l.set i (UInt8.ofNat n.toNat)).getD m 0 = l.getD m 0 := by simp [List.getD, Ne.symm hmi]
              rw [e]; exact hr'')
          exact ⟨w', _, hr, hk, m1, m2⟩
        · exact h.elim
      · exact h.elim
    · rename_i v ety sz n g hj
      split at h
      · rename_i ds hds
        split at h
        · rename_i hc
          obtain ⟨rfl, hsz, hoff⟩ := hc
          obtain ⟨_, ha⟩ := ha _ _ _ hj
          obtain ⟨hi, b, o, cap, hl, rfl⟩ := ha rfl
          obtain ⟨g1, g2, g3, g4, g5⟩ := mem_row hm hj hl
          obtain ⟨cs, fr, q1, q2, q3, q4⟩ := g5 b o rfl
          simp only [RC.len, RC.sz, RC.cell] at *
          have hst := cellsD_storable hds
          obtain ⟨d1, d2⟩ := den_cells (List.all_eq_true.2 hst) hx
          obtain ⟨e1, e2⟩ := cellsD_rep hds d1
          have hpos : i * sz + off + ds.length ≤ cap * sz := by
            have : (i + 1) * sz ≤ cap * sz := Nat.mul_le_mul_right _ (by omega)
            rw [Nat.add_mul, Nat.one_mul] at this; omega
          have hvs : vx.cells.size = ds.length := by simpa using e1.symm
          obtain ⟨w', cs', hr, hu, he⟩ := storeVar_run ht c.w b (o + i * sz + off) vx cs ety fr q1 q2 (by omega) (by omega) d2
          have hget : ∀ m : Nat, cs'[m]? = if o + i * sz + off ≤ m ∧ m < o + i * sz + off + ds.length then vx.cells.toList[m - (o + i * sz + off)]? else cs[m]? := by
            intro m
            rw [← Array.getElem?_toList, he]
            have := splice_get cs.toList vx.cells.toList (o + i * sz + off) m (by simp; omega)
            simp only [Array.length_toList, Array.getElem?_toList] at this
            rw [this, hvs]
            simp
          have hsz' : cs'.size = cs.size := by
            have := congrArg List.length he
            simp at this; omega
          obtain ⟨m1, m2⟩ := upd_mem hm (ob' := .row v ety (.list sz n (fun i' j' => if i' = i ∧ off ≤ j' ∧ j' < off + ds.length then ds.getD (j' - off) (.bool false) else g i' j'))) hj hl rfl hu ⟨rfl, rfl, rfl⟩ (fun hext => by
            refine ⟨some (b, o), cap, rfl, g1, g2, g3, (fun h => by cases h), fun b' o' hA => ?_⟩
            cases hA
            refine ⟨cs', fr, hu.here, by rw [hsz']; exact q2, by rw [hsz']; exact q3, fun m hmn j' hj' => ?_⟩
            simp only [RC.len, RC.sz, RC.cell] at hmn hj' ⊢
            rw [hget]
            by_cases hmi : m = i ∧ off ≤ j' ∧ j' < off + ds.length
            · obtain ⟨rfl, hj1, hj2⟩ := hmi
              have hlt : j' - off < vx.cells.toList.length := by simp; omega
              have hv : vx.cells.toList[j' - off]? = some vx.cells.toList[j' - off] := List.getElem?_eq_getElem hlt
              refine ⟨vx.cells.toList[j' - off], ?_, ?_⟩
              · rw [if_pos (by omega), ← hv]; congr 1; omega
              · rw [if_pos ⟨rfl, hj1, hj2⟩]; exact hext.rep (e2 _ _ hv)
            · have hne : ¬ (o + i * sz + off ≤ o + m * sz + j' ∧ o + m * sz + j' < o + i * sz + off + ds.length) := by
                intro ⟨b1, b2⟩
                obtain ⟨q, hq⟩ : ∃ q, o + m * sz + j' = o + i * sz + (off + q) ∧ q < ds.length := ⟨o + m * sz + j' - (o + i * sz + off), by omega, by omega⟩
                obtain ⟨r1, r2⟩ := mul_pos_inj hj' (show off + q < sz by omega) (show m * sz + j' = i * sz + (off + q) by omega)
                exact hmi ⟨r1, by omega, by omega⟩
              rw [if_neg hne, if_neg hmi]
              obtain ⟨u, hu', hr'⟩ := q4 m hmn j' hj'
              exact ⟨u, hu', hext.rep hr'⟩)
          exact ⟨w', _, hr, h, m1, m2⟩
        · exact h.elim
      · exact h.elim
    · exact h.elim
  · exact h.elim

end
end Go.Proofs.Ytmadffhjgbpojaa.Sx

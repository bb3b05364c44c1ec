/- Mesh: a mesh is read: the function does what is said of it. -/
import Derived.Test.YtmadffhjgbpojaaMf1Vc
import Derived.Test.YtmadffhjgbpojaaMfFun
namespace Go.Proofs.Ytmadffhjgbpojaa.Fix
open Go Go.Proofs.Ytmadffhjgbpojaa.Sx
attribute [local irreducible] evFunc

theorem rowstep3 {f : Nat → Nat → D} {a S : Nat} {x0 x1 x2 d : D} (h0 : x0 = f a 0) (h1 : x1 = f a 1) (h2 : x2 = f a 2) : ∀ i, i < a + 1 → ∀ j, j < 3 → (if i < a then f i j else [x0, x1, x2].getD ((i - a) * S + j) d) = f i j := by
  intro i hi j hj
  by_cases h : i < a
  · rw [if_pos h]
  · obtain rfl : i = a := by omega
    rw [if_neg h, Nat.sub_self, Nat.zero_mul, Nat.zero_add]
    rcases (by omega : j = 0 ∨ j = 1 ∨ j = 2) with rfl | rfl | rfl
    · exact h0
    · exact h1
    · exact h2
theorem rowstep4 {f : Nat → Nat → D} {a S : Nat} {x0 x1 x2 x3 d : D} (h0 : x0 = f a 0) (h1 : x1 = f a 1) (h2 : x2 = f a 2) (h3 : x3 = f a 3) : ∀ i, i < a + 1 → ∀ j, j < 4 → (if i < a then f i j else [x0, x1, x2, x3].getD ((i - a) * S + j) d) = f i j := by
  intro i hi j hj
  by_cases h : i < a
  · rw [if_pos h]
  · obtain rfl : i = a := by omega
    rw [if_neg h, Nat.sub_self, Nat.zero_mul, Nat.zero_add]
    rcases (by omega : j = 0 ∨ j = 1 ∨ j = 2 ∨ j = 3) with rfl | rfl | rfl | rfl
    · exact h0
    · exact h1
    · exact h2
    · exact h3
theorem num8_in (l : List UInt8) (o : Nat) : In64 (num8 l o) := by unfold num8 In64; rw [IntKind.wrap_i64]; omega
theorem num4_in (l : List UInt8) (o : Nat) : 0 ≤ num4 l o ∧ num4 l o < 4294967296 := by
  have h1 := beN_range ((l.drop o).take 4)
  have h2 : ((l.drop o).take 4).length ≤ 4 := by rw [List.length_take]; omega
  refine ⟨h1.1, Int.lt_of_lt_of_le h1.2 ?_⟩
  have := Nat.pow_le_pow_right (n := 256) (by omega) h2
  have h3 : ((256 ^ ((l.drop o).take 4).length : Nat) : Int) ≤ ((256 ^ 4 : Nat) : Int) := by omega
  simpa using h3
theorem mread_ok {l : List UInt8} {K : Out → Prop} 
    (h : BR (decide (readE l = 0)) (K (.val (.tuple [.agg [.d (.list 3 (cnt l 0) (readP l)), .d (.list 3 (cnt l 1) (readT l (cnt l 0))), .d (.list 4 (cnt l 2) (readQ l (cnt l 0) (cnt l 1)))], I64 0])))
      (∀ e, e = readE l → K (.val (.tuple [.agg [nilL 3, nilL 3, nilL 4], I64 e])))) :
    evFunc Try.prog ΓE1 annMf 10 9 18 [.d (.bytes l)] [] (outF (.tup [.agg [.list 3, .list 3, .list 4], .any]) K) := by
  have kE : ∀ e, e ≠ 0 → readE l = e → K (.val (.tuple [.agg [nilL 3, nilL 3, nilL 4], I64 e])) := fun e he h2 => by
    rw [BR_iff] at h
    exact h.2 (by simp [h2, he]) e h2.symm
  have k0 : readE l = 0 → K (.val (.tuple [.agg [.d (.list 3 (cnt l 0) (readP l)), .d (.list 3 (cnt l 1) (readT l (cnt l 0))), .d (.list 4 (cnt l 2) (readQ l (cnt l 0) (cnt l 1)))], I64 0])) := fun h2 => by
    rw [BR_iff] at h
    exact h.1 (by simp [h2])
  clear h
  rw [vcRead]
  simp only [true_and, and_true, implies_true, Subtype.forall, Subtype.exists, exists_prop, Int.toNat_natCast, Nat.sub_zero, Nat.zero_add]
  intro hmax
  refine BR_d (fun c1 => kE 12 (by omega) (by unfold readE; rw [if_pos (by omega)])) fun c1 => ?_
  have c1' : ¬ l.length < 12 := by omega
  refine BR_y (by omega) fun n0 hn0 l1 hl1 => BR_y (by rw [hl1, List.length_drop]; omega) fun n1 hn1 l2 hl2 => BR_y (by rw [hl2, List.length_drop, hl1, List.length_drop]; omega) fun n2 hn2 l3 hl3 => ?_
  have e0 : n0 = num4 l 0 := by rw [hn0]; rfl
  have e1 : n1 = num4 l 4 := by rw [hn1, hl1]; rfl
  have e2 : n2 = num4 l 8 := by rw [hn2, hl2, hl1, List.drop_drop]; rfl
  have e3 : l3 = l.drop 12 := by rw [hl3, hl2, hl1, List.drop_drop, List.drop_drop]
  have hr : ∀ o, 0 ≤ num4 l o ∧ num4 l o < 4294967296 := num4_in l
  obtain ⟨r0, r0'⟩ := hr 0
  obtain ⟨r1, r1'⟩ := hr 4
  obtain ⟨r2, r2'⟩ := hr 8
  rw [← e0] at r0 r0'; rw [← e1] at r1 r1'; rw [← e2] at r2 r2'
  clear hn0 hn1 hn2 hl1 hl2 hl3
  obtain ⟨p, rfl⟩ := Int.eq_ofNat_of_zero_le r0
  obtain ⟨q, rfl⟩ := Int.eq_ofNat_of_zero_le r1
  obtain ⟨s, rfl⟩ := Int.eq_ofNat_of_zero_le r2
  have d0 : cnt l 0 = p := by unfold cnt; rw [Nat.mul_zero, ← e0]; rfl
  have d1 : cnt l 1 = q := by unfold cnt; rw [Nat.mul_one, ← e1]; rfl
  have d2 : cnt l 2 = s := by unfold cnt; rw [show 4 * 2 = 8 from rfl, ← e2]; rfl
  have eE : readE l = if 4096 < p ∨ 4096 < q ∨ 4096 < s then 3 else if l.length < 12 + 24 * p + 12 * q + 32 * s then 12 else if 12 + 24 * p + 12 * q + 32 * s < l.length then 10 else if okB p q s (readP l) (readT l p) (readQ l p q) = true then 0 else 14 := by
    unfold readE; rw [if_neg c1', d0, d1, d2]
  refine BR_d (fun g => kE 3 (by omega) (by rw [eE, if_pos (by omega)])) fun g1 => BR_d (fun g => kE 3 (by omega) (by rw [eE, if_pos (by omega)])) fun g2 => BR_d (fun g => kE 3 (by omega) (by rw [eE, if_pos (by omega)])) fun g3 => ?_
  rw [if_neg (by omega)] at eE
  have hl3 : l3.length = l.length - 12 := by rw [e3, List.length_drop]
  have ew : IntKind.i64.wrap (IntKind.i64.wrap (IntKind.i64.wrap (24 * (p : Int)) + IntKind.i64.wrap (12 * (q : Int))) + IntKind.i64.wrap (32 * (s : Int))) = 24 * p + 12 * q + 32 * s := by
    rw [w64 (n := 24 * (p : Int)) (by unfold In64; omega), w64 (n := 12 * (q : Int)) (by unfold In64; omega), w64 (n := 32 * (s : Int)) (by unfold In64; omega), w64 (n := 24 * (p : Int) + 12 * (q : Int)) (by unfold In64; omega), w64 (by unfold In64; omega)]
  rw [ew]
  intro _
  refine BR_d (fun g => kE 12 (by omega) (by rw [eE, if_pos (by omega)])) fun g4 => ?_
  rw [if_neg (by omega)] at eE
  intro _
  refine BR_d (fun g => kE 10 (by omega) (by rw [eE, if_pos (by omega)])) fun g5 => ?_
  rw [if_neg (by omega)] at eE
  have hd : ∀ o k, (List.drop k (List.drop o l)) = List.drop (o + k) l := fun o k => by rw [List.drop_drop]
  have hdl : ∀ o, (List.drop o l).length = l.length - o := fun o => List.length_drop
  refine ⟨⟨0, by omega, rfl, by rw [e3], rfl, rfl, fun i hi => by omega⟩, fun a ha => BR_d (fun h1 => BR_y ⟨by omega, by omega, by rw [hdl]; omega⟩ fun x0 hx0 m1 hm1 => BR_y ⟨by omega, by omega, by rw [hm1, hd, hdl]; omega⟩ fun x1 hx1 m2 hm2 => BR_y ⟨by omega, by omega, by rw [hm2, hm1, hd, hd, hdl]; omega⟩ fun x2 hx2 m3 hm3 => BR_y (by omega) (BR_y trivial ⟨a + 1, by omega, by omega, by rw [w64 (by unfold In64; omega)]; omega, by rw [hm3, hm2, hm1, hd, hd, hd]; congr 1, rfl, rfl, ?_⟩)) fun h1 => ?_⟩
  · refine rowstep3 (f := fun i j => D.int IntKind.i64 (num8 l (12 + 24 * i + 8 * j))) ?_ ?_ ?_
    · rw [hx0]; rfl
    · rw [hx1, hm1, hd]; rfl
    · rw [hx2, hm2, hm1, hd, hd]; rfl
  obtain rfl : a = p := by omega
  refine ⟨⟨0, by omega, rfl, by congr 1, rfl, rfl, fun i hi => by omega⟩, fun a2 ha2 => BR_d (fun h1 => BR_y (by rw [hdl]; omega) fun x0 hx0 m1 hm1 => BR_y (by rw [hm1, hd, hdl]; omega) fun x1 hx1 m2 hm2 => BR_y (by rw [hm2, hm1, hd, hd, hdl]; omega) fun x2 hx2 m3 hm3 => BR_y (by omega) (BR_y trivial ⟨a2 + 1, by omega, by omega, by rw [w64 (by unfold In64; omega)]; omega, by rw [hm3, hm2, hm1, hd, hd, hd]; congr 1, rfl, rfl, ?_⟩)) fun h2 => ?_⟩
  · refine rowstep3 (f := fun i j => D.int IntKind.i64 (num4 l (12 + 24 * (a : Int).toNat + 12 * i + 4 * j))) ?_ ?_ ?_
    · rw [hx0]; rfl
    · rw [hx1, hm1, hd]; rfl
    · rw [hx2, hm2, hm1, hd, hd]; rfl
  obtain rfl : a2 = q := by omega
  refine ⟨⟨0, by omega, rfl, by congr 1, rfl, rfl, fun i hi => by omega⟩, fun a3 ha3 => BR_d (fun h1 => BR_y ⟨by omega, by omega, by rw [hdl]; omega⟩ fun x0 hx0 m1 hm1 => BR_y ⟨by omega, by omega, by rw [hm1, hd, hdl]; omega⟩ fun x1 hx1 m2 hm2 => BR_y ⟨by omega, by omega, by rw [hm2, hm1, hd, hd, hdl]; omega⟩ fun x2 hx2 m3 hm3 => BR_y ⟨by omega, by omega, by rw [hm3, hm2, hm1, hd, hd, hd, hdl]; omega⟩ fun x3 hx3 m4 hm4 => BR_y (by omega) (BR_y trivial ⟨a3 + 1, by omega, by omega, by rw [w64 (by unfold In64; omega)]; omega, by rw [hm4, hm3, hm2, hm1, hd, hd, hd, hd]; congr 1, rfl, rfl, ?_⟩)) fun h3 => ?_⟩
  · refine rowstep4 (f := fun i j => D.int IntKind.i64 (num8 l (12 + 24 * (a : Int).toNat + 12 * (a2 : Int).toNat + 32 * i + 8 * j))) ?_ ?_ ?_ ?_
    · rw [hx0]; rfl
    · rw [hx1, hm1, hd]; rfl
    · rw [hx2, hm2, hm1, hd, hd]; rfl
    · rw [hx3, hm3, hm2, hm1, hd, hd, hd]; rfl
  obtain rfl : a3 = s := by omega
  refine ⟨⟨fun i _ j _ => ⟨rfl, num8_in _ _⟩, fun i _ j _ => ⟨rfl, ?_⟩, fun i _ j _ => ⟨rfl, num8_in _ _⟩, by omega, by omega⟩, BR_b (fun hok => ?_) fun hok => ?_⟩
  · have := num4_in l (12 + 24 * (a : Int).toNat + 12 * i + 4 * j)
    exact ⟨Int.le_trans (by omega) this.1, Int.lt_trans this.2 (by omega)⟩
  · have hok : okB a a2 a3 (readP l) (readT l a) (readQ l a a2) = true := hok
    have := k0 (by rw [eE, if_pos hok])
    rw [d0, d1, d2] at this
    exact this
  · have hok : okB a a2 a3 (readP l) (readT l a) (readQ l a a2) = false := hok
    exact kE 14 (by omega) (by rw [eE, if_neg (by rw [hok]; decide)])
/-! ## What is known, in all -/
theorem ΓE0_ok : GammaOK Try.prog ΓE0 := by
  intro f s h
  unfold ΓE0 at h
  split at h
  · cases h
  · cases h -- @n{mesh.four}@
    refine ⟨memSpec_ok (nul := []) (evFunc_sound ΓM1_ok noAnn 10 9) fun xs obs K h => ?_, memSpec_calm fun xs obs => ?_⟩
    · split at h
      · obtain ⟨hx, h1⟩ := req h
        obtain ⟨hn, h2⟩ := req h1
        obtain ⟨hl, h3⟩ := req h2
        clear h h1 h2
        obtain ⟨rfl, rfl⟩ := of_decide_eq_true hn
        exact four_okV (of_decide_eq_true hl) h3
      · obtain ⟨hx, h⟩ := req h
        exact four_okN h
      · exact h.elim
    · split
      · exact km_br (km_br (km_br (km_all (E := fun l' K => K _ _) (km_ret _ _)) km_false) km_false) km_false
      · exact km_br (km_all (E := fun l' K => K _ _) (km_ret _ _)) km_false
      · exact km_false
  · cases h -- @n{mesh.Read$1}@
    refine ⟨memSpec_ok (nul := []) (evFunc_sound ΓM1_ok annMe 10 9) fun xs obs K h => ?_, memSpec_calm fun xs obs => ?_⟩
    · split at h
      · obtain ⟨hk, h⟩ := req h
        exact some_ok (of_decide_eq_true hk) (h _ rfl _ rfl)
      · exact h.elim
    · split
      · exact km_br (km_all (E := fun n K => ∀ l', l' = _ → K (I64 n) _) (km_all (E := fun l' K => K _ [.ban, .fix _ [.d (.bytes l')]]) (km_ret _ _))) km_false
      · exact km_false
  · exact ΓM1_ok _ _ h
theorem ΓE1_ok : GammaOK Try.prog ΓE1 := by
  intro f s h
  unfold ΓE1 at h
  split at h
  · cases h
  · cases h -- @n{mesh.Check}@
    refine ⟨pureSpec_ok (nl := none) (evN_sound (evFunc_sound ΓM1_ok annMe 10 9)) fun xs K h => ?_, pureSpec_calm fun xs => ?_⟩
    · split at h
      · rename_i np gp nt gt nb gb
        obtain ⟨hm, h⟩ := h
        refine ⟨[.agg [NL 3 np fun i j => dI (gp i j), NL 3 nt fun i j => dI (gt i j), NL 4 nb fun i j => dI (gb i j)]], fun c vs hd => dens_head (fun v => dens_mesh hm) (fun vs h => h) hd, ?_⟩
        refine check_ok hm.2.2.2.1 hm.2.2.2.2 ?_
        exact h
      · exact h.elim
    · repeat' (first | exact kd_ret _ | exact kd_false | refine kd_and ?_ | refine kd_br ?_ ?_ | split)
  · cases h -- @n{mesh.Read$2}@
    refine ⟨memSpec_ok (nul := []) (evFunc_sound ΓE0_ok annMe 10 9) fun xs obs K h => ?_, memSpec_calm fun xs obs => ?_⟩
    · split at h
      · obtain ⟨hk, h⟩ := req h
        exact place_ok (of_decide_eq_true hk) (h _ rfl _ rfl)
      · exact h.elim
    · split
      · exact km_br (km_all (E := fun n K => ∀ l', l' = _ → K (I64 n) _) (km_all (E := fun l' K => K _ [.ban, _, .fix _ [.d (.bytes l')]]) (km_ret _ _))) km_false
      · exact km_false
  · exact ΓE0_ok _ _ h
def ΓE2 : FuncId → Option Sx.Spec
  | 4000000000 => none
  | 16 => some bytesSpec
  | 18 => some mreadSpec
  | f => ΓE1 f
theorem ΓE2_ok : GammaOK Try.prog ΓE2 := by
  intro f s h
  unfold ΓE2 at h
  split at h
  · cases h
  · cases h -- @n{mesh.Bytes}@
    refine ⟨pureSpec_okF (ak := .tup [.bytes, .any]) (evN_sound (evFunc_sound ΓE1_ok annMf 10 9)) fun xs K h => ?_, pureSpec_calm fun xs => ?_⟩
    · split at h
      · rename_i np gp nt gt nb gb
        obtain ⟨hm, h⟩ := h
        refine ⟨[.agg [NL 3 np fun i j => dI (gp i j), NL 3 nt fun i j => dI (gt i j), NL 4 nb fun i j => dI (gb i j)]], fun c vs hd => dens_head (fun v => dens_mesh hm) (fun vs h => h) hd, ?_⟩
        refine mbytes_ok ⟨fun i hi j hj => ⟨rfl, (hm.1 i hi j hj).2⟩, fun i hi j hj => ⟨rfl, (hm.2.1 i hi j hj).2⟩, fun i hi j hj => ⟨rfl, (hm.2.2.1 i hi j hj).2⟩, hm.2.2.2⟩ ?_
        exact h
      · exact h.elim
    · split
      · exact kd_and (kd_br (kd_all (E := fun l K => K (.val (.tuple [.d (.bytes l), _]))) (kd_ret _)) (kd_ret _))
      · exact kd_false
  · cases h -- @n{mesh.Read}@
    refine ⟨pureSpec_okF (ak := .tup [.agg [.list 3, .list 3, .list 4], .any]) (evFunc_sound ΓE1_ok annMf 10 9) fun xs K h => ?_, pureSpec_calm fun xs => ?_⟩
    · split at h
      · exact mread_ok h
      · exact h.elim
    · split
      · exact kd_br (kd_ret _) (kd_all (E := fun e K => K (.val (.tuple [_, I64 e]))) (kd_ret _))
      · exact kd_false
  · exact ΓE1_ok _ _ h
end Go.Proofs.Ytmadffhjgbpojaa.Fix

/- Fix: more of the laws. -/
import Derived.Test.YtjcndnbfkhpjoaaFixLaws
import Derived.Test.YtjcndnbfkhpjoaaFixLcVc
namespace Go.Proofs.Ytjcndnbfkhpjoaa.Fix
open Go Go.Proofs.Ytjcndnbfkhpjoaa.Sx Go.RowKit
attribute [local irreducible] evFunc

theorem whole_ok {a b : Int} (ha : -32768 ≤ a ∧ a < 32768) (hb : -32768 ≤ b ∧ b < 32768) : evFunc Try.prog Γ5 ann 10 3 6 [.d (.int .i16 a), .d (.int .i16 b)] [] yesK := by
  rw [vcWhole]
  have hp := prod16 ha.1 ha.2 hb.1 hb.2
  rw [w64 (n := a) (by unfold In64; omega), w64 (n := b) (by unfold In64; omega)]
  have ia : inI64 a = true := inI64_of (by unfold In64; omega)
  have ib : inI64 b = true := inI64_of (by unfold In64; omega)
  simp only [forall_eq, w64 (n := a + b) (by unfold In64; omega), w64 (n := a - b) (by unfold In64; omega), w64 (n := a * b) (by unfold In64; omega), w64 (n := 0 - a) (by unfold In64; omega)]
  have i1 : inI64 (a + b) = true := inI64_of (by unfold In64; omega)
  have i2 : inI64 (a - b) = true := inI64_of (by unfold In64; omega)
  have i3 : inI64 (a * b) = true := inI64_of (by unfold In64; omega)
  have i4 : inI64 (0 - a) = true := inI64_of (by unfold In64; omega)
  have iz : ∀ n, inI64 (ofZ n) = true := fun n => inI64_of (ofZ_in n)
  have e0 : negZ (ofZ a) = ofZ (0 - a) := by rw [whole_neg ha.1 ha.2]; congr 1; omega
  have hr := whole_root ha.1 ha.2
  simp only [ia, ib, i1, i2, i3, i4, iz, BR_true, whole_add ha.1 ha.2 hb.1 hb.2, whole_sub ha.1 ha.2 hb.1 hb.2, whole_mul ha.1 ha.2 hb.1 hb.2, whole_mul ha.1 ha.2 ha.1 ha.2, e0, hr, BR_nd, Bool.not_true, BR_false, decide_true, whole_floor (n := a * b) (by omega) (by omega), and_self, exists_const, forall_const, true_and]
  refine ⟨BR_d (fun _ => trivial) fun h => ?_, ?_⟩
  · rw [whole_div ha.1 ha.2 hb.1 hb.2 h]
    exact BR_y rfl trivial
  · refine BR_d (fun h => ?_) fun h => ?_
    · rw [if_pos h]; exact BR_y rfl trivial
    · rw [if_neg h]; refine BR_y (by omega) (BR_y ?_ trivial); congr 1; omega
theorem walk_whole (v0 v1 : Value) (w : World) (h0 : InArg Try.prog w 28 v0) (h1 : InArg Try.prog w 28 v1) :
    Calls Try.prog 6 #[v0, v1] w fun e w' => e = .returned (.bool true) ∧ Below w.heap.size w w' := by
  obtain ⟨a, ha, d0⟩ := in_i16' h0
  obtain ⟨b, hb, d1⟩ := in_i16' h1
  exact law_calls Γ5_ok (whole_ok ha hb) (dens_cons d0 (dens_cons d1 dens_nil))

theorem and_low {b : Int} : 0 ≤ bits BinOp.and IntKind.i64 b 8796093022207 ∧ bits BinOp.and IntKind.i64 b 8796093022207 < 8796093022208 := by
  have h : ∀ x : BitVec 64, (x &&& 8796093022207#64).toNat < 8796093022208 := by
    intro x
    rw [BitVec.toNat_and]
    have := Nat.and_le_right (n := x.toNat) (m := (8796093022207#64).toNat)
    have e : (8796093022207#64).toNat = 8796093022207 := by decide
    omega
  have h2 := h (BitVec.ofInt 64 b)
  have e : bits BinOp.and IntKind.i64 b 8796093022207 = IntKind.i64.wrap ((BitVec.ofInt 64 b &&& 8796093022207#64).toNat : Int) := rfl
  rw [e, IntKind.wrap_i64]
  omega
theorem rounds_ok {a b n : Int} (ha : In64 a) : evFunc Try.prog Γ5 ann 10 3 3 [I64 a, I64 b, I64 n] [] yesK := by
  rw [vcRounds]
  intro x hx y hy
  have h1 := tm_bd a (b := 17592186044416) (by omega)
  rw [← hx] at h1
  have h2 := and_low (b := b)
  rw [w64 (by unfold In64; omega)] at hy
  obtain ⟨q1, q2, q3⟩ := quo_small (x := x) (y := y) (by omega) (by omega) (by omega)
  have hq := quo_back (x := x) (y := y) (by omega) (by omega) (by omega)
  rw [← q1] at q2 q3
  have ix : inI64 x = true := inI64_of (by unfold In64; omega)
  have iy : inI64 y = true := inI64_of (by unfold In64; omega)
  have iq : inI64 (divZ x y) = true := inI64_of (divZ_in _ _)
  have iq1 : inI64 (divZ x y + 1) = true := inI64_of (by unfold In64; omega)
  obtain ⟨r0, r1, r2⟩ := sqrtZ_in ha
  have ir1 : inI64 (sqrtZ a + 1) = true := inI64_of (by unfold In64; omega)
  have s1 := sinZ_bd a
  have s2 := cosZ_bd a
  have hm : -2147483648 ≤ IntKind.i32.wrap n ∧ IntKind.i32.wrap n < 2147483648 := by rw [IntKind.wrap_i32]; omega
  have im : inI64 (IntKind.i32.wrap n) = true := inI64_of (by unfold In64; omega)
  simp only [forall_eq, ix, iy, iq, iq1, BR_true, w64 (n := divZ x y + 1) (by unfold In64; omega), w64 (n := sqrtZ a + 1) (by unfold In64; omega), w64 (n := IntKind.i32.wrap n) (by unfold In64; omega), inI64_of ha, inI64_of r0, ir1, im, inI64_of (ofZ_in _), whole_floor hm.1 hm.2, decide_true, and_self, exists_const, forall_const, BR_nd, BR_nF, and_true]
  have ra := root_back ha
  have rz : a ≤ 0 → sqrtZ a = 0 := fun h => by unfold sqrtZ; rw [if_pos (by omega)]
  simp only [BR_dec, BR_pF]
  grind
theorem walk_rounds (v0 v1 v2 : Value) (w : World) (h0 : InArg Try.prog w 2 v0) (h1 : InArg Try.prog w 2 v1) (h2 : InArg Try.prog w 3 v2) :
    Calls Try.prog 3 #[v0, v1, v2] w fun e w' => e = .returned (.bool true) ∧ Below w.heap.size w w' := by
  obtain ⟨a, ha, d0⟩ := in_i64' h0
  obtain ⟨b, hb, d1⟩ := in_i64' h1
  obtain ⟨n, hn, d2⟩ := in_int' h2
  exact law_calls Γ5_ok (rounds_ok ha) (dens_cons d0 (dens_cons d1 (dens_cons d2 dens_nil)))

theorem numbers_ok : evFunc Try.prog Γ5 ann 10 3 8 [] [] yesK := by
  rw [vcNumbers]
  have y : ∀ {b : Bool} {A B : Prop}, b = true → A → BR b A B := fun h a => by rw [h, BR_true]; exact a
  simp only [forall_eq, decide_true, BR_true, and_self, exists_const, forall_const, true_and, and_true]
  repeat' (first | trivial | refine y (by decide) ?_)
theorem walk_numbers (w : World) : Calls Try.prog 8 #[] w fun e w' => e = .returned (.bool true) ∧ Below w.heap.size w w' :=
  law_calls Γ5_ok numbers_ok dens_nil
end Go.Proofs.Ytjcndnbfkhpjoaa.Fix

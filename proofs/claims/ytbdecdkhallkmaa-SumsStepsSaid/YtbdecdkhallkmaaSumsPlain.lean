/- The plain laws of the two sums (CRC-32 and Adler-32): lists and numbers alone, no program in sight. -/
namespace Go.Proofs.Ytbdecdkhallkmaa.Sums

/-! ## CRC -/
def step (c : Nat) : Nat := (c / 2) ^^^ (if c % 2 = 1 then 3988292384 else 0)
def step8 (c : Nat) : Nat := step (step (step (step (step (step (step (step c)))))))
def crcByte (c : Nat) (x : UInt8) : Nat := step8 (c ^^^ x.toNat)
def crcRun (c : Nat) (l : List UInt8) : Nat := l.foldl crcByte c
def crc (s : Nat) (l : List UInt8) : Nat := 4294967295 - crcRun (4294967295 - s) l

theorem step_lin (a b : Nat) : step (a ^^^ b) = step a ^^^ step b := by
  unfold step
  have h1 : (a ^^^ b) / 2 = (a / 2) ^^^ (b / 2) := by
    apply Nat.eq_of_testBit_eq; intro i; simp [Nat.testBit_div_two, Nat.testBit_xor]
  have h2 : (a ^^^ b) % 2 = (a % 2 + b % 2) % 2 := by
    have := Nat.xor_mod_two_pow (a := a) (b := b) (n := 1)
    rcases Nat.mod_two_eq_zero_or_one a with ha | ha <;> rcases Nat.mod_two_eq_zero_or_one b with hb | hb <;> simp [ha, hb] at this ⊢ <;> omega
  rw [h1, h2]
  rcases Nat.mod_two_eq_zero_or_one a with ha | ha <;> rcases Nat.mod_two_eq_zero_or_one b with hb | hb <;> simp [ha, hb]
  · simp [Nat.xor_assoc]
  · rw [Nat.xor_assoc, Nat.xor_comm (b / 2), ← Nat.xor_assoc]
  · rw [show a / 2 ^^^ 3988292384 ^^^ (b / 2 ^^^ 3988292384) = (a / 2 ^^^ b / 2) ^^^ (3988292384 ^^^ 3988292384) from by
      rw [Nat.xor_assoc, Nat.xor_assoc]; congr 1; rw [← Nat.xor_assoc, Nat.xor_comm 3988292384, Nat.xor_assoc]]
    simp
theorem step_even (k : Nat) : step (2 * k) = k := by simp [step]
theorem step_zero : step 0 = 0 := rfl
theorem step8_lin (a b : Nat) : step8 (a ^^^ b) = step8 a ^^^ step8 b := by simp only [step8, step_lin]
theorem step8_hi (h : Nat) : step8 (256 * h) = h := by
  have e : 256 * h = 2 * (2 * (2 * (2 * (2 * (2 * (2 * (2 * h))))))) := by omega
  rw [e]; simp only [step8, step_even]
theorem split8 (c : Nat) : (c % 256) ^^^ (256 * (c / 256)) = c := by
  apply Nat.eq_of_testBit_eq; intro i
  have e1 : (c % 256).testBit i = (decide (i < 8) && c.testBit i) := Nat.testBit_mod_two_pow c 8 i
  have e2 : (256 * (c / 256)).testBit i = (decide (8 ≤ i) && (c / 256).testBit (i - 8)) := Nat.testBit_two_pow_mul (i := 8) (a := c / 256) (j := i)
  have e3 : (c / 256).testBit (i - 8) = c.testBit (8 + (i - 8)) := by
    rw [show c / 256 = c >>> 8 from by rw [Nat.shiftRight_eq_div_pow]]
    exact Nat.testBit_shiftRight c
  rw [Nat.testBit_xor, e1, e2, e3]
  by_cases h : i < 8
  · simp [h, show ¬ 8 ≤ i by omega]
  · simp [h, show 8 ≤ i by omega, show 8 + (i - 8) = i by omega]
/-- The program's way: the table at the lowest byte, held against the rest. -/
theorem crcByte_table (c : Nat) (x : UInt8) : crcByte c x = step8 ((c % 256) ^^^ x.toNat) ^^^ (c / 256) := by
  unfold crcByte
  conv => lhs; rw [← split8 c]
  rw [show (c % 256) ^^^ (256 * (c / 256)) ^^^ x.toNat = ((c % 256) ^^^ x.toNat) ^^^ (256 * (c / 256)) from by
    rw [Nat.xor_assoc, Nat.xor_comm (256 * (c / 256)), ← Nat.xor_assoc]]
  rw [step8_lin, step8_hi]

theorem step_lt {c : Nat} (h : c < 4294967296) : step c < 4294967296 := by
  unfold step
  have : c / 2 < 2 ^ 32 := by omega
  split
  · exact Nat.xor_lt_two_pow (n := 32) this (by decide)
  · simpa using this
theorem step8_lt {c : Nat} (h : c < 4294967296) : step8 c < 4294967296 := by
  unfold step8; exact step_lt (step_lt (step_lt (step_lt (step_lt (step_lt (step_lt (step_lt h)))))))
theorem xor_byte_lt {c : Nat} (x : UInt8) (h : c < 4294967296) : c ^^^ x.toNat < 4294967296 := by
  have hx := x.toNat_lt
  exact Nat.xor_lt_two_pow (n := 32) h (by omega)
theorem crcByte_lt {c : Nat} (x : UInt8) (h : c < 4294967296) : crcByte c x < 4294967296 := step8_lt (xor_byte_lt x h)
theorem crcRun_lt {c : Nat} (l : List UInt8) (h : c < 4294967296) : crcRun c l < 4294967296 := by
  induction l generalizing c with
  | nil => exact h
  | cons x l ih => exact ih (crcByte_lt x h)
theorem crc_lt (s : Nat) (l : List UInt8) : crc s l < 4294967296 := by unfold crc; omega
theorem not_eq_xor {c : Nat} (h : c < 4294967296) : 4294967295 - c = c ^^^ 4294967295 := by
  have := BitVec.toNat_not (x := BitVec.ofNat 32 c)
  have h2 : (~~~ (BitVec.ofNat 32 c)) = BitVec.ofNat 32 c ^^^ BitVec.allOnes 32 := (BitVec.xor_allOnes (x := BitVec.ofNat 32 c)).symm
  rw [h2, BitVec.toNat_xor] at this
  simp [Nat.mod_eq_of_lt h] at this
  omega
theorem crcRun_append (c : Nat) (a b : List UInt8) : crcRun c (a ++ b) = crcRun (crcRun c a) b := List.foldl_append
theorem crc_append {s : Nat} (hs : s < 4294967296) (a b : List UInt8) : crc (crc s a) b = crc s (a ++ b) := by
  unfold crc
  have := crcRun_lt a (c := 4294967295 - s) (by omega)
  rw [show 4294967295 - (4294967295 - crcRun (4294967295 - s) a) = crcRun (4294967295 - s) a from by omega, crcRun_append]
theorem crc_nil {s : Nat} (hs : s < 4294967296) : crc s [] = s := by simp [crc, crcRun]; omega
theorem crcRun_snoc (c : Nat) (l : List UInt8) (x : UInt8) : crcRun c (l ++ [x]) = crcByte (crcRun c l) x := by simp [crcRun]

/-- Of three lists, bit by bit. -/
theorem xor3 (a b c x y z : Nat) : (a ^^^ b ^^^ c) ^^^ (x ^^^ y ^^^ z) = (a ^^^ x) ^^^ (b ^^^ y) ^^^ (c ^^^ z) := by
  apply Nat.eq_of_testBit_eq; intro i; simp only [Nat.testBit_xor]
  cases a.testBit i <;> cases b.testBit i <;> cases c.testBit i <;> cases x.testBit i <;> cases y.testBit i <;> cases z.testBit i <;> rfl
theorem crcByte_lin3 (c1 c2 c3 : Nat) (x y z : UInt8) : crcByte (c1 ^^^ c2 ^^^ c3) (x ^^^ y ^^^ z) = crcByte c1 x ^^^ crcByte c2 y ^^^ crcByte c3 z := by
  unfold crcByte
  rw [UInt8.toNat_xor, UInt8.toNat_xor, xor3, step8_lin, step8_lin]
def xor3l : List UInt8 → List UInt8 → List UInt8 → List UInt8
  | a :: as, b :: bs, c :: cs => (a ^^^ b ^^^ c) :: xor3l as bs cs
  | _, _, _ => []
theorem crcRun_lin3 : ∀ (a b c : List UInt8) (p q r : Nat), a.length = b.length → b.length = c.length →
    crcRun (p ^^^ q ^^^ r) (xor3l a b c) = crcRun p a ^^^ crcRun q b ^^^ crcRun r c
  | [], [], [], _, _, _, _, _ => rfl
  | a :: as, b :: bs, c :: cs, p, q, r, h1, h2 => by
    simp only [List.length_cons, Nat.add_right_cancel_iff] at h1 h2
    show crcRun (crcByte (p ^^^ q ^^^ r) (a ^^^ b ^^^ c)) (xor3l as bs cs) = _
    rw [crcByte_lin3]
    exact crcRun_lin3 as bs cs _ _ _ h1 h2
theorem xor_self3 (a : Nat) : a ^^^ a ^^^ a = a := by simp
theorem crc_lin3 {s : Nat} (hs : s < 4294967296) (a b c : List UInt8) (h1 : a.length = b.length) (h2 : b.length = c.length) :
    crc s (xor3l a b c) = crc s a ^^^ crc s b ^^^ crc s c := by
  unfold crc
  have hl : 4294967295 - s < 4294967296 := by omega
  rw [not_eq_xor (crcRun_lt _ hl), not_eq_xor (crcRun_lt _ hl), not_eq_xor (crcRun_lt _ hl), not_eq_xor (crcRun_lt _ hl)]
  have := crcRun_lin3 a b c (4294967295 - s) (4294967295 - s) (4294967295 - s) h1 h2
  rw [xor_self3] at this
  rw [this, ← xor3, xor_self3]

/-- The step is one to one. -/
theorem step_inj {a b : Nat} (ha : a < 4294967296) (hb : b < 4294967296) (h : step a = step b) : a = b := by
  have hz : ∀ d, d < 4294967296 → step d = 0 → d = 0 := by
    intro d hd h0
    unfold step at h0
    by_cases ho : d % 2 = 1
    · rw [if_pos ho] at h0
      have : (d / 2 ^^^ 3988292384).testBit 31 = false := by rw [h0]; simp
      rw [Nat.testBit_xor] at this
      have h31 : (d / 2).testBit 31 = false := Nat.testBit_lt_two_pow (by omega)
      rw [h31] at this
      exact absurd this (by decide)
    · rw [if_neg ho] at h0
      simp at h0
      omega
  have hx : a ^^^ b = 0 := hz _ (Nat.xor_lt_two_pow (n := 32) ha hb) (by rw [step_lin, h, Nat.xor_self])
  have := congrArg (· ^^^ b) hx
  simpa [Nat.xor_assoc] using this
theorem step8_inj {a b : Nat} (ha : a < 4294967296) (hb : b < 4294967296) (h : step8 a = step8 b) : a = b := by
  have s1 := step_lt ha; have s2 := step_lt s1; have s3 := step_lt s2; have s4 := step_lt s3; have s5 := step_lt s4; have s6 := step_lt s5; have s7 := step_lt s6
  have t1 := step_lt hb; have t2 := step_lt t1; have t3 := step_lt t2; have t4 := step_lt t3; have t5 := step_lt t4; have t6 := step_lt t5; have t7 := step_lt t6
  exact step_inj ha hb (step_inj s1 t1 (step_inj s2 t2 (step_inj s3 t3 (step_inj s4 t4 (step_inj s5 t5 (step_inj s6 t6 (step_inj s7 t7 h)))))))
theorem crcRun_inj {a b : Nat} (ha : a < 4294967296) (hb : b < 4294967296) (l : List UInt8) (h : crcRun a l = crcRun b l) : a = b := by
  induction l generalizing a b with
  | nil => exact h
  | cons x l ih =>
    have h2 := ih (crcByte_lt x ha) (crcByte_lt x hb) h
    have h3 := step8_inj (xor_byte_lt x ha) (xor_byte_lt x hb) h2
    have := congrArg (· ^^^ x.toNat) h3
    simpa [Nat.xor_assoc] using this


theorem crcByte_lin (c d : Nat) (x y : UInt8) : crcByte (c ^^^ d) (x ^^^ y) = crcByte c x ^^^ crcByte d y := by
  unfold crcByte
  rw [UInt8.toNat_xor, show c ^^^ d ^^^ (x.toNat ^^^ y.toNat) = (c ^^^ x.toNat) ^^^ (d ^^^ y.toNat) from by
    apply Nat.eq_of_testBit_eq; intro i; simp only [Nat.testBit_xor]
    cases c.testBit i <;> cases d.testBit i <;> cases x.toNat.testBit i <;> cases y.toNat.testBit i <;> rfl, step8_lin]
/-- One byte that is another one. -/
theorem crc_other {s : Nat} (a b : List UInt8) (u v : UInt8) (hne : u ≠ v) : crc s (a ++ u :: b) ≠ crc s (a ++ v :: b) := by
  intro h
  unfold crc at h
  have hl : 4294967295 - s < 4294967296 := by omega
  have h1 := crcRun_lt (a ++ u :: b) hl
  have h2 := crcRun_lt (a ++ v :: b) hl
  have h3 : crcRun (4294967295 - s) (a ++ u :: b) = crcRun (4294967295 - s) (a ++ v :: b) := by omega
  rw [crcRun_append, crcRun_append] at h3
  have hc := crcRun_lt a hl
  have h4 := crcRun_inj (crcByte_lt u hc) (crcByte_lt v hc) b h3
  have h5 := step8_inj (xor_byte_lt u hc) (xor_byte_lt v hc) h4
  have h6 := congrArg (crcRun (4294967295 - s) a ^^^ ·) h5
  simp only [← Nat.xor_assoc, Nat.xor_self, Nat.zero_xor] at h6
  exact hne (UInt8.toNat_inj.mp h6)

/-! ### A burst of up to four bytes -/
def xorPre : List UInt8 → List UInt8 → List UInt8
  | x :: xs, t :: ts => (x ^^^ t) :: xorPre xs ts
  | xs, _ => xs
theorem back8 {z s : Nat} (hz : z < 4294967296) (hs : s < 16777216) (h : step8 z = s) : z = 256 * s :=
  step8_inj hz (by omega) (by rw [h, step8_hi])
theorem small_xor {a b : Nat} (d : UInt8) (hb : b = 256 * a ^^^ d.toNat) : b = 256 * a + d.toNat := by
  rw [hb]
  have hd := d.toNat_lt
  have e := split8 (256 * a + d.toNat)
  rw [show (256 * a + d.toNat) % 256 = d.toNat by omega, show (256 * a + d.toNat) / 256 = a by omega] at e
  rw [← e, Nat.xor_comm]
theorem crcRun_zero_of {d0 d1 d2 d3 : UInt8} (h : crcRun 0 [d0, d1, d2, d3] = 0) : d0 = 0 ∧ d1 = 0 ∧ d2 = 0 ∧ d3 = 0 := by
  have b0 := d0.toNat_lt; have b1 := d1.toNat_lt; have b2 := d2.toNat_lt; have b3 := d3.toNat_lt
  have l1 : crcByte 0 d0 < 4294967296 := crcByte_lt _ (by decide)
  have l2 := crcByte_lt d1 l1
  have l3 := crcByte_lt d2 l2
  have e3 : crcByte (crcByte (crcByte 0 d0) d1) d2 ^^^ d3.toNat = 256 * 0 := back8 (xor_byte_lt _ l3) (by decide) h
  have s3 : crcByte (crcByte (crcByte 0 d0) d1) d2 = 256 * 0 + d3.toNat := small_xor d3 (by
    rw [← e3, Nat.xor_assoc, Nat.xor_self, Nat.xor_zero])
  have e2 : crcByte (crcByte 0 d0) d1 ^^^ d2.toNat = 256 * (256 * 0 + d3.toNat) := back8 (xor_byte_lt _ l2) (by omega) s3
  have s2 : crcByte (crcByte 0 d0) d1 = 256 * (256 * 0 + d3.toNat) + d2.toNat := small_xor d2 (by
    rw [← e2, Nat.xor_assoc, Nat.xor_self, Nat.xor_zero])
  have e1 : crcByte 0 d0 ^^^ d1.toNat = 256 * (256 * (256 * 0 + d3.toNat) + d2.toNat) := back8 (xor_byte_lt _ l1) (by omega) s2
  have s1 : crcByte 0 d0 = 256 * (256 * (256 * 0 + d3.toNat) + d2.toNat) + d1.toNat := small_xor d1 (by
    rw [← e1, Nat.xor_assoc, Nat.xor_self, Nat.xor_zero])
  have e0 : 0 ^^^ d0.toNat = 256 * (256 * (256 * (256 * 0 + d3.toNat) + d2.toNat) + d1.toNat) := back8 (xor_byte_lt _ (by decide)) (by omega) s1
  rw [Nat.zero_xor] at e0
  have z0 : d0.toNat = 0 := by omega
  have z1 : d1.toNat = 0 := by omega
  have z2 : d2.toNat = 0 := by omega
  have z3 : d3.toNat = 0 := by omega
  exact ⟨UInt8.toNat_inj.mp z0, UInt8.toNat_inj.mp z1, UInt8.toNat_inj.mp z2, UInt8.toNat_inj.mp z3⟩
theorem crcByte_zero_inj {c : Nat} {d : UInt8} (hc : c < 4294967296) (h : crcByte c d = 0) : c = d.toNat := by
  have := back8 (xor_byte_lt d hc) (by decide) h
  have h2 := congrArg (· ^^^ d.toNat) this
  simpa [Nat.xor_assoc] using h2
theorem crcRun_pre (d : List UInt8) (k : Nat) (h : crcRun 0 d = 0) : crcRun 0 (d ++ List.replicate k 0) = 0 := by
  rw [crcRun_append, h]
  induction k with
  | zero => rfl
  | succ k ih => exact ih
/-- Which changes of up to four bytes are none. -/
def anySet : List UInt8 → List UInt8 → Bool
  | _ :: xs, t :: ts => t != 0 || anySet xs ts
  | _, _ => false
theorem xorPre_len : ∀ (m t : List UInt8), (xorPre m t).length = m.length
  | [], _ => rfl
  | _ :: _, [] => rfl
  | _ :: xs, _ :: ts => by simp [xorPre, xorPre_len xs ts]
theorem xorPre_none : ∀ (m t : List UInt8), anySet m t = false → xorPre m t = m
  | [], _, _ => rfl
  | _ :: _, [], _ => rfl
  | x :: xs, t :: ts, h => by
    simp only [anySet, Bool.or_eq_false_iff] at h
    have ht : t = 0 := by simpa using h.1
    rw [xorPre, ht, xorPre_none xs ts h.2]; simp
theorem take_pad (t : List UInt8) (k : Nat) : (t ++ List.replicate (k + 1) 0).take k = (t ++ List.replicate k 0).take k := by
  rw [List.replicate_succ', ← List.append_assoc, List.take_append_of_le_length (by simp)]
theorem crcRun_xorPre : ∀ (m t : List UInt8) (p q : Nat), crcRun (p ^^^ q) (xorPre m t) = crcRun p m ^^^ crcRun q ((t ++ List.replicate m.length 0).take m.length)
  | [], t, p, q => by simp [xorPre, crcRun]
  | x :: xs, [], p, q => by
    show crcRun (crcByte (p ^^^ q) x) xs = crcRun (crcByte p x) xs ^^^ _
    have e : crcByte (p ^^^ q) x = crcByte p x ^^^ crcByte q 0 := by rw [← crcByte_lin]; simp
    have ih := crcRun_xorPre xs [] (crcByte p x) (crcByte q 0)
    have e2 : xorPre xs [] = xs := by cases xs <;> rfl
    rw [e2] at ih
    rw [e, ih]
    simp [crcRun, List.replicate_succ]
  | x :: xs, t :: ts, p, q => by
    show crcRun (crcByte (p ^^^ q) (x ^^^ t)) (xorPre xs ts) = crcRun (crcByte p x) xs ^^^ _
    rw [crcByte_lin, crcRun_xorPre xs ts]
    congr 1
    simp only [List.cons_append, List.length_cons, List.take_succ_cons]
    show _ = crcRun (crcByte q t) _
    congr 1
    rw [take_pad]
theorem anySet_zero4 : ∀ (m t : List UInt8), (∀ x ∈ (t ++ List.replicate m.length 0).take m.length, x = 0) → anySet m t = false
  | [], _, _ => by cases ‹List UInt8› <;> rfl
  | _ :: _, [], _ => rfl
  | x :: xs, t :: ts, h => by
    simp only [List.cons_append, List.length_cons, List.take_succ_cons, List.mem_cons, forall_eq_or_imp] at h
    rw [take_pad] at h
    simp only [anySet, h.1, anySet_zero4 xs ts h.2]; rfl
theorem crc_burst (s : Nat) (p m : List UInt8) (t : List UInt8) (ht : t.length = 4) :
    crc s (p ++ xorPre m t) = crc s (p ++ m) ↔ anySet m t = false := by
  constructor
  · intro h
    unfold crc at h
    have hl : 4294967295 - s < 4294967296 := by omega
    have h1 := crcRun_lt (p ++ xorPre m t) hl
    have h2 := crcRun_lt (p ++ m) hl
    have h3 : crcRun (4294967295 - s) (p ++ xorPre m t) = crcRun (4294967295 - s) (p ++ m) := by omega
    rw [crcRun_append, crcRun_append] at h3
    have h4 := crcRun_xorPre m t (crcRun (4294967295 - s) p) 0
    rw [Nat.xor_zero, h3] at h4
    have h5 : crcRun 0 ((t ++ List.replicate m.length 0).take m.length) = 0 := by
      have := congrArg (crcRun (crcRun (4294967295 - s) p) m ^^^ ·) h4
      simp only [← Nat.xor_assoc, Nat.xor_self, Nat.zero_xor] at this
      exact this.symm
    match t, ht with
    | [t0, t1, t2, t3], _ =>
      apply anySet_zero4
      by_cases hm : m.length < 4
      · generalize hd : (([t0, t1, t2, t3] ++ List.replicate m.length 0).take m.length : List UInt8) = d at h5 ⊢
        have hdl : d.length = m.length := by rw [← hd]; simp; omega
        have hp := crcRun_pre d (4 - d.length) h5
        match d, hdl with
        | [], _ => intro x hx; cases hx
        | [a], _ => obtain ⟨e, _⟩ := crcRun_zero_of hp; simp [e]
        | [a, b], _ => obtain ⟨e, f, _⟩ := crcRun_zero_of hp; simp [e, f]
        | [a, b, c], _ => obtain ⟨e, f, g, _⟩ := crcRun_zero_of hp; simp [e, f, g]
        | _ :: _ :: _ :: _ :: _, hx => simp at hx; omega
      · obtain ⟨k, hk⟩ : ∃ k, m.length = 4 + k := ⟨m.length - 4, by omega⟩
        rw [hk] at h5 ⊢
        have e : (([t0, t1, t2, t3] ++ List.replicate (4 + k) 0).take (4 + k) : List UInt8) = [t0, t1, t2, t3] ++ List.replicate k 0 := by
          rw [List.take_append, List.take_of_length_le (by simp)]; simp [List.take_replicate, show 4 + k - 4 = k by omega]
        rw [e] at h5 ⊢
        rw [crcRun_append] at h5
        have h6 : crcRun 0 [t0, t1, t2, t3] = 0 := by
          have hz : crcRun 0 (List.replicate k 0) = 0 := by have := crcRun_pre [] k rfl; simpa using this
          exact crcRun_inj (crcRun_lt _ (by decide)) (by decide) (List.replicate k 0) (by rw [h5, hz])
        obtain ⟨a, b, c, d⟩ := crcRun_zero_of h6
        intro x hx
        simp only [List.mem_append, List.mem_cons, List.mem_replicate] at hx
        rcases hx with (h0 | h0 | h0 | h0 | h0) | ⟨_, h0⟩
        · exact h0.trans a
        · exact h0.trans b
        · exact h0.trans c
        · exact h0.trans d
        · cases h0
        · exact h0
  · intro h; rw [xorPre_none m t h]

/-! ## Adler -/
def adStep (p : Nat × Nat) (b : UInt8) : Nat × Nat := ((p.1 + b.toNat) % 65521, (p.2 + (p.1 + b.toNat) % 65521) % 65521)
def adRun (p : Nat × Nat) (l : List UInt8) : Nat × Nat := l.foldl adStep p
def adStart (s : Nat) : Nat × Nat := (s % 65536 % 65521, s / 65536 % 65521)
def adPack (p : Nat × Nat) : Nat := p.2 * 65536 + p.1
def adler (s : Nat) (l : List UInt8) : Nat := adPack (adRun (adStart s) l)
/-- The program's way: no remainder taken within a piece. -/
def rawStep (p : Nat × Nat) (b : UInt8) : Nat × Nat := (p.1 + b.toNat, p.2 + (p.1 + b.toNat))
def rawRun (p : Nat × Nat) (l : List UInt8) : Nat × Nat := l.foldl rawStep p
theorem rawRun_snoc (p : Nat × Nat) (l : List UInt8) (x : UInt8) : rawRun p (l ++ [x]) = rawStep (rawRun p l) x := by simp [rawRun]
theorem adRun_snoc (p : Nat × Nat) (l : List UInt8) (x : UInt8) : adRun p (l ++ [x]) = adStep (adRun p l) x := by simp [adRun]
theorem adRun_append (p : Nat × Nat) (a b : List UInt8) : adRun p (a ++ b) = adRun (adRun p a) b := List.foldl_append
theorem raw_mod (l : List UInt8) : ∀ p : Nat × Nat, ((rawRun p l).1 % 65521, (rawRun p l).2 % 65521) = adRun (p.1 % 65521, p.2 % 65521) l := by
  induction l with
  | nil => intro p; rfl
  | cons x l ih =>
    intro p
    show ((rawRun (rawStep p x) l).1 % 65521, (rawRun (rawStep p x) l).2 % 65521) = adRun (adStep (p.1 % 65521, p.2 % 65521) x) l
    rw [ih]
    congr 1
    simp only [rawStep, adStep, Prod.mk.injEq]
    omega
theorem raw_bound (l : List UInt8) : ∀ p : Nat × Nat, (rawRun p l).1 ≤ p.1 + 255 * l.length ∧ 2 * (rawRun p l).2 ≤ 2 * p.2 + 2 * (l.length * p.1) + 255 * (l.length * l.length + l.length) := by
  induction l with
  | nil => intro p; exact ⟨Nat.le_refl _, by show 2 * p.2 ≤ _; omega⟩
  | cons x l ih =>
    intro p
    obtain ⟨h1, h2⟩ := ih (rawStep p x)
    have hx := x.toNat_lt
    rw [show (rawRun p (x :: l)) = rawRun (rawStep p x) l from rfl]
    simp only [rawStep, List.length_cons] at h1 h2 ⊢
    have hm : l.length * x.toNat ≤ l.length * 255 := Nat.mul_le_mul_left _ (by omega)
    simp only [Nat.mul_add, Nat.add_mul, Nat.mul_one, Nat.one_mul] at h2 ⊢
    omega
theorem raw_small (p : Nat × Nat) (l : List UInt8) (h1 : p.1 < 65521) (h2 : p.2 < 65521) (hl : l.length ≤ 5000) : (rawRun p l).1 < 4294967296 ∧ (rawRun p l).2 < 4294967296 := by
  obtain ⟨b1, b2⟩ := raw_bound l p
  have m1 : l.length * p.1 ≤ 5000 * 65520 := Nat.mul_le_mul hl (by omega)
  have m2 : l.length * l.length ≤ 5000 * 5000 := Nat.mul_le_mul hl hl
  omega
theorem ad_lt (l : List UInt8) : ∀ p : Nat × Nat, p.1 < 65521 → p.2 < 65521 → (adRun p l).1 < 65521 ∧ (adRun p l).2 < 65521 := by
  induction l with
  | nil => intro p h1 h2; exact ⟨h1, h2⟩
  | cons x l ih => intro p _ _; exact ih (adStep p x) (Nat.mod_lt _ (by decide)) (Nat.mod_lt _ (by decide))
theorem adStart_lt (s : Nat) : (adStart s).1 < 65521 ∧ (adStart s).2 < 65521 := ⟨Nat.mod_lt _ (by decide), Nat.mod_lt _ (by decide)⟩
theorem adler_lt (s : Nat) (l : List UInt8) : adler s l < 4294967296 := by
  obtain ⟨h1, h2⟩ := adStart_lt s
  obtain ⟨h3, h4⟩ := ad_lt l _ h1 h2
  unfold adler adPack; omega
theorem adStart_pack {p : Nat × Nat} (h1 : p.1 < 65521) (h2 : p.2 < 65521) : adStart (adPack p) = p := by
  unfold adStart adPack
  apply Prod.ext <;> simp only <;> omega
theorem adler_append (s : Nat) (a b : List UInt8) : adler (adler s a) b = adler s (a ++ b) := by
  obtain ⟨h1, h2⟩ := adStart_lt s
  obtain ⟨h3, h4⟩ := ad_lt a _ h1 h2
  unfold adler
  rw [adStart_pack h3 h4, adRun_append]
theorem adler_nil {s : Nat} (hs : s < 4294967296) : adler s [] = s ↔ s / 65536 < 65521 ∧ s % 65536 < 65521 := by
  show adPack (adStart s) = s ↔ _
  unfold adPack adStart
  simp only
  omega
def bsum (l : List UInt8) : Nat := (l.map (·.toNat)).sum
theorem ad_fst (l : List UInt8) : ∀ p : Nat × Nat, p.1 < 65521 → (adRun p l).1 = (p.1 + bsum l) % 65521 := by
  induction l with
  | nil => intro p h; simp [adRun, bsum, Nat.mod_eq_of_lt h]
  | cons x l ih =>
    intro p _
    show (adRun (adStep p x) l).1 = _
    rw [ih (adStep p x) (Nat.mod_lt _ (by decide))]
    simp only [adStep, bsum, List.map_cons, List.sum_cons]
    omega
theorem adler_other (s : Nat) (a b : List UInt8) (u v : UInt8) (hne : u ≠ v) : adler s (a ++ u :: b) ≠ adler s (a ++ v :: b) := by
  intro h
  obtain ⟨h1, h2⟩ := adStart_lt s
  obtain ⟨h3, h4⟩ := ad_lt (a ++ u :: b) _ h1 h2
  obtain ⟨h5, h6⟩ := ad_lt (a ++ v :: b) _ h1 h2
  unfold adler adPack at h
  have e : (adRun (adStart s) (a ++ u :: b)).1 = (adRun (adStart s) (a ++ v :: b)).1 := by omega
  rw [ad_fst _ _ h1, ad_fst _ _ h1] at e
  simp only [bsum, List.map_append, List.map_cons, List.sum_append, List.sum_cons] at e
  have hu := u.toNat_lt; have hv := v.toNat_lt
  have : u.toNat = v.toNat := by omega
  exact hne (UInt8.toNat_inj.mp this)

end Go.Proofs.Ytbdecdkhallkmaa.Sums

/- Hit: what the functions answer; plain laws. -/
import Derived.Test.YtcclekhekdibjaaVecPlain
import Derived.Test.YtcclekhekdibjaaFixFacts
namespace Go.Proofs.Ytcclekhekdibjaa.Fix

/-! ## Boxes -/
def nearZ (o d lo hi near : Int) : Int := if d = 0 then near else if d < 0 then max near (divZ (subZ hi o) d) else max near (divZ (subZ lo o) d)
def farZ (o d lo hi far : Int) : Int := if d = 0 then far else if d < 0 then min far (divZ (subZ lo o) d) else min far (divZ (subZ hi o) d)
def okZ (o d lo hi : Int) (ok : Bool) : Bool := if d = 0 then ok && (decide (lo ≤ o) && decide (o ≤ hi)) else ok
def near3 (o d lo hi : P3) : Int := nearZ o.2.2 d.2.2 lo.2.2 hi.2.2 (nearZ o.2.1 d.2.1 lo.2.1 hi.2.1 (nearZ o.1 d.1 lo.1 hi.1 0))
def far3 (o d lo hi : P3) : Int := farZ o.2.2 d.2.2 lo.2.2 hi.2.2 (farZ o.2.1 d.2.1 lo.2.1 hi.2.1 (farZ o.1 d.1 lo.1 hi.1 9223372036854775807))
def ok3 (o d lo hi : P3) : Bool := okZ o.2.2 d.2.2 lo.2.2 hi.2.2 (okZ o.2.1 d.2.1 lo.2.1 hi.2.1 (okZ o.1 d.1 lo.1 hi.1 true))
def boxOk (o d lo hi : P3) : Bool := ok3 o d lo hi && decide (near3 o d lo hi ≤ far3 o d lo hi)
def boxT (o d lo hi : P3) : Int := if boxOk o d lo hi = true then near3 o d lo hi else 0
theorem nearZ_in {o d lo hi near : Int} (h : In64 near) : In64 (nearZ o d lo hi near) := by
  have h1 := divZ_in (subZ hi o) d
  have h2 := divZ_in (subZ lo o) d
  unfold nearZ
  unfold In64 at *
  split
  · exact h
  · split <;> omega
theorem farZ_in {o d lo hi far : Int} (h : In64 far) : In64 (farZ o d lo hi far) := by
  have h1 := divZ_in (subZ hi o) d
  have h2 := divZ_in (subZ lo o) d
  unfold farZ
  unfold In64 at *
  split
  · exact h
  · split <;> omega
theorem near3_in (o d lo hi : P3) : In64 (near3 o d lo hi) := nearZ_in (nearZ_in (nearZ_in zero_in))
theorem far3_in (o d lo hi : P3) : In64 (far3 o d lo hi) := farZ_in (farZ_in (farZ_in (by unfold In64; omega)))
theorem boxT_in (o d lo hi : P3) : In64 (boxT o d lo hi) := by
  unfold boxT; split
  · exact near3_in _ _ _ _
  · exact zero_in
theorem nearZ_ge (o d lo hi near : Int) : near ≤ nearZ o d lo hi near := by
  unfold nearZ; split
  · omega
  · split <;> omega
theorem boxT_nonneg (o d lo hi : P3) : 0 ≤ boxT o d lo hi := by
  unfold boxT; split
  · exact Int.le_trans (Int.le_trans (nearZ_ge _ _ _ _ 0) (nearZ_ge _ _ _ _ _)) (nearZ_ge _ _ _ _ _)
  · omega
theorem subZ_mono {a b : Int} (h : a ≤ b) (c : Int) : subZ a c ≤ subZ b c := sat_mono (by omega)
/-- A box around another one is entered no later, and left no earlier. -/
theorem nearZ_around {o d lo hi lo' hi' near near' : Int} (h1 : lo' ≤ lo) (h2 : hi ≤ hi') (h : near' ≤ near) : nearZ o d lo' hi' near' ≤ nearZ o d lo hi near := by
  unfold nearZ
  split
  · exact h
  · split
    · rename_i e
      have := divZ_anti (subZ_mono h2 o) e
      omega
    · have := divZ_mono (c := d) (subZ_mono h1 o) (by omega)
      omega
theorem farZ_around {o d lo hi lo' hi' far far' : Int} (h1 : lo' ≤ lo) (h2 : hi ≤ hi') (h : far ≤ far') : farZ o d lo hi far ≤ farZ o d lo' hi' far' := by
  unfold farZ
  split
  · exact h
  · split
    · rename_i e
      have := divZ_anti (subZ_mono h1 o) e
      omega
    · have := divZ_mono (c := d) (subZ_mono h2 o) (by omega)
      omega
theorem okZ_around {o d lo hi lo' hi' : Int} {ok ok' : Bool} (h1 : lo' ≤ lo) (h2 : hi ≤ hi') (h : ok = true → ok' = true) (hk : okZ o d lo hi ok = true) : okZ o d lo' hi' ok' = true := by
  unfold okZ at *
  split at hk
  · rename_i e
    rw [if_pos e]
    simp only [Bool.and_eq_true, decide_eq_true_eq] at hk ⊢
    exact ⟨h hk.1, by omega, by omega⟩
  · rename_i e
    rw [if_neg e]; exact h hk
def Within (lo hi lo' hi' : P3) : Prop := (lo'.1 ≤ lo.1 ∧ hi.1 ≤ hi'.1) ∧ (lo'.2.1 ≤ lo.2.1 ∧ hi.2.1 ≤ hi'.2.1) ∧ (lo'.2.2 ≤ lo.2.2 ∧ hi.2.2 ≤ hi'.2.2)
theorem box_around {o d lo hi lo' hi' : P3} (h : Within lo hi lo' hi') (hk : boxOk o d lo hi = true) : boxOk o d lo' hi' = true ∧ boxT o d lo' hi' ≤ boxT o d lo hi := by
  obtain ⟨⟨a1, a2⟩, ⟨b1, b2⟩, c1, c2⟩ := h
  have n : near3 o d lo' hi' ≤ near3 o d lo hi := nearZ_around c1 c2 (nearZ_around b1 b2 (nearZ_around a1 a2 (Int.le_refl _)))
  have f : far3 o d lo hi ≤ far3 o d lo' hi' := farZ_around c1 c2 (farZ_around b1 b2 (farZ_around a1 a2 (Int.le_refl _)))
  have hk0 := hk
  unfold boxOk at hk
  simp only [Bool.and_eq_true, decide_eq_true_eq] at hk
  have o3 : ok3 o d lo' hi' = true := okZ_around c1 c2 (fun h => okZ_around b1 b2 (fun h => okZ_around a1 a2 (fun h => h) h) h) hk.1
  have h1 : boxOk o d lo' hi' = true := by
    unfold boxOk
    simp only [Bool.and_eq_true, decide_eq_true_eq]
    exact ⟨o3, by omega⟩
  refine ⟨h1, ?_⟩
  unfold boxT
  rw [if_pos h1, if_pos hk0]
  exact n
/-- One that begins in a box enters it at once. -/
theorem div_neg_pos {a c : Int} (h : a ≤ 0) (hc : 0 < c) : divZ a c ≤ 0 := by
  have := divZ_mono (c := c) h hc
  have e : divZ 0 c = 0 := by unfold divZ quoZ; rw [if_neg (by omega), if_pos hc, Int.zero_mul, Int.zero_ediv]; decide
  omega
theorem div_pos_pos {a c : Int} (h : 0 ≤ a) (hc : 0 < c) : 0 ≤ divZ a c := by
  have := divZ_mono (c := c) h hc
  have e : divZ 0 c = 0 := by unfold divZ quoZ; rw [if_neg (by omega), if_pos hc, Int.zero_mul, Int.zero_ediv]; decide
  omega
theorem div0_neg {c : Int} (hc : c < 0) : divZ 0 c = 0 := by
  unfold divZ quoZ
  rw [if_neg (by omega), if_neg (by omega), Int.zero_mul, Int.neg_zero, Int.zero_ediv]; decide
theorem div_pos_neg {a c : Int} (h : 0 ≤ a) (hc : c < 0) : divZ a c ≤ 0 := by
  have := divZ_anti h hc
  rw [div0_neg hc] at this
  exact this
theorem div_neg_neg {a c : Int} (h : a ≤ 0) (hc : c < 0) : 0 ≤ divZ a c := by
  have := divZ_anti h hc
  rw [div0_neg hc] at this
  exact this
theorem sub_le {a b : Int} (h : a ≤ b) : subZ a b ≤ 0 := by unfold subZ sat; omega
theorem sub_ge {a b : Int} (h : b ≤ a) : 0 ≤ subZ a b := by unfold subZ sat; omega
theorem near_in {o d lo hi : Int} (h1 : lo ≤ o) (h2 : o ≤ hi) : nearZ o d lo hi 0 = 0 := by
  unfold nearZ
  split
  · rfl
  · split
    · rename_i e
      have := div_pos_neg (sub_ge h2) e
      omega
    · have := div_neg_pos (c := d) (sub_le h1) (by omega)
      omega
theorem far_in {o d lo hi far : Int} (h1 : lo ≤ o) (h2 : o ≤ hi) (hf : 0 ≤ far) : 0 ≤ farZ o d lo hi far := by
  unfold farZ
  split
  · exact hf
  · split
    · rename_i e
      have := div_neg_neg (sub_le h1) e
      omega
    · have := div_pos_pos (c := d) (sub_ge h2) (by omega)
      omega
theorem ok_in {o d lo hi : Int} (h1 : lo ≤ o) (h2 : o ≤ hi) : okZ o d lo hi true = true := by
  unfold okZ
  split
  · simp [h1, h2]
  · rfl
theorem box_inside {o d lo hi : P3} (h : Within o o lo hi) : boxOk o d lo hi = true ∧ boxT o d lo hi = 0 := by
  obtain ⟨⟨a1, a2⟩, ⟨b1, b2⟩, c1, c2⟩ := h
  have n : near3 o d lo hi = 0 := by unfold near3; rw [near_in a1 a2, near_in b1 b2, near_in c1 c2]
  have f : 0 ≤ far3 o d lo hi := far_in c1 c2 (far_in b1 b2 (far_in a1 a2 (by omega)))
  have k : ok3 o d lo hi = true := by unfold ok3; rw [ok_in a1 a2, ok_in b1 b2, ok_in c1 c2]
  have h1 : boxOk o d lo hi = true := by unfold boxOk; rw [k, n]; simp [f]
  exact ⟨h1, by unfold boxT; rw [if_pos h1, n]⟩
/-! ## Triangles and balls -/
def triN (d a b c : P3) : Int := dotV (subV b a) (crossV d (subV c a))
def triU (o d a b c : P3) : Int := divZ (dotV (subV o a) (crossV d (subV c a))) (triN d a b c)
def triV (o d a b c : P3) : Int := divZ (dotV d (crossV (subV o a) (subV b a))) (triN d a b c)
def triT (o d a b c : P3) : Int := divZ (dotV (subV c a) (crossV (subV o a) (subV b a))) (triN d a b c)
def triOk (o d a b c : P3) : Bool := !decide (triN d a b c = 0) && (decide (0 ≤ triU o d a b c) && (decide (triU o d a b c ≤ 4294967296) && (decide (0 ≤ triV o d a b c) && (decide (addZ (triU o d a b c) (triV o d a b c) ≤ 4294967296) && decide (0 ≤ triT o d a b c)))))
def ifOk (ok : Bool) (x : Int) : Int := if ok = true then x else 0
def ballH (o d c : P3) : Int := dotV (subV o c) d
def ballW (o d c : P3) (r : Int) : Int := subZ (mulZ (ballH o d c) (ballH o d c)) (mulZ (dotV d d) (subZ (dotV (subV o c) (subV o c)) (mulZ r r)))
def ballOk (o d c : P3) (r : Int) : Bool := !decide (dotV d d = 0) && decide (0 ≤ ballW o d c r)
def ballX (o d c : P3) (r : Int) : Int := divZ (subZ (negZ (ballH o d c)) (sqrtZ (ballW o d c r))) (dotV d d)
def ballY (o d c : P3) (r : Int) : Int := divZ (addZ (negZ (ballH o d c)) (sqrtZ (ballW o d c r))) (dotV d d)
theorem ifOk_in {b : Bool} {x : Int} (h : In64 x) : In64 (ifOk b x) := by
  unfold ifOk; split
  · exact h
  · exact zero_in
/-! ## What is moved -/
def Low44 (a : Int) : Prop := -17592186044416 < a ∧ a < 17592186044416
def Low443 (p : P3) : Prop := Low44 p.1 ∧ Low44 p.2.1 ∧ Low44 p.2.2
def plusV (p q : P3) : P3 := (p.1 + q.1, p.2.1 + q.2.1, p.2.2 + q.2.2)
theorem sub_moved {a b c : Int} : subZ (a + c) (b + c) = subZ a b := by unfold subZ; congr 1; omega
theorem subV_moved (p q by' : P3) : subV (plusV p by') (plusV q by') = subV p q := by simp only [subV, plusV, sub_moved]
theorem nearZ_moved {o d lo hi near by' : Int} : nearZ (o + by') d (lo + by') (hi + by') near = nearZ o d lo hi near := by simp only [nearZ, sub_moved]
theorem farZ_moved {o d lo hi far by' : Int} : farZ (o + by') d (lo + by') (hi + by') far = farZ o d lo hi far := by simp only [farZ, sub_moved]
theorem okZ_moved {o d lo hi by' : Int} {ok : Bool} : okZ (o + by') d (lo + by') (hi + by') ok = okZ o d lo hi ok := by
  have e1 : (lo + by' ≤ o + by') = (lo ≤ o) := by rw [eq_iff_iff]; omega
  have e2 : (o + by' ≤ hi + by') = (o ≤ hi) := by rw [eq_iff_iff]; omega
  simp only [okZ, e1, e2]
theorem box_moved (o d lo hi by' : P3) : boxOk (plusV o by') d (plusV lo by') (plusV hi by') = boxOk o d lo hi ∧ boxT (plusV o by') d (plusV lo by') (plusV hi by') = boxT o d lo hi := by
  have n : near3 (plusV o by') d (plusV lo by') (plusV hi by') = near3 o d lo hi := by simp only [near3, plusV, nearZ_moved]
  have f : far3 (plusV o by') d (plusV lo by') (plusV hi by') = far3 o d lo hi := by simp only [far3, plusV, farZ_moved]
  have k : ok3 (plusV o by') d (plusV lo by') (plusV hi by') = ok3 o d lo hi := by simp only [ok3, plusV, okZ_moved]
  have h : boxOk (plusV o by') d (plusV lo by') (plusV hi by') = boxOk o d lo hi := by unfold boxOk; rw [n, f, k]
  exact ⟨h, by unfold boxT; rw [h, n]⟩
end Go.Proofs.Ytcclekhekdibjaa.Fix

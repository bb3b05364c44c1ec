/- Hit: plain facts on shapes and the nearest one; where ways meet in the law. -/
import Derived.Test.YtcclekhekdibjaaHisDefs
import Derived.Test.YtcclekhekdibjaaHilDefs
namespace Go.Proofs.Ytcclekhekdibjaa.Fix
open Go Go.Proofs.Ytcclekhekdibjaa.Sx

def ΓSa : FuncId → Option Sx.Spec
  | 18 => some trueSpec
  | f => ΓS2 f
def annN : FuncId → Nat → List SV → List Ob → Option LoopAnn
  | 6 => fun i tm hp =>
    atc tm hp 4 fun _ _ m => atc tm hp 5 fun _ _ r => ati tm 2 fun l =>
      match m, r with
      | [.d (.list 3 np gp), .d (.list 3 nt gt), .d (.list 4 nb gb)], [.d (.int _ a), .d (.int _ b), .d (.int _ c), .d (.int _ d), .d (.int _ e), .d (.int _ g)] =>
        match i with
        | 5 => some (.lp { k : Nat // k ≤ nt + nb } (fun k => loopHd 10 [] [(10, I64 k.1)] tm hp (ungap hp)) (fun k => nt + nb - k.1))
        | 2000008 => ati tm 10 fun k => some (cut (loopHd 11 [] [(11, .ptr hp.length 0), (12, Bo (shapeR np nt nb gp gt gb (a, b, c) (d, e, g) l k).1)] tm hp (ungap hp ++ [.fix 33 [I64 (shapeR np nt nb gp gt gb (a, b, c) (d, e, g) l k).2.1, I64 (idx (shapeR np nt nb gp gt gb (a, b, c) (d, e, g) l k) k), I64 (shapeR np nt nb gp gt gb (a, b, c) (d, e, g) l k).2.2.1, I64 (shapeR np nt nb gp gt gb (a, b, c) (d, e, g) l k).2.2.2]])))
        | 2000009 => ati tm 10 fun k => some (cut (loopHd 13 [] [(13, I64 (boxT (a, b, c) (d, e, g) (mbLo np nt nb gp gt gb k) (mbHi np nt nb gp gt gb k))), (14, Bo (boxOk (a, b, c) (d, e, g) (mbLo np nt nb gp gt gb k) (mbHi np nt nb gp gt gb k)))] tm hp (ungap hp)))
        | 2000011 => stayG 15 tm hp
        | _ => none
      | _, _ => none
  | _ => fun _ _ _ => none
/-! ## What is hit -/
theorem ballR_hit {near l : Int} {ok : Bool} {x y : Int} (h : (ballR near l ok x y).1 = true) : near ≤ (ballR near l ok x y).2.1 ∧ l ≤ (ballR near l ok x y).2.1 := by
  unfold ballR at *
  split at h
  · rename_i hh; rw [if_pos hh]; exact ⟨by simp only; omega, hh.2.2⟩
  · rename_i hn
    split at h
    · rename_i hh; rw [if_neg hn, if_pos hh]; exact ⟨by simp only; omega, hh.2.2⟩
    · cases h
theorem triR_hit {near l : Int} {ok : Bool} {t u v : Int} (h : (triR near l ok t u v).1 = true) : near ≤ (triR near l ok t u v).2.1 ∧ l ≤ (triR near l ok t u v).2.1 := by
  unfold triR at *
  split at h
  · rename_i hh; rw [if_pos hh]; exact ⟨by simp only; omega, hh.2⟩
  · cases h
theorem shape_hit {np nt nb : Nat} {gp gt gb : Nat → Nat → D} {o d : P3} {l i : Int} (h : (shapeR np nt nb gp gt gb o d l i).1 = true) :
    boxOk o d (mbLo np nt nb gp gt gb i) (mbHi np nt nb gp gt gb i) = true ∧ boxT o d (mbLo np nt nb gp gt gb i) (mbHi np nt nb gp gt gb i) ≤ (shapeR np nt nb gp gt gb o d l i).2.1 ∧ l ≤ (shapeR np nt nb gp gt gb o d l i).2.1 := by
  unfold shapeR at h ⊢
  split at h
  · cases h
  · rename_i h1
    rw [if_neg h1]
    split at h
    · rename_i h2
      rw [if_pos h2]
      refine ⟨h2, ?_⟩
      split at h
      · rename_i h3; rw [if_pos h3]; exact ballR_hit h
      · rename_i h3
        rw [if_neg h3]
        split at h
        · rename_i h4; rw [if_pos h4]; exact triR_hit h
        · cases h
    · cases h
theorem shape_none {np nt nb : Nat} {gp gt gb : Nat → Nat → D} {o d : P3} {l i : Int} (h : (shapeR np nt nb gp gt gb o d l i).1 = false) : shapeR np nt nb gp gt gb o d l i = (false, 0, 0, 0) := by
  unfold shapeR at h ⊢
  split at h
  · rename_i h1; rw [if_pos h1]
  · rename_i h1
    rw [if_neg h1]
    split at h
    · rename_i h2
      rw [if_pos h2]
      split at h
      · rename_i h3
        rw [if_pos h3]
        unfold ballR at h ⊢
        split at h
        · cases h
        · rename_i h4
          rw [if_neg h4]
          split at h
          · cases h
          · rename_i h5; rw [if_neg h5]
      · rename_i h3
        rw [if_neg h3]
        split at h
        · rename_i h4
          rw [if_pos h4]
          unfold triR at h ⊢
          split at h
          · cases h
          · rename_i h5; rw [if_neg h5]
        · rename_i h4; rw [if_neg h4]
    · rename_i h2; rw [if_neg h2]
/-! ## A greater least place -/
theorem ballR_more {near l l' : Int} {ok : Bool} {x y : Int} (hl : l ≤ l') (hxy : ok = true → x ≤ y) (h : (ballR near l' ok x y).1 = true) : (ballR near l ok x y).1 = true ∧ (ballR near l ok x y).2.1 ≤ (ballR near l' ok x y).2.1 := by
  unfold ballR at h ⊢
  split at h
  · rename_i h1
    rw [if_pos h1, if_pos ⟨h1.1, h1.2.1, by omega⟩]
    exact ⟨rfl, Int.le_refl _⟩
  · rename_i h1
    split at h
    · rename_i h2
      rw [if_neg h1, if_pos h2]
      have := hxy h2.1
      by_cases h3 : ok = true ∧ 0 ≤ x ∧ l ≤ max x near
      · rw [if_pos h3]; exact ⟨rfl, by simp only; omega⟩
      · rw [if_neg h3, if_pos ⟨h2.1, h2.2.1, by omega⟩]; exact ⟨rfl, Int.le_refl _⟩
    · cases h
theorem triR_more {near l l' : Int} {ok : Bool} {t u v : Int} (hl : l ≤ l') (h : (triR near l' ok t u v).1 = true) : (triR near l ok t u v).1 = true ∧ (triR near l ok t u v).2.1 ≤ (triR near l' ok t u v).2.1 := by
  unfold triR at h ⊢
  split at h
  · rename_i h1
    rw [if_pos h1, if_pos ⟨h1.1, by omega⟩]
    exact ⟨rfl, Int.le_refl _⟩
  · cases h
theorem mul_self_nonneg (a : Int) : 0 ≤ mulZ a a := by
  have h : 0 ≤ a * a := by
    rcases Int.le_total 0 a with hx | hx
    · exact Int.mul_nonneg hx hx
    · have := Int.mul_nonneg (show 0 ≤ -a by omega) (show 0 ≤ -a by omega)
      rw [Int.neg_mul_neg] at this; exact this
  unfold mulZ sat; omega
theorem dot_self_nonneg (d : P3) : 0 ≤ dotV d d := by
  have h1 := mul_self_nonneg d.1
  have h2 := mul_self_nonneg d.2.1
  have h3 := mul_self_nonneg d.2.2
  unfold dotV addZ sat; omega
theorem ball_order {o d c : P3} {r : Int} (h : ballOk o d c r = true) : ballX o d c r ≤ ballY o d c r := by
  simp only [ballOk, Bool.and_eq_true, Bool.not_eq_true', decide_eq_false_iff_not] at h
  have hd := dot_self_nonneg d
  unfold ballX ballY
  have hs := (sqrtZ_in (subZ_in (mulZ (ballH o d c) (ballH o d c)) (mulZ (dotV d d) (subZ (dotV (subV o c) (subV o c)) (mulZ r r))))).2.1
  have hs' : 0 ≤ sqrtZ (ballW o d c r) := hs
  refine divZ_mono ?_ (by have := h.1; omega)
  unfold subZ addZ sat; omega
theorem shape_more {np nt nb : Nat} {gp gt gb : Nat → Nat → D} {o d : P3} {l l' i : Int} (hl : l ≤ l') (h : (shapeR np nt nb gp gt gb o d l' i).1 = true) :
    (shapeR np nt nb gp gt gb o d l i).1 = true ∧ (shapeR np nt nb gp gt gb o d l i).2.1 ≤ (shapeR np nt nb gp gt gb o d l' i).2.1 := by
  unfold shapeR at h ⊢
  split at h
  · cases h
  · rename_i h1
    rw [if_neg h1, if_neg h1]
    split at h
    · rename_i h2
      rw [if_pos h2, if_pos h2]
      split at h
      · rename_i h3; rw [if_pos h3, if_pos h3]; exact ballR_more hl ball_order h
      · rename_i h3
        rw [if_neg h3, if_neg h3]
        split at h
        · rename_i h4; rw [if_pos h4, if_pos h4]; exact triR_more hl h
        · cases h
    · cases h
/-! ## The nearest one -/
structure Best (f : Int → Sh4) (n : Nat) (b : B4) : Prop where
  all : ∀ i : Nat, i < n → (f i).1 = true → 0 ≤ b.2.1 ∧ b.1 ≤ (f i).2.1 ∧ ((f i).2.1 = b.1 → b.2.1 ≤ (i : Int))
  one : b.2.1 = -1 ∨ (0 ≤ b.2.1 ∧ b.2.1 < (n : Int) ∧ (f b.2.1).1 = true ∧ b = hitOf (f b.2.1) b.2.1)
theorem scan_best (f : Int → Sh4) : ∀ n : Nat, Best f n (scanK f n)
  | 0 => ⟨fun i hi => by omega, .inl rfl⟩
  | n + 1 => by
    obtain ⟨ha, ho⟩ := scan_best f n
    unfold scanK
    split
    · rename_i hc
      have hi : idx (f n) n = n := by unfold idx; rw [if_pos hc.1]
      refine ⟨fun i hi' h => ?_, .inr ?_⟩
      · simp only [hitOf, hi]
        refine ⟨by omega, ?_, fun _ => ?_⟩
        · rcases Nat.lt_or_ge i n with hlt | hge
          · obtain ⟨q1, q2, q3⟩ := ha i hlt h
            rcases hc.2 with h2 | h2 <;> omega
          · obtain rfl : i = n := by omega
            omega
        · rename_i he
          rcases Nat.lt_or_ge i n with hlt | hge
          · obtain ⟨q1, q2, q3⟩ := ha i hlt h
            rcases hc.2 with h2 | h2 <;> omega
          · omega
      · simp only [hitOf, hi]
        exact ⟨by omega, by omega, hc.1, trivial⟩
    · rename_i hc
      refine ⟨fun i hi' h => ?_, ?_⟩
      · rcases Nat.lt_or_ge i n with hlt | hge
        · exact ha i hlt h
        · obtain rfl : i = n := by omega
          have hc' : ¬ ((scanK f i).2.1 < 0 ∨ (f i).2.1 < (scanK f i).1) := fun hh => hc ⟨h, hh⟩
          have h3 : (scanK f i).2.1 < (i : Int) := by rcases ho with h4 | h4 <;> omega
          exact ⟨by omega, by omega, fun _ => by omega⟩
      · rcases ho with h4 | ⟨h4, h5, h6, h7⟩
        · exact .inl h4
        · exact .inr ⟨h4, by omega, h6, h7⟩
end Go.Proofs.Ytcclekhekdibjaa.Fix

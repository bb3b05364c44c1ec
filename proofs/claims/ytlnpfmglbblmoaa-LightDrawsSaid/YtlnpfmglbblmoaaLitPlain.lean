/- Light: what the functions answer; plain laws. -/
import Derived.Test.YtlnpfmglbblmoaaVecPlain
import Derived.Test.YtlnpfmglbblmoaaFixFacts
namespace Go.Proofs.Ytlnpfmglbblmoaa.Fix

def clampZ (x : Int) : Int := max 0 (min x 4294967296)
def clampV (p : P3) : P3 := (clampZ p.1, clampZ p.2.1, clampZ p.2.2)
def byteZ (x : Int) : Int := floorZ (addZ (mulZ x 1095216660480) 2147483648)
def pixZ (x n : Int) : Int := byteZ (clampZ (divZ x (ofZ (max n 1))))
def axisV (n : P3) : P3 := if n.1 > 2147483648 ∨ n.1 < -2147483648 then (0, 4294967296, 0) else (4294967296, 0, 0)
def sideV (n : P3) (a b : Int) (t : P3) : P3 :=
  unitV (addV (addV (scaleV t (mulZ (sqrtZ b) (cosZ (mulZ 26986075409 a)))) (scaleV (crossV n t) (mulZ (sqrtZ b) (sinZ (mulZ 26986075409 a))))) (scaleV n (sqrtZ (subZ 4294967296 b))))
def bounceV (k : Int) (d n : P3) (a b : Int) : P3 := if k = 2 then bendV d n else sideV n a b (unitV (crossV (axisV n) n))
def camAt (w h wide a b : Int) (ahead right : P3) : P3 :=
  unitV (addV ahead (addV (scaleV right (mulZ (subZ (addZ a a) 4294967296) wide)) (scaleV (crossV right ahead) (mulZ (subZ 4294967296 (addZ b b)) (divZ (mulZ wide h) w)))))
def camV (w h : Int) (eye at' up : P3) (wide x y dx dy : Int) : P3 :=
  camAt (ofZ (max w 1)) (ofZ (max h 1)) wide (divZ (addZ (ofZ x) dx) (ofZ (max w 1))) (divZ (addZ (ofZ y) dy) (ofZ (max h 1))) (unitV (subV at' eye)) (unitV (crossV (unitV (subV at' eye)) up))
theorem clampZ_bd (x : Int) : 0 ≤ clampZ x ∧ clampZ x ≤ 4294967296 := by unfold clampZ; omega
theorem clampZ_in (x : Int) : In64 (clampZ x) := by have := clampZ_bd x; unfold In64; omega
theorem clampZ_id {x : Int} (h : 0 ≤ x) (h' : x ≤ 4294967296) : clampZ x = x := by unfold clampZ; omega
theorem clampZ_mono {x y : Int} (h : x ≤ y) : clampZ x ≤ clampZ y := by unfold clampZ; omega
theorem byteZ_eq {x : Int} (h : 0 ≤ x) (h' : x ≤ 4294967296) : byteZ x = (x * 255 + 2147483648) / 4294967296 := by
  unfold byteZ mulZ
  rw [show x * 1095216660480 = x * 255 * 4294967296 by omega, Int.mul_ediv_cancel _ (by omega), sat_id (by unfold In64; omega)]
  unfold addZ
  rw [sat_id (by unfold In64; omega)]
  rfl
theorem byteZ_bd {x : Int} (h : 0 ≤ x) (h' : x ≤ 4294967296) : 0 ≤ byteZ x ∧ byteZ x ≤ 255 := by rw [byteZ_eq h h']; omega
theorem pixZ_bd (x n : Int) : 0 ≤ pixZ x n ∧ pixZ x n ≤ 255 := by
  obtain ⟨h1, h2⟩ := clampZ_bd (divZ x (ofZ (max n 1)))
  exact byteZ_bd h1 h2
theorem ofZ_pos {n : Int} (h : 1 ≤ n) : 0 < ofZ n := by unfold ofZ sat; omega
theorem pixZ_mono {x y : Int} (n : Int) (h : x ≤ y) : pixZ x n ≤ pixZ y n := by
  unfold pixZ
  have hm := clampZ_mono (divZ_mono h (ofZ_pos (show 1 ≤ max n 1 by omega)))
  obtain ⟨h1, h2⟩ := clampZ_bd (divZ x (ofZ (max n 1)))
  obtain ⟨g1, g2⟩ := clampZ_bd (divZ y (ofZ (max n 1)))
  rw [byteZ_eq h1 h2, byteZ_eq g1 g2]
  omega
/-- So many samples, all alike. -/
theorem pix_alike {c n : Int} (h : 0 ≤ c) (h' : c ≤ 4294967296) (hn : 1 ≤ n) (hn' : n ≤ 64) : pixZ (n * c) n = pixZ c 1 := by
  have e1 : divZ (n * c) (ofZ (max n 1)) = c := by
    rw [show max n 1 = n by omega, of_id (by omega) (by omega)]
    unfold divZ quoZ
    rw [if_neg (by omega), if_pos (by omega), show n * c * 4294967296 = c * (n * 4294967296) by grind, Int.mul_ediv_cancel _ (by omega), sat_id (by unfold In64; omega)]
  have e2 : divZ c (ofZ (max 1 1)) = c := div_one (by unfold In64; omega)
  unfold pixZ
  rw [e1, e2]
theorem prod64 {c n : Int} (h : 0 ≤ c) (h' : c ≤ 4294967296) (hn : 1 ≤ n) (hn' : n ≤ 64) : In64 (n * c) := by
  have h1 := Int.mul_nonneg (show 0 ≤ n by omega) h
  have h2 : n * c ≤ 64 * 4294967296 := Int.mul_le_mul hn' h' h (by omega)
  unfold In64; omega
end Go.Proofs.Ytlnpfmglbblmoaa.Fix

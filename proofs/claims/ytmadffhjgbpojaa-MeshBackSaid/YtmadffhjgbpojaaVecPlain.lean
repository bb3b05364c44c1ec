/- Vec: what the functions answer, on three numbers; plain laws. -/
import Derived.Test.YtmadffhjgbpojaaFixPlain
namespace Go.Proofs.Ytmadffhjgbpojaa.Fix

abbrev P3 := Int × Int × Int
def In3 (p : P3) : Prop := In64 p.1 ∧ In64 p.2.1 ∧ In64 p.2.2
def addV (p q : P3) : P3 := (addZ p.1 q.1, addZ p.2.1 q.2.1, addZ p.2.2 q.2.2)
def subV (p q : P3) : P3 := (subZ p.1 q.1, subZ p.2.1 q.2.1, subZ p.2.2 q.2.2)
def mulV (p q : P3) : P3 := (mulZ p.1 q.1, mulZ p.2.1 q.2.1, mulZ p.2.2 q.2.2)
def negV (p : P3) : P3 := (negZ p.1, negZ p.2.1, negZ p.2.2)
def scaleV (p : P3) (s : Int) : P3 := (mulZ p.1 s, mulZ p.2.1 s, mulZ p.2.2 s)
def dotV (p q : P3) : Int := addZ (addZ (mulZ p.1 q.1) (mulZ p.2.1 q.2.1)) (mulZ p.2.2 q.2.2)
def crossV (p q : P3) : P3 := (subZ (mulZ p.2.1 q.2.2) (mulZ p.2.2 q.2.1), subZ (mulZ p.2.2 q.1) (mulZ p.1 q.2.2), subZ (mulZ p.1 q.2.1) (mulZ p.2.1 q.1))
def lenV (p : P3) : Int := sqrtZ (dotV p p)
def unitV (p : P3) : P3 := if lenV p = 0 then (0, 0, 0) else (divZ p.1 (lenV p), divZ p.2.1 (lenV p), divZ p.2.2 (lenV p))
def bendV (d n : P3) : P3 := subV d (scaleV n (addZ (dotV d n) (dotV d n)))
theorem addV_in (p q : P3) : In3 (addV p q) := ⟨addZ_in _ _, addZ_in _ _, addZ_in _ _⟩
theorem subV_in (p q : P3) : In3 (subV p q) := ⟨subZ_in _ _, subZ_in _ _, subZ_in _ _⟩
theorem mulV_in (p q : P3) : In3 (mulV p q) := ⟨mulZ_in _ _, mulZ_in _ _, mulZ_in _ _⟩
theorem negV_in (p : P3) : In3 (negV p) := ⟨negZ_in _, negZ_in _, negZ_in _⟩
theorem scaleV_in (p : P3) (s : Int) : In3 (scaleV p s) := ⟨mulZ_in _ _, mulZ_in _ _, mulZ_in _ _⟩
theorem dotV_in (p q : P3) : In64 (dotV p q) := addZ_in _ _
theorem crossV_in (p q : P3) : In3 (crossV p q) := ⟨subZ_in _ _, subZ_in _ _, subZ_in _ _⟩
theorem lenV_in (p : P3) : In64 (lenV p) := (sqrtZ_in (dotV_in p p)).1
theorem lenV_nonneg (p : P3) : 0 ≤ lenV p := (sqrtZ_in (dotV_in p p)).2.1
theorem zero_in : In64 0 := by unfold In64; omega
theorem unitV_in (p : P3) : In3 (unitV p) := by
  unfold unitV
  split
  · exact ⟨zero_in, zero_in, zero_in⟩
  · exact ⟨divZ_in _ _, divZ_in _ _, divZ_in _ _⟩
theorem bendV_in (p q : P3) : In3 (bendV p q) := subV_in _ _
end Go.Proofs.Ytmadffhjgbpojaa.Fix

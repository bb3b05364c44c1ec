/- Mesh: what is known of the functions that look at points, triangles, boxes. -/
import Derived.Test.YtmadffhjgbpojaaVecDefs
import Derived.Test.YtmadffhjgbpojaaGrdDefs
namespace Go.Proofs.Ytmadffhjgbpojaa.Fix
open Go Go.Proofs.Ytmadffhjgbpojaa.Sx

/-- The list of rows of numbers, as data. -/
abbrev NL (sz n : Nat) (p : Nat → Nat → Int) : SV := .d (.list sz n (fun i j => .int .i64 (p i j)))
def dI : D → Int
  | .int _ n => n
  | _ => 0
/-- Are all of a list's cells numbers? -/
def okL (sz n : Nat) (g : Nat → Nat → D) : Prop := ∀ i, i < n → ∀ j, j < sz → g i j = .int .i64 (dI (g i j)) ∧ In64 (dI (g i j))
def pt (g : Nat → Nat → D) (i : Nat) : P3 := (dI (g i 0), dI (g i 1), dI (g i 2))
def thereB (np : Nat) (t : P3) : Bool := (decide (0 ≤ t.1) && decide (t.1 < (np : Int))) && ((decide (0 ≤ t.2.1) && decide (t.2.1 < (np : Int))) && (decide (0 ≤ t.2.2) && decide (t.2.2 < (np : Int))))
def nearB (p : P3) : Bool := (decide (-4503599627370496 ≤ p.1) && decide (p.1 ≤ 4503599627370496)) && ((decide (-4503599627370496 ≤ p.2.1) && decide (p.2.1 ≤ 4503599627370496)) && (decide (-4503599627370496 ≤ p.2.2) && decide (p.2.2 ≤ 4503599627370496)))
def lo3 (a b c : P3) : P3 := (min (min a.1 b.1) c.1, min (min a.2.1 b.2.1) c.2.1, min (min a.2.2 b.2.2) c.2.2)
def hi3 (a b c : P3) : P3 := (max (max a.1 b.1) c.1, max (max a.2.1 b.2.1) c.2.1, max (max a.2.2 b.2.2) c.2.2)
def mboxV (np nt nb : Nat) (gp gt gb : Nat → Nat → D) (i : Int) : P3 × P3 :=
  if i < 0 ∨ (nt : Int) + (nb : Int) ≤ i then ((0, 0, 0), (0, 0, 0))
  else if (nt : Int) ≤ i then
    ((subZ (dI (gb (i - nt).toNat 0)) (dI (gb (i - nt).toNat 3)), subZ (dI (gb (i - nt).toNat 1)) (dI (gb (i - nt).toNat 3)), subZ (dI (gb (i - nt).toNat 2)) (dI (gb (i - nt).toNat 3))),
     (addZ (dI (gb (i - nt).toNat 0)) (dI (gb (i - nt).toNat 3)), addZ (dI (gb (i - nt).toNat 1)) (dI (gb (i - nt).toNat 3)), addZ (dI (gb (i - nt).toNat 2)) (dI (gb (i - nt).toNat 3))))
  else if thereB np (pt gt i.toNat) = true then
    (lo3 (pt gp (dI (gt i.toNat 0)).toNat) (pt gp (dI (gt i.toNat 1)).toNat) (pt gp (dI (gt i.toNat 2)).toNat), hi3 (pt gp (dI (gt i.toNat 0)).toNat) (pt gp (dI (gt i.toNat 1)).toNat) (pt gp (dI (gt i.toNat 2)).toNat))
  else ((0, 0, 0), (0, 0, 0))
abbrev mk : List AK := [.agg [.list 3, .list 3, .list 4]]
def okM (np nt nb : Nat) (gp gt gb : Nat → Nat → D) : Prop := okL 3 np gp ∧ okL 3 nt gt ∧ okL 4 nb gb ∧ nt ≤ 4294967296 ∧ nb ≤ 4294967296
def mcountSpec : Sx.Spec := pureSpec mk fun
  | [.agg [.d (.list 3 _ _), .d (.list 3 t _), .d (.list 4 b _)]] => fun K => K (.val (I64 (IntKind.i64.wrap ((t : Int) + (b : Int)))))
  | _ => fun _ => False
def thereSpec : Sx.Spec := pureSpec mk fun
  | [.agg [.d (.list 3 np _), .d (.list 3 _ _), .d (.list 4 _ _)], .agg [.d (.int .i64 a), .d (.int .i64 b), .d (.int .i64 c)]] => fun K => K (.val (Bo (thereB np (a, b, c))))
  | _ => fun _ => False
def mnearSpec : Sx.Spec := pureSpec [] fun
  | [.agg [.d (.int .i64 a), .d (.int .i64 b), .d (.int .i64 c)]] => fun K => K (.val (Bo (nearB (a, b, c))))
  | _ => fun _ => False
def mboxSpec : Sx.Spec := pureSpec mk fun
  | [.agg [.d (.list 3 np gp), .d (.list 3 nt gt), .d (.list 4 nb gb)], .d (.int .i64 i)] => fun K => okM np nt nb gp gt gb ∧ K (.val (.agg [I64 (mboxV np nt nb gp gt gb i).1.1, I64 (mboxV np nt nb gp gt gb i).1.2.1, I64 (mboxV np nt nb gp gt gb i).1.2.2, I64 (mboxV np nt nb gp gt gb i).2.1, I64 (mboxV np nt nb gp gt gb i).2.2.1, I64 (mboxV np nt nb gp gt gb i).2.2.2]))
  | _ => fun _ => False
def ΓM0 : FuncId → Option Sx.Spec
  | 4000000000 => none
  | 11 => some mcountSpec
  | 26 => some thereSpec
  | 23 => some mnearSpec
  | f => ΓG f
def ΓM1 : FuncId → Option Sx.Spec
  | 4000000000 => none
  | 12 => some mboxSpec
  | f => ΓM0 f
end Go.Proofs.Ytmadffhjgbpojaa.Fix

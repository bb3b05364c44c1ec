/- Hit: what the law of the fixed examples stands on. -/
import Derived.Test.YtcclekhekdibjaaHilDefs
import Derived.Test.YtcclekhekdibjaaMshDefs
namespace Go.Proofs.Ytcclekhekdibjaa.Fix
open Go Go.Proofs.Ytcclekhekdibjaa.Sx

def okC : D → Bool
  | .int .i64 x => inI64 x
  | _ => false
def okLb (sz n : Nat) (g : Nat → Nat → D) : Bool := (List.range n).all fun i => (List.range sz).all fun j => okC (g i j)
def okMb (np nt nb : Nat) (gp gt gb : Nat → Nat → D) : Bool := okLb 3 np gp && (okLb 3 nt gt && (okLb 4 nb gb && (Nat.ble nt 4294967296 && Nat.ble nb 4294967296)))
def mboxSpecG : Sx.Spec := pureSpec mk fun
  | [.agg [.d (.list 3 np gp), .d (.list 3 nt gt), .d (.list 4 nb gb)], .d (.int .i64 i)] => fun K => BR (okMb np nt nb gp gt gb) (K (.val (.agg [I64 (mboxV np nt nb gp gt gb i).1.1, I64 (mboxV np nt nb gp gt gb i).1.2.1, I64 (mboxV np nt nb gp gt gb i).1.2.2, I64 (mboxV np nt nb gp gt gb i).2.1, I64 (mboxV np nt nb gp gt gb i).2.2.1, I64 (mboxV np nt nb gp gt gb i).2.2.2]))) False
  | _ => fun _ => False
def ΓGd : FuncId → Option Sx.Spec
  | 53 => some thereSpec
  | 25 => some mboxSpecG
  | 18 => some trueSpec
  | f => ΓGa f
/-! ## The twins -/
def numsB (sz n : Nat) (g : Nat → Nat → D) (l : List Int) : Bool := (List.range n).all fun i => (List.range sz).all fun j => match g i j with
  | .int .i64 x => decide (x = l.getD (i * sz + j) 0)
  | _ => false
def twP : List Int := [-4294967296, -4294967296, 0, 4294967296, -4294967296, 0, 0, 4294967296, 0]
def twT : List Int := [0, 1, 2, 0, 1, 2, 0, 1, 5]
def twB : List Int := [0, 0, 4294967296, 4294967296]
abbrev twins : SV := .agg [NL 3 3 fun i j => twP.getD (i * 3 + j) 0, NL 3 3 fun i j => twT.getD (i * 3 + j) 0, NL 4 1 fun i j => twB.getD (i * 4 + j) 0]
def twinsB (gp gt gb : Nat → Nat → D) : Bool := numsB 3 3 gp twP && (numsB 3 3 gt twT && numsB 4 1 gb twB)
def scanSpecT : Sx.Spec := pureSpec mk fun
  | [.agg [.d (.list 3 3 gp), .d (.list 3 3 gt), .d (.list 4 1 gb)], .agg [.d (.int .i64 a), .d (.int .i64 b), .d (.int .i64 c), .d (.int .i64 d), .d (.int .i64 e), .d (.int .i64 f)], .d (.int .i64 l)] =>
    fun K => BR (twinsB gp gt gb && decide ((a, b, c, d, e, f) = (0, 0, -21474836480, 0, 0, 4294967296)))
      (if l = 0 then K (.val (.agg [I64 21474836480, I64 0, I64 1073741824, I64 2147483648])) else if l = 21474836481 then K (.val (.agg [I64 30064771072, I64 3, I64 0, I64 0])) else False) False
  | [.agg [.d (.list 3 0 _), .d (.list 3 0 _), .d (.list 4 0 _)], .agg [.d (.int .i64 _), .d (.int .i64 _), .d (.int .i64 _), .d (.int .i64 _), .d (.int .i64 _), .d (.int .i64 _)], .d (.int .i64 _)] => fun K => K (.val (.agg [I64 0, I64 (-1), I64 0, I64 0]))
  | _ => fun _ => False
def normalSpecT : Sx.Spec := pureSpec mk fun
  | [.agg [.d (.list 3 3 gp), .d (.list 3 3 gt), .d (.list 4 1 gb)], .agg [.d (.int .i64 t), .d (.int .i64 i), .d (.int .i64 u), .d (.int .i64 v)], .agg [.d (.int .i64 a), .d (.int .i64 b), .d (.int .i64 c), .d (.int .i64 d), .d (.int .i64 e), .d (.int .i64 f)]] =>
    fun K => BR (twinsB gp gt gb)
      (if [t, i, u, v, a, b, c, d, e, f] = [21474836480, 0, 1073741824, 2147483648, 0, 0, -21474836480, 0, 0, 4294967296] then K (.val (V3 0 0 (-4294967296)))
      else if [t, i, u, v, a, b, c, d, e, f] = [21474836480, 0, 1073741824, 2147483648, 0, 0, 0, 0, 0, -4294967296] then K (.val (V3 0 0 4294967296))
      else if [t, i, u, v, a, b, c, d, e, f] = [0, 2, 0, 0, 0, 0, -21474836480, 0, 0, 4294967296] then K (.val (V3 0 0 0))
      else if [t, i, u, v, a, b, c, d, e, f] = [0, 9, 0, 0, 0, 0, -21474836480, 0, 0, 4294967296] then K (.val (V3 0 0 0))
      else if [t, i, u, v, a, b, c, d, e, f] = [0, -1, 0, 0, 0, 0, -21474836480, 0, 0, 4294967296] then K (.val (V3 0 0 0)) else False) False
  | _ => fun _ => False
def ΓGe : FuncId → Option Sx.Spec
  | 15 => some scanSpecT
  | 17 => some normalSpecT
  | f => ΓGd f
end Go.Proofs.Ytcclekhekdibjaa.Fix

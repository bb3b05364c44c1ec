/- Vec: what is known of the laws' own functions, and where ways meet in the laws. -/
import Derived.Test.YtcihpmhnkgkdcaaVecDefs
namespace Go.Proofs.Ytcihpmhnkgkdcaa.Fix
open Go Go.Proofs.Ytcihpmhnkgkdcaa.Sx

abbrev I8 (n : Int) : SV := .d (.int .i8 n)
def small31 (a b c : Int) : Bool := decide ((-2147483648 ≤ a ∧ a < 2147483648) ∧ (-2147483648 ≤ b ∧ b < 2147483648) ∧ (-2147483648 ≤ c ∧ c < 2147483648))
def small7 (a b c : Int) : Bool := decide ((-128 ≤ a ∧ a < 128) ∧ (-128 ≤ b ∧ b < 128) ∧ (-128 ≤ c ∧ c < 128))
def ofSpecV : Sx.Spec := pureSpec [] fun
  | [.d (.int .i64 a), .d (.int .i64 b), .d (.int .i64 c)] => fun K => BR (small31 a b c) (ans3 (a * 4294967296, b * 4294967296, c * 4294967296) K) False
  | _ => fun _ => False
def lowV (p : P3) : P3 := (p.1.tmod 1099511627776, p.2.1.tmod 1099511627776, p.2.2.tmod 1099511627776)
def wholeSpec : Sx.Spec := pureSpec [] fun
  | [.agg [.d (.int .i8 a), .d (.int .i8 b), .d (.int .i8 c)]] => fun K => BR (small7 a b c) (ans3 (a.tmod 101 * 4294967296, b.tmod 101 * 4294967296, c.tmod 101 * 4294967296) K) False
  | _ => fun _ => False
def ΓVa : FuncId → Option Sx.Spec
  | 15 => some ofSpecV
  | 30 => some (v1 lowV)
  | 32 => some (fn1 floorZ)
  | f => ΓV2 f
def ΓVb : FuncId → Option Sx.Spec
  | 18 => some trueSpec
  | 31 => some wholeSpec
  | f => ΓVa f
/-- Three numbers in the variable that a slot points to. -/
def at3 (tm : List SV) (hp : List Ob) (i : Nat) (f : Nat → TypeId → Int → Int → Int → Option LoopAnn) : Option LoopAnn :=
  match tm.getD i .dead with
  | .ptr j 0 =>
    match hp[j]? with
    | some (.fix ty [.d (.int _ a), .d (.int _ b), .d (.int _ c)]) => f j ty a b c
    | _ => none
  | _ => none
def sg (x a : Int) : Int := if x < 0 then -a else a
def annV : FuncId → Nat → List SV → List Ob → Option LoopAnn
  | 5 => fun
    | 2000003, tm, hp => stayG 9 tm hp
    | 2000007, tm, hp => stayG 9 tm hp
    | _, _, _ => none
  | 6 => fun
    | 2000006, tm, hp => stayG 18 tm hp
    | _, _, _ => none
  | 7 => fun
    | 2000009, tm, hp => ati tm 0 fun x => at3 tm hp 8 fun _ _ a b c => at3 tm hp 11 fun j ty _ _ _ => some (cut (loopHd 12 [] [(10, I64 (sg x x))] tm hp (ungap hp |>.set j (.fix ty [I64 (sg x a), I64 (sg x b), I64 (sg x c)]))))
    | 2000011, tm, hp => stayG 12 tm hp
    | 2000013, tm, hp => stayG 12 tm hp
    | i, _, _ => splitA 25 6 i
  | _ => fun _ _ _ => none
end Go.Proofs.Ytcihpmhnkgkdcaa.Fix

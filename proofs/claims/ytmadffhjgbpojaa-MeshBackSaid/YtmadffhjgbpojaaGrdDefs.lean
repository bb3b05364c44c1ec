/- Ground: what is known of the functions, in a form that is reckoned where the numbers are known. -/
import Derived.Test.YtmadffhjgbpojaaVecDefs
namespace Go.Proofs.Ytmadffhjgbpojaa.Fix
open Go Go.Proofs.Ytmadffhjgbpojaa.Sx

def fn1g (F : Int → Int) : Sx.Spec := pureSpec [] fun
  | [.d (.int .i64 a)] => fun K => BR (inI64 a) (K (.val (I64 (F a)))) False
  | _ => fun _ => False
def fn2g (F : Int → Int → Int) : Sx.Spec := pureSpec [] fun
  | [.d (.int .i64 a), .d (.int .i64 b)] => fun K => BR (inI64 a) (BR (inI64 b) (K (.val (I64 (F a b)))) False) False
  | _ => fun _ => False
def vvg (F : P3 → P3 → P3) : Sx.Spec := pureSpec [] fun
  | [.agg [.d (.int .i64 a), .d (.int .i64 b), .d (.int .i64 c)], .agg [.d (.int .i64 d), .d (.int .i64 e), .d (.int .i64 f)]] => fun K => BR (inV a b c) (BR (inV d e f) (K (.val (Vp (F (a, b, c) (d, e, f))))) False) False
  | _ => fun _ => False
def v1g (F : P3 → P3) : Sx.Spec := pureSpec [] fun
  | [.agg [.d (.int .i64 a), .d (.int .i64 b), .d (.int .i64 c)]] => fun K => BR (inV a b c) (K (.val (Vp (F (a, b, c))))) False
  | _ => fun _ => False
def vsg (F : P3 → Int → P3) : Sx.Spec := pureSpec [] fun
  | [.agg [.d (.int .i64 a), .d (.int .i64 b), .d (.int .i64 c)], .d (.int .i64 s)] => fun K => BR (inV a b c) (BR (inI64 s) (K (.val (Vp (F (a, b, c) s)))) False) False
  | _ => fun _ => False
def vvng (F : P3 → P3 → Int) : Sx.Spec := pureSpec [] fun
  | [.agg [.d (.int .i64 a), .d (.int .i64 b), .d (.int .i64 c)], .agg [.d (.int .i64 d), .d (.int .i64 e), .d (.int .i64 f)]] => fun K => BR (inV a b c) (BR (inV d e f) (K (.val (I64 (F (a, b, c) (d, e, f))))) False) False
  | _ => fun _ => False
def vng (F : P3 → Int) : Sx.Spec := pureSpec [] fun
  | [.agg [.d (.int .i64 a), .d (.int .i64 b), .d (.int .i64 c)]] => fun K => BR (inV a b c) (K (.val (I64 (F (a, b, c))))) False
  | _ => fun _ => False
def ΓG : FuncId → Option Sx.Spec
  | 4000000000 => none
  | 31 => some (fn2g addZ)
  | 30 => some (fn2g subZ)
  | _ => none
end Go.Proofs.Ytmadffhjgbpojaa.Fix

/- Vec: what is known of the functions. -/
import Derived.Test.YtmadffhjgbpojaaFixDefs
import Derived.Test.YtmadffhjgbpojaaVecPlain
namespace Go.Proofs.Ytmadffhjgbpojaa.Fix
open Go Go.Proofs.Ytmadffhjgbpojaa.Sx

abbrev V3 (a b c : Int) : SV := .agg [I64 a, I64 b, I64 c]
abbrev Vp (p : P3) : SV := V3 p.1 p.2.1 p.2.2
def inV (a b c : Int) : Bool := inI64 a && (inI64 b && inI64 c)
def ans3 (p : P3) (K : Out → Prop) : Prop := ∀ x : Int, x = p.1 → ∀ y : Int, y = p.2.1 → ∀ z : Int, z = p.2.2 → K (.val (V3 x y z))
def vv (F : P3 → P3 → P3) : Sx.Spec := pureSpec [] fun
  | [.agg [.d (.int .i64 a), .d (.int .i64 b), .d (.int .i64 c)], .agg [.d (.int .i64 d), .d (.int .i64 e), .d (.int .i64 f)]] => fun K => BR (inV a b c) (BR (inV d e f) (ans3 (F (a, b, c) (d, e, f)) K) False) False
  | _ => fun _ => False
def v1 (F : P3 → P3) : Sx.Spec := pureSpec [] fun
  | [.agg [.d (.int .i64 a), .d (.int .i64 b), .d (.int .i64 c)]] => fun K => BR (inV a b c) (ans3 (F (a, b, c)) K) False
  | _ => fun _ => False
def vs (F : P3 → Int → P3) : Sx.Spec := pureSpec [] fun
  | [.agg [.d (.int .i64 a), .d (.int .i64 b), .d (.int .i64 c)], .d (.int .i64 s)] => fun K => BR (inV a b c) (BR (inI64 s) (ans3 (F (a, b, c) s) K) False) False
  | _ => fun _ => False
def vvn (F : P3 → P3 → Int) : Sx.Spec := pureSpec [] fun
  | [.agg [.d (.int .i64 a), .d (.int .i64 b), .d (.int .i64 c)], .agg [.d (.int .i64 d), .d (.int .i64 e), .d (.int .i64 f)]] => fun K => BR (inV a b c) (BR (inV d e f) (∀ n : Int, n = F (a, b, c) (d, e, f) → K (.val (I64 n))) False) False
  | _ => fun _ => False
def vn (F : P3 → Int) : Sx.Spec := pureSpec [] fun
  | [.agg [.d (.int .i64 a), .d (.int .i64 b), .d (.int .i64 c)]] => fun K => BR (inV a b c) (∀ n : Int, n = F (a, b, c) → K (.val (I64 n))) False
  | _ => fun _ => False

def neg1Spec : Sx.Spec := pureSpec [] fun
  | [.d (.int .i64 a), .d (.int .i64 _)] => fun K => BR (inI64 a) (∀ n : Int, n = negZ a → K (.val (I64 n))) False
  | _ => fun _ => False
def cap2 (F : Int → Int → Int) : Sx.Spec := capSpec fun
  | [.d (.int .i64 a), .d (.int .i64 _), .ptr 0 0], [.fix _ [.d (.int .i64 s)]] => fun K => BR (inI64 a) (BR (inI64 s) (∀ n : Int, n = F a s → K (.val (I64 n))) False) False
  | _, _ => fun _ => False
def areaSpec : Sx.Spec := pureSpec [] fun
  | [.d (.int .i64 a), .d (.int .i64 b), .d (.int .i64 c), .d (.int .i64 d)] => fun K => BR (inV a b c) (BR (inI64 d) (∀ n : Int, n = subZ (mulZ a b) (mulZ c d) → K (.val (I64 n))) False) False
  | _ => fun _ => False
def ΓV0 : FuncId → Option Sx.Spec
  | 4000000000 => none
  | f => Γ3 f
def ΓV1 : FuncId → Option Sx.Spec
  | 4000000000 => none
  | f => ΓV0 f
def ΓV2 : FuncId → Option Sx.Spec
  | 4000000000 => none
  | f => ΓV1 f
/-- Places that were kept and not filled are gone. -/
def ungap : List Ob → List Ob
  | [] => []
  | .hole :: hp => .gone :: ungap hp
  | o :: hp => o :: ungap hp
def stayG (n : Nat) (tm : List SV) (hp : List Ob) : Option LoopAnn := some (cut (loopHd n [] [] tm hp (ungap hp)))
def noAnn : FuncId → Nat → List SV → List Ob → Option LoopAnn := fun _ _ _ _ => none
end Go.Proofs.Ytmadffhjgbpojaa.Fix

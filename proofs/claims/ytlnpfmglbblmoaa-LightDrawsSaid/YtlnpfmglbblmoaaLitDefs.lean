/- Light: what is known of the functions. -/
import Derived.Test.YtlnpfmglbblmoaaVecDefs
import Derived.Test.YtlnpfmglbblmoaaLitPlain
namespace Go.Proofs.Ytlnpfmglbblmoaa.Fix
open Go Go.Proofs.Ytlnpfmglbblmoaa.Sx

abbrev U8 (n : Int) : SV := .d (.int .u8 n)
def cap1 (F : Int → Int → Int) : Sx.Spec := capSpec fun
  | [.d (.int .i64 a), .ptr 0 0], [.fix _ [.d (.int .i64 s)]] => fun K => BR (inI64 a) (BR (inI64 s) (∀ n : Int, n = F a s → K (.val (I64 n))) False) False
  | _, _ => fun _ => False
def pixSpec : Sx.Spec := pureSpec [] fun
  | [.agg [.d (.int .i64 a), .d (.int .i64 b), .d (.int .i64 c)], .d (.int .i64 n)] => fun K => BR (inV a b c) (BR (inI64 n) (∀ x : Int, x = pixZ a n → ∀ y : Int, y = pixZ b n → ∀ z : Int, z = pixZ c n → K (.val (.agg [U8 x, U8 y, U8 z, U8 255]))) False) False
  | _ => fun _ => False
def bounceSpec : Sx.Spec := pureSpec [] fun
  | [.d (.int .u8 k), .agg [.d (.int .i64 a), .d (.int .i64 b), .d (.int .i64 c)], .agg [.d (.int .i64 d), .d (.int .i64 e), .d (.int .i64 f)], .d (.int .i64 p), .d (.int .i64 q)] =>
    fun K => BR (inV a b c) (BR (inV d e f) (BR (inI64 p) (BR (inI64 q) (ans3 (bounceV k (a, b, c) (d, e, f) p q) K) False) False) False) False
  | _ => fun _ => False
def ansLook (u v : Int) (p n : P3) (K : Out → Prop) : Prop := ∀ x : Int, x = p.1 → ∀ y : Int, y = p.2.1 → ∀ z : Int, z = p.2.2 → K (.val (.agg [I64 u, I64 v, I64 x, I64 y, I64 z, I64 n.1, I64 n.2.1, I64 n.2.2]))
def lookSpec : Sx.Spec := pureSpec [] fun
  | [.agg [.d (.int .i64 a), .d (.int .i64 b), .d (.int .i64 c), .d (.int .i64 d), .d (.int .i64 e), .d (.int .i64 f)], .agg [.d (.int .i64 t), .d (.int .i64 i), .d (.int .i64 u), .d (.int .i64 v)], .agg [.d (.int .i64 x), .d (.int .i64 y), .d (.int .i64 z)]] =>
    fun K => BR (inV a b c) (BR (inV d e f) (BR (inI64 t) (ansLook u v (addV (a, b, c) (scaleV (d, e, f) t)) (x, y, z) K) False) False) False
  | _ => fun _ => False
def ansRay (o p : P3) (K : Out → Prop) : Prop := ∀ x : Int, x = p.1 → ∀ y : Int, y = p.2.1 → ∀ z : Int, z = p.2.2 → K (.val (.agg [I64 o.1, I64 o.2.1, I64 o.2.2, I64 x, I64 y, I64 z]))
def camSpec : Sx.Spec := pureSpec [.agg [.any, .any, .any, .any, .any, .any, .any, .any, .any, .any, .any, .any, .any, .any, .any, .any, .any, .any, .list 6, .list 5, .list 5]] fun
  | [.agg [.d (.int .i64 w), .d (.int .i64 h), .d (.int .i64 _), .d (.int .i64 _), .d (.int .u64 _), .d (.int .i64 a), .d (.int .i64 b), .d (.int .i64 c), .d (.int .i64 d), .d (.int .i64 e), .d (.int .i64 f), .d (.int .i64 g), .d (.int .i64 i), .d (.int .i64 j), .d (.int .i64 wide), .d (.int .i64 _), .d (.int .i64 _), .d (.int .i64 _), .d (.list 6 _ _), .d (.list 5 _ _), .d (.list 5 _ _)], .d (.int .i64 x), .d (.int .i64 y), .d (.int .i64 dx), .d (.int .i64 dy)] =>
    fun K => BR (inV a b c) (BR (inV d e f) (BR (inV g i j) (BR (inV w h wide) (BR (inV x y dx) (BR (inI64 dy) (ansRay (a, b, c) (camV w h (a, b, c) (d, e, f) (g, i, j) wide x y dx dy) K) False) False) False) False) False) False
  | _ => fun _ => False

def ΓL0 : FuncId → Option Sx.Spec
  | 4000000000 => none
  | 26 => some (fn1 clampZ)
  | 20 => some (cap1 divZ)
  | 22 => some (fn1 byteZ)
  | 50 => some (fn1 clampZ)
  | 40 => some (vv addV)
  | 41 => some (vs scaleV)
  | f => ΓV2 f
def ΓL1 : FuncId → Option Sx.Spec
  | 4000000000 => none
  | 8 => some (v1 clampV)
  | 16 => some (v1 clampV)
  | 12 => some bounceSpec
  | 13 => some bounceSpec
  | 14 => some lookSpec
  | 15 => some lookSpec
  | 10 => some camSpec
  | 11 => some camSpec
  | f => ΓL0 f
def ΓL2 : FuncId → Option Sx.Spec
  | 4000000000 => none
  | 7 => some pixSpec
  | 17 => some pixSpec
  | f => ΓL1 f
end Go.Proofs.Ytlnpfmglbblmoaa.Fix

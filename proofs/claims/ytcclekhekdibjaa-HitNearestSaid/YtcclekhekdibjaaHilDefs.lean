/- Hit: what is known of the laws' own functions, and where ways meet in the laws. -/
import Derived.Test.YtcclekhekdibjaaHitDefs
import Derived.Test.YtcclekhekdibjaaGrdDefs
namespace Go.Proofs.Ytcclekhekdibjaa.Fix
open Go Go.Proofs.Ytcclekhekdibjaa.Sx

def near44 (p : P3) : P3 := (p.1.tmod 17592186044416, p.2.1.tmod 17592186044416, p.2.2.tmod 17592186044416)
def small46 (a b c : Int) : Bool := decide ((-70368744177664 ≤ a ∧ a < 70368744177664) ∧ (-70368744177664 ≤ b ∧ b < 70368744177664) ∧ (-70368744177664 ≤ c ∧ c < 70368744177664))
def plusSpec : Sx.Spec := pureSpec [] fun
  | [.agg [.d (.int .i64 a), .d (.int .i64 b), .d (.int .i64 c)], .agg [.d (.int .i64 d), .d (.int .i64 e), .d (.int .i64 f)]] => fun K => BR (small46 a b c) (BR (small46 d e f) (ans3 (plusV (a, b, c) (d, e, f)) K) False) False
  | _ => fun _ => False
def aroundSpec : Sx.Spec := pureSpec [] fun
  | [.agg [.d (.int .i64 l), .d (.int .i64 m), .d (.int .i64 n), .d (.int .i64 p), .d (.int .i64 q), .d (.int .i64 r)], .agg [.d (.int .i64 a), .d (.int .i64 b), .d (.int .i64 c)]] => fun K => K (.val (Ray (min l a) (min m b) (min n c) (max p a) (max q b) (max r c)))
  | _ => fun _ => False
def atSpec : Sx.Spec := pureSpec [] fun
  | [.d (.int .i64 x), .d (.int .i64 l), .d (.int .i64 h)] => fun K => ∀ n : Int, n = max l (min x h) → K (.val (I64 n))
  | _ => fun _ => False
/-! ## The chapter's examples -/
def ballG : Nat → Nat → D := fun _ j => .int .i64 (if j = 3 then 4294967296 else 0)
def noneG : Nat → Nat → D := fun _ _ => .bool false
abbrev ballMesh : SV := .agg [.d (.list 3 0 noneG), .d (.list 3 0 noneG), .d (.list 4 1 ballG)]
abbrev rayB : SV := Ray 0 0 (-21474836480) 0 0 4294967296
def isBall (g : Nat → Nat → D) : Prop := g 0 0 = .int .i64 0 ∧ g 0 1 = .int .i64 0 ∧ g 0 2 = .int .i64 0 ∧ g 0 3 = .int .i64 4294967296
def small31 (a b c : Int) : Bool := decide ((-2147483648 ≤ a ∧ a < 2147483648) ∧ (-2147483648 ≤ b ∧ b < 2147483648) ∧ (-2147483648 ≤ c ∧ c < 2147483648))
def ofSpecH : Sx.Spec := pureSpec [] fun
  | [.d (.int .i64 a), .d (.int .i64 b), .d (.int .i64 c)] => fun K => BR (small31 a b c) (K (.val (V3 (a * 4294967296) (b * 4294967296) (c * 4294967296)))) False
  | _ => fun _ => False
def fromSpecH : Sx.Spec := pureSpec [] fun
  | [.d (.int .i64 a), .d (.int .i64 b), .d (.int .i64 c)] => fun K => BR (small31 a b c) (K (.val (Ray (a * 4294967296) (b * 4294967296) (c * 4294967296) 0 0 4294967296))) False
  | _ => fun _ => False
def countSpec : Sx.Spec := pureSpec [.agg [.list 3, .list 3, .list 4]] fun
  | [.agg [.d (.list 3 _ _), .d (.list 3 t _), .d (.list 4 b _)]] => fun K => K (.val (I64 (IntKind.i64.wrap ((t : Int) + (b : Int)))))
  | _ => fun _ => False
def boxSpecG : Sx.Spec := pureSpec [] fun
  | [.agg [.d (.int .i64 a), .d (.int .i64 b), .d (.int .i64 c), .d (.int .i64 d), .d (.int .i64 e), .d (.int .i64 f)], .agg [.d (.int .i64 l), .d (.int .i64 m), .d (.int .i64 n), .d (.int .i64 p), .d (.int .i64 q), .d (.int .i64 r)]] =>
    fun K => BR (inV a b c) (BR (inV d e f) (BR (inV l m n) (BR (inV p q r) (K (.val (.tuple [I64 (boxT (a, b, c) (d, e, f) (l, m, n) (p, q, r)), Bo (boxOk (a, b, c) (d, e, f) (l, m, n) (p, q, r))]))) False) False) False) False
  | _ => fun _ => False
def triSpecG : Sx.Spec := pureSpec [] fun
  | [.agg [.d (.int .i64 a), .d (.int .i64 b), .d (.int .i64 c), .d (.int .i64 d), .d (.int .i64 e), .d (.int .i64 f)], .agg [.d (.int .i64 l), .d (.int .i64 m), .d (.int .i64 n)], .agg [.d (.int .i64 p), .d (.int .i64 q), .d (.int .i64 r)], .agg [.d (.int .i64 x), .d (.int .i64 y), .d (.int .i64 z)]] =>
    fun K => BR (inV a b c) (BR (inV d e f) (BR (inV l m n) (BR (inV p q r) (BR (inV x y z)
      (K (.val (.tuple [.agg [I64 (ifOk (triOk (a, b, c) (d, e, f) (l, m, n) (p, q, r) (x, y, z)) (triT (a, b, c) (d, e, f) (l, m, n) (p, q, r) (x, y, z))), I64 0, I64 (ifOk (triOk (a, b, c) (d, e, f) (l, m, n) (p, q, r) (x, y, z)) (triU (a, b, c) (d, e, f) (l, m, n) (p, q, r) (x, y, z))),
        I64 (ifOk (triOk (a, b, c) (d, e, f) (l, m, n) (p, q, r) (x, y, z)) (triV (a, b, c) (d, e, f) (l, m, n) (p, q, r) (x, y, z)))], Bo (triOk (a, b, c) (d, e, f) (l, m, n) (p, q, r) (x, y, z))]))) False) False) False) False) False
  | _ => fun _ => False
def ballSpecG : Sx.Spec := pureSpec [] fun
  | [.agg [.d (.int .i64 a), .d (.int .i64 b), .d (.int .i64 c), .d (.int .i64 d), .d (.int .i64 e), .d (.int .i64 f)], .agg [.d (.int .i64 l), .d (.int .i64 m), .d (.int .i64 n), .d (.int .i64 r)]] =>
    fun K => BR (inV a b c) (BR (inV d e f) (BR (inV l m n) (BR (inI64 r)
      (K (.val (.tuple [I64 (ifOk (ballOk (a, b, c) (d, e, f) (l, m, n) r) (ballX (a, b, c) (d, e, f) (l, m, n) r)), I64 (ifOk (ballOk (a, b, c) (d, e, f) (l, m, n) r) (ballY (a, b, c) (d, e, f) (l, m, n) r)), Bo (ballOk (a, b, c) (d, e, f) (l, m, n) r)]))) False) False) False) False
  | _ => fun _ => False
def ΓGa : FuncId → Option Sx.Spec
  | 10 => some ofSpecH
  | 9 => some fromSpecH
  | 24 => some countSpec
  | 11 => some boxSpecG
  | 12 => some triSpecG
  | 13 => some ballSpecG
  | f => ΓG f
def mboxSpecB : Sx.Spec := pureSpec [.agg [.list 3, .list 3, .list 4]] fun
  | [.agg [.d (.list 3 0 _), .d (.list 3 0 _), .d (.list 4 1 g)], .d (.int .i64 0)] => fun K => isBall g ∧ K (.val (Ray (-4294967296) (-4294967296) (-4294967296) 4294967296 4294967296 4294967296))
  | _ => fun _ => False
def ΓGb : FuncId → Option Sx.Spec
  | 25 => some mboxSpecB
  | f => ΓGa f
def shapeSpecB : Sx.Spec := pureSpec [.agg [.list 3, .list 3, .list 4]] fun
  | [.agg [.d (.list 3 0 _), .d (.list 3 0 _), .d (.list 4 1 g)], .d (.int .i64 0), .agg [.d (.int .i64 a), .d (.int .i64 b), .d (.int .i64 c), .d (.int .i64 d), .d (.int .i64 e), .d (.int .i64 f)], .d (.int .i64 l)] =>
    fun K => (isBall g ∧ a = 0 ∧ b = 0 ∧ c = -21474836480 ∧ d = 0 ∧ e = 0 ∧ f = 4294967296 ∧ l = 21474836480) ∧ K (.val (.tuple [.agg [I64 25769803776, I64 0, I64 0, I64 0], Bo true]))
  | _ => fun _ => False
def scanSpecB : Sx.Spec := pureSpec [.agg [.list 3, .list 3, .list 4]] fun
  | [.agg [.d (.list 3 0 _), .d (.list 3 0 _), .d (.list 4 1 g)], .agg [.d (.int .i64 a), .d (.int .i64 b), .d (.int .i64 c), .d (.int .i64 d), .d (.int .i64 e), .d (.int .i64 f)], .d (.int .i64 l)] =>
    fun K => (isBall g ∧ a = 0 ∧ b = 0 ∧ c = -21474836480 ∧ d = 0 ∧ e = 0 ∧ f = 4294967296 ∧ l = 0) ∧ K (.val (.agg [I64 17179869184, I64 0, I64 0, I64 0]))
  | _ => fun _ => False
def normalSpecB : Sx.Spec := pureSpec [.agg [.list 3, .list 3, .list 4]] fun
  | [.agg [.d (.list 3 0 _), .d (.list 3 0 _), .d (.list 4 1 g)], .agg [.d (.int .i64 t), .d (.int .i64 i), .d (.int .i64 u), .d (.int .i64 v)], .agg [.d (.int .i64 a), .d (.int .i64 b), .d (.int .i64 c), .d (.int .i64 d), .d (.int .i64 e), .d (.int .i64 f)]] =>
    fun K => (isBall g ∧ a = 0 ∧ b = 0 ∧ c = -21474836480 ∧ d = 0 ∧ e = 0 ∧ f = 4294967296 ∧ t = 17179869184 ∧ i = 0 ∧ u = 0 ∧ v = 0) ∧ K (.val (V3 0 0 (-4294967296)))
  | _ => fun _ => False
def ballG2 : Nat → Nat → D := fun i j => [D.int .i64 0, .int .i64 0, .int .i64 0, .int .i64 4294967296].getD ((0 + i) * 4 + j) (.bool false)
def ballFSpec : Sx.Spec := pureSpec [] fun
  | [] => fun K => K (.val (.agg [.d (.list 3 0 noneG), .d (.list 3 0 noneG), .d (.list 4 1 ballG2)]))
  | _ => fun _ => False
def ΓGc : FuncId → Option Sx.Spec
  | 16 => some shapeSpecB
  | 15 => some scanSpecB
  | 17 => some normalSpecB
  | 14 => some ballFSpec
  | f => ΓGb f
def ΓHa : FuncId → Option Sx.Spec
  | 18 => some trueSpec
  | 26 => some (v1 near44)
  | 28 => some plusSpec
  | 22 => some aroundSpec
  | 27 => some atSpec
  | f => ΓH1 f
end Go.Proofs.Ytcclekhekdibjaa.Fix

/- Hit: what is known of the functions that meet a box, a triangle, a ball. -/
import Derived.Test.YtcclekhekdibjaaVecDefs
import Derived.Test.YtcclekhekdibjaaHitPlain
namespace Go.Proofs.Ytcclekhekdibjaa.Fix
open Go Go.Proofs.Ytcclekhekdibjaa.Sx

abbrev Ray (a b c d e f : Int) : SV := .agg [I64 a, I64 b, I64 c, I64 d, I64 e, I64 f]
def boxSpec : Sx.Spec := pureSpec [] fun
  | [.agg [.d (.int .i64 a), .d (.int .i64 b), .d (.int .i64 c), .d (.int .i64 d), .d (.int .i64 e), .d (.int .i64 f)], .agg [.d (.int .i64 l), .d (.int .i64 m), .d (.int .i64 n), .d (.int .i64 p), .d (.int .i64 q), .d (.int .i64 r)]] =>
    fun K => BR (inV a b c) (BR (inV d e f) (BR (inV l m n) (BR (inV p q r) (∀ t : Int, t = boxT (a, b, c) (d, e, f) (l, m, n) (p, q, r) → ∀ ok : Bool, ok = boxOk (a, b, c) (d, e, f) (l, m, n) (p, q, r) → K (.val (.tuple [I64 t, Bo ok]))) False) False) False) False
  | _ => fun _ => False
def triSpec : Sx.Spec := pureSpec [] fun
  | [.agg [.d (.int .i64 a), .d (.int .i64 b), .d (.int .i64 c), .d (.int .i64 d), .d (.int .i64 e), .d (.int .i64 f)], .agg [.d (.int .i64 l), .d (.int .i64 m), .d (.int .i64 n)], .agg [.d (.int .i64 p), .d (.int .i64 q), .d (.int .i64 r)], .agg [.d (.int .i64 x), .d (.int .i64 y), .d (.int .i64 z)]] =>
    fun K => BR (inV a b c) (BR (inV d e f) (BR (inV l m n) (BR (inV p q r) (BR (inV x y z)
      (∀ ok : Bool, ok = triOk (a, b, c) (d, e, f) (l, m, n) (p, q, r) (x, y, z) → ∀ t : Int, t = ifOk ok (triT (a, b, c) (d, e, f) (l, m, n) (p, q, r) (x, y, z)) → ∀ u : Int, u = ifOk ok (triU (a, b, c) (d, e, f) (l, m, n) (p, q, r) (x, y, z)) → ∀ v : Int, v = ifOk ok (triV (a, b, c) (d, e, f) (l, m, n) (p, q, r) (x, y, z)) →
        K (.val (.tuple [.agg [I64 t, I64 0, I64 u, I64 v], Bo ok]))) False) False) False) False) False
  | _ => fun _ => False
def ballSpec : Sx.Spec := pureSpec [] fun
  | [.agg [.d (.int .i64 a), .d (.int .i64 b), .d (.int .i64 c), .d (.int .i64 d), .d (.int .i64 e), .d (.int .i64 f)], .agg [.d (.int .i64 l), .d (.int .i64 m), .d (.int .i64 n), .d (.int .i64 r)]] =>
    fun K => BR (inV a b c) (BR (inV d e f) (BR (inV l m n) (BR (inI64 r)
      (∀ ok : Bool, ok = ballOk (a, b, c) (d, e, f) (l, m, n) r → ∀ x : Int, x = ifOk ok (ballX (a, b, c) (d, e, f) (l, m, n) r) → ∀ y : Int, y = ifOk ok (ballY (a, b, c) (d, e, f) (l, m, n) r) → K (.val (.tuple [I64 x, I64 y, Bo ok]))) False) False) False) False
  | _ => fun _ => False
def ΓH1 : FuncId → Option Sx.Spec
  | 4000000000 => none
  | 11 => some boxSpec
  | 19 => some boxSpec
  | 12 => some triSpec
  | 20 => some triSpec
  | 13 => some ballSpec
  | 21 => some ballSpec
  | f => ΓV2 f
/-- The cells of the variable that a slot points to. -/
def atc (tm : List SV) (hp : List Ob) (i : Nat) (f : Nat → TypeId → List SV → Option LoopAnn) : Option LoopAnn :=
  match tm.getD i .dead with
  | .ptr j 0 =>
    match hp[j]? with
    | some (.fix ty cs) => f j ty cs
    | _ => none
  | _ => none
def boxHead (i : Nat) (tm : List SV) (hp : List Ob) : Option LoopAnn :=
  atc tm hp 2 fun _ _ r => atc tm hp 3 fun _ _ b => atc tm hp 6 fun j6 t6 n => atc tm hp 7 fun j7 t7 f => atc tm hp 8 fun j8 t8 k =>
    match r.getD i .dead, r.getD (3 + i) .dead, b.getD i .dead, b.getD (3 + i) .dead, n, f, k with
    | .d (.int _ o), .d (.int _ d), .d (.int _ lo), .d (.int _ hi), [.d (.int _ near)], [.d (.int _ far)], [.d (.bool ok)] =>
      some (cut (loopHd 10 [] [] tm hp ((((ungap hp).set j6 (.fix t6 [I64 (nearZ o d lo hi near)])).set j7 (.fix t7 [I64 (farZ o d lo hi far)])).set j8 (.fix t8 [Bo (okZ o d lo hi ok)]))))
    | _, _, _, _, _, _, _ => none
def rboxHead (tm : List SV) (hp : List Ob) : Option LoopAnn :=
  atc tm hp 6 fun _ _ os => atc tm hp 7 fun _ _ ds => atc tm hp 8 fun _ _ los => atc tm hp 9 fun _ _ his =>
    match tm.getD 10 .dead, tm.getD 11 .dead, tm.getD 12 .dead with
    | .d (.int _ near), .d (.int _ far), .d (.int _ i) =>
      match os.getD i.toNat .dead, ds.getD i.toNat .dead, los.getD i.toNat .dead, his.getD i.toNat .dead with
      | .d (.int _ o), .d (.int _ d), .d (.int _ lo), .d (.int _ hi) =>
        some (.lp { _u : Unit // okZ o d lo hi true = true } (fun _ => loopHd 13 [] [(10, I64 (nearZ o d lo hi near)), (11, I64 (farZ o d lo hi far))] tm hp (ungap hp)) (fun _ => 0))
      | _, _, _, _ => none
    | _, _, _ => none
def annH : FuncId → Nat → List SV → List Ob → Option LoopAnn
  | 11 => fun
    | 2000004, tm, hp => boxHead 0 tm hp
    | 2000005, tm, hp => boxHead 1 tm hp
    | 2000006, tm, hp => boxHead 2 tm hp
    | _, _, _ => none
  | 19 => fun
    | 2000008, tm, hp => rboxHead tm hp
    | _, _, _ => none
  | _ => fun _ _ _ => none
end Go.Proofs.Ytcclekhekdibjaa.Fix

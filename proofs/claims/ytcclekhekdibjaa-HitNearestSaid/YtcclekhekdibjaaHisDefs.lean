/- Hit: shapes and the nearest one: what is known of them. -/
import Derived.Test.YtcclekhekdibjaaHitDefs
import Derived.Test.YtcclekhekdibjaaMshDefs
namespace Go.Proofs.Ytcclekhekdibjaa.Fix
open Go Go.Proofs.Ytcclekhekdibjaa.Sx

def mbLo (np nt nb : Nat) (gp gt gb : Nat → Nat → D) (i : Int) : P3 := (mboxV np nt nb gp gt gb i).1
def mbHi (np nt nb : Nat) (gp gt gb : Nat → Nat → D) (i : Int) : P3 := (mboxV np nt nb gp gt gb i).2
def mboxSpecN : Sx.Spec := pureSpec mk fun
  | [.agg [.d (.list 3 np gp), .d (.list 3 nt gt), .d (.list 4 nb gb)], .d (.int .i64 i)] => fun K => okM np nt nb gp gt gb ∧ (∀ l : P3, l = mbLo np nt nb gp gt gb i → ∀ h : P3, h = mbHi np nt nb gp gt gb i → K (.val (.agg [I64 l.1, I64 l.2.1, I64 l.2.2, I64 h.1, I64 h.2.1, I64 h.2.2])))
  | _ => fun _ => False
def ΓS0 : FuncId → Option Sx.Spec
  | 4000000000 => none
  | 24 => some mcountSpec
  | 53 => some thereSpec
  | 25 => some mboxSpecN
  | f => ΓH1 f
/-! ## Shapes -/
abbrev Sh4 := Bool × Int × Int × Int
def ballR (near l : Int) (ok : Bool) (x y : Int) : Sh4 :=
  if ok = true ∧ 0 ≤ x ∧ l ≤ max x near then (true, max x near, 0, 0) else if ok = true ∧ 0 ≤ y ∧ l ≤ max y near then (true, max y near, 0, 0) else (false, 0, 0, 0)
def triR (near l : Int) (ok : Bool) (t u v : Int) : Sh4 := if ok = true ∧ l ≤ max t near then (true, max t near, u, v) else (false, 0, 0, 0)
def shapeR (np nt nb : Nat) (gp gt gb : Nat → Nat → D) (o d : P3) (l i : Int) : Sh4 :=
  if i < 0 ∨ (nt : Int) + (nb : Int) ≤ i then (false, 0, 0, 0)
  else if boxOk o d (mbLo np nt nb gp gt gb i) (mbHi np nt nb gp gt gb i) = true then
    if (nt : Int) ≤ i then
      ballR (boxT o d (mbLo np nt nb gp gt gb i) (mbHi np nt nb gp gt gb i)) l (ballOk o d (pt gb (i - nt).toNat) (dI (gb (i - nt).toNat 3))) (ballX o d (pt gb (i - nt).toNat) (dI (gb (i - nt).toNat 3))) (ballY o d (pt gb (i - nt).toNat) (dI (gb (i - nt).toNat 3)))
    else if thereB np (pt gt i.toNat) = true then
      triR (boxT o d (mbLo np nt nb gp gt gb i) (mbHi np nt nb gp gt gb i)) l (triOk o d (pt gp (dI (gt i.toNat 0)).toNat) (pt gp (dI (gt i.toNat 1)).toNat) (pt gp (dI (gt i.toNat 2)).toNat))
        (triT o d (pt gp (dI (gt i.toNat 0)).toNat) (pt gp (dI (gt i.toNat 1)).toNat) (pt gp (dI (gt i.toNat 2)).toNat)) (triU o d (pt gp (dI (gt i.toNat 0)).toNat) (pt gp (dI (gt i.toNat 1)).toNat) (pt gp (dI (gt i.toNat 2)).toNat)) (triV o d (pt gp (dI (gt i.toNat 0)).toNat) (pt gp (dI (gt i.toNat 1)).toNat) (pt gp (dI (gt i.toNat 2)).toNat))
    else (false, 0, 0, 0)
  else (false, 0, 0, 0)
def idx (s : Sh4) (i : Int) : Int := if s.1 = true then i else -1
abbrev B4 := Int × Int × Int × Int
def hitOf (s : Sh4) (i : Int) : B4 := (s.2.1, idx s i, s.2.2.1, s.2.2.2)
/-- The nearest one of the first k. -/
def scanK (f : Int → Sh4) : Nat → B4
  | 0 => (0, -1, 0, 0)
  | k + 1 => if (f k).1 = true ∧ ((scanK f k).2.1 < 0 ∨ (f k).2.1 < (scanK f k).1) then hitOf (f k) k else scanK f k
def shapeSpec : Sx.Spec := pureSpec mk fun
  | [.agg [.d (.list 3 np gp), .d (.list 3 nt gt), .d (.list 4 nb gb)], .d (.int .i64 i), .agg [.d (.int .i64 a), .d (.int .i64 b), .d (.int .i64 c), .d (.int .i64 d), .d (.int .i64 e), .d (.int .i64 f)], .d (.int .i64 l)] =>
    fun K => okM np nt nb gp gt gb ∧ BR (inV a b c) (BR (inV d e f) (∀ s : Sh4, s = shapeR np nt nb gp gt gb (a, b, c) (d, e, f) l i → K (.val (.tuple [.agg [I64 s.2.1, I64 (idx s i), I64 s.2.2.1, I64 s.2.2.2], Bo s.1]))) False) False
  | _ => fun _ => False
def ΓS1 : FuncId → Option Sx.Spec
  | 4000000000 => none
  | 16 => some shapeSpec
  | f => ΓS0 f
def scanSpec : Sx.Spec := pureSpec mk fun
  | [.agg [.d (.list 3 np gp), .d (.list 3 nt gt), .d (.list 4 nb gb)], .agg [.d (.int .i64 a), .d (.int .i64 b), .d (.int .i64 c), .d (.int .i64 d), .d (.int .i64 e), .d (.int .i64 f)], .d (.int .i64 l)] =>
    fun K => okM np nt nb gp gt gb ∧ BR (inV a b c) (BR (inV d e f) (∀ r : B4, r = scanK (fun i => shapeR np nt nb gp gt gb (a, b, c) (d, e, f) l i) (nt + nb) → K (.val (.agg [I64 r.1, I64 r.2.1, I64 r.2.2.1, I64 r.2.2.2]))) False) False
  | _ => fun _ => False
def ΓS2 : FuncId → Option Sx.Spec
  | 4000000000 => none
  | 15 => some scanSpec
  | f => ΓS1 f
def annS : FuncId → Nat → List SV → List Ob → Option LoopAnn
  | 15 => fun
    | 3, tm, hp => ati tm 13 fun n => ati tm 2 fun l => atc tm hp 3 fun _ _ m => atc tm hp 4 fun _ _ r => atc tm hp 7 fun j7 t7 _ =>
      match m, r with
      | [.d (.list 3 np gp), .d (.list 3 nt gt), .d (.list 4 nb gb)], [.d (.int _ a), .d (.int _ b), .d (.int _ c), .d (.int _ d), .d (.int _ e), .d (.int _ f)] =>
        some (.lp { k : Nat // (k : Int) ≤ n } (fun k => loopHd 8 [13] [(14, I64 k.1)] tm hp (hp.set j7 (.fix t7 [I64 (scanK (fun i => shapeR np nt nb gp gt gb (a, b, c) (d, e, f) l i) k.1).1, I64 (scanK (fun i => shapeR np nt nb gp gt gb (a, b, c) (d, e, f) l i) k.1).2.1, I64 (scanK (fun i => shapeR np nt nb gp gt gb (a, b, c) (d, e, f) l i) k.1).2.2.1, I64 (scanK (fun i => shapeR np nt nb gp gt gb (a, b, c) (d, e, f) l i) k.1).2.2.2]))) (fun k => (n - k.1).toNat))
      | _, _ => none
    | _, _, _ => none
  | _ => fun _ _ _ => none
end Go.Proofs.Ytcclekhekdibjaa.Fix

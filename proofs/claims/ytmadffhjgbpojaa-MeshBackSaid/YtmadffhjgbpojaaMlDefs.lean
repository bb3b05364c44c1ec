/- Mesh: the laws' own functions: what is known of them. -/
import Derived.Test.YtmadffhjgbpojaaMqDefs
namespace Go.Proofs.Ytmadffhjgbpojaa.Fix
open Go Go.Proofs.Ytmadffhjgbpojaa.Sx

def mboxSpecN' : Sx.Spec := pureSpec mk fun
  | [.agg [.d (.list 3 np gp), .d (.list 3 nt gt), .d (.list 4 nb gb)], .d (.int .i64 i)] => fun K => okM np nt nb gp gt gb ∧ (∀ B : P3 × P3, B = mboxV np nt nb gp gt gb i → K (.val (.agg [I64 B.1.1, I64 B.1.2.1, I64 B.1.2.2, I64 B.2.1, I64 B.2.2.1, I64 B.2.2.2])))
  | _ => fun _ => False
def withinB (p lo hi : P3) : Bool := (decide (lo.1 ≤ p.1) && decide (p.1 ≤ hi.1)) && ((decide (lo.2.1 ≤ p.2.1) && decide (p.2.1 ≤ hi.2.1)) && (decide (lo.2.2 ≤ p.2.2) && decide (p.2.2 ≤ hi.2.2)))
def withinSpec : Sx.Spec := pureSpec [] fun
  | [.agg [.d (.int .i64 x), .d (.int .i64 y), .d (.int .i64 z)], .agg [.d (.int .i64 a), .d (.int .i64 b), .d (.int .i64 c), .d (.int .i64 d), .d (.int .i64 e), .d (.int .i64 f)]] => fun K => K (.val (Bo (withinB (x, y, z) (a, b, c) (d, e, f))))
  | _ => fun _ => False
def pickZ (n m : Int) : Int := if m ≤ 1 then 0 else if n < 0 then m - 1 - (-(n + 1)).tmod m else n.tmod m
def pickSpec : Sx.Spec := pureSpec [] fun
  | [.d (.int .i64 n), .d (.int .i64 m)] => fun K => BR (inI64 n) (BR (inI64 m) (∀ r, r = pickZ n m → K (.val (I64 r))) False) False
  | _ => fun _ => False
def sameL (sz n : Nat) (g h : Nat → Nat → D) : Bool := allB (fun i => allB (fun j => decide (dI (g i j) = dI (h i j))) sz) n
def sameB (np nt nb : Nat) (gp gt gb : Nat → Nat → D) (np' nt' nb' : Nat) (gp' gt' gb' : Nat → Nat → D) : Bool :=
  (decide (np = np') && (decide (nt = nt') && decide (nb = nb'))) && (sameL 3 np gp gp' && (sameL 3 nt gt gt' && sameL 4 nb gb gb'))
def mkk : List AK := [.agg [.list 3, .list 3, .list 4], .agg [.list 3, .list 3, .list 4]]
def sameMeshSpec : Sx.Spec := pureSpec mkk fun
  | [.agg [.d (.list 3 np gp), .d (.list 3 nt gt), .d (.list 4 nb gb)], .agg [.d (.list 3 np' gp'), .d (.list 3 nt' gt'), .d (.list 4 nb' gb')]] => fun K => okM np nt nb gp gt gb ∧ okM np' nt' nb' gp' gt' gb' ∧ K (.val (Bo (sameB np nt nb gp gt gb np' nt' nb' gp' gt' gb')))
  | _ => fun _ => False
def sameBytesSpec : Sx.Spec := pureSpec [.bytes, .bytes] fun
  | [.d (.bytes a), .d (.bytes b)] => fun K => K (.val (Bo (a == b)))
  | _ => fun _ => False
def ΓL0 : FuncId → Option Sx.Spec
  | 4000000000 => none
  | 16 => some bytesSpec
  | 18 => some mreadSpec
  | 12 => some mboxSpecN'
  | 19 => some copySpec
  | 20 => some sameBytesSpec
  | 14 => some withinSpec
  | 13 => some pickSpec
  | 10 => some trueSpec
  | f => ΓE1 f
def ΓL1 : FuncId → Option Sx.Spec
  | 4000000000 => none
  | 21 => some sameMeshSpec
  | f => ΓL0 f
def annMl : FuncId → Nat → List SV → List Ob → Option LoopAnn
  | 21 => fun
    | 4, tm, hp => atp tm hp 2 fun _ _ c => atp tm hp 3 fun _ _ d => match c, d with
      | .d (.list _ n g) :: _, .d (.list _ _ h) :: _ => some (.lp { k : Nat // k ≤ n ∧ sameL 3 k g h = true } (fun k => loopHd 5 [] [(5, I64 (k.1 : Nat))] tm hp hp) (fun k => n - k.1))
      | _, _ => none
    | 9, tm, hp => atp tm hp 2 fun _ _ c => atp tm hp 3 fun _ _ d => match c, d with
      | _ :: .d (.list _ n g) :: _, _ :: .d (.list _ _ h) :: _ => some (.lp { k : Nat // k ≤ n ∧ sameL 3 k g h = true } (fun k => loopHd 5 [] [(6, I64 (k.1 : Nat))] tm hp hp) (fun k => n - k.1))
      | _, _ => none
    | 14, tm, hp => atp tm hp 2 fun _ _ c => atp tm hp 3 fun _ _ d => match c, d with
      | [_, _, .d (.list _ n g)], [_, _, .d (.list _ _ h)] => some (.lp { k : Nat // k ≤ n ∧ sameL 4 k g h = true } (fun k => loopHd 5 [] [(7, I64 (k.1 : Nat))] tm hp hp) (fun k => n - k.1))
      | _, _ => none
    | _, _, _ => none
  | 15 => fun
    | 4, tm, hp => atl tm 32 fun _ n g => ati tm 5 fun k0 => atp tm hp 6 fun j T c => match c with
      | [c0, .view r v _ _, c2] => match hp[r]? with
        | some (.row _ e (.list _ na f)) => some (.lp { k : Nat // k ≤ n } (fun k => loopHd 8 [32, 33] [(34, I64 (k.1 : Nat))] tm hp ((hp.set j (.fix T [c0, .view r (v + 1) 0 (na + k.1), c2])).set r (.row (v + 1) e (.list 3 (na + k.1) (fun i jj => if i < na then f i jj else .int .i64 (IntKind.i64.wrap (dI (g (i - na) jj) + k0))))))) (fun k => n - k.1))
        | _ => none
      | _ => none
    | _, _, _ => none
  | 4 => fun
    | 8, tm, hp => ati tm 60 fun n => some (.lp { k : Nat // (k : Int) ≤ n } (fun k => loopHd 8 [60] [(61, I64 (k.1 : Nat))] tm hp hp) (fun k => (n - k.1).toNat))
    | 17, tm, hp => ati tm 80 fun n => some (.lp { k : Nat // (k : Int) ≤ n } (fun k => loopHd 8 [80] [(81, I64 (k.1 : Nat))] tm hp hp) (fun k => (n - k.1).toNat))
    | 2000013, tm, hp => some (cut (loopHd 10 [60, 61] [] tm hp hp))
    | _, _, _ => none
  | 6 => fun
    | 15, tm, hp => atp tm hp 2 fun _ _ c => match c with
      | [_, .d (.list _ n _), _] => some (.lp { k : Nat // k ≤ n } (fun k => loopHd 13 [] [(13, I64 (k.1 : Nat))] tm hp hp) (fun k => n - k.1))
      | _ => none
    | 23, tm, hp => atp tm hp 2 fun _ _ c => match c with
      | [_, _, .d (.list _ n _)] => some (.lp { k : Nat // k ≤ n } (fun k => loopHd 13 [] [(15, I64 (k.1 : Nat))] tm hp hp) (fun k => n - k.1))
      | _ => none
    | _, _, _ => none
  | _ => fun _ _ _ => none
end Go.Proofs.Ytmadffhjgbpojaa.Fix

/- Mesh: bytes and back: what is known of the functions. -/
import Derived.Test.YtmadffhjgbpojaaMeDefs
namespace Go.Proofs.Ytmadffhjgbpojaa.Fix
open Go Go.Proofs.Ytmadffhjgbpojaa.Sx

def eightB (x : Int) : List UInt8 := fourB (x % 18446744073709551616 / 4294967296) ++ fourB (x % 4294967296)
def vecB (p : P3) : List UInt8 := eightB p.1 ++ eightB p.2.1 ++ eightB p.2.2
def triB (p : P3) : List UInt8 := fourB (p.1 % 4294967296) ++ fourB (p.2.1 % 4294967296) ++ fourB (p.2.2 % 4294967296)
def seqB (f : Nat → List UInt8) : Nat → List UInt8
  | 0 => []
  | k + 1 => seqB f k ++ f k
def ptsB (g : Nat → Nat → D) : Nat → List UInt8 := seqB fun k => vecB (pt g k)
def trisB (g : Nat → Nat → D) : Nat → List UInt8 := seqB fun k => triB (pt g k)
def ballsB (g : Nat → Nat → D) : Nat → List UInt8 := seqB fun k => vecB (pt g k) ++ eightB (dI (g k 3))
def headB (np nt nb : Nat) : List UInt8 := fourB np ++ fourB nt ++ fourB nb
def meshB (np nt nb : Nat) (gp gt gb : Nat → Nat → D) : List UInt8 := headB np nt nb ++ ptsB gp np ++ trisB gt nt ++ ballsB gb nb
def bytesSpec : Sx.Spec := pureSpec mk fun
  | [.agg [.d (.list 3 np gp), .d (.list 3 nt gt), .d (.list 4 nb gb)]] => fun K => okM np nt nb gp gt gb ∧ BR (okB np nt nb gp gt gb) (∀ l, l = meshB np nt nb gp gt gb → K (.val (.tuple [.d (.bytes l), I64 0]))) (K (.val (.tuple [.d (.bytes []), I64 14])))
  | _ => fun _ => False
def num8 (l : List UInt8) (o : Nat) : Int := IntKind.i64.wrap (beN ((l.drop o).take 8))
def num4 (l : List UInt8) (o : Nat) : Int := beN ((l.drop o).take 4)
def readP (l : List UInt8) : Nat → Nat → D := fun i j => .int .i64 (num8 l (12 + 24 * i + 8 * j))
def readT (l : List UInt8) (c0 : Nat) : Nat → Nat → D := fun i j => .int .i64 (num4 l (12 + 24 * c0 + 12 * i + 4 * j))
def readQ (l : List UInt8) (c0 c1 : Nat) : Nat → Nat → D := fun i j => .int .i64 (num8 l (12 + 24 * c0 + 12 * c1 + 32 * i + 8 * j))
def cnt (l : List UInt8) (i : Nat) : Nat := (num4 l (4 * i)).toNat
def readE (l : List UInt8) : Int :=
  if l.length < 12 then 12 else if 4096 < cnt l 0 ∨ 4096 < cnt l 1 ∨ 4096 < cnt l 2 then 3
  else if l.length < 12 + 24 * cnt l 0 + 12 * cnt l 1 + 32 * cnt l 2 then 12 else if 12 + 24 * cnt l 0 + 12 * cnt l 1 + 32 * cnt l 2 < l.length then 10
  else if okB (cnt l 0) (cnt l 1) (cnt l 2) (readP l) (readT l (cnt l 0)) (readQ l (cnt l 0) (cnt l 1)) = true then 0 else 14
abbrev nilL (sz : Nat) : SV := .d (.list sz 0 (fun _ _ => .bool false))
def mreadSpec : Sx.Spec := pureSpec [.bytes] fun
  | [.d (.bytes l)] => fun K => BR (decide (readE l = 0)) (K (.val (.tuple [.agg [.d (.list 3 (cnt l 0) (readP l)), .d (.list 3 (cnt l 1) (readT l (cnt l 0))), .d (.list 4 (cnt l 2) (readQ l (cnt l 0) (cnt l 1)))], I64 0])))
      (∀ e, e = readE l → K (.val (.tuple [.agg [nilL 3, nilL 3, nilL 4], I64 e])))
  | _ => fun _ => False
def ΓE1 : FuncId → Option Sx.Spec
  | 4000000000 => none
  | 9 => some checkSpec
  | 36 => some placeSpec
  | f => ΓE0 f
/-! ## Heads -/
/-- A variable that a slot points to, which holds a whole row of bytes. -/
def atr (tm : List SV) (hp : List Ob) (i : Nat) (f : (List UInt8 → List Ob) → List UInt8 → Option LoopAnn) : Option LoopAnn :=
  match tm.getD i .dead with
  | .ptr j _ => match hp[j]? with
    | some (.fix T [.view r v _ _]) => match hp[r]? with
      | some (.row _ e (.bytes l)) => f (fun l' => (hp.set j (.fix T [.view r (v + 1) 0 l'.length])).set r (.row (v + 1) e (.bytes l'))) l
      | _ => none
    | _ => none
  | _ => none
def atp (tm : List SV) (hp : List Ob) (i : Nat) (f : Nat → TypeId → List SV → Option LoopAnn) : Option LoopAnn :=
  match tm.getD i .dead with
  | .ptr j _ => match hp[j]? with
    | some (.fix T cells) => f j T cells
    | _ => none
  | _ => none
def annMf : FuncId → Nat → List SV → List Ob → Option LoopAnn
  | 16 => fun
    | 11, tm, hp => atl tm 39 fun _ n g => atr tm hp 5 fun put l => some (.lp { k : Nat // k ≤ n } (fun k => loopHd 8 [39, 40] [(41, I64 (k.1 : Nat))] tm hp (put (l ++ ptsB g k.1))) (fun k => n - k.1))
    | 16, tm, hp => atl tm 50 fun _ n g => atr tm hp 5 fun put l => some (.lp { k : Nat // k ≤ n } (fun k => loopHd 8 [50, 51] [(52, I64 (k.1 : Nat))] tm hp (put (l ++ trisB g k.1))) (fun k => n - k.1))
    | 25, tm, hp => atl tm 66 fun _ n g => atr tm hp 5 fun put l => some (.lp { k : Nat // k ≤ n } (fun k => loopHd 8 [66, 67] [(68, I64 (k.1 : Nat))] tm hp (put (l ++ ballsB g k.1))) (fun k => n - k.1))
    | _, _, _ => none
  | 18 => fun
    | 15, tm, hp => atb tm 0 fun l => ati tm 55 fun n => atp tm hp 1 fun jb Tb _ => atp tm hp 4 fun j T c =>
      some ⟨{ k : Nat // (k : Int) ≤ n }, fun k => loopHd 10 [55] [(56, I64 (k.1 : Nat))] tm hp ((hp.set j (.fix T [.view hp.length 1 0 k.1, c.getD 1 .dead, c.getD 2 .dead])).set jb (.fix Tb [.d (.bytes (l.drop (12 + 24 * k.1)))]) ++ [.row 1 34 (.list 3 k.1 (readP l))]),
        fun k => (n - k.1).toNat, [], [(j, 0, 34, .list 3 0 (fun _ _ => .bool false))]⟩
    | 19, tm, hp => atb tm 0 fun l => ati tm 7 fun p => ati tm 71 fun n => atp tm hp 1 fun jb Tb _ => atp tm hp 4 fun j T c =>
      some ⟨{ k : Nat // (k : Int) ≤ n }, fun k => loopHd 10 [71] [(72, I64 (k.1 : Nat))] tm hp ((hp.set j (.fix T [c.getD 0 .dead, .view hp.length 1 0 k.1, c.getD 2 .dead])).set jb (.fix Tb [.d (.bytes (l.drop (12 + 24 * p.toNat + 12 * k.1)))]) ++ [.row 1 39 (.list 3 k.1 (readT l p.toNat))]),
        fun k => (n - k.1).toNat, [], [(j, 1, 39, .list 3 0 (fun _ _ => .bool false))]⟩
    | 23, tm, hp => atb tm 0 fun l => ati tm 7 fun p => ati tm 8 fun q => ati tm 87 fun n => atp tm hp 1 fun jb Tb _ => atp tm hp 4 fun j T c =>
      some ⟨{ k : Nat // (k : Int) ≤ n }, fun k => loopHd 10 [87] [(88, I64 (k.1 : Nat))] tm hp ((hp.set j (.fix T [c.getD 0 .dead, c.getD 1 .dead, .view hp.length 1 0 k.1])).set jb (.fix Tb [.d (.bytes (l.drop (12 + 24 * p.toNat + 12 * q.toNat + 32 * k.1)))]) ++ [.row 1 42 (.list 4 k.1 (readQ l p.toNat q.toNat))]),
        fun k => (n - k.1).toNat, [], [(j, 2, 42, .list 4 0 (fun _ _ => .bool false))]⟩
    | 2000015, tm, hp => none
    | _, _, _ => none
  | _ => fun _ _ _ => none
end Go.Proofs.Ytmadffhjgbpojaa.Fix

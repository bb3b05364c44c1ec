/- Sums: what is said of the functions and of their loops. -/
import Derived.Test.YtbdecdkhallkmaaSxDefs
import Derived.Test.YtbdecdkhallkmaaSumsPlain
import Derived.Test.YtbdecdkhallkmaaProg
namespace Go.Proofs.Ytbdecdkhallkmaa.Sums
open Go Go.Proofs.Ytbdecdkhallkmaa.Sx

abbrev u32 (n : Nat) : SV := .d (.int .u32 n)
abbrev i64 (n : Nat) : SV := .d (.int .i64 n)
def stepN : Nat → Nat → Nat
  | 0, c => c
  | n + 1, c => step (stepN n c)
def tbl (i : Nat) : Nat → D := fun j => .int .u32 ((if j < i then step8 j else 0 : Nat) : Int)
def at2 (tm : List SV) (i j : Nat) (f : Nat → List UInt8 → LoopAnn) : Option LoopAnn :=
  match tm.getD i .dead, tm.getD j .dead with
  | .d (.int _ s), .d (.bytes l) => some (f s.toNat l)
  | _, _ => none
def at1 (tm : List SV) (i : Nat) (f : Int → LoopAnn) : Option LoopAnn :=
  match tm.getD i .dead with
  | .d (.int _ s) => some (f s)
  | _ => none

/-- A loop that counts from 0 to n. -/
def cnt (n : Nat) (head : Nat → Hd) : LoopAnn := .lp { i : Nat // i ≤ n } (fun i => head i.1) (fun i => n - i.1)
def annTable : Nat → List SV → List Ob → Option LoopAnn
  | 3, tm, _ => some (cnt 256 fun i => (keep tm [0, 1] ++ [(4, i64 i)], [.arr 35 256 (tbl 0), .arr 35 256 (tbl i)]))
  | 7, tm, hp => at1 tm 2 fun i => cnt 8 fun k => (keep tm [0, 1, 2, 4] ++ [(3, u32 (stepN k i.toNat)), (9, i64 k)], hp)
  | _, _, _ => none
def annCrc : Nat → List SV → List Ob → Option LoopAnn
  | 4, tm, hp => at2 tm 0 12 fun s l => cnt l.length fun i => (keep tm [5, 12, 13] ++ [(6, u32 (crcRun (4294967295 - s) (l.take i))), (14, i64 i)], hp)
  | _, _, _ => none
def annCrcRef : Nat → List SV → List Ob → Option LoopAnn
  | 3, tm, hp => at2 tm 0 1 fun s l => cnt l.length fun i => (keep tm [0, 1] ++ [(5, u32 (crcRun (4294967295 - s) (l.take i))), (6, i64 i)], hp)
  | 7, tm, hp => at1 tm 5 fun c => cnt 8 fun k => (keep tm [0, 1, 6] ++ [(5, u32 (stepN k c.toNat)), (7, i64 k)], hp)
  | _, _, _ => none
def annAdlerRef : Nat → List SV → List Ob → Option LoopAnn
  | 3, tm, hp => at2 tm 0 1 fun s l => cnt l.length fun i => (keep tm [0, 1] ++ [(5, u32 (adRun (adStart s) (l.take i)).1), (6, u32 (adRun (adStart s) (l.take i)).2), (7, i64 i)], hp)
  | _, _, _ => none
def annAdler : Nat → List SV → List Ob → Option LoopAnn
  | 2, tm, hp => at2 tm 0 1 fun s l => cnt l.length fun i => (keep tm [0] ++ [(1, .d (.bytes (l.drop i))), (5, u32 (adRun (adStart s) (l.take i)).1), (6, u32 (adRun (adStart s) (l.take i)).2)], hp)
  | 5, tm, hp =>
    match tm.getD 5 .dead, tm.getD 6 .dead, tm.getD 24 .dead with
    | .d (.int _ x), .d (.int _ y), .d (.bytes l) => some (cnt l.length fun i => (keep tm [0, 1, 7, 24, 25] ++ [(5, u32 (rawRun (x.toNat, y.toNat) (l.take i)).1), (6, u32 (rawRun (x.toNat, y.toNat) (l.take i)).2), (26, i64 i)], hp))
    | _, _, _ => none
  | 1000021, _, _ => some (cnt 0 fun _ => ([], []))
  | 1000024, _, _ => some (cnt 0 fun _ => ([], []))
  | 1000012, _, _ => some (cnt 0 fun _ => ([], []))
  | 1000015, _, _ => some (cnt 0 fun _ => ([], []))
  | _, _, _ => none
def annCopy : Nat → List SV → List Ob → Option LoopAnn
  | 3, tm, _ =>
    match tm.getD 0 .dead with
    | .d (.bytes l) => some ⟨{ i : Nat // i ≤ l.length }, fun i => (keep tm [0] ++ [(3, .view 0 1 0 i.1), (4, i64 i.1)], [.row 1 5 (.bytes (l.take i.1))]), fun i => l.length - i.1, [(3, 5, .bytes [])]⟩
    | _ => none
  | _, _, _ => none
def ann : FuncId → Nat → List SV → List Ob → Option LoopAnn
  | 9 => annAdler
  | 10 => annAdlerRef
  | 11 => annCrc
  | 12 => annCrcRef
  | 14 => annCopy
  | 17 => annTable
  | _ => fun _ _ _ => none

def inU32 (s : Int) : Bool := decide (0 ≤ s ∧ s < 4294967296)
def sumSpec (f : Nat → List UInt8 → Nat) : Sx.Spec := pureSpec [.any, .bytes] fun
  | [.d (.int .u32 s), .d (.bytes l)] => fun K => BR (inU32 s) (∀ n : Nat, n = f s.toNat l → K (.val (u32 n))) False
  | _ => fun _ => False
def tableSpec : Sx.Spec := pureSpec [] fun
  | [] => fun K => K (.val (.aggf 256 (tbl 256)))
  | _ => fun _ => False
def Γt : FuncId → Option Sx.Spec
  | 17 => some tableSpec
  | _ => none
def copySpec : Sx.Spec := pureSpec [.bytes] fun
  | [.d (.bytes l)] => fun K => BR (decide (l.length ≤ 140737488355328)) (K (.row 5 (.bytes l))) False
  | _ => fun _ => False
def sameSpec : Sx.Spec := pureSpec [.bytes, .bytes] fun
  | [.d (.bytes l), .d (.bytes m)] => fun K => K (.val (.d (.bool (decide (l = m)))))
  | _ => fun _ => False
def pickN (n m : Int) : Nat := if m ≤ 1 then 0 else if n < 0 then (m - 1 - (-(n + 1)).tmod m).toNat else (n.tmod m).toNat
def inI64 (s : Int) : Bool := decide (-9223372036854775808 ≤ s ∧ s < 9223372036854775808)
def pickSpec : Sx.Spec := pureSpec [] fun
  | [.d (.int .i64 n), .d (.int .i64 m)] => fun K => BR (inI64 n && inI64 m) (∀ i : Nat, i = pickN n m → K (.val (i64 i))) False
  | _ => fun _ => False
def trueSpec : Sx.Spec := pureSpec [] fun
  | [] => fun K => K (.val (.d (.bool true)))
  | _ => fun _ => False
def Γ0 : FuncId → Option Sx.Spec
  | 9 => some (sumSpec adler)
  | 10 => some (sumSpec adler)
  | 11 => some (sumSpec crc)
  | 12 => some (sumSpec crc)
  | 14 => some copySpec
  | 15 => some sameSpec
  | 16 => some pickSpec
  | _ => none
def Γ1 : FuncId → Option Sx.Spec
  | 13 => some trueSpec
  | f => Γ0 f
def byteD : D → UInt8
  | .int _ n => UInt8.ofNat n.toNat
  | _ => 0
def bytesD (g : Nat → D) (i : Nat) : List UInt8 := (List.range i).map fun j => byteD (g j)
def annBurst : List SV → List Ob → Option LoopAnn
  | tm, hp =>
    match tm.getD 1 .dead, tm.getD 2 .dead, hp with
    | .d (.bytes l), .d (.int _ a), .arr t n g :: _ => some (cnt 4 fun i => (keep tm [0, 1, 2, 7] ++ [(9, .view 1 0 0 l.length), (10, .d (.bool (anySet (l.drop a.toNat) (bytesD g i)))), (11, i64 i)],
        [.arr t n g, .row 0 5 (.bytes (l.take a.toNat ++ xorPre (l.drop a.toNat) (bytesD g i)))]))
    | _, _, _ => none
def x3 (a b c : List UInt8) (i : Nat) : List UInt8 := (List.range i).map fun j => a.getD j 0 ^^^ b.getD j 0 ^^^ c.getD j 0
def annLinear : List SV → List Ob → Option LoopAnn
  | tm, hp =>
    match tm.getD 1 .dead, tm.getD 2 .dead, tm.getD 3 .dead, tm.getD 9 .dead with
    | .d (.bytes a), .d (.bytes b), .d (.bytes c), .d (.int _ n) => some (cnt n.toNat fun i => loopHd 13 [] [(10, .view 0 0 0 n.toNat), (11, i64 i)] tm hp [.row 0 5 (.bytes (x3 a b c i ++ List.replicate (n.toNat - i) 0))])
    | _, _, _, _ => none
def adN (s : Nat) (l : List UInt8) : Nat → Nat
  | 0 => s
  | i + 1 => adler s (l.take (i + 1))
def annSteps : Nat → List SV → List Ob → Option LoopAnn
  | 5, tm, hp => at2 tm 0 1 fun s l => cnt l.length fun i => loopHd 7 [] [(5, u32 (crc s (l.take i))), (6, u32 (adN s l i)), (7, i64 i)] tm hp hp
  | 12, tm, hp => at2 tm 0 1 fun s l => cnt l.length fun i => loopHd 11 [] [(8, u32 (adRun (adStart s) (l.take i)).1), (9, u32 (adRun (adStart s) (l.take i)).2), (10, i64 i)] tm hp hp
  | _, _, _ => none
def annLaw : FuncId → Nat → List SV → List Ob → Option LoopAnn
  | 3, 3, _, _ => some ⟨{ i : Nat // i ≤ 20000 }, fun i => ([(1, .view 0 1 0 i.1), (2, i64 i.1)], [.row 1 5 (.bytes (List.replicate i.1 255))]), fun i => 20000 - i.1, [(1, 5, .bytes [])]⟩
  | 6, 4, tm, hp => annLinear tm hp
  | 6, 1000009, _, _ => some (cnt 0 fun _ => ([], []))
  | 7, 7, tm, hp => annBurst tm hp
  | 7, 1000024, _, _ => some (cnt 0 fun _ => ([], []))
  | 8, r, tm, hp => annSteps r tm hp
  | _, _, _, _ => none
end Go.Proofs.Ytbdecdkhallkmaa.Sums

/- Mesh: what is right, its bytes: what is known of the functions. -/
import Derived.Test.YtmadffhjgbpojaaMshDefs
namespace Go.Proofs.Ytmadffhjgbpojaa.Fix
open Go Go.Proofs.Ytmadffhjgbpojaa.Sx

/-- Are all below n so? -/
def allB (f : Nat → Bool) : Nat → Bool
  | 0 => true
  | n + 1 => f n && allB f n
def ballB (g : Nat → Nat → D) (i : Nat) : Bool := nearB (pt g i) && (decide (1 ≤ dI (g i 3)) && decide (dI (g i 3) ≤ 4503599627370496))
def okB (np nt nb : Nat) (gp gt gb : Nat → Nat → D) : Bool :=
  ((decide (np ≤ 4096) && decide (nt ≤ 4096)) && (decide (nb ≤ 4096) && decide (nt + nb ≤ 4096))) && (allB (fun i => nearB (pt gp i)) np && (allB (fun i => thereB np (pt gt i)) nt && allB (ballB gb) nb))
def checkSpec : Sx.Spec := pureSpec mk fun
  | [.agg [.d (.list 3 np gp), .d (.list 3 nt gt), .d (.list 4 nb gb)]] => fun K => okM np nt nb gp gt gb ∧ BR (okB np nt nb gp gt gb) (K (.val (I64 0))) (K (.val (I64 14)))
  | _ => fun _ => False
/-! ## Bytes -/
def b8 (z : Int) : UInt8 := UInt8.ofNat (z % 256).toNat
def fourB (n : Int) : List UInt8 := [b8 (n / 16777216), b8 (n / 65536), b8 (n / 256), b8 n]
def inU32 (s : Int) : Bool := decide (0 ≤ s ∧ s < 4294967296)
abbrev byteT : TypeId := 5
def fourSpec : Sx.Spec := memSpec true 0 [.own, .any] fun
  | [.view 1 0 0 n, .d (.int .u32 x)], [.ban, .row 0 e (.bytes l)] => fun K => BR (inU32 x) (BR (decide (n = l.length ∧ e = byteT)) (BR (decide (l.length + 4 ≤ 140737488355328)) (∀ l', l' = l ++ fourB x → K (.view 1 1 0 l'.length) [.ban, .row 1 e (.bytes l')]) False) False) False
  | [.nils, .d (.int .u32 x)], [.ban] => fun K => BR (inU32 x) (∀ l', l' = fourB x → K (.view 1 0 0 l'.length) [.ban, .row 0 byteT (.bytes l')]) False
  | _, _ => fun _ => False
/-- Bytes as a number, the highest first. -/
def beN (l : List UInt8) : Int := l.foldl (fun n b => 256 * n + (b.toNat : Int)) 0
def someSpec : Sx.Spec := memSpec false 0 [.any, .any] fun
  | [.d (.int .i64 k), .ptr 1 0], [.ban, .fix T [.d (.bytes l)]] => fun K => BR (decide (0 ≤ k ∧ k ≤ 8 ∧ k ≤ l.length)) (∀ n, n = IntKind.i64.wrap (beN (l.take k.toNat)) → ∀ l', l' = l.drop k.toNat → K (I64 n) [.ban, .fix T [.d (.bytes l')]]) False
  | _, _ => fun _ => False
def placeSpec : Sx.Spec := memSpec false 0 [.any] fun
  | [.ptr 1 0], [.ban, .fix T [.clo 35 [.ptr 2 0]], .fix T' [.d (.bytes l)]] => fun K => BR (decide (4 ≤ l.length)) (∀ n, n = beN (l.take 4) → ∀ l', l' = l.drop 4 → K (I64 n) [.ban, .fix T [.clo 35 [.ptr 2 0]], .fix T' [.d (.bytes l')]]) False
  | _, _ => fun _ => False
/-! ## What a list holds, where a head is told -/
def atl (tm : List SV) (i : Nat) (f : Nat → Nat → (Nat → Nat → D) → Option LoopAnn) : Option LoopAnn :=
  match tm.getD i .dead with
  | .d (.list sz n g) => f sz n g
  | _ => none
def annMe : FuncId → Nat → List SV → List Ob → Option LoopAnn
  | 48 => fun
    | 2, tm, hp => atl tm 0 fun _ n g => some (.lp { k : Nat // k ≤ n ∧ allB (fun i => nearB (pt g i)) k = true } (fun k => loopHd 4 [7] [(8, I64 (k.1 : Nat))] tm hp hp) (fun k => n - k.1))
    | _, _, _ => none
  | 51 => fun
    | 2, tm, hp => atl tm 0 fun _ n g => match hp with
      | .fix _ [.d (.list _ np _), _, _] :: _ => some (.lp { k : Nat // k ≤ n ∧ allB (fun i => thereB np (pt g i)) k = true } (fun k => loopHd 4 [7] [(8, I64 (k.1 : Nat))] tm hp hp) (fun k => n - k.1))
      | _ => none
    | _, _, _ => none
  | 54 => fun
    | 2, tm, hp => atl tm 0 fun _ n g => some (.lp { k : Nat // k ≤ n ∧ allB (ballB g) k = true } (fun k => loopHd 4 [7] [(8, I64 (k.1 : Nat))] tm hp hp) (fun k => n - k.1))
    | _, _, _ => none
  | 35 => fun
    | 3, tm, hp => ati tm 10 fun n => atb tm 9 fun l => some (.lp { k : Nat // (k : Int) ≤ n } (fun k => loopHd 4 [9, 10] [(4, .d (.int .u64 (beN (l.take k.1)))), (11, I64 (k.1 : Nat))] tm hp hp) (fun k => (n - k.1).toNat))
    | _, _, _ => none
  | _ => fun _ _ _ => none
def ΓE0 : FuncId → Option Sx.Spec
  | 4000000000 => none
  | 33 => some fourSpec
  | 35 => some someSpec
  | f => ΓM1 f
end Go.Proofs.Ytmadffhjgbpojaa.Fix

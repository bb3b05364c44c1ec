/- Mesh: the same functions, in a form that is reckoned where the meshes are known. -/
import Derived.Test.YtmadffhjgbpojaaMfDefs
namespace Go.Proofs.Ytmadffhjgbpojaa.Fix
open Go Go.Proofs.Ytmadffhjgbpojaa.Sx

def i64D : D → Bool
  | .int .i64 x => inI64 x
  | _ => false
def okLb (sz n : Nat) (g : Nat → Nat → D) : Bool := allB (fun i => allB (fun j => i64D (g i j)) sz) n
def okMb (np nt nb : Nat) (gp gt gb : Nat → Nat → D) : Bool := (okLb 3 np gp && (okLb 3 nt gt && okLb 4 nb gb)) && (decide (nt ≤ 4294967296) && decide (nb ≤ 4294967296))
def checkg : Sx.Spec := pureSpec mk fun
  | [.agg [.d (.list 3 np gp), .d (.list 3 nt gt), .d (.list 4 nb gb)]] => fun K => BR (okMb np nt nb gp gt gb) (BR (okB np nt nb gp gt gb) (K (.val (I64 0))) (K (.val (I64 14)))) False
  | _ => fun _ => False
def mboxg : Sx.Spec := pureSpec mk fun
  | [.agg [.d (.list 3 np gp), .d (.list 3 nt gt), .d (.list 4 nb gb)], .d (.int .i64 i)] => fun K => BR (okMb np nt nb gp gt gb) (K (.val (.agg [I64 (mboxV np nt nb gp gt gb i).1.1, I64 (mboxV np nt nb gp gt gb i).1.2.1, I64 (mboxV np nt nb gp gt gb i).1.2.2, I64 (mboxV np nt nb gp gt gb i).2.1, I64 (mboxV np nt nb gp gt gb i).2.2.1, I64 (mboxV np nt nb gp gt gb i).2.2.2]))) False
  | _ => fun _ => False
def bytesM : Sx.Spec := memSpec true 0 mk fun
  | [.agg [.d (.list 3 np gp), .d (.list 3 nt gt), .d (.list 4 nb gb)]], [.ban] => fun K => BR (okMb np nt nb gp gt gb) (BR (okB np nt nb gp gt gb) (K (.tuple [.view 1 0 0 (meshB np nt nb gp gt gb).length, I64 0]) [.ban, .row 0 byteT (.bytes (meshB np nt nb gp gt gb))]) (K (.tuple [.nils, I64 14]) [.ban])) False
  | _, _ => fun _ => False
def mreadg : Sx.Spec := pureSpec [.bytes] fun
  | [.d (.bytes l)] => fun K => BR (decide (readE l = 0)) (K (.val (.tuple [.agg [.d (.list 3 (cnt l 0) (readP l)), .d (.list 3 (cnt l 1) (readT l (cnt l 0))), .d (.list 4 (cnt l 2) (readQ l (cnt l 0) (cnt l 1)))], I64 0])))
      (K (.val (.tuple [.agg [nilL 3, nilL 3, nilL 4], I64 (readE l)])))
  | _ => fun _ => False
def copySpec : Sx.Spec := pureSpec [.bytes] fun
  | [.d (.bytes l)] => fun K => BR (decide (l.length ≤ 140737488355328)) (K (.row byteT (.bytes l))) False
  | _ => fun _ => False
def ΓQ : FuncId → Option Sx.Spec
  | 4000000000 => none
  | 9 => some checkg
  | 12 => some mboxg
  | 16 => some bytesM
  | 18 => some mreadg
  | 19 => some copySpec
  | f => ΓE1 f
def ΓQa : FuncId → Option Sx.Spec
  | 4000000000 => none
  | 10 => some trueSpec
  | f => ΓQ f
def annCopy : FuncId → Nat → List SV → List Ob → Option LoopAnn
  | 19 => fun
    | 3, tm, hp => atb tm 0 fun l => some ⟨{ k : Nat // k ≤ l.length }, fun k => loopHd 3 [] [(3, .view hp.length 1 0 (l.take k.1).length), (4, I64 (k.1 : Nat))] tm hp (hp ++ [.row 1 byteT (.bytes (l.take k.1))]), fun k => l.length - k.1, [(3, byteT, .bytes [])], []⟩
    | _, _, _ => none
  | _ => fun _ _ _ => none
end Go.Proofs.Ytmadffhjgbpojaa.Fix

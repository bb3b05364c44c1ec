/- Light: where ways meet in the laws. -/
import Derived.Test.YtlnpfmglbblmoaaLitDefs
namespace Go.Proofs.Ytlnpfmglbblmoaa.Fix
open Go Go.Proofs.Ytlnpfmglbblmoaa.Sx

def ΓL3 : FuncId → Option Sx.Spec
  | 9 => some trueSpec
  | f => ΓL2 f
def sampZ (s : Int) : Int := if s.tmod 64 + 1 < 1 then s.tmod 64 + 64 else s.tmod 64 + 1
def annL : FuncId → Nat → List SV → List Ob → Option LoopAnn
  | 3 => fun
    | 2000004, tm, hp => ati tm 2 fun s => some (cut (loopHd 7 [] [(7, I64 (sampZ s))] tm hp (ungap hp)))
    | 2000009, tm, hp => stayG 14 tm hp
    | 2000012, tm, hp => stayG 14 tm hp
    | _, _, _ => none
  | 6 => fun
    | 2000003, tm, hp => stayG 22 tm hp
    | 2000005, tm, hp => stayG 22 tm hp
    | _, _, _ => none
  | _ => fun _ _ _ => none
end Go.Proofs.Ytlnpfmglbblmoaa.Fix

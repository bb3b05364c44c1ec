/- Hit: where ways meet in the laws. -/
import Derived.Test.YtcclekhekdibjaaHilDefs
namespace Go.Proofs.Ytcclekhekdibjaa.Fix
open Go Go.Proofs.Ytcclekhekdibjaa.Sx

def at6 (tm : List SV) (hp : List Ob) (i : Nat) (f : P3 → P3 → Option LoopAnn) : Option LoopAnn :=
  atc tm hp i fun _ _ cs => match cs with
    | [.d (.int _ a), .d (.int _ b), .d (.int _ c), .d (.int _ d), .d (.int _ e), .d (.int _ g)] => f (a, b, c) (d, e, g)
    | _ => none
def at3p (tm : List SV) (hp : List Ob) (i : Nat) (f : P3 → Option LoopAnn) : Option LoopAnn :=
  atc tm hp i fun _ _ cs => match cs with
    | [.d (.int _ a), .d (.int _ b), .d (.int _ c)] => f (a, b, c)
    | _ => none
def at4 (tm : List SV) (hp : List Ob) (i : Nat) (f : P3 → Int → Option LoopAnn) : Option LoopAnn :=
  atc tm hp i fun _ _ cs => match cs with
    | [.d (.int _ a), .d (.int _ b), .d (.int _ c), .d (.int _ r)] => f (a, b, c) r
    | _ => none
def at9 (tm : List SV) (hp : List Ob) (i : Nat) (f : P3 → P3 → P3 → Option LoopAnn) : Option LoopAnn :=
  atc tm hp i fun _ _ cs => match cs with
    | [.d (.int _ a), .d (.int _ b), .d (.int _ c), .d (.int _ d), .d (.int _ e), .d (.int _ g), .d (.int _ h), .d (.int _ k), .d (.int _ l)] => f (a, b, c) (d, e, g) (h, k, l)
    | _ => none
/-- A box's answer in two slots. -/
def boxAns (n i : Nat) (o d lo hi : P3) (tm : List SV) (hp : List Ob) : Option LoopAnn :=
  some (cut (loopHd n [] [(i, I64 (boxT o d lo hi)), (i + 1, Bo (boxOk o d lo hi))] tm hp (ungap hp)))
def triAns (n i : Nat) (o d a b c : P3) (tm : List SV) (hp : List Ob) : Option LoopAnn :=
  some (cut (loopHd n [] [(i, .ptr hp.length 0), (i + 1, Bo (triOk o d a b c))] tm hp (ungap hp ++ [.fix 33 [I64 (ifOk (triOk o d a b c) (triT o d a b c)), I64 0, I64 (ifOk (triOk o d a b c) (triU o d a b c)), I64 (ifOk (triOk o d a b c) (triV o d a b c))]])))
def ballAns (n i : Nat) (o d c : P3) (r : Int) (tm : List SV) (hp : List Ob) : Option LoopAnn :=
  some (cut (loopHd n [] [(i, I64 (ifOk (ballOk o d c r) (ballX o d c r))), (i + 1, I64 (ifOk (ballOk o d c r) (ballY o d c r))), (i + 2, Bo (ballOk o d c r))] tm hp (ungap hp)))
def annHl : FuncId → Nat → List SV → List Ob → Option LoopAnn
  | 4 => fun
    | 2000002, tm, hp => at6 tm hp 6 fun o d => at6 tm hp 7 fun lo hi => boxAns 27 13 o d lo hi tm hp
    | 2000003, tm, hp => at6 tm hp 6 fun o d => at6 tm hp 7 fun lo hi => boxAns 27 15 o d lo hi tm hp
    | 2000004, tm, hp => at6 tm hp 6 fun o d => at3p tm hp 8 fun a => at3p tm hp 9 fun b => at3p tm hp 10 fun c => triAns 27 17 o d a b c tm hp
    | 2000005, tm, hp => at6 tm hp 6 fun o d => at3p tm hp 8 fun a => at3p tm hp 9 fun b => at3p tm hp 10 fun c => triAns 27 19 o d a b c tm hp
    | 2000006, tm, hp => at6 tm hp 6 fun o d => at4 tm hp 11 fun c r => ballAns 27 21 o d c r tm hp
    | 2000007, tm, hp => at6 tm hp 6 fun o d => at4 tm hp 11 fun c r => ballAns 27 24 o d c r tm hp
    | _, _, _ => none
  | 5 => fun
    | 2000002, tm, hp => at6 tm hp 3 fun o d => at6 tm hp 4 fun lo hi => boxAns 11 7 o d lo hi tm hp
    | 2000003, tm, hp => at6 tm hp 3 fun o d => at6 tm hp 4 fun lo hi => at3p tm hp 5 fun p => boxAns 11 9 o d (min lo.1 p.1, min lo.2.1 p.2.1, min lo.2.2 p.2.2) (max hi.1 p.1, max hi.2.1 p.2.1, max hi.2.2 p.2.2) tm hp
    | 2000005, tm, hp => stayG 11 tm hp
    | _, _, _ => none
  | 7 => fun
    | 2000006, tm, hp => at3p tm hp 11 fun o => at3p tm hp 7 fun d => at6 tm hp 9 fun lo hi => boxAns 18 12 o d lo hi tm hp
    | 2000008, tm, hp => stayG 18 tm hp
    | 2000010, tm, hp => at3p tm hp 11 fun o => at6 tm hp 9 fun lo hi => boxAns 18 14 o (4294967296, 0, 0) lo hi tm hp
    | 2000011, tm, hp => at3p tm hp 11 fun o => at6 tm hp 9 fun lo hi => boxAns 18 16 o (0, 4294967296, 0) lo hi tm hp
    | _, _, _ => none
  | 8 => fun
    | 2000011, tm, hp => at6 tm hp 5 fun o d => at6 tm hp 6 fun lo hi => boxAns 27 13 o d lo hi tm hp
    | 2000012, tm, hp => at6 tm hp 12 fun o d => at6 tm hp 6 fun lo hi => at3p tm hp 9 fun by' => boxAns 27 15 o d (plusV lo by') (plusV hi by') tm hp
    | 2000013, tm, hp => at6 tm hp 5 fun o d => at9 tm hp 7 fun a b c => triAns 27 17 o d a b c tm hp
    | 2000014, tm, hp => at6 tm hp 12 fun o d => at9 tm hp 7 fun a b c => at3p tm hp 9 fun by' =>
        some (cut (loopHd 27 [] [(19, .ptr (hp.length + 4) 0), (20, Bo (triOk o d (plusV a by') (plusV b by') (plusV c by')))] tm hp (ungap hp ++ [.gone, .gone, .gone, .gone, .fix 33 [I64 (ifOk (triOk o d (plusV a by') (plusV b by') (plusV c by')) (triT o d (plusV a by') (plusV b by') (plusV c by'))), I64 0, I64 (ifOk (triOk o d (plusV a by') (plusV b by') (plusV c by')) (triU o d (plusV a by') (plusV b by') (plusV c by'))), I64 (ifOk (triOk o d (plusV a by') (plusV b by') (plusV c by')) (triV o d (plusV a by') (plusV b by') (plusV c by')))]])))
    | 2000015, tm, hp => at6 tm hp 5 fun o d => at4 tm hp 8 fun c r => ballAns 27 21 o d c r tm hp
    | 2000017, tm, hp => at6 tm hp 12 fun o d => at4 tm hp 8 fun c r => ballAns 27 24 o d c r tm hp
    | _, _, _ => none
  | _ => fun _ _ _ => none
end Go.Proofs.Ytcclekhekdibjaa.Fix

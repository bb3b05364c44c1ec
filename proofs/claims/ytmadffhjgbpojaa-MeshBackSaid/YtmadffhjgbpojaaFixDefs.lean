/- Fix: what is said of the functions and of their loops. -/
import Derived.Test.YtmadffhjgbpojaaSxDefs
import Derived.Test.YtmadffhjgbpojaaFixPlain
import Derived.Test.YtmadffhjgbpojaaProg
namespace Go.Proofs.Ytmadffhjgbpojaa.Fix
open Go Go.Proofs.Ytmadffhjgbpojaa.Sx

abbrev I64 (n : Int) : SV := .d (.int .i64 n)
abbrev U64 (n : Int) : SV := .d (.int .u64 n)
abbrev Bo (b : Bool) : SV := .d (.bool b)
def inI64 (s : Int) : Bool := decide (-9223372036854775808 ≤ s ∧ s < 9223372036854775808)
def inU64 (s : Int) : Bool := decide (0 ≤ s ∧ s < 18446744073709551616)

/-! ## What is known of the functions -/
def fn1 (F : Int → Int) : Sx.Spec := pureSpec [] fun
  | [.d (.int .i64 a)] => fun K => BR (inI64 a) (∀ n : Int, n = F a → K (.val (I64 n))) False
  | _ => fun _ => False
def fn2 (F : Int → Int → Int) : Sx.Spec := pureSpec [] fun
  | [.d (.int .i64 a), .d (.int .i64 b)] => fun K => BR (inI64 a) (BR (inI64 b) (∀ n : Int, n = F a b → K (.val (I64 n))) False) False
  | _ => fun _ => False
def downSpec : Sx.Spec := pureSpec [] fun
  | [.d (.int .i64 a), .d (.int .i64 b)] => fun K => BR (inI64 a) (BR (decide (0 < b ∧ b < 9223372036854775808)) (∀ n : Int, n = a / b → K (.val (I64 n))) False) False
  | _ => fun _ => False
def rdownSpec : Sx.Spec := pureSpec [] fun
  | [.d (.int .i64 a), .d (.int .i64 b)] => fun K => BR (decide (-4611686018427387904 ≤ a ∧ a < 9223372036854775808)) (BR (decide (0 < b ∧ b < 4611686018427387904)) (∀ n : Int, n = a / b → K (.val (I64 n))) False) False
  | _ => fun _ => False
def sizeSpec : Sx.Spec := pureSpec [] fun
  | [.d (.int .i64 a)] => fun K => BR (inI64 a) (∀ n : Int, n = sizeZ a → K (.val (U64 n))) False
  | _ => fun _ => False
def overSpec : Sx.Spec := pureSpec [] fun
  | [.d (.int .i64 a)] => fun K => K (.val (Bo (decide (a < 0))))
  | _ => fun _ => False
def lenZ (x : Int) : Int := if x ≤ 0 then 0 else (Nat.log2 x.toNat : Int) + 1
def lenSpec : Sx.Spec := pureSpec [] fun
  | [.d (.int .u64 a)] => fun K => BR (inU64 a) (∀ n : Int, n = lenZ a → K (.val (I64 n))) False
  | _ => fun _ => False
def prodSpec : Sx.Spec := pureSpec [] fun
  | [.d (.int .u64 x), .d (.int .u64 y)] => fun K => BR (inU64 x) (BR (inU64 y) (∀ h : Int, h = x * y / 18446744073709551616 → ∀ l : Int, l = x * y % 18446744073709551616 → K (.val (.tuple [U64 h, U64 l]))) False) False
  | _ => fun _ => False
def divSpec : Sx.Spec := pureSpec [] fun
  | [.d (.int .u64 h), .d (.int .u64 l), .d (.int .u64 y)] => fun K => BR (inU64 h) (BR (inU64 l) (BR (inU64 y) (BR (decide (h < y)) (∀ q : Int, q = (h * 18446744073709551616 + l) / y → ∀ r : Int, r = (h * 18446744073709551616 + l) % y → K (.val (.tuple [U64 q, U64 r]))) False) False) False) False
  | _ => fun _ => False
def signedSpec : Sx.Spec := pureSpec [] fun
  | [.d (.int .u64 h), .d (.int .u64 l), .d (.bool n)] => fun K => BR (inU64 h) (BR (inU64 l) (∀ z : Int, z = satS (h * 18446744073709551616 + l) n → K (.val (I64 z))) False) False
  | _ => fun _ => False
def inSpec : Sx.Spec := pureSpec [] fun
  | [.d (.int .u64 h), .d (.int .u64 l), .d (.bool n), .d (.bool r)] => fun K => BR (decide (0 ≤ h ∧ h < 18446744073709551615)) (BR (inU64 l) (∀ z : Int, z = satS (h * 18446744073709551616 + l + (if (n && r) = true then 1 else 0)) n → K (.val (I64 z))) False) False
  | _ => fun _ => False
def nearSpec : Sx.Spec := pureSpec [] fun
  | [.d (.int .i64 a), .d (.int .i64 b)] => fun K => K (.val (Bo (decide (IntKind.i64.wrap (a - b) ≤ 16384) && decide (IntKind.i64.wrap (b - a) ≤ 16384))))
  | _ => fun _ => False
def trueSpec : Sx.Spec := pureSpec [] fun
  | [] => fun K => K (.val (Bo true))
  | _ => fun _ => False

def Γl : FuncId → Option Sx.Spec
  | 4000000000 => none
  | _ => none
def Γ0 : FuncId → Option Sx.Spec
  | 4000000000 => none
  | 47 => some overSpec
  | _ => none
def Γ1 : FuncId → Option Sx.Spec
  | 4000000000 => none
  | 31 => some (fn2 addZ)
  | f => Γ0 f
def Γ2 : FuncId → Option Sx.Spec
  | 4000000000 => none
  | 30 => some (fn2 subZ)
  | f => Γ1 f
def Γ3 : FuncId → Option Sx.Spec
  | 4000000000 => none
  | f => Γ2 f

def Γ4 : FuncId → Option Sx.Spec
  | 4000000000 => none
  | f => Γ3 f
def Γ5 : FuncId → Option Sx.Spec
  | 4000000000 => none
  | f => Γ4 f

/-! ## What is said of loops, and where ways meet -/
/-- A digit that is sought: not too small, and what it leaves. -/
def Dig (U d v v1 : Int) (p : Int × Int) : Prop := (U * 4294967296 + d) / v ≤ p.1 ∧ p.1 ≤ 4294967297 ∧ p.2 = U - p.1 * v1 ∧ 0 ≤ p.2 ∧ p.2 < 4294967296
def digA (U d v v1 : Int) (q r : Nat) (tm : List SV) (hp : List Ob) : LoopAnn := .lp { p : Int × Int // Dig U d v v1 p } (fun p => loopHd 19 [] [(q, U64 p.1.1), (r, U64 p.1.2)] tm hp hp) (fun p => p.1.1.toNat)
def annDiv64 : Nat → List SV → List Ob → Option LoopAnn
  | 17, tm, hp => ati tm 11 fun U => ati tm 13 fun d => ati tm 2 fun v => ati tm 9 fun v1 => some (digA U d v v1 15 16 tm hp)
  | 2000021, tm, hp => ati tm 11 fun U => ati tm 13 fun d => ati tm 2 fun v => some (cut (loopHd 19 [] [(15, U64 ((U * 4294967296 + d) / v)), (16, .dead)] tm hp hp))
  | 24, tm, hp => ati tm 17 fun U => ati tm 14 fun d => ati tm 2 fun v => ati tm 9 fun v1 => some (digA U d v v1 18 16 tm hp)
  | 2000028, tm, hp => ati tm 17 fun U => ati tm 14 fun d => ati tm 2 fun v => some (cut (loopHd 19 [] [(18, U64 ((U * 4294967296 + d) / v)), (16, .dead)] tm hp hp))
  | i, _, _ => nameA i 2 19
def annSqrt : Nat → List SV → List Ob → Option LoopAnn
  | 5, tm, hp => ati tm 0 fun a => some (.lp { k : Nat // k ≤ 48 } (fun k => loopHd 8 [] [(3, U64 (root (a * 4294967296) / 2 ^ k.1 * 2 ^ k.1)), (4, U64 (2 ^ k.1 / 2)), (5, .dead), (6, .dead), (7, .dead)] tm hp hp) (fun k => k.1))
  | i, _, _ => nameA i 5 8
def annRSqrt : Nat → List SV → List Ob → Option LoopAnn
  | 4, tm, hp => ati tm 0 fun a => some (.lp { p : Int × Int // 0 ≤ p.1 ∧ p.1 ≤ root (a * 4294967296) ∧ root (a * 4294967296) < p.2 ∧ p.2 ≤ 281474976710656 } (fun p => loopHd 8 [] [(3, I64 p.1.1), (4, I64 p.1.2), (5, .dead), (6, .dead), (7, .dead)] tm hp hp) (fun p => (p.1.2 - p.1.1).toNat))
  | i, _, _ => nameA i 5 8
def annRDiv : Nat → List SV → List Ob → Option LoopAnn
  | 10, tm, hp => ati tm 5 fun x => ati tm 6 fun y => some (.lp { k : Nat // k ≤ 96 } (fun k => loopHd 11 [] [(7, U64 (x * 4294967296 / 2 ^ k.1 / y / 18446744073709551616)), (8, U64 (x * 4294967296 / 2 ^ k.1 / y % 18446744073709551616)), (9, U64 (x * 4294967296 / 2 ^ k.1 % y)), (10, I64 (k.1 - 1))] tm hp hp) (fun k => k.1))
  | i, _, _ => nameA i 7 10
def annSin : Nat → List SV → List Ob → Option LoopAnn
  | 2000008, tm, hp => ati tm 0 fun a => some (cut (loopHd 8 [] [(3, I64 (foldZ (turnZ a)))] tm hp hp))
  | i, _, _ => nameA i 3 6
def annRSin : Nat → List SV → List Ob → Option LoopAnn
  | 2000010, tm, hp => ati tm 0 fun a => some (cut (loopHd 6 [] [(3, I64 (foldZ (turnZ a)))] tm hp hp))
  | i, _, _ => nameA i 3 6
/-- The named slots stay as they are. -/
def stay (n : Nat) (tm : List SV) (hp : List Ob) : Option LoopAnn := some (cut (loopHd n [] [] tm hp hp))
def annOrder : Nat → List SV → List Ob → Option LoopAnn
  | 2000003, tm, hp => ati tm 0 fun a => ati tm 1 fun b => some (cut (loopHd 7 [] [(0, I64 (min a b)), (1, I64 (max a b))] tm hp hp))
  | 2000005, tm, hp => stay 7 tm hp
  | 2000007, tm, hp => stay 7 tm hp
  | 2000010, tm, hp => stay 7 tm hp
  | _, _, _ => none
def annRounds : Nat → List SV → List Ob → Option LoopAnn
  | 2000005, tm, hp => stay 14 tm hp
  | 2000008, tm, hp => stay 14 tm hp
  | 2000011, tm, hp => stay 14 tm hp
  | i, _, _ => nameA i 7 14
def annWhole : Nat → List SV → List Ob → Option LoopAnn
  | 2000005, tm, hp => stay 10 tm hp
  | 2000007, tm, hp => stay 10 tm hp
  | i, _, _ => nameA i 5 10
def overB (a b : Int) : Bool := decide (0 < a ∧ 0 < b ∧ 9223372036854775807 < a + b)
def underB (a b : Int) : Bool := decide (a < 0 ∧ b < 0 ∧ a + b < -9223372036854775808)
def annEnds : Nat → List SV → List Ob → Option LoopAnn
  | 2000003, tm, hp => ati tm 0 fun a => ati tm 1 fun b => some (cut (loopHd 6 [] [(6, Bo (overB a b))] tm hp hp))
  | 2000004, tm, hp => ati tm 0 fun a => ati tm 1 fun b => some (cut (loopHd 6 [] [(6, Bo (overB a b)), (7, Bo (underB a b))] tm hp hp))
  | 2000005, tm, hp => some (cut (loopHd 6 [] [(36, Bo false)] tm hp hp))
  | 2000007, tm, hp => some (cut (loopHd 6 [] [(64, Bo false)] tm hp hp))
  | 2000008, tm, hp => stay 6 tm hp
  | _, _, _ => none
def annNumbers : Nat → List SV → List Ob → Option LoopAnn
  | 2000003, tm, hp => some (cut (loopHd 4 [] [(4, Bo true)] tm hp hp))
  | 2000005, tm, hp => some (cut (loopHd 6 [] [(6, Bo true)] tm hp hp))
  | _, _, _ => none
def ann : FuncId → Nat → List SV → List Ob → Option LoopAnn
  | _ => fun _ _ _ => none
end Go.Proofs.Ytmadffhjgbpojaa.Fix

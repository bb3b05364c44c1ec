/- Sx: a symbolic evaluator for the model's code, over data instead of memory. Here: its types and what it computes. That it is right is proved in SxSound. -/
import Derived.Calls
import Derived.Orders
import Derived.Below
import Derived.Laws.Bits
namespace Go.Proofs.Ytmadffhjgbpojaa.Sx
open Go

/-! Comparisons that the kernel leaves alone at once where they are open (the library's own count down from a great literal). -/
def iltb : Int → Int → Bool
  | .ofNat m, .ofNat n => Nat.ble (m + 1) n
  | .ofNat _, .negSucc _ => false
  | .negSucc _, .ofNat _ => true
  | .negSucc m, .negSucc n => Nat.ble (n + 1) m
def ileb : Int → Int → Bool
  | .ofNat m, .ofNat n => Nat.ble m n
  | .ofNat _, .negSucc _ => false
  | .negSucc _, .ofNat _ => true
  | .negSucc m, .negSucc n => Nat.ble n m
theorem iltb_iff (a b : Int) : iltb a b = true ↔ a < b := by
  cases a <;> cases b <;> simp only [iltb, Int.ofNat_eq_natCast, Nat.ble_eq, Bool.false_eq_true, false_iff, true_iff] <;> omega
theorem ileb_iff (a b : Int) : ileb a b = true ↔ a ≤ b := by
  cases a <;> cases b <;> simp only [ileb, Int.ofNat_eq_natCast, Nat.ble_eq, Bool.false_eq_true, false_iff, true_iff] <;> omega
instance (priority := high) iltDec (a b : Int) : Decidable (a < b) := decidable_of_iff _ (iltb_iff a b)
instance (priority := high) ileDec (a b : Int) : Decidable (a ≤ b) := decidable_of_iff _ (ileb_iff a b)

/-- Data of one cell that nobody changes. -/
inductive D where
  | int (k : IntKind) (n : Int)
  | bool (b : Bool)
  | str (l : List UInt8)
  | bytes (l : List UInt8)
  | list (sz n : Nat) (get : Nat → Nat → D)

/-- What a slot or a cell holds. -/
inductive SV where
  | d (x : D)
  | undef | dead | nils | nilp | nili | nilf | nilm
  | view (j ver lo hi : Nat)
  | ptr (j off : Nat)
  | aptr (j i : Nat)
  | rptr (j ver i off : Nat)
  | bptr (l : List UInt8) (i : Nat)
  | eptr (sz : Nat) (get : Nat → D) (off : Nat)
  | clo (f : FuncId) (caps : List SV)
  | agg (xs : List SV)
  | aggf (n : Nat) (get : Nat → D)
  | tuple (xs : List SV)
instance : Inhabited SV := ⟨.undef⟩

/-- What a row holds. -/
inductive RC where
  | bytes (l : List UInt8)
  | list (sz n : Nat) (get : Nat → Nat → D)
def RC.len : RC → Nat
  | .bytes l => l.length
  | .list _ n _ => n
def RC.sz : RC → Nat
  | .bytes _ => 1
  | .list sz _ _ => sz
def RC.cell : RC → Nat → Nat → D
  | .bytes l, i, _ => .int .u8 ((l.getD i 0).toNat : Int)
  | .list _ _ g, i, j => g i j
def RC.sub (lo hi : Nat) : RC → RC
  | .bytes l => .bytes ((l.take hi).drop lo)
  | .list sz _ g => .list sz (hi - lo) (fun i j => g (lo + i) j)
def RC.toD : RC → D
  | .bytes l => .bytes l
  | .list sz n g => .list sz n g
def D.toRC? : D → Option RC
  | .bytes l => some (.bytes l)
  | .list sz n g => some (.list sz n g)
  | _ => none

/-- Memory that may change. -/
inductive Ob where
  | fix (ty : TypeId) (cells : List SV)
  | arr (ty : TypeId) (n : Nat) (get : Nat → D)
  | row (ver : Nat) (ety : TypeId) (c : RC)
  | gone
  | hole
  | frzn
  | ro (ty : TypeId) (cells : List SV)
  | ban

structure St where
  tm : List SV
  hp : List Ob

@[irreducible] def BR (b : Bool) (A B : Prop) : Prop :=
  match b with
  | true => A
  | false => B

/-! ## Reading the type table -/
def aggOf (P : Program) (t : TypeId) : Option Bool :=
  match P.underlying t with
  | some (.struct _) | some (.array _ _) => some true
  | some _ => some false
  | none => none
def isBool (P : Program) (t : TypeId) : Bool :=
  match P.underlying t with
  | some .bool => true
  | _ => false
def isStr (P : Program) (t : TypeId) : Bool :=
  match P.underlying t with
  | some .string => true
  | _ => false
def isByte (P : Program) (t : TypeId) : Bool :=
  match P.underlying t with
  | some (.int .u8) => true
  | _ => false
def szOf (P : Program) (t : TypeId) : Nat := P.cellsOf t
def zeroOf (P : Program) (t : TypeId) : Option Value := (P.info? t).bind (·.zero)

/-! ## Values -/
def ofCell : Value → SV
  | .int k n => .d (.int k n)
  | .bool b => .d (.bool b)
  | .string s => if s.data.toList.length ≤ 9223372036854775807 then .d (.str s.data.toList) else .dead
  | .slice none 0 0 => .nils
  | .pointer none => .nilp
  | .nilIface => .nili
  | .nilFunc => .nilf
  | .map none => .nilm
  | .func (.func f) ⟨[]⟩ ⟨[]⟩ => .clo f []
  | _ => .dead
def ofValue : Value → SV
  | .agg cs => .agg (cs.toList.map ofCell)
  | v => ofCell v
def svCells : SV → List SV
  | .agg xs => xs
  | x => [x]
def storable : SV → Bool
  | .agg _ | .aggf .. | .tuple _ | .undef | .dead => false
  | _ => true
def opd (tm : List SV) : Operand → SV
  | .tmp t => tm.getD t .undef
  | .const v => ofValue v
  | .global _ => .dead
  | .func f => .clo f []

/-- The row that a slice shows, and which object it is. -/
def rowAt (hp : List Ob) (j ver : Nat) : Option RC :=
  match hp[j]? with
  | some (.row v _ c) => if v = ver then some c else none
  | _ => none
/-- What a slice holds. -/
def rowOf (P : Program) (hp : List Ob) (ety : TypeId) : SV → Option RC
  | .nils => some (if isByte P ety then .bytes [] else .list (szOf P ety) 0 (fun _ _ => .bool false))
  | .d (.bytes l) => some (.bytes l)
  | .d (.list sz n g) => some (.list sz n g)
  | .d (.str l) => some (.bytes l)
  | .view j ver lo hi => (rowAt hp j ver).map (RC.sub lo hi)
  | _ => none
def appendC : RC → RC → Option RC
  | .bytes a, .bytes b => some (.bytes (a ++ b))
  | .list sz n g, .list sz' m h => if sz = sz' then some (.list sz (n + m) (fun i j => if i < n then g i j else h (i - n) j)) else none
  | _, _ => none
/-- Cells of single values as elements of a row. -/
def cellD : SV → Option D
  | .d x => some x
  | .nils => some (.list 0 0 (fun _ _ => .bool false))
  | _ => none
def cellsD : List SV → Option (List D)
  | [] => some []
  | x :: xs =>
    match cellD x, cellsD xs with
    | some d, some ds => some (d :: ds)
    | _, _ => none

/-- Where a new object goes: behind all others, or into a place that is kept for it. -/
def isGone : Option Ob → Bool
  | some .gone => true
  | _ => false
def isHole : Option Ob → Bool
  | some .hole => true
  | _ => false
def plIdx (pl : Option Nat) (hp : List Ob) : Nat :=
  match pl with
  | none => hp.length
  | some i => i
def plHp (pl : Option Nat) (hp : List Ob) (ob : Ob) : List Ob :=
  match pl with
  | none => hp ++ [ob]
  | some i => hp.set i ob
def plOk (pl : Option Nat) (hp : List Ob) : Bool :=
  match pl with
  | none => true
  | some i => isHole hp[i]?

/-! ## Single operations -/
def evBin (P : Program) (t : TypeId) (op : BinOp) (x y : SV) (k : SV → Prop) : Prop :=
  match op, x, y with
  | .shl, .d (.int kk a), .d (.int _ b) => BR (decide (b < 0)) False (k (.d (.int kk (kk.wrap (a * 2 ^ (min b.toNat kk.bits))))))
  | .shr, .d (.int kk a), .d (.int _ b) => BR (decide (b < 0)) False (k (.d (.int kk (a.fdiv (2 ^ (min b.toNat kk.bits))))))
  | op, .d (.int kk a), .d (.int kk' b) =>
    if kk ≠ kk' then False else
    match op with
    | .add => k (.d (.int kk (kk.wrap (a + b))))
    | .sub => k (.d (.int kk (kk.wrap (a - b))))
    | .mul => k (.d (.int kk (kk.wrap (a * b))))
    | .quo => BR (decide (b = 0)) False (k (.d (.int kk (kk.wrap (a.tdiv b)))))
    | .rem => BR (decide (b = 0)) False (k (.d (.int kk (a.tmod b))))
    | .and => k (.d (.int kk (bits .and kk a b)))
    | .or => k (.d (.int kk (bits .or kk a b)))
    | .xor => k (.d (.int kk (bits .xor kk a b)))
    | .andNot => k (.d (.int kk (bits .andNot kk a b)))
    | .eql => k (.d (.bool (decide (a = b))))
    | .neq => k (.d (.bool (!decide (a = b))))
    | .lss => k (.d (.bool (decide (a < b))))
    | .leq => k (.d (.bool (decide (a ≤ b))))
    | .gtr => k (.d (.bool (decide (b < a))))
    | .geq => k (.d (.bool (decide (b ≤ a))))
    | _ => False
  | .eql, .d (.bool a), .d (.bool b) => if isBool P t then k (.d (.bool (a == b))) else False
  | .neq, .d (.bool a), .d (.bool b) => if isBool P t then k (.d (.bool (!(a == b)))) else False
  | .eql, .d (.str a), .d (.str b) => k (.d (.bool (a == b)))
  | .neq, .d (.str a), .d (.str b) => k (.d (.bool (!(a == b))))
  | .add, .d (.str a), .d (.str b) => BR (decide (a.length + b.length ≤ 9223372036854775807)) (k (.d (.str (a ++ b)))) False
  | _, _, _ => False
def evUn (op : UnOp) (x : SV) (k : SV → Prop) : Prop :=
  match op, x with
  | .neg, .d (.int kk n) => k (.d (.int kk (kk.wrap (0 - n))))
  | .xor, .d (.int kk n) => k (.d (.int kk (bits .xor kk (if kk.signed then -1 else kk.max) n)))
  | .not, .d (.bool b) => k (.d (.bool (!b)))
  | _, _ => False
def evLoad (P : Program) (hp : List Ob) (t : TypeId) (a : SV) (k : SV → Prop) : Prop :=
  match a with
  | .ptr j off =>
    match hp[j]?, aggOf P t with
    | some (.fix _ cells), some true => if off + szOf P t ≤ cells.length then k (.agg ((cells.drop off).take (szOf P t))) else False
    | some (.fix _ cells), some false =>
      match cells[off]? with
      | some c => k c
      | none => False
    | some (.arr _ n get), some true => if off = 0 ∧ szOf P t = n then k (.aggf n get) else False
    | some (.ro _ cells), some true => if off + szOf P t ≤ cells.length then k (.agg ((cells.drop off).take (szOf P t))) else False
    | some (.ro _ cells), some false =>
      match cells[off]? with
      | some c => k c
      | none => False
    | _, _ => False
  | .aptr j i =>
    match hp[j]?, aggOf P t with
    | some (.arr _ _ get), some false => k (.d (get i))
    | _, _ => False
  | .rptr j ver i off =>
    match rowAt hp j ver, aggOf P t with
    | some c, some true => if off + szOf P t ≤ c.sz then k (.agg ((List.range (szOf P t)).map fun m => .d (c.cell i (off + m)))) else False
    | some c, some false => if off < c.sz then k (.d (c.cell i off)) else False
    | _, _ => False
  | .bptr l i =>
    match aggOf P t with
    | some false => k (.d (.int .u8 ((l.getD i 0).toNat : Int)))
    | _ => False
  | .eptr sz get off =>
    match aggOf P t with
    | some true => if off + szOf P t ≤ sz then k (.agg ((List.range (szOf P t)).map fun m => .d (get (off + m)))) else False
    | some false => if off < sz then k (.d (get off)) else False
    | none => False
  | _ => False
def splice (cs : List SV) (off : Nat) (new : List SV) : List SV := cs.take off ++ new ++ cs.drop (off + new.length)
def evStore (P : Program) (hp : List Ob) (t : TypeId) (a x : SV) (k : List Ob → Prop) : Prop :=
  if (P.info? t).isSome = false then False else
  match a with
  | .ptr j off =>
    match hp[j]? with
    | some (.fix ty cells) =>
      if (svCells x).length = szOf P t ∧ off + (svCells x).length ≤ cells.length ∧ (svCells x).all storable = true then k (hp.set j (.fix ty (splice cells off (svCells x)))) else False
    | some (.arr ty n _) =>
      match x with
      | .aggf m get' => if off = 0 ∧ m = n ∧ szOf P t = n then k (hp.set j (.arr ty n get')) else False
      | _ => False
    | _ => False
  | .aptr j i =>
    match hp[j]?, x with
    | some (.arr ty n get), .d dv => if szOf P t = 1 then k (hp.set j (.arr ty n (fun m => if m = i then dv else get m))) else False
    | _, _ => False
  | .rptr j ver i off =>
    match hp[j]? with
    | some (.row v ety (.bytes l)) =>
      match x with
      | .d (.int .u8 n) => if v = ver ∧ szOf P t = 1 ∧ off = 0 then BR (decide (0 ≤ n ∧ n < 256)) (∀ l', l' = l.set i (UInt8.ofNat n.toNat) → k (hp.set j (.row v ety (.bytes l')))) False else False
      | _ => False
    | some (.row v ety (.list sz n g)) =>
      match cellsD (svCells x) with
      | some ds => if v = ver ∧ ds.length = szOf P t ∧ off + ds.length ≤ sz then
          k (hp.set j (.row v ety (.list sz n (fun i' j' => if i' = i ∧ off ≤ j' ∧ j' < off + ds.length then ds.getD (j' - off) (.bool false) else g i' j')))) else False
      | none => False
    | _ => False
  | _ => False
/-- The address of an element. -/
def evIndexAddr (P : Program) (hp : List Ob) (t : TypeId) (x i : SV) (k : SV → Prop) : Prop :=
  match i, P.underlying t with
  | .d (.int _ n), some (.array len e) =>
    if (P.info? e).isSome = false then False else
    match x with
    | .ptr j off =>
      match hp[j]? with
      | some (.fix _ _) => BR (decide (0 ≤ n ∧ n < len)) (k (.ptr j (off + n.toNat * szOf P e))) False
      | some (.arr _ m _) => if off = 0 ∧ szOf P e = 1 ∧ m = len then BR (decide (0 ≤ n ∧ n < len)) (k (.aptr j n.toNat)) False else False
      | _ => False
    | .eptr sz g off => BR (decide (0 ≤ n ∧ n < len)) (k (.eptr sz g (off + n.toNat * szOf P e))) False
    | .rptr j ver i off =>
      match rowAt hp j ver with
      | some _ => BR (decide (0 ≤ n ∧ n < len)) (k (.rptr j ver i (off + n.toNat * szOf P e))) False
      | none => False
    | _ => False
  | .d (.int _ n), some (.slice e) =>
    if (P.info? e).isSome = false then False else
    match x with
    | .d (.bytes l) => if szOf P e = 1 then BR (decide (0 ≤ n ∧ n < l.length)) (k (.bptr l n.toNat)) False else False
    | .d (.list sz len g) => if sz = szOf P e then BR (decide (0 ≤ n ∧ n < len)) (k (.eptr sz (g n.toNat) 0)) False else False
    | .view j ver lo hi =>
      match rowAt hp j ver with
      | some c => if c.sz = szOf P e then BR (decide (0 ≤ n ∧ n < (hi - lo : Nat))) (k (.rptr j ver (lo + n.toNat) 0)) False else False
      | none => False
    | _ => False
  | _, _ => False
def evFieldAddr (P : Program) (t : TypeId) (x : SV) (f : Nat) (k : SV → Prop) : Prop :=
  match P.underlying t with
  | some (.struct fs) =>
    match fs[f]? with
    | some fd =>
      if szOf P fd.type = 0 then False else
      match x with
      | .ptr j off => k (.ptr j (off + fd.offset))
      | .rptr j ver i off => k (.rptr j ver i (off + fd.offset))
      | .eptr sz g off => k (.eptr sz g (off + fd.offset))
      | _ => False
    | none => False
  | _ => False
def evPart (P : Program) (t : TypeId) (xs : List SV) (off : Nat) (k : SV → Prop) : Prop :=
  match aggOf P t with
  | some true => if off + szOf P t ≤ xs.length then k (.agg ((xs.drop off).take (szOf P t))) else False
  | some false =>
    match xs[off]? with
    | some c => k c
    | none => False
  | none => False
/-! Equality of whole values. -/
def partOf (P : Program) (t : TypeId) (xs : List SV) (off : Nat) : Option SV :=
  match aggOf P t with
  | some true => if off + szOf P t ≤ xs.length then some (.agg ((xs.drop off).take (szOf P t))) else none
  | some false => xs[off]?
  | none => none
def eqParts (f : SV → SV → Option Bool) (x y : Option SV) (rest : Option Bool) : Option Bool :=
  match x, y with
  | some a, some b =>
    match f a b, rest with
    | some p, some q => some (p && q)
    | _, _ => none
  | _, _ => none
def eqFlds (P : Program) (f : TypeId → SV → SV → Option Bool) (xs ys : List SV) : List Field → Option Bool
  | [] => some true
  | fd :: fs => if fd.name = "_" then eqFlds P f xs ys fs else eqParts (f fd.type) (partOf P fd.type xs fd.offset) (partOf P fd.type ys fd.offset) (eqFlds P f xs ys fs)
def eqElems (P : Program) (f : SV → SV → Option Bool) (e : TypeId) (xs ys : List SV) : List Nat → Option Bool
  | [] => some true
  | i :: is => eqParts f (partOf P e xs (i * szOf P e)) (partOf P e ys (i * szOf P e)) (eqElems P f e xs ys is)
def eqSV (P : Program) : Nat → TypeId → SV → SV → Option Bool
  | 0, _, _, _ => none
  | d + 1, t, x, y =>
    match P.underlying t, x, y with
    | some (.int _), .d (.int k a), .d (.int k' b) => if k = k' then some (decide (a = b)) else none
    | some .bool, .d (.bool a), .d (.bool b) => some (a == b)
    | some .string, .d (.str a), .d (.str b) => some (a == b)
    | some (.struct fs), .agg xs, .agg ys => if P.stoodInHeld t = true then none else eqFlds P (eqSV P d) xs ys fs.toList
    | some (.array n e), .agg xs, .agg ys => if (P.info? e).isSome = true then eqElems P (eqSV P d e) e xs ys (List.range n) else none
    | _, _, _ => none
def nilB : SV → Option Bool
  | .nilp => some true
  | .ptr .. | .aptr .. | .rptr .. | .bptr .. | .eptr .. => some false
  | _ => none
def eqPtr (P : Program) (t : TypeId) (x y : SV) : Option Bool :=
  match P.underlying t, x, y with
  | some (.pointer _), .nilp, y => nilB y
  | some (.pointer _), x, .nilp => nilB x
  | _, _, _ => none
def evEq (op : BinOp) (r : Option Bool) (k : SV → Prop) : Prop :=
  match op, r with
  | .eql, some b => k (.d (.bool b))
  | .neq, some b => k (.d (.bool (!b)))
  | _, _ => False
def isPtrSV : SV → Bool
  | .nilp => true
  | _ => false
def evBinA (P : Program) (t : TypeId) (op : BinOp) (x y : SV) (k : SV → Prop) : Prop :=
  match x, y with
  | .agg _, .agg _ => if P.eqGuardType P.depth t = false then evEq op (eqSV P 16 t x y) k else False
  | x, y => if (isPtrSV x || isPtrSV y) = true then (evEq op (eqPtr P t x y) k) else evBin P t op x y k
def evField (P : Program) (t : TypeId) (x : SV) (f : Nat) (k : SV → Prop) : Prop :=
  match P.underlying t, x with
  | some (.struct fs), .agg xs =>
    match fs[f]? with
    | some fd => evPart P fd.type xs fd.offset k
    | none => False
  | _, _ => False
def evIndex (P : Program) (t : TypeId) (x i : SV) (k : SV → Prop) : Prop :=
  match P.underlying t, x, i with
  | some (.array len e), .agg xs, .d (.int _ n) => if (P.info? e).isSome = false then False else BR (decide (0 ≤ n ∧ n < len)) (evPart P e xs (n.toNat * szOf P e) k) False
  | some (.array len e), .aggf m g, .d (.int _ n) => if aggOf P e = some false ∧ szOf P e = 1 ∧ m = len then BR (decide (0 ≤ n ∧ n < len)) (k (.d (g n.toNat))) False else False
  | some .string, .d (.str l), .d (.int _ n) => BR (decide (0 ≤ n ∧ n < l.length)) (k (.d (.int .u8 ((l.getD n.toNat 0).toNat : Int)))) False
  | _, _, _ => False
/-- Bounds of a slice expression over so many elements. -/
def evBounds (n : Nat) (low high : Option SV) (k : Nat → Nat → Prop) : Prop :=
  match low, high with
  | none, none => k 0 n
  | some (.d (.int _ l)), none => BR (decide (0 ≤ l ∧ l ≤ n)) (k l.toNat n) False
  | none, some (.d (.int _ h)) => BR (decide (0 ≤ h ∧ h ≤ n)) (k 0 h.toNat) False
  | some (.d (.int _ l)), some (.d (.int _ h)) => BR (decide (0 ≤ l ∧ l ≤ h ∧ h ≤ n)) (k l.toNat h.toNat) False
  | _, _ => False
def evSlice (P : Program) (hp : List Ob) (t : TypeId) (x : SV) (low high : Option SV) (k : SV → Prop) : Prop :=
  match P.underlying t with
  | some .string =>
    match x with
    | .d (.str l) => evBounds l.length low high fun a b => k (.d (.str ((l.take b).drop a)))
    | _ => False
  | some (.slice e) =>
    if (P.info? e).isSome = false then False else
    match x with
    | .d (.bytes l) => if szOf P e = 1 then evBounds l.length low high fun a b => k (.d (.bytes ((l.take b).drop a))) else False
    | .d (.list sz n g) => if sz = szOf P e then evBounds n low high fun a b => k (.d (.list sz (b - a) (fun i j => g (a + i) j))) else False
    | .nils => evBounds 0 low high fun _ _ => k .nils
    | .view j ver lo hi =>
      match rowAt hp j ver with
      | some c => if c.sz = szOf P e then evBounds (hi - lo) low high fun a b => k (.view j ver (lo + a) (lo + b)) else False
      | none => False
    | _ => False
  | _ => False
/-- An array that lies in a variable is sliced, whole: from here on it stays as it is. -/
def evSliceA (P : Program) (hp : List Ob) (t : TypeId) (j off : Nat) (low high : Option SV) (k : SV → List Ob → Prop) : Prop :=
  match hp[j]?, low, high, P.underlying t with
  | some (.fix _ cells), none, none, some (.array n e) =>
    match cellsD cells with
    | some ds =>
      if (P.info? e).isSome = true ∧ isByte P e = false ∧ off = 0 ∧ cells.length = n * szOf P e ∧ 0 < n ∧ n ≤ 9223372036854775807 then
        k (.d (.list (szOf P e) n (fun i j => ds.getD (i * szOf P e + j) (.bool false)))) (hp.set j .frzn)
      else False
    | none => False
  | _, _, _, _ => False
def evLen (P : Program) (hp : List Ob) (t : TypeId) (x : SV) (k : SV → Prop) : Prop :=
  match P.underlying t, x with
  | some .string, .d (.str l) => l.length ≤ 9223372036854775807 → k (.d (.int .i64 l.length))
  | some (.array n _), _ => k (.d (.int .i64 n))
  | some (.slice _), .d (.bytes l) => l.length ≤ 9223372036854775807 → k (.d (.int .i64 l.length))
  | some (.slice _), .d (.list _ n _) => n ≤ 9223372036854775807 → k (.d (.int .i64 n))
  | some (.slice _), .nils => k (.d (.int .i64 0))
  | some (.slice _), .view j ver lo hi =>
    match rowAt hp j ver with
    | some _ => hi - lo ≤ 9223372036854775807 → k (.d (.int .i64 (hi - lo : Nat)))
    | none => False
  | _, _ => False
def evMinMaxGo (mn : Bool) (k : IntKind) (kk : SV → Prop) : Int → List SV → Prop
  | a, [] => kk (.d (.int k a))
  | a, .d (.int k' b) :: rest => if k = k' then evMinMaxGo mn k kk (match mn with | true => min a b | false => max a b) rest else False
  | _, _ => False
def evMinMax (mn : Bool) (xs : List SV) (kk : SV → Prop) : Prop :=
  match xs with
  | .d (.int k a) :: rest => evMinMaxGo mn k kk a rest
  | _ => False
/-- What a row holds gets a name. -/
def nmRC (c : RC) (k : RC → Prop) : Prop :=
  match c with
  | .bytes l => ∀ l', l' = l → k (.bytes l')
  | c => k c
/-- append. -/
def evAppend (P : Program) (pl : Option Nat) (hp : List Ob) (t : TypeId) (s x : SV) (k : SV → List Ob → Prop) : Prop :=
  match P.underlying t with
  | some (.slice e) =>
    match zeroOf P e with
    | none => False
    | some z =>
      match rowOf P hp e s, rowOf P hp e x with
      | some a, some b =>
        match appendC a b with
        | some c =>
          nmRC c fun c => if z.cells.size ≠ szOf P e ∨ a.sz ≠ szOf P e ∨ b.sz ≠ szOf P e ∨ szOf P e = 0 ∨ P.bytesOf e = 0 then False else
          BR (decide (c.len * P.bytesOf e ≤ 140737488355328)) (
            match s with
            | .nils => if plOk pl hp = true then k (.view (plIdx pl hp) 0 0 c.len) (plHp pl hp (.row 0 e c)) else False
            | .view j ver _ hi =>
              match hp[j]? with
              | some (.row v t0 c0) => if v = ver ∧ t0 = e then BR (decide (hi = c0.len)) (k (.view j (ver + 1) 0 c.len) (hp.set j (.row (ver + 1) e c))) False else False
              | _ => False
            | _ => False) False
        | none => False
      | _, _ => False
  | _ => False

/-! Rows that go into other rows are data from there on. -/
def frzCellK (hp : List Ob) (x : SV) (k : SV → List Ob → Prop) : Prop :=
  match x with
  | .view j ver lo hi =>
    match rowAt hp j ver with
    | some c => k (.d (c.sub lo hi).toD) (hp.set j .gone)
    | none => False
  | x => k x hp
def frzCellsK (hp : List Ob) : List SV → (List SV → List Ob → Prop) → Prop
  | [], k => k [] hp
  | x :: xs, k => frzCellK hp x fun x' hp' => frzCellsK hp' xs fun xs' hp'' => k (x' :: xs') hp''
def frzPartsK (hp : List Ob) : List (Nat × SV) → (List (Nat × SV) → List Ob → Prop) → Prop
  | [], k => k [] hp
  | (i, v) :: rest, k =>
    match v with
    | .agg xs => frzCellsK hp xs fun xs' hp' => frzPartsK hp' rest fun ps hp'' => k ((i, .agg xs') :: ps) hp''
    | v => frzCellK hp v fun v' hp' => frzPartsK hp' rest fun ps hp'' => k ((i, v') :: ps) hp''
/-- A new variable. -/
def mkOb (t : TypeId) (cells : List SV) : Ob := .fix t cells
def isIntV (k : IntKind) (m : Int) : Value → Bool
  | .int k' m' => decide (k = k') && decide (m = m')
  | _ => false
def fixOb (t : TypeId) (z : SV) : Option Ob := if (svCells z).all storable = true then some (.fix t (svCells z)) else none
def allocOb (P : Program) (t : TypeId) : Option Ob :=
  match zeroOf P t with
  | some z =>
    match P.underlying t with
    | some (.array n e) =>
      if 16 < n then
        (match zeroOf P e with
         | some (.int k m) => if z.cells.size = n ∧ z.cells.toList.all (isIntV k m) = true then some (.arr t n (fun _ => .int k m)) else none
         | _ => none)
      else fixOb t (ofValue z)
    | some _ => fixOb t (ofValue z)
    | none => none
  | none => none
/-- Parts laid into cells. -/
def fillSV (place : Nat → Option (Nat × Nat)) (cells : List SV) : List (Nat × SV) → Option (List SV)
  | [] => some cells
  | (i, v) :: rest =>
    match place i with
    | none => none
    | some (off, size) =>
      if (svCells v).length ≠ size ∨ off + (svCells v).length > cells.length ∨ (svCells v).all storable = false then none
      else fillSV place (splice cells off (svCells v)) rest
def placesOf (P : Program) (fs : Array Field) : Nat → Option (Nat × Nat) := fun i => (fs[i]?).map fun f => (f.offset, szOf P f.type)
def evBuild (P : Program) (t : TypeId) (parts : List (Nat × SV)) (k : SV → Prop) : Prop :=
  match P.underlying t, zeroOf P t with
  | some (.struct fs), some z =>
    if fs.toList.all (fun f => (P.info? f.type).isSome) = true then
      match fillSV (placesOf P fs) (svCells (ofValue z)) parts with
      | some cs => k (.agg cs)
      | none => False
    else False
  | some (.array _ e), some z =>
    if (P.info? e).isSome = true then
      match fillSV (fun i => some (i * szOf P e, szOf P e)) (svCells (ofValue z)) parts with
      | some cs => k (.agg cs)
      | none => False
    else False
  | _, _ => False
def byteOfD : D → Option UInt8
  | .int .u8 n => some (UInt8.ofNat n.toNat)
  | _ => none
def bytesOfD : List D → Option (List UInt8)
  | [] => some []
  | x :: xs =>
    match byteOfD x, bytesOfD xs with
    | some d, some ds => some (d :: ds)
    | _, _ => none
/-- Are these bytes in their range? -/
def byteRange : List D → Prop
  | [] => True
  | .int _ n :: xs => BR (decide (0 ≤ n ∧ n < 256)) (byteRange xs) False
  | _ :: _ => False
def zeroCellsSV (P : Program) (e : TypeId) : List SV :=
  match zeroOf P e with
  | some z => svCells (ofValue z)
  | none => []
def evBuildSlice (P : Program) (pl : Option Nat) (hp : List Ob) (t : TypeId) (len : Nat) (parts : List (Nat × SV)) (k : SV → List Ob → Prop) : Prop :=
  match P.underlying t with
  | some (.slice e) =>
    match zeroOf P e with
    | some z =>
      if plOk pl hp = false ∨ len * szOf P e > 16777216 ∨ (svCells (ofValue z)).length ≠ szOf P e ∨ z.cells.size ≠ szOf P e ∨ szOf P e = 0 then False else
      match fillSV (fun i => some (i * szOf P e, szOf P e)) ((List.range (len * szOf P e)).map fun m => (svCells (ofValue z)).getD (m % szOf P e) .dead) parts with
      | some cs =>
        match cellsD cs with
        | some ds =>
          if isByte P e then
            match bytesOfD ds with
            | some l => if szOf P e = 1 then byteRange ds ∧ k (.view (plIdx pl hp) 0 0 len) (plHp pl hp (.row 0 e (.bytes l))) else False
            | none => False
          else k (.view (plIdx pl hp) 0 0 len) (plHp pl hp (.row 0 e (.list (szOf P e) len (fun i j => ds.getD (i * szOf P e + j) (.bool false)))))
        | none => False
      | none => False
    | none => False
  | _ => False
/-- Data is reckoned to its form before one goes on (for the kernel's speed alone). -/
def forceD (x : D) (k : D → Prop) : Prop :=
  match x with
  | .int kk n => k (.int kk n)
  | .bool b => k (.bool b)
  | .str l => k (.str l)
  | .bytes l => k (.bytes l)
  | .list sz n g => k (.list sz n g)
def forceDs : List D → (List D → Prop) → Prop
  | [], k => k []
  | x :: xs, k => forceD x fun x => forceDs xs fun xs => k (x :: xs)
theorem forceD_eq (x : D) (k : D → Prop) : forceD x k = k x := by cases x <;> rfl
theorem forceDs_eq : ∀ (xs : List D) (k : List D → Prop), forceDs xs k = k xs
  | [], k => rfl
  | x :: xs, k => by simp only [forceDs, forceD_eq, forceDs_eq xs]
/-- Of elements of more than one cell, or of no integers. -/
def evMakeGen (P : Program) (pl : Option Nat) (hp : List Ob) (e : TypeId) (z : Value) (n c : Int) (k : SV → List Ob → Prop) : Prop :=
  match cellsD (svCells (ofValue z)) with
  | some ds =>
    if plOk pl hp = true ∧ isByte P e = false ∧ ds.length = szOf P e ∧ z.cells.size = szOf P e ∧ 0 < szOf P e then
      BR (decide (0 ≤ n ∧ n ≤ c ∧ (P.bytesOf e : Int) * c ≤ 281474976710656 ∧ c ≤ 9223372036854775807))
        (forceDs ds fun ds => k (.view (plIdx pl hp) 0 0 n.toNat) (plHp pl hp (.row 0 e (.list (szOf P e) n.toNat (fun _ j => ds.getD j (.bool false)))))) False
    else False
  | none => False
def evMakeSlice (P : Program) (pl : Option Nat) (hp : List Ob) (t : TypeId) (len cap : SV) (k : SV → List Ob → Prop) : Prop :=
  match P.underlying t, len, cap with
  | some (.slice e), .d (.int _ n), .d (.int _ c) =>
    match zeroOf P e with
    | some z =>
      if szOf P e ≠ 1 then evMakeGen P pl hp e z n c k else
      if plOk pl hp = false then False else
      match z with
      | .int kz m =>
        BR (decide (0 ≤ n ∧ n ≤ c ∧ (P.bytesOf e : Int) * c ≤ 281474976710656 ∧ c ≤ 9223372036854775807)) (
          if isByte P e then (if kz = .u8 ∧ m = 0 then k (.view (plIdx pl hp) 0 0 n.toNat) (plHp pl hp (.row 0 e (.bytes (List.replicate n.toNat 0)))) else False)
          else k (.view (plIdx pl hp) 0 0 n.toNat) (plHp pl hp (.row 0 e (.list 1 n.toNat (fun _ _ => .int kz m))))) False
      | _ => evMakeGen P pl hp e z n c k
    | none => False
  | _, _, _ => False
def evConvert (P : Program) (pl : Option Nat) (hp : List Ob) (src dst : TypeId) (x : SV) (k : SV → List Ob → Prop) : Prop :=
  match P.underlying src, P.underlying dst, x with
  | some (.int _), some (.int kk), .d (.int _ n) => k (.d (.int kk (kk.wrap n))) hp
  | some .string, some .string, .d (.str l) => k (.d (.str l)) hp
  | some (.slice e), some .string, x =>
    if isByte P e then
      match rowOf P hp e x with
      | some (.bytes l) => k (.d (.str l)) hp
      | _ => False
    else False
  | some .string, some (.slice e), .d (.str l) => if plOk pl hp = true ∧ isByte P e = true then k (.view (plIdx pl hp) 0 0 l.length) (plHp pl hp (.row 0 e (.bytes l))) else False
  | some (.slice _), some (.slice e), .view j ver lo hi =>
    if isByte P e = true ∧ src = dst ∧ lo < hi ∧ (rowAt hp j ver).isSome = true then k (.view j ver lo hi) hp else False
  | _, _, _ => False

def callable (P : Program) (g : FuncId) : Bool :=
  match P.funcs[g]? with
  | some fn => !(fn.name == "runtime.NumGoroutine") && fn.body.isSome
  | none => false
/-- Functions of the library that the model has rows for. -/
def isExt (P : Program) (g : FuncId) (name : String) : Bool :=
  match P.funcs[g]? with
  | some fn => !(fn.name == "runtime.NumGoroutine") && (fn.body.isNone && (fn.name == name && fn.origin == ""))
  | none => false
def evExt (P : Program) (g : FuncId) (args : List SV) (k : SV → Prop) : Prop :=
  match args with
  | [.d (.int .u64 x), .d (.int .u64 y), .d (.int .u64 c)] =>
    if isExt P g "math/bits.Add64" = true then
      BR (decide (0 ≤ x ∧ 0 ≤ y ∧ 0 ≤ c ∧ c ≤ 1)) (k (.tuple [.d (.int .u64 ((x + y + c) % 18446744073709551616)), .d (.int .u64 ((x + y + c) / 18446744073709551616))])) False
    else False
  | _ => False
abbrev CallK := FuncId → List SV → List Ob → (SV → List Ob → Prop) → Prop

def evBuiltin (P : Program) (pl : Option Nat) (hp : List Ob) (b : Builtin) (types : List TypeId) (args : List SV) (k : SV → List Ob → Prop) : Prop :=
  match b, types, args with
  | .len, [t], [x] => evLen P hp t x (fun v => k v hp)
  | .append, [t, t'], [s, x] => if t = t' ∨ isStr P t' = true then evAppend P pl hp t s x k else False
  | .min, _, xs => evMinMax true xs (fun v => k v hp)
  | .max, _, xs => evMinMax false xs (fun v => k v hp)
  | _, _, _ => False
def evOp (P : Program) (callK : CallK) (pl : Option Nat) (tm : List SV) (hp : List Ob) (o : Op) (k : SV → List Ob → Prop) : Prop :=
  match o with
  | .move x | .assign x => k (opd tm x) hp
  | .pick c a b =>
    match opd tm c with
    | .d (.bool v) => BR v (k (opd tm a) hp) (k (opd tm b) hp)
    | _ => False
  | .alloc t =>
    match allocOb P t with
    | some ob => if plOk pl hp = true then k (.ptr (plIdx pl hp) 0) (plHp pl hp ob) else False
    | none => False
  | .box t x =>
    match opd tm x with
    | .aggf n g => if plOk pl hp = true then k (.ptr (plIdx pl hp) 0) (plHp pl hp (.arr t n g)) else False
    | x => if plOk pl hp = true ∧ (svCells x).all storable = true then k (.ptr (plIdx pl hp) 0) (plHp pl hp (.fix t (svCells x))) else False
  | .build t parts => evBuild P t (parts.toList.map fun p => (p.1, opd tm p.2)) (fun v => k v hp)
  | .buildSlice t len parts => frzPartsK hp (parts.toList.map fun p => (p.1, opd tm p.2)) fun ps hp => evBuildSlice P pl hp t len ps k
  | .load t a => evLoad P hp t (opd tm a) (fun v => k v hp)
  | .store t a x => evStore P hp t (opd tm a) (opd tm x) (fun hp' => k .undef hp')
  | .nilCheck x =>
    match opd tm x with
    | .ptr j off => k (.ptr j off) hp
    | .aptr j i => k (.aptr j i) hp
    | .rptr j v i off => k (.rptr j v i off) hp
    | .bptr l i => k (.bptr l i) hp
    | .eptr sz g off => k (.eptr sz g off) hp
    | .clo f cs => k (.clo f cs) hp
    | _ => False
  | .binOp op t x y _ => evBinA P t op (opd tm x) (opd tm y) (fun v => k v hp)
  | .unOp op _ x => evUn op (opd tm x) (fun v => k v hp)
  | .convert s d x => evConvert P pl hp s d (opd tm x) k
  | .makeFunc fn first caps =>
    match fn, first.toList with
    | .func f, [] => k (.clo f (caps.toList.map (opd tm))) hp
    | _, _ => False
  | .makeSlice t len cap => evMakeSlice P pl hp t (opd tm len) (opd tm cap) k
  | .slice t x lo hi none =>
    match opd tm x with
    | .ptr j off => evSliceA P hp t j off (lo.map (opd tm)) (hi.map (opd tm)) k
    | x => evSlice P hp t x (lo.map (opd tm)) (hi.map (opd tm)) (fun v => k v hp)
  | .fieldAddr t x f => evFieldAddr P t (opd tm x) f (fun v => k v hp)
  | .field t x f => evField P t (opd tm x) f (fun v => k v hp)
  | .indexAddr t x i => evIndexAddr P hp t (opd tm x) (opd tm i) (fun v => k v hp)
  | .index t x i => evIndex P t (opd tm x) (opd tm i) (fun v => k v hp)
  | .extract x i =>
    match opd tm x with
    | .tuple xs => match xs[i]? with
      | some v => k v hp
      | none => False
    | _ => False
  | .call c =>
    match c.callee with
    | .builtin b => evBuiltin P pl hp b c.argTypes.toList (c.args.toList.map (opd tm)) k
    | .value f => match opd tm f with
      | .clo g caps => if callable P g = true then callK g (c.args.toList.map (opd tm) ++ caps) hp k else evExt P g (c.args.toList.map (opd tm) ++ caps) (fun v => k v hp)
      | _ => False
    | _ => False
  | _ => False

def St.put (σ : St) (dst : Option Tmp) (v : SV) : St :=
  match dst with
  | some i => { σ with tm := σ.tm.set i v }
  | none => σ
/-- What is at hand is reckoned to its form before one goes on (for the kernel's speed alone). -/
def forceN (n : Nat) (k : Nat → Prop) : Prop := Nat.rec (motive := fun _ => Prop) (k 0) (fun m _ => k (m + 1)) n
theorem forceN_eq (n : Nat) (k : Nat → Prop) : forceN n k = k n := by cases n <;> rfl
def forceJ : List Nat → (List Nat → Prop) → Prop
  | [], k => k []
  | x :: xs, k => forceN x fun x => forceJ xs fun xs => k (x :: xs)
theorem forceJ_eq : ∀ (xs : List Nat) (k : List Nat → Prop), forceJ xs k = k xs
  | [], k => rfl
  | x :: xs, k => by simp only [forceJ, forceN_eq, forceJ_eq xs]
def forceV (x : SV) (k : SV → Prop) : Prop :=
  match x with
  | .d y =>
    match y with
    | .int kk n => k (.d (.int kk n))
    | .bool b => k (.d (.bool b))
    | .str l => k (.d (.str l))
    | .bytes l => k (.d (.bytes l))
    | .list sz n g => k (.d (.list sz n g))
  | .undef => k .undef
  | .dead => k .dead
  | .view j ver lo hi => forceN j fun j => forceN ver fun ver => k (.view j ver lo hi)
  | .ptr j o => forceN j fun j => forceN o fun o => k (.ptr j o)
  | .clo f caps => k (.clo f caps)
  | .agg xs => k (.agg xs)
  | .tuple xs => k (.tuple xs)
  | x => k x
def forceL : List SV → (List SV → Prop) → Prop
  | [], k => k []
  | x :: xs, k => forceV x fun x => forceL xs fun xs => k (x :: xs)
def forceO (o : Ob) (k : Ob → Prop) : Prop :=
  match o with
  | .fix ty cells => forceL cells fun cells => k (.fix ty cells)
  | .row v e c =>
    forceN v fun v =>
    match c with
    | .bytes l => k (.row v e (.bytes l))
    | .list sz n g => k (.row v e (.list sz n g))
  | .arr t n g => k (.arr t n g)
  | .gone => k .gone
  | .hole => k .hole
  | .frzn => k .frzn
  | .ban => k .ban
  | .ro ty cells => forceL cells fun cells => k (.ro ty cells)
def forceH : List Ob → (List Ob → Prop) → Prop
  | [], k => k []
  | x :: xs, k => forceO x fun x => forceH xs fun xs => k (x :: xs)
def forceSt (σ : St) (K : St → Prop) : Prop := forceL σ.tm fun tm => forceH σ.hp fun hp => K ⟨tm, hp⟩
/-- .. now and then. -/
def forceAt (o : Oper) (σ : St) (K : St → Prop) : Prop :=
  match o.dst with
  | some d => cond (Nat.beq (d % 16) 0) (forceSt σ K) (K σ)
  | none => K σ
theorem forceV_eq (x : SV) (k : SV → Prop) : forceV x k = k x := by
  cases x with
  | d y => cases y <;> rfl
  | view j ver lo hi => simp only [forceV, forceN_eq]
  | ptr j o => simp only [forceV, forceN_eq]
  | _ => rfl
theorem forceL_eq : ∀ (xs : List SV) (k : List SV → Prop), forceL xs k = k xs
  | [], k => rfl
  | x :: xs, k => by simp only [forceL, forceV_eq, forceL_eq xs]
theorem forceO_eq (x : Ob) (k : Ob → Prop) : forceO x k = k x := by
  cases x with
  | fix ty cells => simp only [forceO, forceL_eq]
  | ro ty cells => simp only [forceO, forceL_eq]
  | row v e c => simp only [forceO, forceN_eq]; cases c <;> rfl
  | _ => rfl
theorem forceH_eq : ∀ (xs : List Ob) (k : List Ob → Prop), forceH xs k = k xs
  | [], k => rfl
  | x :: xs, k => by simp only [forceH, forceO_eq, forceH_eq xs]
theorem forceSt_eq (σ : St) (K : St → Prop) : forceSt σ K = K σ := by simp only [forceSt, forceL_eq, forceH_eq]
theorem forceAt_eq (o : Oper) (σ : St) (K : St → Prop) : forceAt o σ K = K σ := by
  unfold forceAt
  split
  · rw [forceSt_eq]; cases Nat.beq _ 0 <;> rfl
  · rfl
/-- A slot gets its value; a Bool is known from there on. -/
def named (nm : Nat → Bool) (dst : Option Tmp) : Bool :=
  match dst with
  | some i => nm i
  | none => false
/-- A number below N is one of those. -/
def splitGo (n : Int) (K : Int → Prop) : Nat → Prop
  | 0 => True
  | N + 1 => (n = Int.ofNat N → K (Int.ofNat N)) ∧ splitGo n K N
def splitI (n : Int) (N : Nat) (K : Int → Prop) : Prop := BR (decide (0 ≤ n ∧ n < Int.ofNat N)) (splitGo n K N) False
/-- How many: how the annotation tells it. -/
def splitFind (nm : Nat → Bool) (i : Nat) : Nat → Nat → Nat
  | 0, _ => 0
  | f + 1, N => cond (nm (i + 20000 + 10000 * N)) N (splitFind nm i f (N + 1))
def putI (nm : Nat → Bool) (dst : Option Tmp) (n : Int) (K : Int → Prop) : Prop :=
  match dst with
  | some i => cond (nm (i + 10000)) (splitI n (splitFind nm i 70 0) K) (∀ n', n' = n → K n')
  | none => K n
def putK (nm : Nat → Bool) (tm : List SV) (hp : List Ob) (dst : Option Tmp) (v : SV) (K : St → Prop) : Prop :=
  match v with
  | .d (.bool b) => BR b (K (St.put ⟨tm, hp⟩ dst (.d (.bool true)))) (K (St.put ⟨tm, hp⟩ dst (.d (.bool false))))
  | .d (.int kk n) => if named nm dst = true then putI nm dst n (fun n' => K (St.put ⟨tm, hp⟩ dst (.d (.int kk n')))) else K (St.put ⟨tm, hp⟩ dst (.d (.int kk n)))
  | .d (.bytes l) => if named nm dst = true then ∀ l', l' = l → K (St.put ⟨tm, hp⟩ dst (.d (.bytes l'))) else K (St.put ⟨tm, hp⟩ dst (.d (.bytes l)))
  | v => K (St.put ⟨tm, hp⟩ dst v)
def evOper (P : Program) (callK : CallK) (nm : Nat → Bool) (o : Oper) (σ : St) (K : St → Prop) : Prop :=
  evOp P callK none σ.tm σ.hp o.op (fun v hp => putK nm σ.tm hp o.dst v K)
/-- Is a guarded operation wanted? -/
def guardK (ops : Array Oper) (tm : List SV) (g : Option (Nat × Bool)) (yes no : Prop) : Prop :=
  match g with
  | none => yes
  | some (j, want) =>
    match (ops[j]?).bind (·.dst) with
    | some d =>
      match tm[d]? with
      | some (.d (.bool b)) => BR (b == want) yes no
      | some .undef => no
      | _ => False
    | none => no
def evOps (P : Program) (callK : CallK) (nm : Nat → Bool) (ops : Array Oper) : List Oper → St → (St → Prop) → Prop
  | [], σ, K => K σ
  | o :: rest, σ, K =>
    guardK ops σ.tm o.guard (evOper P callK nm o σ fun σ' => forceAt o σ' fun σ' => evOps P callK nm ops rest σ' K) (forceAt o (σ.put o.dst .undef) fun σ' => evOps P callK nm ops rest σ' K)

/-! ## One state is known better than another -/
def D.eqv : D → D → Prop
  | .int k a, .int k' b => if k = k' then a = b else False
  | .bool a, .bool b => a = b
  | .str a, .str b => a = b
  | .bytes a, .bytes b => a = b
  | .list sz n g, .list sz' n' g' => sz = sz' ∧ n = n' ∧ ∀ i, i < n → ∀ j, j < sz → g i j = g' i j
  | .list _ n _, .bytes l => n = 0 ∧ l = []
  | .bytes l, .list _ n _ => l = [] ∧ n = 0
  | _, _ => False
def RC.eqv : RC → RC → Prop
  | .bytes a, .bytes b => a = b
  | .list sz n g, .list sz' n' g' => sz = sz' ∧ n = n' ∧ ∀ i, i < n → ∀ j, j < sz → g i j = g' i j
  | _, _ => False
def isVer (hp : List Ob) (j ver : Nat) : Bool :=
  match hp[j]? with
  | some (.row v _ _) => v == ver
  | _ => false
def isBlk (hp : List Ob) (j : Nat) : Bool :=
  match hp[j]? with
  | some (.fix ..) | some (.arr ..) | some .frzn | some (.ro ..) => true
  | _ => false
mutual
def leSV (hp hp' : List Ob) : SV → SV → Prop
  | _, .dead => True
  | .d x, .d y => D.eqv x y
  | .undef, .undef => True
  | .nils, .nils => True
  | .nilp, .nilp => True
  | .nili, .nili => True
  | .nilf, .nilf => True
  | .nilm, .nilm => True
  | .nils, .d (.bytes l) => l = []
  | .nils, .d (.list _ n _) => n = 0
  | .view j v lo hi, .view j' v' lo' hi' => if j = j' ∧ isVer hp j v = true ∧ isVer hp' j v' = true then lo = lo' ∧ hi = hi' else False
  | .view j v lo hi, .d y =>
    if isGone hp'[j]? = true then
      (match rowAt hp j v with
       | some c => D.eqv (c.sub lo hi).toD y
       | none => False)
    else False
  | .ptr j o, .ptr j' o' => if j = j' ∧ o = o' ∧ isBlk hp' j = true then True else False
  | .clo f caps, .clo f' caps' => if f = f' then leSVs hp hp' caps caps' else False
  | .agg xs, .agg ys => leSVs hp hp' xs ys
  | .tuple xs, .tuple ys => leSVs hp hp' xs ys
  | .aggf n g, .aggf n' g' => n = n' ∧ ∀ i, i < n → g i = g' i
  | _, _ => False
def leSVs (hp hp' : List Ob) : List SV → List SV → Prop
  | [], [] => True
  | x :: xs, y :: ys => leSV hp hp' x y ∧ leSVs hp hp' xs ys
  | _, _ => False
end
def leOb (hp hp' : List Ob) : Ob → Ob → Prop
  | .hole, .gone => True
  | .gone, .gone => True
  | .frzn, .frzn => True
  | .ban, .ban => True
  | .ro t cs, .ro t' cs' => if t = t' then leSVs hp hp' cs cs' else False
  | .row .., .gone => True
  | .fix t cs, .fix t' cs' => if t = t' then leSVs hp hp' cs cs' else False
  | .arr t n g, .arr t' n' g' => if t = t' then n = n' ∧ ∀ i, i < n → g i = g' i else False
  | .row _ t c, .row _ t' c' => if t = t' then RC.eqv c c' else False
  | _, _ => False
def leObs (hp hp' : List Ob) : List Ob → List Ob → Prop
  | _, [] => True
  | x :: xs, y :: ys => leOb hp hp' x y ∧ leObs hp hp' xs ys
  | [], _ :: _ => False
def leSlots (hp hp' : List Ob) (tm : List SV) : List (Nat × SV) → Prop
  | [] => True
  | (i, y) :: rest => leSV hp hp' (tm.getD i .dead) y ∧ leSlots hp hp' tm rest
/-- A head: the slots that are known, and the memory. -/
abbrev Hd := List (Nat × SV) × List Ob
/-- The rows' counts: either another one than ahead, or nothing has turned. -/
def verOk : List Ob → List Ob → List Ob → Bool
  | .row v _ _ :: e, .row vn _ _ :: hp, .row v' _ _ :: hp' => (decide (v < v') || decide (vn = v')) && verOk e hp hp'
  | _ :: e, _ :: hp, _ :: hp' => verOk e hp hp'
  | [], _, _ => true
  | _, _, _ => false
/-- Are the cells of a head's objects such as a cell may hold? -/
def hdStorable : List Ob → Bool
  | [] => true
  | .fix _ cells :: hp => cells.all storable && hdStorable hp
  | _ :: hp => hdStorable hp
def le (hpE : List Ob) (σ : St) (h : Hd) : Prop :=
  if verOk hpE σ.hp h.2 = true ∧ hpE.length ≤ h.2.length ∧ hdStorable h.2 = true then leSlots σ.hp h.2 σ.tm h.1 ∧ leObs σ.hp h.2 σ.hp h.2 else False
def slotAt (i : Nat) : List (Nat × SV) → SV
  | [] => .dead
  | (j, v) :: rest => if i = j then v else slotAt i rest
def Hd.st (n : Nat) (h : Hd) : St := ⟨(List.range n).map (fun i => slotAt i h.1), h.2⟩

/-- What is said of a loop: its states, what each is, what goes down. -/
structure LoopAnn where
  S : Type
  head : S → Hd
  μ : S → Nat
  nul : List (Nat × TypeId × RC)
  nulo : List (Nat × Nat × TypeId × RC)
def LoopAnn.lp (S : Type) (head : S → Hd) (μ : S → Nat) : LoopAnn := ⟨S, head, μ, [], []⟩
/-- A nil slice in a slot is from here on an own row that holds nothing. -/
def nulSt : List (Nat × TypeId × RC) → St → Option St
  | [], σ => some σ
  | (i, e, c) :: rest, σ =>
    match σ.tm.getD i .dead with
    | .nils => if c.len = 0 ∧ 0 < c.sz then nulSt rest ⟨σ.tm.set i (.view σ.hp.length 0 0 0), σ.hp ++ [.row 0 e c]⟩ else none
    | _ => none
/-- The same in a variable's cell. -/
def nulHp : List (Nat × Nat × TypeId × RC) → List Ob → Option (List Ob)
  | [], hp => some hp
  | (j, i, e, c) :: rest, hp =>
    match hp[j]? with
    | some (.fix ty cells) =>
      match cells.getD i .dead with
      | .nils => if c.len = 0 ∧ 0 < c.sz then nulHp rest (hp.set j (.fix ty (cells.set i (.view hp.length 0 0 0))) ++ [.row 0 e c]) else none
      | _ => nulHp rest hp
    | _ => none

def firstRegion : Code → Nat
  | .region id _ _ => id
  | .seq a b => if firstRegion a = 1000000 then firstRegion b else firstRegion a
  | .cond _ a _ => firstRegion a
  | .block _ c => firstRegion c
  | .loop c => firstRegion c
  | _ => 1000000

/-! ## Regions that draw their order -/
/-- What is known of a function: (a place kept for what it makes) → what is handed in → memory → what is asked. -/
structure Spec where
  ev : Option Nat → List SV → List Ob → (SV → List Ob → Prop) → Prop
  /-- the objects that it may change -/
  ft : List Ob → List SV → List Nat
  /-- how many places it may fill, but the first -/
  pls : Nat
instance : CoeFun Spec (fun _ => Option Nat → List SV → List Ob → (SV → List Ob → Prop) → Prop) := ⟨Spec.ev⟩
def callD (Γ : FuncId → Option Spec) (pl : Option Nat) : CallK := fun f args hp k =>
  match Γ f with
  | some s => s.ev pl args hp k
  | none => False
/-- What an operation calls, of what is known. -/
def specOf (Γ : FuncId → Option Spec) (tm : List SV) (op : Op) : Option (Spec × List SV) :=
  match op with
  | .call c => match c.callee with
    | .value f => match opd tm f with
      | .clo g caps => (Γ g).map fun s => (s, c.args.toList.map (opd tm) ++ caps)
      | _ => none
    | _ => none
  | _ => none
def ftOf (Γ : FuncId → Option Spec) (tm : List SV) (hp : List Ob) (op : Op) : List Nat :=
  match specOf Γ tm op with
  | some (s, args) => s.ft hp args
  | none => []
/-- The places that it may fill. -/
def plsOf (Γ : FuncId → Option Spec) (tm : List SV) (π : Option Nat) (op : Op) : List Nat :=
  match π with
  | none => []
  | some p => match specOf Γ tm op with
    | some (s, _) => (List.range (1 + s.pls)).map (p + ·)
    | none => [p]
mutual
/-- The objects that a value names. -/
def refsV : SV → List Nat
  | .view j _ _ _ => [j]
  | .ptr j _ => [j]
  | .aptr j _ => [j]
  | .rptr j _ _ _ => [j]
  | .clo _ caps => refsVs caps
  | .agg xs => refsVs xs
  | .tuple xs => refsVs xs
  | _ => []
def refsVs : List SV → List Nat
  | [] => []
  | x :: xs => refsV x ++ refsVs xs
end
/-- May it make an object? -/
def makesOb : Op → Bool
  | .alloc _ | .box .. | .buildSlice .. | .makeSlice .. | .convert .. => true
  | .call c => match c.callee with
    | .builtin .append => true
    | .builtin _ => false
    | _ => true
  | _ => false
/-- May it stand in such a region? -/
def calmOp : Op → Bool
  | .move _ | .assign _ | .pick .. | .alloc _ | .box .. | .build .. | .buildSlice .. | .load .. | .store .. | .nilCheck _ | .binOp .. | .unOp .. | .convert .. | .makeSlice .. | .slice ..
  | .fieldAddr .. | .field .. | .indexAddr .. | .index .. | .extract .. => true
  | .call c => match c.callee with
    | .builtin _ => true
    | .value _ => true
    | _ => false
  | _ => false
structure LogE where
  refs : List Nat
  wr : List Nat
def wrOp (Γ : FuncId → Option Spec) (tm : List SV) (hp : List Ob) (π : Option Nat) (op : Op) : List Nat :=
  (plsOf Γ tm π op ++ ftOf Γ tm hp op) ++ (match op with
  | .store _ a _ => refsV (opd tm a)
  | .buildSlice .. => (op.operands.toList.map (opd tm)).flatMap refsV
  | .slice _ x _ _ _ => (match opd tm x with
    | .ptr j _ => [j]
    | _ => [])
  | .call c => match c.callee with
    | .builtin .append => (c.args.toList.map (opd tm)).flatMap refsV
    | _ => []
  | _ => [])
/-- Does it look into memory at all? -/
def looksOp : Op → Bool
  | .move _ | .assign _ => false
  | _ => true
def refsOp (Γ : FuncId → Option Spec) (tm : List SV) (hp : List Ob) (π : Option Nat) (op : Op) : List Nat :=
  (plsOf Γ tm π op ++ ftOf Γ tm hp op) ++ (bif looksOp op then (op.operands.toList.map (opd tm)).flatMap refsV else [])
def logE (Γ : FuncId → Option Spec) (tm : List SV) (hp : List Ob) (π : Option Nat) (op : Op) : LogE := ⟨refsOp Γ tm hp π op, wrOp Γ tm hp π op⟩
def disj : List Nat → List Nat → Bool
  | [], _ => true
  | x :: xs, ys => !ys.elem x && disj xs ys
def indep (ops : Array Oper) (x y : Oper) (e f : LogE) : Bool := x.apart ops y && (disj e.wr f.refs && disj f.wr e.refs)
/-- Where each operation's object goes. -/
def numPls (Γ : FuncId → Option Spec) (op : Op) : Nat :=
  match op with
  | .call c => match c.callee with
    | .value (.func g) => match Γ g with
      | some s => 1 + s.pls
      | none => 1
    | _ => 1
  | _ => 1
def placesFor (Γ : FuncId → Option Spec) : Nat → List Oper → List (Oper × Option Nat)
  | _, [] => []
  | n, o :: rest => if makesOb o.op then (o, some n) :: placesFor Γ (n + numPls Γ o.op) rest else (o, none) :: placesFor Γ n rest
def evDraw (P : Program) (Γ : FuncId → Option Spec) (nm : Nat → Bool) (ops : Array Oper) : List (Oper × Option Nat) → St → List LogE → (St → List LogE → Prop) → Prop
  | [], σ, log, K => K σ log
  | (o, π) :: rest, σ, log, K =>
    if calmOp o.op = true then
      guardK ops σ.tm o.guard
        (evOp P (callD Γ π) π σ.tm σ.hp o.op fun v hp => putK nm σ.tm hp o.dst v fun σ' => forceAt o σ' fun σ' => evDraw P Γ nm ops rest σ' (log ++ [logE Γ σ.tm σ.hp π o.op]) K)
        (forceAt o (σ.put o.dst .undef) fun σ' => evDraw P Γ nm ops rest σ' (log ++ [⟨[], []⟩]) K)
    else False
/-- Is an operation ahead of another one, through others? -/
def beforeB (ops : Array Oper) (i : Nat) : Nat → Oper → Bool
  | 0, _ => false
  | f + 1, y => y.after.toList.any (fun ed => Region.binds .any ed && (ed.on == i || (Nat.blt i ed.on && (match ops[ed.on]? with
    | some z => beforeB ops i f z
    | none => false))))
/-- Is each pair of operations ordered, or does neither feel the other? Row i: the operations from i on. -/
def indepRow (ops : Array Oper) (i : Nat) (x : Oper) (e : LogE) : List Oper → List LogE → Bool
  | y :: ys, f :: fs => (indep ops x y e f || beforeB ops i 14 y) && indepRow ops i x e ys fs
  | _, _ => true
def indepAll (ops : Array Oper) : Nat → List Oper → List LogE → Bool
  | i, x :: xs, e :: es => indepRow ops i x e xs es && indepAll ops (i + 1) xs es
  | _, _, _ => true
def forward : Nat → List Oper → Bool
  | _, [] => true
  | i, o :: os => o.after.toList.all (fun ed => !Region.binds .any ed || Nat.blt ed.on i) && forward (i + 1) os
def countPls (Γ : FuncId → Option Spec) : List Oper → Nat
  | [] => 0
  | o :: rest => if makesOb o.op then countPls Γ rest + numPls Γ o.op else countPls Γ rest
def holesFor (Γ : FuncId → Option Spec) (l : List Oper) : List Ob := List.replicate (countPls Γ l) .hole
def evRegion (P : Program) (Γ : FuncId → Option Spec) (nm : Nat → Bool) (ops : Array Oper) (σ : St) (K : St → Prop) : Prop :=
  if P.follows .mixedOrders = true ∧ forward 0 ops.toList = true then
    evDraw P Γ nm ops (placesFor Γ σ.hp.length ops.toList) ⟨σ.tm, σ.hp ++ holesFor Γ ops.toList⟩ [] fun σ' log => if indepAll ops 0 ops.toList log = true then K σ' else False
  else False

/-! ## Code -/
def evLoopN (body : St → (Exit → St → Prop) → Prop) : Nat → St → (Exit → St → Prop) → Prop
  | 0, _, _ => False
  | n + 1, σ, K => body σ fun e σ' => match e with
    | .normal => evLoopN body n σ' K
    | e => K e σ'
def evCode (P : Program) (Γ : FuncId → Option Spec) (callK : CallK) (ann : Nat → List SV → List Ob → Option LoopAnn) (fuel : Nat) : Code → St → (Exit → St → Prop) → Prop
  | .skip, σ, K => K .normal σ
  | .label _, σ, K => K .normal σ
  | .region _ ops draw, σ, K => if draw then evRegion P Γ (fun i => (ann (1000000 + i) [] []).isSome) ops σ (fun σ' => K .normal σ') else evOps P callK (fun i => (ann (1000000 + i) [] []).isSome) ops ops.toList σ fun σ' => K .normal σ'
  | .seq a b, σ, K =>
    match ann (2000000 + firstRegion b) σ.tm σ.hp with
    | none => evCode P Γ callK ann fuel a σ fun e σ' => match e with
      | .normal => evCode P Γ callK ann fuel b σ' K
      | e => K e σ'
    | some A =>
      (evCode P Γ callK ann fuel a σ fun e σ' => match e with
        | .normal => if σ'.tm.length = σ.tm.length then ∃ s, le σ.hp σ' (A.head s) else False
        | e => K e σ') ∧
      ∀ s, forceSt (Hd.st σ.tm.length (A.head s)) fun σ0 => evCode P Γ callK ann fuel b σ0 K
  | .cond c a b, σ, K =>
    match opd σ.tm c with
    | .d (.bool v) => BR v (evCode P Γ callK ann fuel a σ K) (evCode P Γ callK ann fuel b σ K)
    | _ => False
  | .block id c, σ, K => evCode P Γ callK ann fuel c σ fun e σ' => match e with
    | .exit i => if i = id then K .normal σ' else K (.exit i) σ'
    | e => K e σ'
  | .loop c, σ, K =>
    match ann (firstRegion c) σ.tm σ.hp with
    | some A =>
      match nulSt A.nul σ with
      | some σ =>
        match nulHp A.nulo σ.hp with
        | some hp =>
          (∃ s, le hp ⟨σ.tm, hp⟩ (A.head s)) ∧
          ∀ s, forceSt (Hd.st σ.tm.length (A.head s)) fun σ0 => evCode P Γ callK ann fuel c σ0 fun e σ' => match e with
            | .normal => if σ'.tm.length = σ.tm.length then ∃ s', A.μ s' < A.μ s ∧ le hp σ' (A.head s') else False
            | e => K e σ'
        | none => False
      | none => False
    | none => evLoopN (evCode P Γ callK ann fuel c) fuel σ K
  | .exit id, σ, K => K (.exit id) σ
  | .ret, σ, K => K .ret σ
  | _, _, _ => False

/-- The results. -/
def evRes (P : Program) (σ : St) : List ResultVar → (List SV → Prop) → Prop
  | [], k => k []
  | .tmp t :: rest, k => evRes P σ rest fun vs => k (σ.tm.getD t .undef :: vs)
  | .cell a t :: rest, k => evLoad P σ.hp t (σ.tm.getD a .undef) fun v => evRes P σ rest fun vs => k (v :: vs)
def oneSV : List SV → SV
  | [x] => x
  | xs => .tuple xs
def evBody (P : Program) (Γ : FuncId → Option Spec) (callK : CallK) (ann : Nat → List SV → List Ob → Option LoopAnn) (fuel : Nat) (fn : Func) (args : List SV) (hp : List Ob) (k : SV → List Ob → Prop) : Prop :=
  match fn.body with
  | some c => forceSt ⟨args ++ List.replicate (fn.ntmps - args.length) .undef, hp⟩ fun σ0 => evCode P Γ callK ann fuel c σ0 fun e σ => match e with
    | .normal | .ret => evRes P σ fn.results.toList fun vs => k (oneSV vs) σ.hp
    | _ => False
  | none => False
/-- A function by its number: by what is known of it, or by its text. -/
def evFunc (P : Program) (Γ : FuncId → Option Spec) (ann : FuncId → Nat → List SV → List Ob → Option LoopAnn) (fuel : Nat) : Nat → CallK
  | 0, _, _, _, _ => False
  | n + 1, f, args, hp, k =>
    match Γ f with
    | some s => s.ev none args hp k
    | none =>
      match P.funcs[f]? with
      | some fn => evBody P Γ (evFunc P Γ ann fuel n) (ann f) fuel fn args hp k
      | none => False

/-! ## Functions that are known by what they answer -/
def closedD : D → Bool
  | .int .. | .bool _ | .str _ => true
  | _ => false
mutual
/-- Values that hang on no memory. -/
def closedSV : SV → Prop
  | .d (.int ..) => True
  | .d (.bool _) => True
  | .d (.str _) => True
  | .nils | .nilp | .nili | .nilf | .nilm | .undef => True
  | .agg xs => closedSVs xs
  | .tuple xs => closedSVs xs
  | .aggf n g => ∀ i, i < n → closedD (g i) = true
  | _ => False
def closedSVs : List SV → Prop
  | [] => True
  | x :: xs => closedSV x ∧ closedSVs xs
end
def closedRC : RC → Prop
  | .bytes _ => True
  | .list sz n g => ∀ i, i < n → ∀ j, j < sz → closedD (g i j) = true
/-- What a nil is, where it is handed in, or out. -/
inductive AK where
  | any | bytes | own
  | list (sz : Nat)
  | agg (ks : List AK)
  | tup (ks : List AK)
def nilD : AK → SV
  | .bytes => .d (.bytes [])
  | .list sz => .d (.list sz 0 (fun _ _ => .bool false))
  | _ => .nils
/-- A nil that lies in a row has no kind of its own. -/
def nilDD : AK → D → D
  | .bytes, y => match y with
    | .list sz n g => bif Nat.beq sz 0 && Nat.beq n 0 then .bytes [] else .list sz n g
    | y => y
  | .list sz', y => match y with
    | .list sz n g => bif Nat.beq sz 0 && Nat.beq n 0 then .list sz' 0 (fun _ _ => .bool false) else .list sz n g
    | y => y
  | _, y => y
def argD (hp : List Ob) (a : AK) (x : SV) : SV :=
  match x with
  | .nils => nilD a
  | .view j ver lo hi =>
    match rowAt hp j ver with
    | some c => .d (c.sub lo hi).toD
    | none => .dead
  | .d y => .d (nilDD a y)
  | x => x
mutual
/-- A value as data: its rows are what they hold now. -/
def frz (hp : List Ob) : AK → SV → SV
  | .agg ks, x =>
    match x with
    | .agg xs => .agg (frzs hp ks xs)
    | x => argD hp .any x
  | .tup ks, x =>
    match x with
    | .tuple xs => .tuple (frzs hp ks xs)
    | x => argD hp .any x
  | .any, x => argD hp .any x
  | .own, x => argD hp .any x
  | .bytes, x => argD hp .bytes x
  | .list sz, x => argD hp (.list sz) x
def frzs (hp : List Ob) : List AK → List SV → List SV
  | [], xs => xs.map (argD hp .any)
  | k :: ks, xs =>
    match xs with
    | x :: xs => frz hp k x :: frzs hp ks xs
    | [] => []
end
abbrev argsD := frzs
mutual
def argOk : SV → Bool
  | .d _ | .nils | .nilp | .nili | .nilf | .nilm | .undef | .aggf .. => true
  | .agg xs => argsOk xs
  | .tuple xs => argsOk xs
  | _ => false
def argsOk : List SV → Bool
  | [] => true
  | x :: xs => argOk x && argsOk xs
end
inductive Out where
  | val (r : SV)
  | row (e : TypeId) (c : RC)
def outK (pl : Option Nat) (hp : List Ob) (k : SV → List Ob → Prop) : Out → Prop
  | .val r => k r hp
  | .row e c => if plOk pl hp = true then k (.view (plIdx pl hp) 0 0 c.len) (plHp pl hp (.row 0 e c)) else False
def inK (nl : Option (TypeId × RC)) (K : Out → Prop) (r : SV) (hp' : List Ob) : Prop :=
  match r with
  | .nils =>
    match nl with
    | some (e, c) => if c.len = 0 ∧ 0 < c.sz then K (.row e c) else False
    | none => K (.val .nils)
  | .view j ver lo hi =>
    match hp'[j]? with
    | some (.row v e c) => if v = ver then (lo = 0 ∧ hi = c.len ∧ closedRC c) ∧ K (.row e c) else False
    | _ => False
  | r => closedSV r ∧ K (.val r)
def pureSpec (ks : List AK) (body : List SV → (Out → Prop) → Prop) : Spec := ⟨fun pl args hp k =>
  if argsOk (argsD hp ks args) = true then body (argsD hp ks args) (outK pl hp k) else False, fun _ _ => [], 0⟩
/-- Is what is handed out made anew, of values that hang on no memory? -/
def resTop (hp : List Ob) (x : SV) : Prop :=
  match x with
  | .view j ver _ _ =>
    match rowAt hp j ver with
    | some c => closedRC c
    | none => False
  | x => closedSV x
def resAll (hp : List Ob) : List SV → Prop
  | [] => True
  | x :: xs => resTop hp x ∧ resAll hp xs
mutual
def resOk (hp : List Ob) : AK → SV → Prop
  | .agg ks, x =>
    match x with
    | .agg xs => resOks hp ks xs
    | x => resTop hp x
  | .tup ks, x =>
    match x with
    | .tuple xs => resOks hp ks xs
    | x => resTop hp x
  | .any, x => resTop hp x
  | .own, x => resTop hp x
  | .bytes, x => resTop hp x
  | .list _, x => resTop hp x
def resOks (hp : List Ob) : List AK → List SV → Prop
  | [], xs => resAll hp xs
  | k :: ks, xs =>
    match xs with
    | x :: xs => resOk hp k x ∧ resOks hp ks xs
    | [] => True
end
/-- What is handed out, as data. -/
def outF (ak : AK) (K : Out → Prop) (r : SV) (hp' : List Ob) : Prop := resOk hp' ak r ∧ K (.val (frz hp' ak r))


/-! ## Functions that read some variables -/
def closedB : SV → Bool
  | .d (.int ..) | .d (.bool _) | .d (.str _) => true
  | .nils | .nilp | .nili | .nilf | .nilm => true
  | _ => false
/-- What is handed in: values that hang on nothing, and variables, which get numbers of their own. -/
def capSplit (hp : List Ob) : Nat → List SV → Option (List SV × List Nat × List Ob)
  | _, [] => some ([], [], [])
  | m, .ptr j off :: xs =>
    match hp[j]?, off with
    | some (.fix ty cells), 0 =>
      if cells.all closedB = true then
        match capSplit hp (m + 1) xs with
        | some (ys, js, obs) => some (.ptr m 0 :: ys, j :: js, .fix ty cells :: obs)
        | none => none
      else none
    | _, _ => none
  | m, x :: xs =>
    if closedB x = true then
      match capSplit hp m xs with
      | some (ys, js, obs) => some (x :: ys, js, obs)
      | none => none
    else none
def nodupB : List Nat → Bool
  | [] => true
  | x :: xs => !xs.elem x && nodupB xs
def valK (hp : List Ob) (k : SV → List Ob → Prop) : Out → Prop
  | .val r => k r hp
  | .row .. => False
/-- A function that may read variables. -/
def capSpec (body : List SV → List Ob → (Out → Prop) → Prop) : Spec := ⟨fun _ args hp k =>
  match capSplit hp 0 args with
  | some (xs, js, obs) => if nodupB js = true then body xs obs (valK hp k) else False
  | none => False, fun _ _ => [], 0⟩
def sameObs : List Ob → List Ob → Prop
  | [], _ => True
  | .fix ty cells :: obs, .fix ty' cells' :: hp => (ty' = ty ∧ cells' = cells) ∧ sameObs obs hp
  | _, _ => False
def capK (obs : List Ob) (K : Out → Prop) (r : SV) (hp' : List Ob) : Prop := closedSV r ∧ sameObs obs hp' ∧ K (.val r)

/-- Values of more than one part, too. -/
def forceV2 (x : SV) (k : SV → Prop) : Prop :=
  match x with
  | .agg xs => forceL xs fun xs => k (.agg xs)
  | .tuple xs => forceL xs fun xs => k (.tuple xs)
  | .clo f xs => forceL xs fun xs => k (.clo f xs)
  | x => forceV x k
theorem forceV2_eq (x : SV) (k : SV → Prop) : forceV2 x k = k x := by
  cases x <;> simp only [forceV2, forceL_eq, forceV_eq]

/-! ## Functions that work on a part of memory -/
def app : List (Nat × Ob) → List Ob → List Ob
  | [], hp => hp
  | (j, ob) :: δ, hp => app δ (hp.set j ob)
def refsO : Ob → List Nat
  | .fix _ cells => refsVs cells
  | _ => []
def addNew : List Nat → List Nat → List Nat
  | js, [] => js
  | js, j :: rest => bif js.elem j then addNew js rest else addNew (js ++ [j]) rest
/-- All objects that some name, and those that these name, in their order. -/
def closeJ (hp : List Ob) : Nat → Nat → List Nat → List Nat
  | 0, _, js => js
  | f + 1, i, js =>
    match js[i]? with
    | none => js
    | some j => closeJ hp f (i + 1) (match hp[j]? with
      | some o => addNew js (refsO o)
      | none => js)
def idxJ : List Nat → Nat → Nat → Option Nat
  | [], _, _ => none
  | x :: xs, j, i => bif Nat.beq x j then some i else idxJ xs j (i + 1)
mutual
/-- Objects get other numbers, and rows' counts begin anew. -/
def mapV (σ : Nat → Option Nat) (τ : Nat → Nat → Option Nat) : SV → SV
  | .view j v lo hi => match σ j, τ j v with
    | some i, some v' => .view i v' lo hi
    | _, _ => .dead
  | .ptr j o => match σ j with
    | some i => .ptr i o
    | none => .dead
  | .aptr j m => match σ j with
    | some i => .aptr i m
    | none => .dead
  | .rptr j v m o => match σ j, τ j v with
    | some i, some v' => .rptr i v' m o
    | _, _ => .dead
  | .bptr .. => .dead
  | .eptr .. => .dead
  | .clo f caps => .clo f (mapVs σ τ caps)
  | .agg xs => .agg (mapVs σ τ xs)
  | .tuple xs => .tuple (mapVs σ τ xs)
  | x => x
def mapVs (σ : Nat → Option Nat) (τ : Nat → Nat → Option Nat) : List SV → List SV
  | [] => []
  | x :: xs => mapV σ τ x :: mapVs σ τ xs
end
def mapO (σ : Nat → Option Nat) (τ : Nat → Nat → Option Nat) (j : Nat) : Ob → Ob
  | .fix t cells => .fix t (mapVs σ τ cells)
  | .row v t c => .row ((τ j v).getD 0) t c
  | .ro _ _ => .ban
  | o => o
def ownArg : AK → SV → Bool
  | .own, _ => true
  | _, .ptr .. => true
  | _, .clo .. => true
  | _, _ => false
def ownRefs : List AK → List SV → List Nat
  | _, [] => []
  | ks, x :: xs => (bif ownArg (ks.headD .any) x then refsV x else []) ++ ownRefs ks.tail xs
def grab (hp : List Ob) (ks : List AK) (args : List SV) : List Nat := closeJ hp 60 0 (addNew [] (ownRefs ks args))
def subJ (js : List Nat) (j : Nat) : Option Nat := idxJ js j 1
def subT (hp : List Ob) (j v : Nat) : Option Nat :=
  match hp[j]? with
  | some (.row v0 _ _) => bif Nat.beq v0 v then some 0 else none
  | _ => none
def memArgs (hp : List Ob) (js : List Nat) : List AK → List SV → List SV
  | _, [] => []
  | ks, x :: xs => (bif ownArg (ks.headD .any) x then mapV (subJ js) (subT hp) x else frz hp (ks.headD .any) x) :: memArgs hp js ks.tail xs
/-- What is handed in as data: of rows that are nobody's here. -/
def freeOk (cl : Bool) (hp : List Ob) (js : List Nat) : List AK → List SV → Bool
  | _, [] => true
  | ks, x :: xs => (ownArg (ks.headD .any) x || (argOk (frz hp (ks.headD .any) x) && (bif cl then disj (refsV x) js else (refsV x).isEmpty))) && freeOk cl hp js ks.tail xs
def grabOb : Option Ob → Bool
  | some (.fix ..) | some (.arr ..) | some (.row ..) | some .gone | some .frzn => true
  | _ => false
def grabOk (hp : List Ob) : List Nat → Bool
  | [] => true
  | j :: js => grabOb hp[j]? && grabOk hp js
def obsOf (hp : List Ob) (js : List Nat) : List Ob := .ban :: js.map fun j => mapO (subJ js) (subT hp) j (hp.getD j .hole)
def memSplitJ (cl : Bool) (hp : List Ob) (ks : List AK) (args : List SV) (js : List Nat) : Option (List SV × List Nat × List Ob) :=
  bif nodupB js && (grabOk hp js && (hdStorable (obsOf hp js) && freeOk cl hp js ks args)) then some (memArgs hp js ks args, js, obsOf hp js) else none
def memSplit (cl : Bool) (hp : List Ob) (ks : List AK) (args : List SV) : Option (List SV × List Nat × List Ob) := memSplitJ cl hp ks args (grab hp ks args)
/-- Where the part's objects lie in the whole. -/
def newIdx (pl : Option Nat) (hp : List Ob) (js : List Nat) (len : Nat) : Nat → Option Nat
  | 0 => none
  | i + 1 => bif Nat.blt i js.length then js[i]? else bif Nat.blt (i + 1) len then some (plIdx pl hp + (i - js.length)) else none
def newT (hp : List Ob) (js : List Nat) (i v : Nat) : Option Nat :=
  match js[i - 1]? with
  | some j => match hp[j]? with
    | some (.row v0 _ _) => some (v0 + v)
    | _ => some v
  | none => some v
def mapOs (σ : Nat → Option Nat) (τ : Nat → Nat → Option Nat) : Nat → List Ob → List Ob
  | _, [] => []
  | i, o :: rest => mapO σ τ i o :: mapOs σ τ (i + 1) rest
def memδ (σ : Nat → Option Nat) : Nat → List Ob → List (Nat × Ob)
  | _, [] => []
  | i, o :: rest => match σ i with
    | some j => (j, o) :: memδ σ (i + 1) rest
    | none => memδ σ (i + 1) rest
def holesAt (hp : List Ob) (π : Nat) : Nat → Bool
  | 0 => true
  | m + 1 => isHole hp[π + m]? && holesAt hp π m
def plsOk (pls : Nat) (pl : Option Nat) (hp : List Ob) (m : Nat) : Bool :=
  match pl with
  | none => true
  | some π => Nat.ble m (1 + pls) && holesAt hp π m
def plBase (pl : Option Nat) (hp : List Ob) (m : Nat) : List Ob :=
  match pl with
  | none => hp ++ List.replicate m .hole
  | some _ => hp
def notBan : List Ob → Bool
  | [] => true
  | .ban :: _ => false
  | .ro .. :: _ => false
  | _ :: hp => notBan hp
def memK (pls : Nat) (pl : Option Nat) (hp : List Ob) (js : List Nat) (k : SV → List Ob → Prop) (r : SV) (obs' : List Ob) : Prop :=
  match obs' with
  | .ban :: rest =>
    if (Nat.ble js.length rest.length && (plsOk pls pl hp (rest.length - js.length) && (notBan rest && hdStorable (mapOs (newIdx pl hp js (rest.length + 1)) (newT hp js) 1 rest)))) = true then
      forceV2 (mapV (newIdx pl hp js (rest.length + 1)) (newT hp js) r) fun r => forceH (app (memδ (newIdx pl hp js (rest.length + 1)) 1 (mapOs (newIdx pl hp js (rest.length + 1)) (newT hp js) 1 rest)) (plBase pl hp (rest.length - js.length))) fun hp' => k r hp'
    else False
  | _ => False
/-- A function that works on the objects that it is handed, and on what these name. -/
def memSpec (cl : Bool) (pls : Nat) (ks : List AK) (body : List SV → List Ob → (SV → List Ob → Prop) → Prop) : Spec := ⟨fun pl args hp k =>
  forceJ (grab hp ks args) fun js =>
  match memSplitJ cl hp ks args js with
  | some (xs, js, obs) => body xs obs (memK pls pl hp js k)
  | none => False, fun hp args => grab hp ks args, pls⟩
theorem memSpec_ev (cl : Bool) (pls : Nat) (ks : List AK) (body : List SV → List Ob → (SV → List Ob → Prop) → Prop) (pl : Option Nat) (args : List SV) (hp : List Ob) (k : SV → List Ob → Prop) :
    (memSpec cl pls ks body).ev pl args hp k = (match memSplit cl hp ks args with
      | some (xs, js, obs) => body xs obs (memK pls pl hp js k)
      | none => False) := by
  dsimp only [memSpec]
  rw [forceJ_eq]
  rfl
mutual
/-- All data in a value is such. -/
def allD (Q : D → Prop) : SV → Prop
  | .d x => Q x
  | .aggf n g => ∀ i, i < n → Q (g i)
  | .clo _ caps => allDs Q caps
  | .agg xs => allDs Q xs
  | .tuple xs => allDs Q xs
  | _ => True
def allDs (Q : D → Prop) : List SV → Prop
  | [] => True
  | x :: xs => allD Q x ∧ allDs Q xs
end
def allO (Q : D → Prop) : Ob → Prop
  | .fix _ cells => allDs Q cells
  | .arr _ n g => ∀ i, i < n → Q (g i)
  | .row _ _ (.list sz n g) => ∀ i, i < n → ∀ j, j < sz → Q (g i j)
  | _ => True
def allOs (Q : D → Prop) : List Ob → Prop
  | [] => True
  | o :: hp => allO Q o ∧ allOs Q hp
/-- What nobody names any more goes; the others get numbers in their order. -/
def gcJ (hp : List Ob) (n : Nat) (r : SV) : List Nat := closeJ hp 80 0 (addNew (List.range n) (refsV r))
def gcT (hp : List Ob) (n j v : Nat) : Option Nat :=
  match hp[j]? with
  | some (.row v0 _ _) => bif Nat.beq v0 v then some (bif Nat.blt j n && Nat.blt 0 v0 then 1 else 0) else none
  | _ => none
def gcObs (hp : List Ob) (n : Nat) (js : List Nat) : List Ob := js.map fun j => mapO (fun j => idxJ js j 0) (gcT hp n) j (hp.getD j .hole)
def gcOb : Option Ob → Bool
  | some (.ro ..) | none => false
  | _ => true
def gcOk (hp : List Ob) : List Nat → Bool
  | [] => true
  | j :: js => gcOb hp[j]? && gcOk hp js
def clK (cl : Bool) (K : SV → List Ob → Prop) (r : SV) (hp : List Ob) : Prop :=
  match cl with
  | true => (allD (fun d => closedD d = true) r ∧ allOs (fun d => closedD d = true) hp) ∧ K r hp
  | false => K r hp
def headIs : Nat → Nat → List Nat → Bool
  | 0, _, _ => true
  | n + 1, i, j :: js => Nat.beq i j && headIs n (i + 1) js
  | _, _, [] => false
def gcKJ (n : Nat) (K : SV → List Ob → Prop) (r : SV) (hp : List Ob) (js : List Nat) : Prop :=
  if (nodupB js && (gcOk hp js && (hdStorable (gcObs hp n js) && headIs n 0 js))) = true then
    forceV2 (mapV (fun j => idxJ js j 0) (gcT hp n) r) fun r => forceH (gcObs hp n js) fun hp => K r hp
  else False
def gcK (n : Nat) (K : SV → List Ob → Prop) (r : SV) (hp : List Ob) : Prop := forceJ (gcJ hp n r) fun js => gcKJ n K r hp js
theorem gcK_eq (n : Nat) (K : SV → List Ob → Prop) (r : SV) (hp : List Ob) : gcK n K r hp =
    if (nodupB (gcJ hp n r) && (gcOk hp (gcJ hp n r) && (hdStorable (gcObs hp n (gcJ hp n r)) && headIs n 0 (gcJ hp n r)))) = true then
      K (mapV (fun j => idxJ (gcJ hp n r) j 0) (gcT hp n) r) (gcObs hp n (gcJ hp n r))
    else False := by
  unfold gcK gcKJ
  rw [forceJ_eq, forceV2_eq, forceH_eq]
/-- What a function hands out, and its part of memory. -/
def outM (cl : Bool) (nul : List (Nat × Nat × TypeId × RC)) (n : Nat) (K : SV → List Ob → Prop) (r : SV) (hp : List Ob) : Prop :=
  match nulHp nul hp with
  | some hp2 => forceV2 r fun r => forceH hp2 fun hp2 => gcK n (clK cl K) r hp2
  | none => False
/-- A law's answer. -/
def yesK (r : SV) (_ : List Ob) : Prop :=
  match r with
  | .d (.bool b) => BR b True False
  | _ => False
/-- All slots but those of a span, and those that are named. -/
def keepable (hp : List Ob) : SV → Bool
  | .undef | .dead => false
  | .view j ver _ _ => isVer hp j ver
  | .aptr .. | .rptr .. | .bptr .. | .eptr .. => false
  | .tuple _ => false
  | _ => true
def keepX (n : Nat) (more drop : List Nat) (hp : List Ob) : Nat → List SV → List (Nat × SV)
  | _, [] => []
  | i, v :: vs => bif (Nat.blt i n || more.elem i) && !drop.elem i && keepable hp v then (i, v) :: keepX n more drop hp (i + 1) vs else keepX n more drop hp (i + 1) vs
/-- The head of a loop: what is told of some slots; the others below n, and some more, stay. -/
def loopHd (n : Nat) (more : List Nat) (ch : List (Nat × SV)) (tm : List SV) (hp hp' : List Ob) : Hd := (ch ++ keepX n more (ch.map (·.1)) hp 0 tm, hp')
/-- What a slot holds, where a head is told. -/
def ati (tm : List SV) (i : Nat) (f : Int → Option LoopAnn) : Option LoopAnn :=
  match tm.getD i .dead with
  | .d (.int _ n) => f n
  | _ => none
def atb (tm : List SV) (i : Nat) (f : List UInt8 → Option LoopAnn) : Option LoopAnn :=
  match tm.getD i .dead with
  | .d (.bytes l) => f l
  | .d (.str l) => f l
  | _ => none
/-- A place where ways meet. -/
def cut (head : Hd) : LoopAnn := .lp Unit (fun _ => head) (fun _ => 0)
/-- The slots of a span get names. -/
def nameA (i lo hi : Nat) : Option LoopAnn := bif Nat.ble (1000000 + lo) i && Nat.blt i (1000000 + hi) then some (cut ([], [])) else none
/-- What a slot holds is one of so many. -/
def splitA (slot N i : Nat) : Option LoopAnn := bif Nat.beq i (1000000 + slot) || Nat.beq i (1010000 + slot) || Nat.beq i (1020000 + slot + 10000 * N) then some (cut ([], [])) else none
def keep (tm : List SV) (is : List Nat) : List (Nat × SV) := is.map fun i => (i, tm.getD i .dead)

end Go.Proofs.Ytmadffhjgbpojaa.Sx

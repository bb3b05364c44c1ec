/-
  No cell of these rows narrows 'for every input' (looked for: loops, veiled, ifaces, maps, wideKeys, modest, calm, conditions, laid).
  DERIVED. THE GIVEN ROWS OF THIS SEAT. 5 by the template 'for every input the law returns true; each argument reads behind the call as it read before'; 0 by the template 'total and deterministic' (their statements: YtmadffhjgbpojaaTotals.lean).
  GIVEN WITH THE SEED: the statements are not yours to turn. If you find one false, say at which input.
  Laid BY PROGRAM, IN A SANDBOX (cutbox-rows.mjs): the forced cells as the released guide's own fill.sh prints them over the translation 006332837eb3abb2… (all of the seat's roots in one cut). By AI agents, Wed Nov 11 2026. No macro, syntax, notation, axiom, sorry.
-/
import Derived.Test.YtmadffhjgbpojaaChecked
import GoSem.Claim
import GoSem.ClaimJoined
import GoSem.ClaimMapViews
import Derived.JoinedTies
import Derived.KernelRfl
namespace Go.Proofs.Ytmadffhjgbpojaa
/- THE CELL 'sum', in the pinned program and in every row, IS THE sha256 OF THE DUMP (.gsa) THAT YtmadffhjgbpojaaProg.lean LOADS. Nothing in Lean hashes anything: it is a label: what it is worth is what the hold of that sum in a sandbox is worth. -/
noncomputable def Try.pinned : Pinned := { name := "ytmadffhjgbpojaa", sum := "006332837eb3abb2ed72edf4052610fa4d8a0bde45e0c204eb6de3e4c387d2a3", checked := Try.checked }
namespace Rows
def none {H : Type} : Left H := { results := [], args := [] }

/-- 'lightwelllaw12.MeshBoxes': WHATEVER THE INPUT: true; the input reads as it did. -/
def meshBoxesSpec : ChangeSpec := { name := "meshBoxes", fn := fun _ => fun
  | [d1, d2, d3] => { results := [.lit (.bool true)], args := [d1, d2, d3] }
  | _ => none }
def meshBoxesRow : OpenClaim := { program := "ytmadffhjgbpojaa", sum := "006332837eb3abb2ed72edf4052610fa4d8a0bde45e0c204eb6de3e4c387d2a3", func := "lightwell/lightwelllaw12.MeshBoxes", spec := "meshBoxes", unfollowed := true, recurses := true, apart := false }
def MeshBoxesSaid : Prop := meshBoxesRow.holds Try.pinned (OpenSpec.ofChange meshBoxesSpec)

/-- ITS FALSE NEIGHBOUR: 'it returns false'. Refute it at one input. -/
def meshBoxesWrong : ChangeSpec := { name := "meshBoxes", fn := fun _ => fun
  | [d1, d2, d3] => { results := [.lit (.bool false)], args := [d1, d2, d3] }
  | _ => none }
def MeshBoxesWrongFalsely : Prop := meshBoxesRow.holds Try.pinned (OpenSpec.ofChange meshBoxesWrong)

/-- 'lightwelllaw12.MeshJoined': WHATEVER THE INPUT: true; the input reads as it did. -/
def meshJoinedSpec : ChangeSpec := { name := "meshJoined", fn := fun _ => fun
  | [d1, d2] => { results := [.lit (.bool true)], args := [d1, d2] }
  | _ => none }
def meshJoinedRow : OpenClaim := { program := "ytmadffhjgbpojaa", sum := "006332837eb3abb2ed72edf4052610fa4d8a0bde45e0c204eb6de3e4c387d2a3", func := "lightwell/lightwelllaw12.MeshJoined", spec := "meshJoined", unfollowed := true, recurses := true, apart := false }
def MeshJoinedSaid : Prop := meshJoinedRow.holds Try.pinned (OpenSpec.ofChange meshJoinedSpec)

/-- ITS FALSE NEIGHBOUR: 'it returns false'. Refute it at one input. -/
def meshJoinedWrong : ChangeSpec := { name := "meshJoined", fn := fun _ => fun
  | [d1, d2] => { results := [.lit (.bool false)], args := [d1, d2] }
  | _ => none }
def MeshJoinedWrongFalsely : Prop := meshJoinedRow.holds Try.pinned (OpenSpec.ofChange meshJoinedWrong)

/-- 'lightwelllaw12.MeshNumbers': WHATEVER THE INPUT: true; the input reads as it did. -/
def meshNumbersSpec : ChangeSpec := { name := "meshNumbers", fn := fun _ => fun
  | [] => { results := [.lit (.bool true)], args := [] }
  | _ => none }
def meshNumbersRow : OpenClaim := { program := "ytmadffhjgbpojaa", sum := "006332837eb3abb2ed72edf4052610fa4d8a0bde45e0c204eb6de3e4c387d2a3", func := "lightwell/lightwelllaw12.MeshNumbers", spec := "meshNumbers", unfollowed := true, recurses := true, apart := false }
def MeshNumbersSaid : Prop := meshNumbersRow.holds Try.pinned (OpenSpec.ofChange meshNumbersSpec)

/-- ITS FALSE NEIGHBOUR: 'it returns false'. Refute it at one input. -/
def meshNumbersWrong : ChangeSpec := { name := "meshNumbers", fn := fun _ => fun
  | [] => { results := [.lit (.bool false)], args := [] }
  | _ => none }
def MeshNumbersWrongFalsely : Prop := meshNumbersRow.holds Try.pinned (OpenSpec.ofChange meshNumbersWrong)

/-- 'lightwelllaw12.MeshBack': WHATEVER THE INPUT: true; the input reads as it did. -/
def meshBackSpec : ChangeSpec := { name := "meshBack", fn := fun _ => fun
  | [d1, d2] => { results := [.lit (.bool true)], args := [d1, d2] }
  | _ => none }
def meshBackRow : OpenClaim := { program := "ytmadffhjgbpojaa", sum := "006332837eb3abb2ed72edf4052610fa4d8a0bde45e0c204eb6de3e4c387d2a3", func := "lightwell/lightwelllaw12.MeshBack", spec := "meshBack", unfollowed := true, recurses := true, apart := false }
def MeshBackSaid : Prop := meshBackRow.holds Try.pinned (OpenSpec.ofChange meshBackSpec)

/-- ITS FALSE NEIGHBOUR: 'it returns false'. Refute it at one input. -/
def meshBackWrong : ChangeSpec := { name := "meshBack", fn := fun _ => fun
  | [d1, d2] => { results := [.lit (.bool false)], args := [d1, d2] }
  | _ => none }
def MeshBackWrongFalsely : Prop := meshBackRow.holds Try.pinned (OpenSpec.ofChange meshBackWrong)

/-- 'lightwelllaw12.MeshApart': WHATEVER THE INPUT: true; the input reads as it did. -/
def meshApartSpec : ChangeSpec := { name := "meshApart", fn := fun _ => fun
  | [d1, d2, d3, d4] => { results := [.lit (.bool true)], args := [d1, d2, d3, d4] }
  | _ => none }
def meshApartRow : OpenClaim := { program := "ytmadffhjgbpojaa", sum := "006332837eb3abb2ed72edf4052610fa4d8a0bde45e0c204eb6de3e4c387d2a3", func := "lightwell/lightwelllaw12.MeshApart", spec := "meshApart", unfollowed := true, recurses := true, apart := false }
def MeshApartSaid : Prop := meshApartRow.holds Try.pinned (OpenSpec.ofChange meshApartSpec)

/-- ITS FALSE NEIGHBOUR: 'it returns false'. Refute it at one input. -/
def meshApartWrong : ChangeSpec := { name := "meshApart", fn := fun _ => fun
  | [d1, d2, d3, d4] => { results := [.lit (.bool false)], args := [d1, d2, d3, d4] }
  | _ => none }
def MeshApartWrongFalsely : Prop := meshApartRow.holds Try.pinned (OpenSpec.ofChange meshApartWrong)

/- THE SECOND FORM. 'bulk': how many values and letters a reading holds, each counted each time it is reached (what is shared counts as often as it is met; a slice's spare places count too). A statement '..UptoSaid' is the law's where the arguments, and the package variables that the reading takes, are together of bulk at most 1048576: NARROWER than '..Said'. Prove '..Said' where nothing that the law and all that it calls make is longer than what came in: it says more and counts as full. Else prove '..UptoSaid'. A law counts once. -/
mutual
def uptoBulk {H : Type} : DataW H → Nat
  | .lit (.string bytes) => bytes.length + 1
  | .lit _ => 1
  | .nil => 1
  | .ptr d => uptoBulk d + 1
  | .slice elems spare => uptoBulkAll elems + uptoBulkAll spare + 1
  | .agg parts => uptoBulkAll parts + 1
  | .iface _ d => uptoBulk d + 1
  | .map entries => uptoBulkEntries entries + 1
  | .held _ => 1
def uptoBulkAll {H : Type} : List (DataW H) → Nat
  | [] => 0
  | d :: r => uptoBulk d + uptoBulkAll r
def uptoBulkEntries {H : Type} : List (Lit × DataW H) → Nat
  | [] => 0
  | x :: r => uptoBulkEntry x + uptoBulkEntries r
def uptoBulkEntry {H : Type} : Lit × DataW H → Nat
  | (.string bytes, d) => bytes.length + uptoBulk d + 1
  | (_, d) => uptoBulk d + 1
 end
def uptoSmall : (H : Type) → List (DataW H) → Bool := fun _ ds => decide (uptoBulkAll ds ≤ 1048576)
def OpenSpec.upto (s : _root_.Go.ChangeSpec) : _root_.Go.OpenSpec := { _root_.Go.OpenSpec.ofChange s with cond := some uptoSmall }

/-- 'lightwelllaw12.MeshBoxes', WHERE WHAT IT READS IS OF BULK AT MOST 1048576: true; the input reads as it did. -/
def meshBoxesUptoRow : OpenClaim := { program := "ytmadffhjgbpojaa", sum := "006332837eb3abb2ed72edf4052610fa4d8a0bde45e0c204eb6de3e4c387d2a3", func := "lightwell/lightwelllaw12.MeshBoxes", spec := "meshBoxes", unfollowed := true, recurses := true, apart := false, narrowed := true }
def MeshBoxesUptoSaid : Prop := meshBoxesUptoRow.holds Try.pinned (OpenSpec.upto meshBoxesSpec)

/-- 'lightwelllaw12.MeshJoined', WHERE WHAT IT READS IS OF BULK AT MOST 1048576: true; the input reads as it did. -/
def meshJoinedUptoRow : OpenClaim := { program := "ytmadffhjgbpojaa", sum := "006332837eb3abb2ed72edf4052610fa4d8a0bde45e0c204eb6de3e4c387d2a3", func := "lightwell/lightwelllaw12.MeshJoined", spec := "meshJoined", unfollowed := true, recurses := true, apart := false, narrowed := true }
def MeshJoinedUptoSaid : Prop := meshJoinedUptoRow.holds Try.pinned (OpenSpec.upto meshJoinedSpec)

/-- 'lightwelllaw12.MeshNumbers', WHERE WHAT IT READS IS OF BULK AT MOST 1048576: true; the input reads as it did. -/
def meshNumbersUptoRow : OpenClaim := { program := "ytmadffhjgbpojaa", sum := "006332837eb3abb2ed72edf4052610fa4d8a0bde45e0c204eb6de3e4c387d2a3", func := "lightwell/lightwelllaw12.MeshNumbers", spec := "meshNumbers", unfollowed := true, recurses := true, apart := false, narrowed := true }
def MeshNumbersUptoSaid : Prop := meshNumbersUptoRow.holds Try.pinned (OpenSpec.upto meshNumbersSpec)

/-- 'lightwelllaw12.MeshBack', WHERE WHAT IT READS IS OF BULK AT MOST 1048576: true; the input reads as it did. -/
def meshBackUptoRow : OpenClaim := { program := "ytmadffhjgbpojaa", sum := "006332837eb3abb2ed72edf4052610fa4d8a0bde45e0c204eb6de3e4c387d2a3", func := "lightwell/lightwelllaw12.MeshBack", spec := "meshBack", unfollowed := true, recurses := true, apart := false, narrowed := true }
def MeshBackUptoSaid : Prop := meshBackUptoRow.holds Try.pinned (OpenSpec.upto meshBackSpec)

/-- 'lightwelllaw12.MeshApart', WHERE WHAT IT READS IS OF BULK AT MOST 1048576: true; the input reads as it did. -/
def meshApartUptoRow : OpenClaim := { program := "ytmadffhjgbpojaa", sum := "006332837eb3abb2ed72edf4052610fa4d8a0bde45e0c204eb6de3e4c387d2a3", func := "lightwell/lightwelllaw12.MeshApart", spec := "meshApart", unfollowed := true, recurses := true, apart := false, narrowed := true }
def MeshApartUptoSaid : Prop := meshApartUptoRow.holds Try.pinned (OpenSpec.upto meshApartSpec)

end Rows
end Go.Proofs.Ytmadffhjgbpojaa

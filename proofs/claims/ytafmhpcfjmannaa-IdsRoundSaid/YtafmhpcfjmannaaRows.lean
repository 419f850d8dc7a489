/-
  No cell of these rows narrows 'for every input' (looked for: loops, veiled, ifaces, maps, wideKeys, modest, calm, conditions, laid).
  DERIVED. THE GIVEN ROWS OF THIS SEAT. 6 by the template 'for every input the law returns true; each argument reads behind the call as it read before'; 0 by the template 'total and deterministic' (their statements: YtafmhpcfjmannaaTotals.lean).
  GIVEN WITH THE SEED: the statements are not yours to turn. If you find one false, say at which input.
  Laid BY PROGRAM, IN A SANDBOX (cutbox-rows.mjs): the forced cells as the released guide's own fill.sh prints them over the translation 10d60f6f0c99b48c… (all of the seat's roots in one cut). By AI agents, Wed Nov 11 2026. No macro, syntax, notation, axiom, sorry.
-/
import Derived.Test.YtafmhpcfjmannaaChecked
import GoSem.Claim
import GoSem.ClaimJoined
import GoSem.ClaimMapViews
import Derived.JoinedTies
import Derived.KernelRfl
namespace Go.Proofs.Ytafmhpcfjmannaa
/- THE CELL 'sum', in the pinned program and in every row, IS THE sha256 OF THE DUMP (.gsa) THAT YtafmhpcfjmannaaProg.lean LOADS. Nothing in Lean hashes anything: it is a label: what it is worth is what the hold of that sum in a sandbox is worth. -/
noncomputable def Try.pinned : Pinned := { name := "ytafmhpcfjmannaa", sum := "10d60f6f0c99b48ce328f8e45dcfbdf19f95b62c1b46570842115c934837ab6b", checked := Try.checked }
namespace Rows
def none {H : Type} : Left H := { results := [], args := [] }

/-- 'bellwetherlaw20.IdsPlays': WHATEVER THE INPUT: true; the input reads as it did. -/
def idsPlaysSpec : ChangeSpec := { name := "idsPlays", fn := fun _ => fun
  | [d] => { results := [.lit (.bool true)], args := [d] }
  | _ => none }
def idsPlaysRow : OpenClaim := { program := "ytafmhpcfjmannaa", sum := "10d60f6f0c99b48ce328f8e45dcfbdf19f95b62c1b46570842115c934837ab6b", func := "bellwether/bellwetherlaw20.IdsPlays", spec := "idsPlays", unfollowed := true, recurses := true, apart := false }
def IdsPlaysSaid : Prop := idsPlaysRow.holds Try.pinned (OpenSpec.ofChange idsPlaysSpec)

/-- ITS FALSE NEIGHBOUR: 'it returns false'. Refute it at one input. -/
def idsPlaysWrong : ChangeSpec := { name := "idsPlays", fn := fun _ => fun
  | [d] => { results := [.lit (.bool false)], args := [d] }
  | _ => none }
def IdsPlaysWrongFalsely : Prop := idsPlaysRow.holds Try.pinned (OpenSpec.ofChange idsPlaysWrong)

/-- 'bellwetherlaw20.IdsCut': WHATEVER THE INPUT: true; the input reads as it did. -/
def idsCutSpec : ChangeSpec := { name := "idsCut", fn := fun _ => fun
  | [d1, d2, d3, d4] => { results := [.lit (.bool true)], args := [d1, d2, d3, d4] }
  | _ => none }
def idsCutRow : OpenClaim := { program := "ytafmhpcfjmannaa", sum := "10d60f6f0c99b48ce328f8e45dcfbdf19f95b62c1b46570842115c934837ab6b", func := "bellwether/bellwetherlaw20.IdsCut", spec := "idsCut", unfollowed := true, recurses := true, apart := false }
def IdsCutSaid : Prop := idsCutRow.holds Try.pinned (OpenSpec.ofChange idsCutSpec)

/-- ITS FALSE NEIGHBOUR: 'it returns false'. Refute it at one input. -/
def idsCutWrong : ChangeSpec := { name := "idsCut", fn := fun _ => fun
  | [d1, d2, d3, d4] => { results := [.lit (.bool false)], args := [d1, d2, d3, d4] }
  | _ => none }
def IdsCutWrongFalsely : Prop := idsCutRow.holds Try.pinned (OpenSpec.ofChange idsCutWrong)

/-- 'bellwetherlaw20.IdsRound': WHATEVER THE INPUT: true; the input reads as it did. -/
def idsRoundSpec : ChangeSpec := { name := "idsRound", fn := fun _ => fun
  | [d1, d2] => { results := [.lit (.bool true)], args := [d1, d2] }
  | _ => none }
def idsRoundRow : OpenClaim := { program := "ytafmhpcfjmannaa", sum := "10d60f6f0c99b48ce328f8e45dcfbdf19f95b62c1b46570842115c934837ab6b", func := "bellwether/bellwetherlaw20.IdsRound", spec := "idsRound", unfollowed := true, recurses := true, apart := false }
def IdsRoundSaid : Prop := idsRoundRow.holds Try.pinned (OpenSpec.ofChange idsRoundSpec)

/-- ITS FALSE NEIGHBOUR: 'it returns false'. Refute it at one input. -/
def idsRoundWrong : ChangeSpec := { name := "idsRound", fn := fun _ => fun
  | [d1, d2] => { results := [.lit (.bool false)], args := [d1, d2] }
  | _ => none }
def IdsRoundWrongFalsely : Prop := idsRoundRow.holds Try.pinned (OpenSpec.ofChange idsRoundWrong)

/-- 'bellwetherlaw20.IdsBoth': WHATEVER THE INPUT: true; the input reads as it did. -/
def idsBothSpec : ChangeSpec := { name := "idsBoth", fn := fun _ => fun
  | [d1, d2, d3] => { results := [.lit (.bool true)], args := [d1, d2, d3] }
  | _ => none }
def idsBothRow : OpenClaim := { program := "ytafmhpcfjmannaa", sum := "10d60f6f0c99b48ce328f8e45dcfbdf19f95b62c1b46570842115c934837ab6b", func := "bellwether/bellwetherlaw20.IdsBoth", spec := "idsBoth", unfollowed := true, recurses := true, apart := false }
def IdsBothSaid : Prop := idsBothRow.holds Try.pinned (OpenSpec.ofChange idsBothSpec)

/-- ITS FALSE NEIGHBOUR: 'it returns false'. Refute it at one input. -/
def idsBothWrong : ChangeSpec := { name := "idsBoth", fn := fun _ => fun
  | [d1, d2, d3] => { results := [.lit (.bool false)], args := [d1, d2, d3] }
  | _ => none }
def IdsBothWrongFalsely : Prop := idsBothRow.holds Try.pinned (OpenSpec.ofChange idsBothWrong)

/-- 'bellwetherlaw20.IdsFull': WHATEVER THE INPUT: true; the input reads as it did. -/
def idsFullSpec : ChangeSpec := { name := "idsFull", fn := fun _ => fun
  | [d1, d2] => { results := [.lit (.bool true)], args := [d1, d2] }
  | _ => none }
def idsFullRow : OpenClaim := { program := "ytafmhpcfjmannaa", sum := "10d60f6f0c99b48ce328f8e45dcfbdf19f95b62c1b46570842115c934837ab6b", func := "bellwether/bellwetherlaw20.IdsFull", spec := "idsFull", unfollowed := true, recurses := true, apart := false }
def IdsFullSaid : Prop := idsFullRow.holds Try.pinned (OpenSpec.ofChange idsFullSpec)

/-- ITS FALSE NEIGHBOUR: 'it returns false'. Refute it at one input. -/
def idsFullWrong : ChangeSpec := { name := "idsFull", fn := fun _ => fun
  | [d1, d2] => { results := [.lit (.bool false)], args := [d1, d2] }
  | _ => none }
def IdsFullWrongFalsely : Prop := idsFullRow.holds Try.pinned (OpenSpec.ofChange idsFullWrong)

/-- 'bellwetherlaw20.IdsNil': WHATEVER THE INPUT: true; the input reads as it did. -/
def idsNilSpec : ChangeSpec := { name := "idsNil", fn := fun _ => fun
  | [d] => { results := [.lit (.bool true)], args := [d] }
  | _ => none }
def idsNilRow : OpenClaim := { program := "ytafmhpcfjmannaa", sum := "10d60f6f0c99b48ce328f8e45dcfbdf19f95b62c1b46570842115c934837ab6b", func := "bellwether/bellwetherlaw20.IdsNil", spec := "idsNil", unfollowed := true, recurses := true, apart := false }
def IdsNilSaid : Prop := idsNilRow.holds Try.pinned (OpenSpec.ofChange idsNilSpec)

/-- ITS FALSE NEIGHBOUR: 'it returns false'. Refute it at one input. -/
def idsNilWrong : ChangeSpec := { name := "idsNil", fn := fun _ => fun
  | [d] => { results := [.lit (.bool false)], args := [d] }
  | _ => none }
def IdsNilWrongFalsely : Prop := idsNilRow.holds Try.pinned (OpenSpec.ofChange idsNilWrong)

/- THE SECOND FORM. 'bulk': how many values and letters a reading holds, each counted each time it is reached (what is shared counts as often as it is met; a slice's spare places count too). A statement '..UptoSaid' is the law's where the arguments, and the package variables that the reading takes, are together of bulk at most 1048576: NARROWER than '..Said'. Prove '..Said' where nothing that the law and all that it calls make is longer than what came in: it says more and counts as full. Else prove '..UptoSaid'. A law counts once. -/
mutual
def uptoBulk {H : Type} : DataW H → Nat
  | .lit (.string bytes) => bytes.length + 1
  | .lit _ => 1
  | .nil => 1
  | .ptr d => uptoBulk d + 1
  | .slice elems spare => uptoBulkAll elems + uptoBulkAll spare + 1
  | .agg parts => uptoBulkAll parts + 1
  | .iface _ d => uptoBulk d + 1
  | .map entries => uptoBulkEntries entries + 1
  | .held _ => 1
def uptoBulkAll {H : Type} : List (DataW H) → Nat
  | [] => 0
  | d :: r => uptoBulk d + uptoBulkAll r
def uptoBulkEntries {H : Type} : List (Lit × DataW H) → Nat
  | [] => 0
  | x :: r => uptoBulkEntry x + uptoBulkEntries r
def uptoBulkEntry {H : Type} : Lit × DataW H → Nat
  | (.string bytes, d) => bytes.length + uptoBulk d + 1
  | (_, d) => uptoBulk d + 1
 end
def uptoSmall : (H : Type) → List (DataW H) → Bool := fun _ ds => decide (uptoBulkAll ds ≤ 1048576)
def OpenSpec.upto (s : _root_.Go.ChangeSpec) : _root_.Go.OpenSpec := { _root_.Go.OpenSpec.ofChange s with cond := some uptoSmall }

/-- 'bellwetherlaw20.IdsPlays', WHERE WHAT IT READS IS OF BULK AT MOST 1048576: true; the input reads as it did. -/
def idsPlaysUptoRow : OpenClaim := { program := "ytafmhpcfjmannaa", sum := "10d60f6f0c99b48ce328f8e45dcfbdf19f95b62c1b46570842115c934837ab6b", func := "bellwether/bellwetherlaw20.IdsPlays", spec := "idsPlays", unfollowed := true, recurses := true, apart := false, narrowed := true }
def IdsPlaysUptoSaid : Prop := idsPlaysUptoRow.holds Try.pinned (OpenSpec.upto idsPlaysSpec)

/-- 'bellwetherlaw20.IdsCut', WHERE WHAT IT READS IS OF BULK AT MOST 1048576: true; the input reads as it did. -/
def idsCutUptoRow : OpenClaim := { program := "ytafmhpcfjmannaa", sum := "10d60f6f0c99b48ce328f8e45dcfbdf19f95b62c1b46570842115c934837ab6b", func := "bellwether/bellwetherlaw20.IdsCut", spec := "idsCut", unfollowed := true, recurses := true, apart := false, narrowed := true }
def IdsCutUptoSaid : Prop := idsCutUptoRow.holds Try.pinned (OpenSpec.upto idsCutSpec)

/-- 'bellwetherlaw20.IdsRound', WHERE WHAT IT READS IS OF BULK AT MOST 1048576: true; the input reads as it did. -/
def idsRoundUptoRow : OpenClaim := { program := "ytafmhpcfjmannaa", sum := "10d60f6f0c99b48ce328f8e45dcfbdf19f95b62c1b46570842115c934837ab6b", func := "bellwether/bellwetherlaw20.IdsRound", spec := "idsRound", unfollowed := true, recurses := true, apart := false, narrowed := true }
def IdsRoundUptoSaid : Prop := idsRoundUptoRow.holds Try.pinned (OpenSpec.upto idsRoundSpec)

/-- 'bellwetherlaw20.IdsBoth', WHERE WHAT IT READS IS OF BULK AT MOST 1048576: true; the input reads as it did. -/
def idsBothUptoRow : OpenClaim := { program := "ytafmhpcfjmannaa", sum := "10d60f6f0c99b48ce328f8e45dcfbdf19f95b62c1b46570842115c934837ab6b", func := "bellwether/bellwetherlaw20.IdsBoth", spec := "idsBoth", unfollowed := true, recurses := true, apart := false, narrowed := true }
def IdsBothUptoSaid : Prop := idsBothUptoRow.holds Try.pinned (OpenSpec.upto idsBothSpec)

/-- 'bellwetherlaw20.IdsFull', WHERE WHAT IT READS IS OF BULK AT MOST 1048576: true; the input reads as it did. -/
def idsFullUptoRow : OpenClaim := { program := "ytafmhpcfjmannaa", sum := "10d60f6f0c99b48ce328f8e45dcfbdf19f95b62c1b46570842115c934837ab6b", func := "bellwether/bellwetherlaw20.IdsFull", spec := "idsFull", unfollowed := true, recurses := true, apart := false, narrowed := true }
def IdsFullUptoSaid : Prop := idsFullUptoRow.holds Try.pinned (OpenSpec.upto idsFullSpec)

/-- 'bellwetherlaw20.IdsNil', WHERE WHAT IT READS IS OF BULK AT MOST 1048576: true; the input reads as it did. -/
def idsNilUptoRow : OpenClaim := { program := "ytafmhpcfjmannaa", sum := "10d60f6f0c99b48ce328f8e45dcfbdf19f95b62c1b46570842115c934837ab6b", func := "bellwether/bellwetherlaw20.IdsNil", spec := "idsNil", unfollowed := true, recurses := true, apart := false, narrowed := true }
def IdsNilUptoSaid : Prop := idsNilUptoRow.holds Try.pinned (OpenSpec.upto idsNilSpec)

end Rows
end Go.Proofs.Ytafmhpcfjmannaa

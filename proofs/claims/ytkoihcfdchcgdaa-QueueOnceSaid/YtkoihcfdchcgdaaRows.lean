/-
  No cell of these rows narrows 'for every input' (looked for: loops, veiled, ifaces, maps, wideKeys, modest, calm, conditions, laid).
  DERIVED. THE GIVEN ROWS OF THIS SEAT. 6 by the template 'for every input the law returns true; each argument reads behind the call as it read before'; 0 by the template 'total and deterministic' (their statements: YtkoihcfdchcgdaaTotals.lean).
  GIVEN WITH THE SEED: the statements are not yours to turn. If you find one false, say at which input.
  Laid BY PROGRAM, IN A SANDBOX (cutbox-rows.mjs): the forced cells as the released guide's own fill.sh prints them over the translation 2d8f7c967618f98c… (all of the seat's roots in one cut). By AI agents, Wed Nov 11 2026. No macro, syntax, notation, axiom, sorry.
-/
import Derived.Test.YtkoihcfdchcgdaaChecked
import GoSem.Claim
import GoSem.ClaimJoined
import GoSem.ClaimMapViews
import Derived.JoinedTies
import Derived.KernelRfl
namespace Go.Proofs.Ytkoihcfdchcgdaa
/- THE CELL 'sum', in the pinned program and in every row, IS THE sha256 OF THE DUMP (.gsa) THAT YtkoihcfdchcgdaaProg.lean LOADS. Nothing in Lean hashes anything: it is a label: what it is worth is what the hold of that sum in a sandbox is worth. -/
noncomputable def Try.pinned : Pinned := { name := "ytkoihcfdchcgdaa", sum := "2d8f7c967618f98c8ae6d1ad90aa449725fef42e4385e6b043867db5f7a9a65f", checked := Try.checked }
namespace Rows
def none {H : Type} : Left H := { results := [], args := [] }

/-- 'bellwetherlaw21.QueueOrder': WHATEVER THE INPUT: true; the input reads as it did. -/
def queueOrderSpec : ChangeSpec := { name := "queueOrder", fn := fun _ => fun
  | [d1, d2] => { results := [.lit (.bool true)], args := [d1, d2] }
  | _ => none }
def queueOrderRow : OpenClaim := { program := "ytkoihcfdchcgdaa", sum := "2d8f7c967618f98c8ae6d1ad90aa449725fef42e4385e6b043867db5f7a9a65f", func := "bellwether/bellwetherlaw21.QueueOrder", spec := "queueOrder", unfollowed := true, recurses := true, apart := false }
def QueueOrderSaid : Prop := queueOrderRow.holds Try.pinned (OpenSpec.ofChange queueOrderSpec)

/-- ITS FALSE NEIGHBOUR: 'it returns false'. Refute it at one input. -/
def queueOrderWrong : ChangeSpec := { name := "queueOrder", fn := fun _ => fun
  | [d1, d2] => { results := [.lit (.bool false)], args := [d1, d2] }
  | _ => none }
def QueueOrderWrongFalsely : Prop := queueOrderRow.holds Try.pinned (OpenSpec.ofChange queueOrderWrong)

/-- 'bellwetherlaw21.QueueTries': WHATEVER THE INPUT: true; the input reads as it did. -/
def queueTriesSpec : ChangeSpec := { name := "queueTries", fn := fun _ => fun
  | [d1, d2] => { results := [.lit (.bool true)], args := [d1, d2] }
  | _ => none }
def queueTriesRow : OpenClaim := { program := "ytkoihcfdchcgdaa", sum := "2d8f7c967618f98c8ae6d1ad90aa449725fef42e4385e6b043867db5f7a9a65f", func := "bellwether/bellwetherlaw21.QueueTries", spec := "queueTries", unfollowed := true, recurses := true, apart := false }
def QueueTriesSaid : Prop := queueTriesRow.holds Try.pinned (OpenSpec.ofChange queueTriesSpec)

/-- ITS FALSE NEIGHBOUR: 'it returns false'. Refute it at one input. -/
def queueTriesWrong : ChangeSpec := { name := "queueTries", fn := fun _ => fun
  | [d1, d2] => { results := [.lit (.bool false)], args := [d1, d2] }
  | _ => none }
def QueueTriesWrongFalsely : Prop := queueTriesRow.holds Try.pinned (OpenSpec.ofChange queueTriesWrong)

/-- 'bellwetherlaw21.QueuePlays': WHATEVER THE INPUT: true; the input reads as it did. -/
def queuePlaysSpec : ChangeSpec := { name := "queuePlays", fn := fun _ => fun
  | [d1, d2, d3] => { results := [.lit (.bool true)], args := [d1, d2, d3] }
  | _ => none }
def queuePlaysRow : OpenClaim := { program := "ytkoihcfdchcgdaa", sum := "2d8f7c967618f98c8ae6d1ad90aa449725fef42e4385e6b043867db5f7a9a65f", func := "bellwether/bellwetherlaw21.QueuePlays", spec := "queuePlays", unfollowed := true, recurses := true, apart := false }
def QueuePlaysSaid : Prop := queuePlaysRow.holds Try.pinned (OpenSpec.ofChange queuePlaysSpec)

/-- ITS FALSE NEIGHBOUR: 'it returns false'. Refute it at one input. -/
def queuePlaysWrong : ChangeSpec := { name := "queuePlays", fn := fun _ => fun
  | [d1, d2, d3] => { results := [.lit (.bool false)], args := [d1, d2, d3] }
  | _ => none }
def QueuePlaysWrongFalsely : Prop := queuePlaysRow.holds Try.pinned (OpenSpec.ofChange queuePlaysWrong)

/-- 'bellwetherlaw21.QueueOnce': WHATEVER THE INPUT: true; the input reads as it did. -/
def queueOnceSpec : ChangeSpec := { name := "queueOnce", fn := fun _ => fun
  | [d1, d2, d3] => { results := [.lit (.bool true)], args := [d1, d2, d3] }
  | _ => none }
def queueOnceRow : OpenClaim := { program := "ytkoihcfdchcgdaa", sum := "2d8f7c967618f98c8ae6d1ad90aa449725fef42e4385e6b043867db5f7a9a65f", func := "bellwether/bellwetherlaw21.QueueOnce", spec := "queueOnce", unfollowed := true, recurses := true, apart := false }
def QueueOnceSaid : Prop := queueOnceRow.holds Try.pinned (OpenSpec.ofChange queueOnceSpec)

/-- ITS FALSE NEIGHBOUR: 'it returns false'. Refute it at one input. -/
def queueOnceWrong : ChangeSpec := { name := "queueOnce", fn := fun _ => fun
  | [d1, d2, d3] => { results := [.lit (.bool false)], args := [d1, d2, d3] }
  | _ => none }
def QueueOnceWrongFalsely : Prop := queueOnceRow.holds Try.pinned (OpenSpec.ofChange queueOnceWrong)

/-- 'bellwetherlaw21.QueueOld': WHATEVER THE INPUT: true; the input reads as it did. -/
def queueOldSpec : ChangeSpec := { name := "queueOld", fn := fun _ => fun
  | [d1, d2, d3] => { results := [.lit (.bool true)], args := [d1, d2, d3] }
  | _ => none }
def queueOldRow : OpenClaim := { program := "ytkoihcfdchcgdaa", sum := "2d8f7c967618f98c8ae6d1ad90aa449725fef42e4385e6b043867db5f7a9a65f", func := "bellwether/bellwetherlaw21.QueueOld", spec := "queueOld", unfollowed := true, recurses := true, apart := false }
def QueueOldSaid : Prop := queueOldRow.holds Try.pinned (OpenSpec.ofChange queueOldSpec)

/-- ITS FALSE NEIGHBOUR: 'it returns false'. Refute it at one input. -/
def queueOldWrong : ChangeSpec := { name := "queueOld", fn := fun _ => fun
  | [d1, d2, d3] => { results := [.lit (.bool false)], args := [d1, d2, d3] }
  | _ => none }
def QueueOldWrongFalsely : Prop := queueOldRow.holds Try.pinned (OpenSpec.ofChange queueOldWrong)

/-- 'bellwetherlaw21.QueueNil': WHATEVER THE INPUT: true; the input reads as it did. -/
def queueNilSpec : ChangeSpec := { name := "queueNil", fn := fun _ => fun
  | [d] => { results := [.lit (.bool true)], args := [d] }
  | _ => none }
def queueNilRow : OpenClaim := { program := "ytkoihcfdchcgdaa", sum := "2d8f7c967618f98c8ae6d1ad90aa449725fef42e4385e6b043867db5f7a9a65f", func := "bellwether/bellwetherlaw21.QueueNil", spec := "queueNil", unfollowed := true, recurses := true, apart := false }
def QueueNilSaid : Prop := queueNilRow.holds Try.pinned (OpenSpec.ofChange queueNilSpec)

/-- ITS FALSE NEIGHBOUR: 'it returns false'. Refute it at one input. -/
def queueNilWrong : ChangeSpec := { name := "queueNil", fn := fun _ => fun
  | [d] => { results := [.lit (.bool false)], args := [d] }
  | _ => none }
def QueueNilWrongFalsely : Prop := queueNilRow.holds Try.pinned (OpenSpec.ofChange queueNilWrong)

/- THE SECOND FORM. 'bulk': how many values and letters a reading holds, each counted each time it is reached (what is shared counts as often as it is met; a slice's spare places count too). A statement '..UptoSaid' is the law's where the arguments, and the package variables that the reading takes, are together of bulk at most 1048576: NARROWER than '..Said'. Prove '..Said' where nothing that the law and all that it calls make is longer than what came in: it says more and counts as full. Else prove '..UptoSaid'. A law counts once. -/
mutual
def uptoBulk {H : Type} : DataW H → Nat
  | .lit (.string bytes) => bytes.length + 1
  | .lit _ => 1
  | .nil => 1
  | .ptr d => uptoBulk d + 1
  | .slice elems spare => uptoBulkAll elems + uptoBulkAll spare + 1
  | .agg parts => uptoBulkAll parts + 1
  | .iface _ d => uptoBulk d + 1
  | .map entries => uptoBulkEntries entries + 1
  | .held _ => 1
def uptoBulkAll {H : Type} : List (DataW H) → Nat
  | [] => 0
  | d :: r => uptoBulk d + uptoBulkAll r
def uptoBulkEntries {H : Type} : List (Lit × DataW H) → Nat
  | [] => 0
  | x :: r => uptoBulkEntry x + uptoBulkEntries r
def uptoBulkEntry {H : Type} : Lit × DataW H → Nat
  | (.string bytes, d) => bytes.length + uptoBulk d + 1
  | (_, d) => uptoBulk d + 1
 end
def uptoSmall : (H : Type) → List (DataW H) → Bool := fun _ ds => decide (uptoBulkAll ds ≤ 1048576)
def OpenSpec.upto (s : _root_.Go.ChangeSpec) : _root_.Go.OpenSpec := { _root_.Go.OpenSpec.ofChange s with cond := some uptoSmall }

/-- 'bellwetherlaw21.QueueOrder', WHERE WHAT IT READS IS OF BULK AT MOST 1048576: true; the input reads as it did. -/
def queueOrderUptoRow : OpenClaim := { program := "ytkoihcfdchcgdaa", sum := "2d8f7c967618f98c8ae6d1ad90aa449725fef42e4385e6b043867db5f7a9a65f", func := "bellwether/bellwetherlaw21.QueueOrder", spec := "queueOrder", unfollowed := true, recurses := true, apart := false, narrowed := true }
def QueueOrderUptoSaid : Prop := queueOrderUptoRow.holds Try.pinned (OpenSpec.upto queueOrderSpec)

/-- 'bellwetherlaw21.QueueTries', WHERE WHAT IT READS IS OF BULK AT MOST 1048576: true; the input reads as it did. -/
def queueTriesUptoRow : OpenClaim := { program := "ytkoihcfdchcgdaa", sum := "2d8f7c967618f98c8ae6d1ad90aa449725fef42e4385e6b043867db5f7a9a65f", func := "bellwether/bellwetherlaw21.QueueTries", spec := "queueTries", unfollowed := true, recurses := true, apart := false, narrowed := true }
def QueueTriesUptoSaid : Prop := queueTriesUptoRow.holds Try.pinned (OpenSpec.upto queueTriesSpec)

/-- 'bellwetherlaw21.QueuePlays', WHERE WHAT IT READS IS OF BULK AT MOST 1048576: true; the input reads as it did. -/
def queuePlaysUptoRow : OpenClaim := { program := "ytkoihcfdchcgdaa", sum := "2d8f7c967618f98c8ae6d1ad90aa449725fef42e4385e6b043867db5f7a9a65f", func := "bellwether/bellwetherlaw21.QueuePlays", spec := "queuePlays", unfollowed := true, recurses := true, apart := false, narrowed := true }
def QueuePlaysUptoSaid : Prop := queuePlaysUptoRow.holds Try.pinned (OpenSpec.upto queuePlaysSpec)

/-- 'bellwetherlaw21.QueueOnce', WHERE WHAT IT READS IS OF BULK AT MOST 1048576: true; the input reads as it did. -/
def queueOnceUptoRow : OpenClaim := { program := "ytkoihcfdchcgdaa", sum := "2d8f7c967618f98c8ae6d1ad90aa449725fef42e4385e6b043867db5f7a9a65f", func := "bellwether/bellwetherlaw21.QueueOnce", spec := "queueOnce", unfollowed := true, recurses := true, apart := false, narrowed := true }
def QueueOnceUptoSaid : Prop := queueOnceUptoRow.holds Try.pinned (OpenSpec.upto queueOnceSpec)

/-- 'bellwetherlaw21.QueueOld', WHERE WHAT IT READS IS OF BULK AT MOST 1048576: true; the input reads as it did. -/
def queueOldUptoRow : OpenClaim := { program := "ytkoihcfdchcgdaa", sum := "2d8f7c967618f98c8ae6d1ad90aa449725fef42e4385e6b043867db5f7a9a65f", func := "bellwether/bellwetherlaw21.QueueOld", spec := "queueOld", unfollowed := true, recurses := true, apart := false, narrowed := true }
def QueueOldUptoSaid : Prop := queueOldUptoRow.holds Try.pinned (OpenSpec.upto queueOldSpec)

/-- 'bellwetherlaw21.QueueNil', WHERE WHAT IT READS IS OF BULK AT MOST 1048576: true; the input reads as it did. -/
def queueNilUptoRow : OpenClaim := { program := "ytkoihcfdchcgdaa", sum := "2d8f7c967618f98c8ae6d1ad90aa449725fef42e4385e6b043867db5f7a9a65f", func := "bellwether/bellwetherlaw21.QueueNil", spec := "queueNil", unfollowed := true, recurses := true, apart := false, narrowed := true }
def QueueNilUptoSaid : Prop := queueNilUptoRow.holds Try.pinned (OpenSpec.upto queueNilSpec)

end Rows
end Go.Proofs.Ytkoihcfdchcgdaa

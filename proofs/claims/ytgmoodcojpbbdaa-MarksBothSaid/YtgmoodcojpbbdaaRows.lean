/-
  No cell of these rows narrows 'for every input' (looked for: loops, veiled, ifaces, maps, wideKeys, modest, calm, conditions, laid).
  DERIVED. THE GIVEN ROWS OF THIS SEAT. 7 by the template 'for every input the law returns true; each argument reads behind the call as it read before'; 0 by the template 'total and deterministic' (their statements: YtgmoodcojpbbdaaTotals.lean).
  GIVEN WITH THE SEED: the statements are not yours to turn. If you find one false, say at which input.
  Laid BY PROGRAM, IN A SANDBOX (cutbox-rows.mjs): the forced cells as the released guide's own fill.sh prints them over the translation 1d4e25843af87193… (all of the seat's roots in one cut). By AI agents, Wed Nov 11 2026. No macro, syntax, notation, axiom, sorry.
-/
import Derived.Test.YtgmoodcojpbbdaaChecked
import GoSem.Claim
import GoSem.ClaimJoined
import GoSem.ClaimMapViews
import Derived.JoinedTies
import Derived.KernelRfl
namespace Go.Proofs.Ytgmoodcojpbbdaa
/- THE CELL 'sum', in the pinned program and in every row, IS THE sha256 OF THE DUMP (.gsa) THAT YtgmoodcojpbbdaaProg.lean LOADS. Nothing in Lean hashes anything: it is a label: what it is worth is what the hold of that sum in a sandbox is worth. -/
noncomputable def Try.pinned : Pinned := { name := "ytgmoodcojpbbdaa", sum := "1d4e25843af871936e556a6f168f03dff67ad696ff4c4af2f1877e17199b99b2", checked := Try.checked }
namespace Rows
def none {H : Type} : Left H := { results := [], args := [] }

/-- 'bellwetherlaw19.MarksPlays': WHATEVER THE INPUT: true; the input reads as it did. -/
def marksPlaysSpec : ChangeSpec := { name := "marksPlays", fn := fun _ => fun
  | [d] => { results := [.lit (.bool true)], args := [d] }
  | _ => none }
def marksPlaysRow : OpenClaim := { program := "ytgmoodcojpbbdaa", sum := "1d4e25843af871936e556a6f168f03dff67ad696ff4c4af2f1877e17199b99b2", func := "bellwether/bellwetherlaw19.MarksPlays", spec := "marksPlays", unfollowed := true, recurses := true, apart := false }
def MarksPlaysSaid : Prop := marksPlaysRow.holds Try.pinned (OpenSpec.ofChange marksPlaysSpec)

/-- ITS FALSE NEIGHBOUR: 'it returns false'. Refute it at one input. -/
def marksPlaysWrong : ChangeSpec := { name := "marksPlays", fn := fun _ => fun
  | [d] => { results := [.lit (.bool false)], args := [d] }
  | _ => none }
def MarksPlaysWrongFalsely : Prop := marksPlaysRow.holds Try.pinned (OpenSpec.ofChange marksPlaysWrong)

/-- 'bellwetherlaw19.MarksOnce': WHATEVER THE INPUT: true; the input reads as it did. -/
def marksOnceSpec : ChangeSpec := { name := "marksOnce", fn := fun _ => fun
  | [d] => { results := [.lit (.bool true)], args := [d] }
  | _ => none }
def marksOnceRow : OpenClaim := { program := "ytgmoodcojpbbdaa", sum := "1d4e25843af871936e556a6f168f03dff67ad696ff4c4af2f1877e17199b99b2", func := "bellwether/bellwetherlaw19.MarksOnce", spec := "marksOnce", unfollowed := true, recurses := true, apart := false }
def MarksOnceSaid : Prop := marksOnceRow.holds Try.pinned (OpenSpec.ofChange marksOnceSpec)

/-- ITS FALSE NEIGHBOUR: 'it returns false'. Refute it at one input. -/
def marksOnceWrong : ChangeSpec := { name := "marksOnce", fn := fun _ => fun
  | [d] => { results := [.lit (.bool false)], args := [d] }
  | _ => none }
def MarksOnceWrongFalsely : Prop := marksOnceRow.holds Try.pinned (OpenSpec.ofChange marksOnceWrong)

/-- 'bellwetherlaw19.MarksMeet': WHATEVER THE INPUT: true; the input reads as it did. -/
def marksMeetSpec : ChangeSpec := { name := "marksMeet", fn := fun _ => fun
  | [d1, d2] => { results := [.lit (.bool true)], args := [d1, d2] }
  | _ => none }
def marksMeetRow : OpenClaim := { program := "ytgmoodcojpbbdaa", sum := "1d4e25843af871936e556a6f168f03dff67ad696ff4c4af2f1877e17199b99b2", func := "bellwether/bellwetherlaw19.MarksMeet", spec := "marksMeet", unfollowed := true, recurses := true, apart := false }
def MarksMeetSaid : Prop := marksMeetRow.holds Try.pinned (OpenSpec.ofChange marksMeetSpec)

/-- ITS FALSE NEIGHBOUR: 'it returns false'. Refute it at one input. -/
def marksMeetWrong : ChangeSpec := { name := "marksMeet", fn := fun _ => fun
  | [d1, d2] => { results := [.lit (.bool false)], args := [d1, d2] }
  | _ => none }
def MarksMeetWrongFalsely : Prop := marksMeetRow.holds Try.pinned (OpenSpec.ofChange marksMeetWrong)

/-- 'bellwetherlaw19.MarksKeep': WHATEVER THE INPUT: true; the input reads as it did. -/
def marksKeepSpec : ChangeSpec := { name := "marksKeep", fn := fun _ => fun
  | [d1, d2] => { results := [.lit (.bool true)], args := [d1, d2] }
  | _ => none }
def marksKeepRow : OpenClaim := { program := "ytgmoodcojpbbdaa", sum := "1d4e25843af871936e556a6f168f03dff67ad696ff4c4af2f1877e17199b99b2", func := "bellwether/bellwetherlaw19.MarksKeep", spec := "marksKeep", unfollowed := true, recurses := true, apart := false }
def MarksKeepSaid : Prop := marksKeepRow.holds Try.pinned (OpenSpec.ofChange marksKeepSpec)

/-- ITS FALSE NEIGHBOUR: 'it returns false'. Refute it at one input. -/
def marksKeepWrong : ChangeSpec := { name := "marksKeep", fn := fun _ => fun
  | [d1, d2] => { results := [.lit (.bool false)], args := [d1, d2] }
  | _ => none }
def MarksKeepWrongFalsely : Prop := marksKeepRow.holds Try.pinned (OpenSpec.ofChange marksKeepWrong)

/-- 'bellwetherlaw19.MarksFull': WHATEVER THE INPUT: true; the input reads as it did. -/
def marksFullSpec : ChangeSpec := { name := "marksFull", fn := fun _ => fun
  | [d1, d2] => { results := [.lit (.bool true)], args := [d1, d2] }
  | _ => none }
def marksFullRow : OpenClaim := { program := "ytgmoodcojpbbdaa", sum := "1d4e25843af871936e556a6f168f03dff67ad696ff4c4af2f1877e17199b99b2", func := "bellwether/bellwetherlaw19.MarksFull", spec := "marksFull", unfollowed := true, recurses := true, apart := false }
def MarksFullSaid : Prop := marksFullRow.holds Try.pinned (OpenSpec.ofChange marksFullSpec)

/-- ITS FALSE NEIGHBOUR: 'it returns false'. Refute it at one input. -/
def marksFullWrong : ChangeSpec := { name := "marksFull", fn := fun _ => fun
  | [d1, d2] => { results := [.lit (.bool false)], args := [d1, d2] }
  | _ => none }
def MarksFullWrongFalsely : Prop := marksFullRow.holds Try.pinned (OpenSpec.ofChange marksFullWrong)

/-- 'bellwetherlaw19.MarksNil': WHATEVER THE INPUT: true; the input reads as it did. -/
def marksNilSpec : ChangeSpec := { name := "marksNil", fn := fun _ => fun
  | [d] => { results := [.lit (.bool true)], args := [d] }
  | _ => none }
def marksNilRow : OpenClaim := { program := "ytgmoodcojpbbdaa", sum := "1d4e25843af871936e556a6f168f03dff67ad696ff4c4af2f1877e17199b99b2", func := "bellwether/bellwetherlaw19.MarksNil", spec := "marksNil", unfollowed := true, recurses := true, apart := false }
def MarksNilSaid : Prop := marksNilRow.holds Try.pinned (OpenSpec.ofChange marksNilSpec)

/-- ITS FALSE NEIGHBOUR: 'it returns false'. Refute it at one input. -/
def marksNilWrong : ChangeSpec := { name := "marksNil", fn := fun _ => fun
  | [d] => { results := [.lit (.bool false)], args := [d] }
  | _ => none }
def MarksNilWrongFalsely : Prop := marksNilRow.holds Try.pinned (OpenSpec.ofChange marksNilWrong)

/-- 'bellwetherlaw19.MarksBoth': WHATEVER THE INPUT: true; the input reads as it did. -/
def marksBothSpec : ChangeSpec := { name := "marksBoth", fn := fun _ => fun
  | [d1, d2] => { results := [.lit (.bool true)], args := [d1, d2] }
  | _ => none }
def marksBothRow : OpenClaim := { program := "ytgmoodcojpbbdaa", sum := "1d4e25843af871936e556a6f168f03dff67ad696ff4c4af2f1877e17199b99b2", func := "bellwether/bellwetherlaw19.MarksBoth", spec := "marksBoth", unfollowed := true, recurses := true, apart := false }
def MarksBothSaid : Prop := marksBothRow.holds Try.pinned (OpenSpec.ofChange marksBothSpec)

/-- ITS FALSE NEIGHBOUR: 'it returns false'. Refute it at one input. -/
def marksBothWrong : ChangeSpec := { name := "marksBoth", fn := fun _ => fun
  | [d1, d2] => { results := [.lit (.bool false)], args := [d1, d2] }
  | _ => none }
def MarksBothWrongFalsely : Prop := marksBothRow.holds Try.pinned (OpenSpec.ofChange marksBothWrong)

/- THE SECOND FORM. 'bulk': how many values and letters a reading holds, each counted each time it is reached (what is shared counts as often as it is met; a slice's spare places count too). A statement '..UptoSaid' is the law's where the arguments, and the package variables that the reading takes, are together of bulk at most 1048576: NARROWER than '..Said'. Prove '..Said' where nothing that the law and all that it calls make is longer than what came in: it says more and counts as full. Else prove '..UptoSaid'. A law counts once. -/
mutual
def uptoBulk {H : Type} : DataW H → Nat
  | .lit (.string bytes) => bytes.length + 1
  | .lit _ => 1
  | .nil => 1
  | .ptr d => uptoBulk d + 1
  | .slice elems spare => uptoBulkAll elems + uptoBulkAll spare + 1
  | .agg parts => uptoBulkAll parts + 1
  | .iface _ d => uptoBulk d + 1
  | .map entries => uptoBulkEntries entries + 1
  | .held _ => 1
def uptoBulkAll {H : Type} : List (DataW H) → Nat
  | [] => 0
  | d :: r => uptoBulk d + uptoBulkAll r
def uptoBulkEntries {H : Type} : List (Lit × DataW H) → Nat
  | [] => 0
  | x :: r => uptoBulkEntry x + uptoBulkEntries r
def uptoBulkEntry {H : Type} : Lit × DataW H → Nat
  | (.string bytes, d) => bytes.length + uptoBulk d + 1
  | (_, d) => uptoBulk d + 1
 end
def uptoSmall : (H : Type) → List (DataW H) → Bool := fun _ ds => decide (uptoBulkAll ds ≤ 1048576)
def OpenSpec.upto (s : _root_.Go.ChangeSpec) : _root_.Go.OpenSpec := { _root_.Go.OpenSpec.ofChange s with cond := some uptoSmall }

/-- 'bellwetherlaw19.MarksPlays', WHERE WHAT IT READS IS OF BULK AT MOST 1048576: true; the input reads as it did. -/
def marksPlaysUptoRow : OpenClaim := { program := "ytgmoodcojpbbdaa", sum := "1d4e25843af871936e556a6f168f03dff67ad696ff4c4af2f1877e17199b99b2", func := "bellwether/bellwetherlaw19.MarksPlays", spec := "marksPlays", unfollowed := true, recurses := true, apart := false, narrowed := true }
def MarksPlaysUptoSaid : Prop := marksPlaysUptoRow.holds Try.pinned (OpenSpec.upto marksPlaysSpec)

/-- 'bellwetherlaw19.MarksOnce', WHERE WHAT IT READS IS OF BULK AT MOST 1048576: true; the input reads as it did. -/
def marksOnceUptoRow : OpenClaim := { program := "ytgmoodcojpbbdaa", sum := "1d4e25843af871936e556a6f168f03dff67ad696ff4c4af2f1877e17199b99b2", func := "bellwether/bellwetherlaw19.MarksOnce", spec := "marksOnce", unfollowed := true, recurses := true, apart := false, narrowed := true }
def MarksOnceUptoSaid : Prop := marksOnceUptoRow.holds Try.pinned (OpenSpec.upto marksOnceSpec)

/-- 'bellwetherlaw19.MarksMeet', WHERE WHAT IT READS IS OF BULK AT MOST 1048576: true; the input reads as it did. -/
def marksMeetUptoRow : OpenClaim := { program := "ytgmoodcojpbbdaa", sum := "1d4e25843af871936e556a6f168f03dff67ad696ff4c4af2f1877e17199b99b2", func := "bellwether/bellwetherlaw19.MarksMeet", spec := "marksMeet", unfollowed := true, recurses := true, apart := false, narrowed := true }
def MarksMeetUptoSaid : Prop := marksMeetUptoRow.holds Try.pinned (OpenSpec.upto marksMeetSpec)

/-- 'bellwetherlaw19.MarksKeep', WHERE WHAT IT READS IS OF BULK AT MOST 1048576: true; the input reads as it did. -/
def marksKeepUptoRow : OpenClaim := { program := "ytgmoodcojpbbdaa", sum := "1d4e25843af871936e556a6f168f03dff67ad696ff4c4af2f1877e17199b99b2", func := "bellwether/bellwetherlaw19.MarksKeep", spec := "marksKeep", unfollowed := true, recurses := true, apart := false, narrowed := true }
def MarksKeepUptoSaid : Prop := marksKeepUptoRow.holds Try.pinned (OpenSpec.upto marksKeepSpec)

/-- 'bellwetherlaw19.MarksFull', WHERE WHAT IT READS IS OF BULK AT MOST 1048576: true; the input reads as it did. -/
def marksFullUptoRow : OpenClaim := { program := "ytgmoodcojpbbdaa", sum := "1d4e25843af871936e556a6f168f03dff67ad696ff4c4af2f1877e17199b99b2", func := "bellwether/bellwetherlaw19.MarksFull", spec := "marksFull", unfollowed := true, recurses := true, apart := false, narrowed := true }
def MarksFullUptoSaid : Prop := marksFullUptoRow.holds Try.pinned (OpenSpec.upto marksFullSpec)

/-- 'bellwetherlaw19.MarksNil', WHERE WHAT IT READS IS OF BULK AT MOST 1048576: true; the input reads as it did. -/
def marksNilUptoRow : OpenClaim := { program := "ytgmoodcojpbbdaa", sum := "1d4e25843af871936e556a6f168f03dff67ad696ff4c4af2f1877e17199b99b2", func := "bellwether/bellwetherlaw19.MarksNil", spec := "marksNil", unfollowed := true, recurses := true, apart := false, narrowed := true }
def MarksNilUptoSaid : Prop := marksNilUptoRow.holds Try.pinned (OpenSpec.upto marksNilSpec)

/-- 'bellwetherlaw19.MarksBoth', WHERE WHAT IT READS IS OF BULK AT MOST 1048576: true; the input reads as it did. -/
def marksBothUptoRow : OpenClaim := { program := "ytgmoodcojpbbdaa", sum := "1d4e25843af871936e556a6f168f03dff67ad696ff4c4af2f1877e17199b99b2", func := "bellwether/bellwetherlaw19.MarksBoth", spec := "marksBoth", unfollowed := true, recurses := true, apart := false, narrowed := true }
def MarksBothUptoSaid : Prop := marksBothUptoRow.holds Try.pinned (OpenSpec.upto marksBothSpec)

end Rows
end Go.Proofs.Ytgmoodcojpbbdaa

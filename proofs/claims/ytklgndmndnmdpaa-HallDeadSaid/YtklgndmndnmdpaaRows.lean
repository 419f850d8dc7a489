/-
  No cell of these rows narrows 'for every input' (looked for: loops, veiled, ifaces, maps, wideKeys, modest, calm, conditions, laid).
  DERIVED. THE GIVEN ROWS OF THIS SEAT. 6 by the template 'for every input the law returns true; each argument reads behind the call as it read before'; 0 by the template 'total and deterministic' (their statements: YtklgndmndnmdpaaTotals.lean).
  GIVEN WITH THE SEED: the statements are not yours to turn. If you find one false, say at which input.
  Laid BY PROGRAM, IN A SANDBOX (cutbox-rows.mjs): the forced cells as the released guide's own fill.sh prints them over the translation 08278e37ddf673be… (all of the seat's roots in one cut). By AI agents, Wed Nov 11 2026. No macro, syntax, notation, axiom, sorry.
-/
import Derived.Test.YtklgndmndnmdpaaChecked
import GoSem.Claim
import GoSem.ClaimJoined
import GoSem.ClaimMapViews
import Derived.JoinedTies
import Derived.KernelRfl
namespace Go.Proofs.Ytklgndmndnmdpaa
/- THE CELL 'sum', in the pinned program and in every row, IS THE sha256 OF THE DUMP (.gsa) THAT YtklgndmndnmdpaaProg.lean LOADS. Nothing in Lean hashes anything: it is a label: what it is worth is what the hold of that sum in a sandbox is worth. -/
noncomputable def Try.pinned : Pinned := { name := "ytklgndmndnmdpaa", sum := "08278e37ddf673be44bae220c93f7d8b2d7e05971b0ce1fead96190170c7ca12", checked := Try.checked }
namespace Rows
def none {H : Type} : Left H := { results := [], args := [] }

/-- 'bellwetherlaw22.HallRefuses': WHATEVER THE INPUT: true; the input reads as it did. -/
def hallRefusesSpec : ChangeSpec := { name := "hallRefuses", fn := fun _ => fun
  | [d1, d2] => { results := [.lit (.bool true)], args := [d1, d2] }
  | _ => none }
def hallRefusesRow : OpenClaim := { program := "ytklgndmndnmdpaa", sum := "08278e37ddf673be44bae220c93f7d8b2d7e05971b0ce1fead96190170c7ca12", func := "bellwether/bellwetherlaw22.HallRefuses", spec := "hallRefuses", unfollowed := true, recurses := true, plainKeys := false, apart := false }
def HallRefusesSaid : Prop := hallRefusesRow.holds Try.pinned (OpenSpec.ofChange hallRefusesSpec)

/-- ITS FALSE NEIGHBOUR: 'it returns false'. Refute it at one input. -/
def hallRefusesWrong : ChangeSpec := { name := "hallRefuses", fn := fun _ => fun
  | [d1, d2] => { results := [.lit (.bool false)], args := [d1, d2] }
  | _ => none }
def HallRefusesWrongFalsely : Prop := hallRefusesRow.holds Try.pinned (OpenSpec.ofChange hallRefusesWrong)

/-- 'bellwetherlaw22.HallPlays': WHATEVER THE INPUT: true; the input reads as it did. -/
def hallPlaysSpec : ChangeSpec := { name := "hallPlays", fn := fun _ => fun
  | [d1, d2] => { results := [.lit (.bool true)], args := [d1, d2] }
  | _ => none }
def hallPlaysRow : OpenClaim := { program := "ytklgndmndnmdpaa", sum := "08278e37ddf673be44bae220c93f7d8b2d7e05971b0ce1fead96190170c7ca12", func := "bellwether/bellwetherlaw22.HallPlays", spec := "hallPlays", unfollowed := true, recurses := true, plainKeys := false, apart := false }
def HallPlaysSaid : Prop := hallPlaysRow.holds Try.pinned (OpenSpec.ofChange hallPlaysSpec)

/-- ITS FALSE NEIGHBOUR: 'it returns false'. Refute it at one input. -/
def hallPlaysWrong : ChangeSpec := { name := "hallPlays", fn := fun _ => fun
  | [d1, d2] => { results := [.lit (.bool false)], args := [d1, d2] }
  | _ => none }
def HallPlaysWrongFalsely : Prop := hallPlaysRow.holds Try.pinned (OpenSpec.ofChange hallPlaysWrong)

/-- 'bellwetherlaw22.HallOnce': WHATEVER THE INPUT: true; the input reads as it did. -/
def hallOnceSpec : ChangeSpec := { name := "hallOnce", fn := fun _ => fun
  | [d1, d2] => { results := [.lit (.bool true)], args := [d1, d2] }
  | _ => none }
def hallOnceRow : OpenClaim := { program := "ytklgndmndnmdpaa", sum := "08278e37ddf673be44bae220c93f7d8b2d7e05971b0ce1fead96190170c7ca12", func := "bellwether/bellwetherlaw22.HallOnce", spec := "hallOnce", unfollowed := true, recurses := true, plainKeys := false, apart := false }
def HallOnceSaid : Prop := hallOnceRow.holds Try.pinned (OpenSpec.ofChange hallOnceSpec)

/-- ITS FALSE NEIGHBOUR: 'it returns false'. Refute it at one input. -/
def hallOnceWrong : ChangeSpec := { name := "hallOnce", fn := fun _ => fun
  | [d1, d2] => { results := [.lit (.bool false)], args := [d1, d2] }
  | _ => none }
def HallOnceWrongFalsely : Prop := hallOnceRow.holds Try.pinned (OpenSpec.ofChange hallOnceWrong)

/-- 'bellwetherlaw22.HallDead': WHATEVER THE INPUT: true; the input reads as it did. -/
def hallDeadSpec : ChangeSpec := { name := "hallDead", fn := fun _ => fun
  | [d1, d2, d3, d4] => { results := [.lit (.bool true)], args := [d1, d2, d3, d4] }
  | _ => none }
def hallDeadRow : OpenClaim := { program := "ytklgndmndnmdpaa", sum := "08278e37ddf673be44bae220c93f7d8b2d7e05971b0ce1fead96190170c7ca12", func := "bellwether/bellwetherlaw22.HallDead", spec := "hallDead", unfollowed := true, recurses := true, plainKeys := false, apart := false }
def HallDeadSaid : Prop := hallDeadRow.holds Try.pinned (OpenSpec.ofChange hallDeadSpec)

/-- ITS FALSE NEIGHBOUR: 'it returns false'. Refute it at one input. -/
def hallDeadWrong : ChangeSpec := { name := "hallDead", fn := fun _ => fun
  | [d1, d2, d3, d4] => { results := [.lit (.bool false)], args := [d1, d2, d3, d4] }
  | _ => none }
def HallDeadWrongFalsely : Prop := hallDeadRow.holds Try.pinned (OpenSpec.ofChange hallDeadWrong)

/-- 'bellwetherlaw22.HallApart': WHATEVER THE INPUT: true; the input reads as it did. -/
def hallApartSpec : ChangeSpec := { name := "hallApart", fn := fun _ => fun
  | [d] => { results := [.lit (.bool true)], args := [d] }
  | _ => none }
def hallApartRow : OpenClaim := { program := "ytklgndmndnmdpaa", sum := "08278e37ddf673be44bae220c93f7d8b2d7e05971b0ce1fead96190170c7ca12", func := "bellwether/bellwetherlaw22.HallApart", spec := "hallApart", unfollowed := true, recurses := true, plainKeys := false, apart := false }
def HallApartSaid : Prop := hallApartRow.holds Try.pinned (OpenSpec.ofChange hallApartSpec)

/-- ITS FALSE NEIGHBOUR: 'it returns false'. Refute it at one input. -/
def hallApartWrong : ChangeSpec := { name := "hallApart", fn := fun _ => fun
  | [d] => { results := [.lit (.bool false)], args := [d] }
  | _ => none }
def HallApartWrongFalsely : Prop := hallApartRow.holds Try.pinned (OpenSpec.ofChange hallApartWrong)

/-- 'bellwetherlaw22.HallNil': WHATEVER THE INPUT: true; the input reads as it did. -/
def hallNilSpec : ChangeSpec := { name := "hallNil", fn := fun _ => fun
  | [d] => { results := [.lit (.bool true)], args := [d] }
  | _ => none }
def hallNilRow : OpenClaim := { program := "ytklgndmndnmdpaa", sum := "08278e37ddf673be44bae220c93f7d8b2d7e05971b0ce1fead96190170c7ca12", func := "bellwether/bellwetherlaw22.HallNil", spec := "hallNil", unfollowed := true, recurses := true, plainKeys := false, apart := false }
def HallNilSaid : Prop := hallNilRow.holds Try.pinned (OpenSpec.ofChange hallNilSpec)

/-- ITS FALSE NEIGHBOUR: 'it returns false'. Refute it at one input. -/
def hallNilWrong : ChangeSpec := { name := "hallNil", fn := fun _ => fun
  | [d] => { results := [.lit (.bool false)], args := [d] }
  | _ => none }
def HallNilWrongFalsely : Prop := hallNilRow.holds Try.pinned (OpenSpec.ofChange hallNilWrong)

/- THE SECOND FORM. 'bulk': how many values and letters a reading holds, each counted each time it is reached (what is shared counts as often as it is met; a slice's spare places count too). A statement '..UptoSaid' is the law's where the arguments, and the package variables that the reading takes, are together of bulk at most 1048576: NARROWER than '..Said'. Prove '..Said' where nothing that the law and all that it calls make is longer than what came in: it says more and counts as full. Else prove '..UptoSaid'. A law counts once. -/
mutual
def uptoBulk {H : Type} : DataW H → Nat
  | .lit (.string bytes) => bytes.length + 1
  | .lit _ => 1
  | .nil => 1
  | .ptr d => uptoBulk d + 1
  | .slice elems spare => uptoBulkAll elems + uptoBulkAll spare + 1
  | .agg parts => uptoBulkAll parts + 1
  | .iface _ d => uptoBulk d + 1
  | .map entries => uptoBulkEntries entries + 1
  | .held _ => 1
def uptoBulkAll {H : Type} : List (DataW H) → Nat
  | [] => 0
  | d :: r => uptoBulk d + uptoBulkAll r
def uptoBulkEntries {H : Type} : List (Lit × DataW H) → Nat
  | [] => 0
  | x :: r => uptoBulkEntry x + uptoBulkEntries r
def uptoBulkEntry {H : Type} : Lit × DataW H → Nat
  | (.string bytes, d) => bytes.length + uptoBulk d + 1
  | (_, d) => uptoBulk d + 1
 end
def uptoSmall : (H : Type) → List (DataW H) → Bool := fun _ ds => decide (uptoBulkAll ds ≤ 1048576)
def OpenSpec.upto (s : _root_.Go.ChangeSpec) : _root_.Go.OpenSpec := { _root_.Go.OpenSpec.ofChange s with cond := some uptoSmall }

/-- 'bellwetherlaw22.HallRefuses', WHERE WHAT IT READS IS OF BULK AT MOST 1048576: true; the input reads as it did. -/
def hallRefusesUptoRow : OpenClaim := { program := "ytklgndmndnmdpaa", sum := "08278e37ddf673be44bae220c93f7d8b2d7e05971b0ce1fead96190170c7ca12", func := "bellwether/bellwetherlaw22.HallRefuses", spec := "hallRefuses", unfollowed := true, recurses := true, plainKeys := false, apart := false, narrowed := true }
def HallRefusesUptoSaid : Prop := hallRefusesUptoRow.holds Try.pinned (OpenSpec.upto hallRefusesSpec)

/-- 'bellwetherlaw22.HallPlays', WHERE WHAT IT READS IS OF BULK AT MOST 1048576: true; the input reads as it did. -/
def hallPlaysUptoRow : OpenClaim := { program := "ytklgndmndnmdpaa", sum := "08278e37ddf673be44bae220c93f7d8b2d7e05971b0ce1fead96190170c7ca12", func := "bellwether/bellwetherlaw22.HallPlays", spec := "hallPlays", unfollowed := true, recurses := true, plainKeys := false, apart := false, narrowed := true }
def HallPlaysUptoSaid : Prop := hallPlaysUptoRow.holds Try.pinned (OpenSpec.upto hallPlaysSpec)

/-- 'bellwetherlaw22.HallOnce', WHERE WHAT IT READS IS OF BULK AT MOST 1048576: true; the input reads as it did. -/
def hallOnceUptoRow : OpenClaim := { program := "ytklgndmndnmdpaa", sum := "08278e37ddf673be44bae220c93f7d8b2d7e05971b0ce1fead96190170c7ca12", func := "bellwether/bellwetherlaw22.HallOnce", spec := "hallOnce", unfollowed := true, recurses := true, plainKeys := false, apart := false, narrowed := true }
def HallOnceUptoSaid : Prop := hallOnceUptoRow.holds Try.pinned (OpenSpec.upto hallOnceSpec)

/-- 'bellwetherlaw22.HallDead', WHERE WHAT IT READS IS OF BULK AT MOST 1048576: true; the input reads as it did. -/
def hallDeadUptoRow : OpenClaim := { program := "ytklgndmndnmdpaa", sum := "08278e37ddf673be44bae220c93f7d8b2d7e05971b0ce1fead96190170c7ca12", func := "bellwether/bellwetherlaw22.HallDead", spec := "hallDead", unfollowed := true, recurses := true, plainKeys := false, apart := false, narrowed := true }
def HallDeadUptoSaid : Prop := hallDeadUptoRow.holds Try.pinned (OpenSpec.upto hallDeadSpec)

/-- 'bellwetherlaw22.HallApart', WHERE WHAT IT READS IS OF BULK AT MOST 1048576: true; the input reads as it did. -/
def hallApartUptoRow : OpenClaim := { program := "ytklgndmndnmdpaa", sum := "08278e37ddf673be44bae220c93f7d8b2d7e05971b0ce1fead96190170c7ca12", func := "bellwether/bellwetherlaw22.HallApart", spec := "hallApart", unfollowed := true, recurses := true, plainKeys := false, apart := false, narrowed := true }
def HallApartUptoSaid : Prop := hallApartUptoRow.holds Try.pinned (OpenSpec.upto hallApartSpec)

/-- 'bellwetherlaw22.HallNil', WHERE WHAT IT READS IS OF BULK AT MOST 1048576: true; the input reads as it did. -/
def hallNilUptoRow : OpenClaim := { program := "ytklgndmndnmdpaa", sum := "08278e37ddf673be44bae220c93f7d8b2d7e05971b0ce1fead96190170c7ca12", func := "bellwether/bellwetherlaw22.HallNil", spec := "hallNil", unfollowed := true, recurses := true, plainKeys := false, apart := false, narrowed := true }
def HallNilUptoSaid : Prop := hallNilUptoRow.holds Try.pinned (OpenSpec.upto hallNilSpec)

end Rows
end Go.Proofs.Ytklgndmndnmdpaa

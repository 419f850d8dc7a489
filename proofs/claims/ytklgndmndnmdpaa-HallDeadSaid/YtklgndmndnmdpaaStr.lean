import Derived.Test.YtklgndmndnmdpaaMap
set_option linter.unusedVariables false
set_option linter.unusedSimpArgs false
namespace Go.Proofs.Ytklgndmndnmdpaa
open Go.RowKit

/-- A string of bytes. -/
def str (l : List UInt8) : Value := .string ⟨l.toArray⟩
theorem str_inj {l m : List UInt8} (h : str l = str m) : l = m := by
  unfold str at h
  simp only [Value.string.injEq, ByteArray.mk.injEq] at h
  exact Array.toList_inj.2 h |> fun h => by simpa using h
theorem bytes_beq (l m : List UInt8) : ((⟨l.toArray⟩ : ByteArray) == ⟨m.toArray⟩) = decide (l = m) := by
  show ByteArray.beq ⟨l.toArray⟩ ⟨m.toArray⟩ = _
  unfold ByteArray.beq
  by_cases h : l = m
  · subst h; simp
  · simp [h]
theorem same_str (a b : List UInt8) : Instr.sameNow .string (str a) (str b) = some (decide (a = b)) := congrArg some (bytes_beq a b)
theorem check_str (em : Bool) (a : List UInt8) (w : World) : (Instr.checkKey em 10000 9 (str a)).run Try.prog w = .ok () w := by
  unfold Instr.checkKey
  rw [Sem.run_bind, run_underlying Try.underlying9]
  rfl
theorem bits_str (a : List UInt8) : Instr.sameBits 10000 (str a) (str a) = true := by
  unfold str Instr.sameBits
  rw [bytes_beq]
  simp
theorem keyStr : KeyOK Try.prog 9 str := ⟨⟨_, Try.underlying9, same_str, check_str⟩, bits_str⟩
theorem str_one (l : List UInt8) : (str l).oneCell' = true := rfl
end Go.Proofs.Ytklgndmndnmdpaa

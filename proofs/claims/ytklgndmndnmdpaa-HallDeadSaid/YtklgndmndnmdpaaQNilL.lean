import Derived.Test.YtklgndmndnmdpaaQVast
set_option linter.unusedVariables false
set_option linter.unusedSimpArgs false
namespace Go.Proofs.Ytklgndmndnmdpaa
open Go.RowKit Go.Shelf

def zMg : Mg := ⟨0, 0, 0, [], []⟩
def zEn : En := ⟨0, zMg, 0, false⟩
theorem bdv_nil (W : World) : Bdv W (.slice none 0 0) [] := Bdv.of_own (B := 0) OwnB.nil_
theorem len_nil (w : World) : Calls Try.prog 48 #[.pointer none] w fun e w' => e = .returned (.tuple #[.int .i64 0, .int .i64 0]) ∧ Below w.heap.size w w' :=
  qlen_calls w none (fun _ : En => .bool true) (fun _ => []) (seqP_nil w _) (by simp)
theorem list_nil (w : World) : Calls Try.prog 46 #[.pointer none] w fun e w' => ∃ v, e = .returned v ∧ (∃ A c, v = .slice A 0 c) ∧ Below w.heap.size w w' := by
  refine (qlist_calls w none (fun _ => []) (fun _ => 0) (fun _ => .slice none 0 0) (seqP_nil w _) (by simp) (by simp)).mono ?_
  rintro r w' ⟨v, its, rfl, hi, ho, -, hb⟩
  obtain rfl : its = [] := by simpa using hi
  obtain ⟨A, c, hv, -⟩ := ho.rd
  exact ⟨v, rfl, ⟨A, c, hv⟩, hb⟩
theorem acq_nil (w : World) (now : Int) : Calls Try.prog 53 #[.pointer none, .int .i64 now] w fun r w' => r = .returned (.tuple #[.agg zItem.toArray, .bool false]) ∧ Below w.heap.size w w' := by
  refine (qacq_calls w none now (fun _ => []) (fun _ => 0) (fun _ => .slice none 0 0) (seqP_nil w _) (by simp)).mono ?_
  rintro r w' (⟨-, rfl, hb⟩ | ⟨e, v, hf, -⟩)
  · exact ⟨rfl, hb⟩
  · cases hf
end Go.Proofs.Ytklgndmndnmdpaa

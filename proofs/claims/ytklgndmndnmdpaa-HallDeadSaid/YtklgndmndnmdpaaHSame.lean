import Derived.Test.YtklgndmndnmdpaaHList
set_option linter.unusedVariables false
set_option linter.unusedSimpArgs false
namespace Go.Proofs.Ytklgndmndnmdpaa
open Go.RowKit Go.Shelf

set_option maxRecDepth 100000 in
set_option maxHeartbeats 1000000 in
/-- One message twice is the same. -/
theorem rsame_calls {w : World} (m : Mg) (A B : Option Addr) (c d n : Nat) (hn : m.body.length = n) (h : Rd w A c m.body) (k : Rd w B d m.body) :
    Calls Try.prog 15 #[mgv m (.slice A n c), mgv m (.slice B n d)] w fun e w' => e = .returned (.bool true) ∧ Below w.heap.size w w' := by
  have H := Lib.hid h
  have HK := Lib.hid k
  have HN := Lib.hid hn
  clear h k hn
  rw [mgv_eq', mgv_eq']
  go_enter Try.func15, Try.ntmps15
  go_wp2_with fail
  have hb : ∀ a b : Obj, Below w.heap.size w ((w.alloc a).alloc b) := fun a b => (below_alloc w a).alloc (by simp) b
  have hcl := eq_calls A B c d m.body m.body _ (H.out.below (hb (.cells #[.int .u8 m.pr, .int .u32 m.ttl, .int .u32 m.cnt, .string ⟨m.ids.toArray⟩, .slice A n c] 41) (.cells #[.int .u8 m.pr, .int .u32 m.ttl, .int .u32 m.cnt, .string ⟨m.ids.toArray⟩, .slice B n d] 41))) (HK.out.below (hb _ _))
  rw [HN.out] at hcl
  refine hcl.mono ?_
  rintro e w' ⟨rfl, rfl⟩
  rw [show decide (m.body = m.body) = true from decide_eq_true rfl]
  go_wp2_with fail
  go_ret
  exact ⟨rfl, hb _ _⟩

end Go.Proofs.Ytklgndmndnmdpaa

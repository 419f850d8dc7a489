import Derived.Test.YtkihafkiinhbkaaOpen
import Derived.Lib.SmallJoins
import Derived.WideShapes
set_option linter.unusedVariables false
set_option linter.unusedSimpArgs false
namespace Go.Proofs.Ytkihafkiinhbkaa
open Go.RowKit Go.WideShapes Go.Joins
variable {H : Type} {enc : TypeId × Value → H} {W : World} {base b0 : Nat} {spare : Nat → Bool} {held : Bool} {r : Reach}

theorem cells_frame : Try.prog.cellsOf 25 = 2 := by kernel_rfl

/-- A frame by value that came in. -/
theorem open_frame {v : Value} {d : DataW H} {p : List MemPlace} (hv : Value.okWide Try.prog W r b0 25 v) (h : DataW.Trod enc Try.prog W base spare held 25 v d p) :
    ∃ (ch : Nat) (A : Option Addr) (c : Nat) (l : List UInt8), v = .agg #[.int .u16 ch, .slice A l.length c] ∧ ch ≤ 65535 ∧ Rd W A c l := by
  obtain ⟨c0, c1, y0, y1, m, rfl, rfl, rfl, hy0, hy1⟩ := open_agg2 Try.underlying25 (by kernel_rfl) cells_frame hv h
  obtain ⟨z, e0, _, wz⟩ := DataW.trod_int Try.underlying22 hy0
  obtain ⟨A, c, l, e1, hr⟩ := open_bytes hy1
  simp only [List.cons.injEq, and_true] at e0 e1
  subst e0 e1
  obtain ⟨h0, h1⟩ := wf_u16 wz
  obtain ⟨n, rfl⟩ := Int.eq_ofNat_of_zero_le h0
  exact ⟨n, A, c, l, rfl, by omega, hr⟩
end Go.Proofs.Ytkihafkiinhbkaa

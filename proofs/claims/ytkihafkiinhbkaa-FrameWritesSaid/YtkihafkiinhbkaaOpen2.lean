import Derived.Test.YtkihafkiinhbkaaOpen
import Derived.Lib.SmallJoins
import Derived.WideShapes
set_option linter.unusedVariables false
set_option linter.unusedSimpArgs false
namespace Go.Proofs.Ytkihafkiinhbkaa
open Go.RowKit Go.WideShapes Go.Joins
variable {H : Type} {enc : TypeId × Value → H} {W : World} {base b0 : Nat} {spare : Nat → Bool} {held : Bool} {r : Reach}

theorem cells_frame : Try.prog.cellsOf 25 = 2 := by kernel_rfl

/-- A frame by value that came in. -/
theorem open_frame {v : Value} {d : DataW H} {p : List MemPlace} (hv : Value.okWide Try.prog W r b0 25 v) (h : DataW.Trod enc Try.prog W base spare held 25 v d p) :
    ∃ (ch : Nat) (A : Option Addr) (c : Nat) (l : List UInt8), v = .agg #[.int .u16 ch, .slice A l.length c] ∧ ch ≤ 65535 ∧ Rd W A c l := by
  obtain ⟨c0, c1, y0, y1, m, rfl, rfl, rfl, hy0, hy1⟩ := open_agg2 Try.underlying25 (by kernel_rfl) cells_frame hv h
  obtain ⟨z, e0, _, wz⟩ := DataW.trod_int Try.underlying22 hy0
  obtain ⟨A, c, l, e1, hr⟩ := open_bytes hy1
  simp only [List.cons.injEq, and_true] at e0 e1
  subst e0 e1
  obtain ⟨h0, h1⟩ := wf_u16 wz
  obtain ⟨n, rfl⟩ := Int.eq_ofNat_of_zero_le h0
  exact ⟨n, A, c, l, rfl, by omega, hr⟩

theorem cells_head : Try.prog.cellsOf 43 = 4 := by kernel_rfl
/-- A head by value that came in. -/
theorem open_head {v : Value} {d : DataW H} {p : List MemPlace} (hv : Value.okWide Try.prog W r b0 43 v) (h : DataW.Trod enc Try.prog W base spare held 43 v d p) :
    ∃ (s pl ty ch : Nat), v = .agg #[.int .u32 s, .int .u8 pl, .int .u8 ty, .int .u16 ch] ∧ s ≤ 4294967295 ∧ pl ≤ 255 ∧ ty ≤ 255 ∧ ch ≤ 65535 := by
  obtain ⟨c0, c1, c2, c3, y0, y1, y2, y3, m, rfl, rfl, rfl, hy0, hy1, hy2, hy3⟩ := open_agg4 Try.underlying43 (by kernel_rfl) cells_head hv h
  obtain ⟨z0, e0, _, w0⟩ := DataW.trod_int Try.underlying33 hy0
  obtain ⟨z1, e1, _, w1⟩ := DataW.trod_int Try.underlying5 hy1
  obtain ⟨z2, e2, _, w2⟩ := DataW.trod_int Try.underlying5 hy2
  obtain ⟨z3, e3, _, w3⟩ := DataW.trod_int Try.underlying22 hy3
  simp only [List.cons.injEq, and_true] at e0 e1 e2 e3
  subst e0 e1 e2 e3
  obtain ⟨a0, b0⟩ := wf_u32 w0
  obtain ⟨a1, b1⟩ := wf_u8 w1
  obtain ⟨a2, b2⟩ := wf_u8 w2
  obtain ⟨a3, b3⟩ := wf_u16 w3
  obtain ⟨n0, rfl⟩ := Int.eq_ofNat_of_zero_le a0
  obtain ⟨n1, rfl⟩ := Int.eq_ofNat_of_zero_le a1
  obtain ⟨n2, rfl⟩ := Int.eq_ofNat_of_zero_le a2
  obtain ⟨n3, rfl⟩ := Int.eq_ofNat_of_zero_le a3
  exact ⟨n0, n1, n2, n3, rfl, by omega, by omega, by omega, by omega⟩
end Go.Proofs.Ytkihafkiinhbkaa

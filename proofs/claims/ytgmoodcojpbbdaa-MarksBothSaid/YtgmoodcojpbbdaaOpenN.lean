import Derived.Test.YtgmoodcojpbbdaaVast
import Derived.Deep.Slices
import Derived.ProofKit
import Derived.OpenShut
import Derived.Lib.SmallJoins
import Derived.WideShapes
set_option linter.unusedVariables false
set_option linter.unusedSimpArgs false
namespace Go.Proofs.Ytgmoodcojpbbdaa
open Go.RowKit Go.WideShapes Go.Joins
variable {H : Type} {enc : TypeId × Value → H} {W : World} {base b0 : Nat} {spare : Nat → Bool} {held : Bool} {r : Reach}

theorem cells_out : Try.prog.cellsOf 33 = 4 := by kernel_rfl
theorem cells_mark : Try.prog.cellsOf 47 = 5 := by kernel_rfl
theorem cells_op : Try.prog.cellsOf 41 = 7 := by kernel_rfl
theorem cells_str : Try.prog.cellsOf 9 = 1 := by kernel_rfl
theorem cells_i64 : Try.prog.cellsOf 3 = 1 := by kernel_rfl
theorem cells_i8 : Try.prog.cellsOf 5 = 1 := by kernel_rfl
theorem cells_ui64 : Try.prog.cellsOf 31 = 1 := by kernel_rfl
theorem cells_marks : Try.prog.cellsOf 39 = 1 := by kernel_rfl

theorem nat_u8 {x : Int} (h : (Lit.int .u8 x).wf = true) : ∃ k : Nat, x = k := by
  simp only [Lit.wf, Bool.and_eq_true, decide_eq_true_eq] at h
  have h1 : IntKind.u8.min = 0 := rfl
  exact ⟨x.toNat, by omega⟩
theorem nat_u64 {x : Int} (h : (Lit.int .u64 x).wf = true) : ∃ k : Nat, x = k := by
  simp only [Lit.wf, Bool.and_eq_true, decide_eq_true_eq] at h
  have h1 : IntKind.u64.min = 0 := rfl
  exact ⟨x.toNat, by omega⟩
theorem list_of (s : ByteArray) : ∃ l : List UInt8, s = ⟨l.toArray⟩ := ⟨s.data.toList, by simp⟩
instance : Inhabited (List UInt8 × Outc) := ⟨([], oz)⟩
theorem four {cs : List Value} (h : cs.length = 4) : ∃ a b c d, cs = [a, b, c, d] := by
  match cs, h with
  | [a, b, c, d], _ => exact ⟨a, b, c, d, rfl⟩
theorem five {cs : List Value} (h : cs.length = 5) : ∃ a b c d e, cs = [a, b, c, d, e] := by
  match cs, h with
  | [a, b, c, d, e], _ => exact ⟨a, b, c, d, e, rfl⟩
theorem seven {cs : List Value} (h : cs.length = 7) : ∃ a b c d e f g, cs = [a, b, c, d, e, f, g] := by
  match cs, h with
  | [a, b, c, d, e, f, g], _ => exact ⟨a, b, c, d, e, f, g, rfl⟩
theorem trod_out {fuel : Nat} {cs : List Value} {x : DataW H × List MemPlace} (h : DataW.trod enc Try.prog W base spare held fuel 33 cs = some x) : ∃ o : Outc, cs = ocs o := by
  obtain ⟨y0, y1, y2, y3, n, _, hl, h0, h1, h2, h3⟩ := Joins.trod_struct4 Try.underlying33 h
  rw [cells_out] at hl
  obtain ⟨a, b, c, d, rfl⟩ := four hl
  simp only [cells_i8, cells_ui64, cells_str, List.drop_succ_cons, List.drop_zero, List.take_succ_cons, List.take_zero] at h0 h1 h2 h3
  obtain ⟨z0, e0, _, w0⟩ := DataW.trod_int Try.underlying5 h0
  obtain ⟨z1, e1, _, w1⟩ := DataW.trod_int Try.underlying31 h1
  obtain ⟨z2, e2, _, w2⟩ := DataW.trod_int Try.underlying31 h2
  obtain ⟨s3, e3, _, w3⟩ := DataW.trod_string Try.underlying9 h3
  simp only [List.cons.injEq, and_true] at e0 e1 e2 e3
  obtain ⟨k0, rfl⟩ := nat_u8 w0
  obtain ⟨k1, rfl⟩ := nat_u64 w1
  obtain ⟨k2, rfl⟩ := nat_u64 w2
  obtain ⟨l3, rfl⟩ := list_of s3
  subst e0 e1 e2 e3
  exact ⟨⟨k0, k1, k2, l3⟩, rfl⟩
theorem trod_mark {fuel : Nat} {cs : List Value} {x : DataW H × List MemPlace} (h : DataW.trod enc Try.prog W base spare held fuel 47 cs = some x) : ∃ p : List UInt8 × Outc, cs = mc p := by
  obtain ⟨y0, y1, n, _, hl, h0, h1⟩ := ChangeShapes.trod_struct2 Try.underlying47 h
  rw [cells_mark] at hl
  obtain ⟨a, b, c, d, e, rfl⟩ := five hl
  simp only [cells_out, cells_str, List.drop_succ_cons, List.drop_zero, List.take_succ_cons, List.take_zero] at h0 h1
  obtain ⟨s0, e0, _, w0⟩ := DataW.trod_string Try.underlying9 h0
  obtain ⟨o, ho⟩ := trod_out h1
  simp only [List.cons.injEq, and_true] at e0
  obtain ⟨l0, rfl⟩ := list_of s0
  subst e0
  exact ⟨(l0, o), by rw [ho]; rfl⟩
theorem open_marks {fuel : Nat} {cs : List Value} {x : DataW H × List MemPlace} (h : DataW.trod enc Try.prog W base spare held fuel 39 cs = some x) : ∃ A c th, cs = [.slice A (th : Ms).length c] ∧ RdC 5 W A th.length c (mcs th) := by
  rcases Deep.open_slice Try.underlying39 h with ⟨rfl, _⟩ | ⟨a, len, cap, m, n, D, Pl, rfl, _, hl, hm, hmm, _, hx⟩
  · exact ⟨none, 0, [], rfl, ⟨rfl, Nat.le_refl _, by decide, fun _ => ⟨rfl, rfl⟩, by simp [mcs], fun ad ha => by cases ha⟩⟩
  · have hlm : len ≤ m := by subst hmm; split <;> omega
    have hb : ∀ i, i < len → ∃ p : List UInt8 × Outc, ∀ j u, (mc p)[j]? = some u → W.cell? (a.add (i * 5 + j)) = some u := fun i hi => by
      obtain ⟨cs', h1, h2⟩ := hx i (by omega)
      rw [cells_mark] at h1
      obtain ⟨p, rfl⟩ := trod_mark h2
      obtain ⟨_, _, g3⟩ := World.cells?_some h1
      refine ⟨p, fun j u hj => ?_⟩
      have := g3 j (List.getElem?_eq_some_iff.1 hj).1
      rw [Addr.add_add] at this
      rw [this, ← hj]
    obtain ⟨g, hg⟩ := Deep.choose_lt hb
    have hlen : ((List.range len).map g).length = len := by simp
    refine ⟨some a, cap, (List.range len).map g, by rw [hlen], ?_⟩
    rw [hlen]
    refine ⟨by rw [mcs_length, hlen], hl, by simpa only [maxLen] using hm, (fun hh => by cases hh), ?_, fun ad ha j u hj => ?_⟩
    · intro u hu
      obtain ⟨q, _, hq⟩ := List.mem_flatMap.1 hu
      exact mc_one q u hq
    · cases ha
      have hj1 : j < len * 5 := by
        have := (List.getElem?_eq_some_iff.1 hj).1
        rwa [mcs_length, hlen] at this
      have hi : j / 5 < len := by omega
      have hm5 : j % 5 < 5 := Nat.mod_lt _ (by decide)
      have e : j / 5 * 5 + j % 5 = j := by omega
      have := mcs_at ((List.range len).map g) (j / 5) (by rw [hlen]; exact hi) (j % 5) hm5
      rw [e, hj, List.getElem_map, List.getElem_range] at this
      have h2 := hg (j / 5) hi (j % 5) u this.symm
      rwa [e] at h2
theorem trod_op {fuel : Nat} {cs : List Value} {x : DataW H × List MemPlace} (h : DataW.trod enc Try.prog W base spare held fuel 41 cs = some x) : ∃ d : OpD, cs = opc d ∧ d.n = d.th.length ∧ RdC 5 W d.A d.n d.c (mcs d.th) := by
  obtain ⟨y0, y1, y2, y3, n, _, hl, h0, h1, h2, h3⟩ := Joins.trod_struct4 Try.underlying41 h
  rw [cells_op] at hl
  obtain ⟨a, b, c, d, e, f, g, rfl⟩ := seven hl
  simp only [cells_out, cells_i64, cells_str, cells_marks, List.drop_succ_cons, List.drop_zero, List.take_succ_cons, List.take_zero] at h0 h1 h2 h3
  obtain ⟨z0, e0, _, _⟩ := DataW.trod_int Try.underlying3 h0
  obtain ⟨s1, e1, _, _⟩ := DataW.trod_string Try.underlying9 h1
  obtain ⟨o, ho⟩ := trod_out h2
  obtain ⟨A, cap, th, e3, hr⟩ := open_marks h3
  simp only [ocs, List.cons.injEq, and_true] at e0 e1 e3 ho
  obtain ⟨l1, rfl⟩ := list_of s1
  obtain ⟨rfl, rfl, rfl, rfl⟩ := ho
  subst e0 e1 e3
  exact ⟨⟨z0, l1, o, A, th.length, cap, th⟩, rfl, rfl, hr⟩
theorem open_op {v : Value} {d : DataW H} {p : List MemPlace} (hv : Value.okWide Try.prog W r b0 41 v) (h : DataW.Trod enc Try.prog W base spare held 41 v d p) :
    ∃ d' : OpD, v = opv d'.K d'.t d'.o d'.A d'.n d'.c ∧ RdC 5 W d'.A d'.n d'.c (mcs d'.th) := by
  obtain ⟨cs, rfl, hsz⟩ := okWide_struct Try.underlying41 hv
  obtain ⟨fuel, hf⟩ := h
  obtain ⟨d', hd, _, hr⟩ := trod_op hf
  refine ⟨d', ?_, hr⟩
  simp only [Value.cells] at hd
  have : cs = (opc d').toArray := by rw [← hd]
  rw [this]
  rfl
/-- A row of marks that came in. -/
abbrev RdM (W : World) (A : Option Addr) (c : Nat) (l : Ms) : Prop := RdC 5 W A l.length c (mcs l)
end Go.Proofs.Ytgmoodcojpbbdaa

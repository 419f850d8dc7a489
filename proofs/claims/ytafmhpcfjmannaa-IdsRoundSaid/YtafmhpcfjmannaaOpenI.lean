import Derived.Test.YtafmhpcfjmannaaVastI
import Derived.Deep.Slices
import Derived.ProofKit
import Derived.OpenShut
import Derived.Lib.SmallJoins
import Derived.WideShapes
set_option linter.unusedVariables false
set_option linter.unusedSimpArgs false
namespace Go.Proofs.Ytafmhpcfjmannaa
open Go.RowKit Go.WideShapes Go.Joins
variable {H : Type} {enc : TypeId × Value → H} {W : World} {base b0 : Nat} {spare : Nat → Bool} {held : Bool} {r : Reach}

theorem cells_key : Try.prog.cellsOf 38 = 2 := by kernel_rfl
theorem cells_op : Try.prog.cellsOf 40 = 5 := by kernel_rfl
theorem cells_str : Try.prog.cellsOf 9 = 1 := by kernel_rfl
theorem cells_i64 : Try.prog.cellsOf 3 = 1 := by kernel_rfl
theorem cells_u32 : Try.prog.cellsOf 33 = 1 := by kernel_rfl
theorem nat_u32 {x : Int} (h : (Lit.int .u32 x).wf = true) : ∃ k : Nat, x = k ∧ k < 4294967296 := by
  simp only [Lit.wf, Bool.and_eq_true, decide_eq_true_eq] at h
  have h1 : IntKind.u32.min = 0 := rfl
  have h2 : IntKind.u32.max = 4294967295 := rfl
  exact ⟨x.toNat, by omega, by omega⟩
theorem list_of (s : ByteArray) : ∃ l : List UInt8, s = ⟨l.toArray⟩ := ⟨s.data.toList, by simp⟩
instance : Inhabited OpI := ⟨⟨0, 0, 0, kz⟩⟩
theorem two {cs : List Value} (h : cs.length = 2) : ∃ a b, cs = [a, b] := by
  match cs, h with
  | [a, b], _ => exact ⟨a, b, rfl⟩
theorem five {cs : List Value} (h : cs.length = 5) : ∃ a b c d e, cs = [a, b, c, d, e] := by
  match cs, h with
  | [a, b, c, d, e], _ => exact ⟨a, b, c, d, e, rfl⟩
theorem trod_key {fuel : Nat} {cs : List Value} {x : DataW H × List MemPlace} (h : DataW.trod enc Try.prog W base spare held fuel 38 cs = some x) : ∃ k : Ky, cs = [.int .i64 k.h, .string ⟨k.t.toArray⟩] := by
  obtain ⟨y0, y1, n, _, hl, h0, h1⟩ := ChangeShapes.trod_struct2 Try.underlying38 h
  rw [cells_key] at hl
  obtain ⟨a, b, rfl⟩ := two hl
  simp only [cells_i64, cells_str, List.drop_succ_cons, List.drop_zero, List.take_succ_cons, List.take_zero] at h0 h1
  obtain ⟨z0, e0, _, w0⟩ := DataW.trod_int Try.underlying3 h0
  obtain ⟨s1, e1, _, w1⟩ := DataW.trod_string Try.underlying9 h1
  simp only [List.cons.injEq, and_true] at e0 e1
  obtain ⟨l1, rfl⟩ := list_of s1
  subst e0 e1
  exact ⟨⟨z0, l1⟩, rfl⟩
theorem trod_op {fuel : Nat} {cs : List Value} {x : DataW H × List MemPlace} (h : DataW.trod enc Try.prog W base spare held fuel 40 cs = some x) : ∃ d : OpI, cs = opc d ∧ OkI d := by
  obtain ⟨y0, y1, y2, y3, n, _, hl, h0, h1, h2, h3⟩ := Joins.trod_struct4 Try.underlying40 h
  rw [cells_op] at hl
  obtain ⟨a, b, c, d, e, rfl⟩ := five hl
  simp only [cells_key, cells_i64, cells_u32, List.drop_succ_cons, List.drop_zero, List.take_succ_cons, List.take_zero] at h0 h1 h2 h3
  obtain ⟨z0, e0, _, w0⟩ := DataW.trod_int Try.underlying3 h0
  obtain ⟨z1, e1, _, w1⟩ := DataW.trod_int Try.underlying33 h1
  obtain ⟨z2, e2, _, w2⟩ := DataW.trod_int Try.underlying33 h2
  obtain ⟨k, e3⟩ := trod_key h3
  simp only [List.cons.injEq, and_true] at e0 e1 e2 e3
  obtain ⟨k1, rfl, q1⟩ := nat_u32 w1
  obtain ⟨k2, rfl, q2⟩ := nat_u32 w2
  obtain ⟨rfl, rfl⟩ := e3
  subst e0 e1 e2
  exact ⟨⟨z0, k1, k2, k⟩, rfl, q1, q2⟩
theorem opc_one (d : OpI) : ∀ u ∈ opc d, u.oneCell' = true := by
  intro u hu
  simp only [opc, List.mem_cons, List.not_mem_nil, or_false] at hu
  rcases hu with rfl | rfl | rfl | rfl | rfl <;> rfl
/-- A row of things to do that came in. -/
abbrev RdO (W : World) (A : Option Addr) (c : Nat) (l : List OpI) : Prop := RdC 5 W A l.length c (opcs l) ∧ ∀ d ∈ l, OkI d
theorem open_ops {fuel : Nat} {cs : List Value} {x : DataW H × List MemPlace} (h : DataW.trod enc Try.prog W base spare held fuel 22 cs = some x) : ∃ A c l, cs = [.slice A (l : List OpI).length c] ∧ RdO W A c l := by
  rcases Deep.open_slice Try.underlying22 h with ⟨rfl, _⟩ | ⟨a, len, cap, m, n, D, Pl, rfl, _, hl, hm, hmm, _, hx⟩
  · exact ⟨none, 0, [], rfl, ⟨rfl, Nat.le_refl _, by decide, fun _ => ⟨rfl, rfl⟩, by simp [opcs], fun ad ha => by cases ha⟩, by simp⟩
  · have hlm : len ≤ m := by subst hmm; split <;> omega
    have hb : ∀ i, i < len → ∃ p : OpI, OkI p ∧ ∀ j u, (opc p)[j]? = some u → W.cell? (a.add (i * 5 + j)) = some u := fun i hi => by
      obtain ⟨cs', h1, h2⟩ := hx i (by omega)
      rw [cells_op] at h1
      obtain ⟨p, rfl, hok⟩ := trod_op h2
      obtain ⟨_, _, g3⟩ := World.cells?_some h1
      refine ⟨p, hok, fun j u hj => ?_⟩
      have := g3 j (List.getElem?_eq_some_iff.1 hj).1
      rw [Addr.add_add] at this
      rw [this, ← hj]
    obtain ⟨g, hg⟩ := Deep.choose_lt hb
    have hlen : ((List.range len).map g).length = len := by simp
    refine ⟨some a, cap, (List.range len).map g, by rw [hlen], ?_, ?_⟩
    · rw [hlen]
      refine ⟨by rw [opcs_length, hlen], hl, by simpa only [maxLen] using hm, (fun hh => by cases hh), ?_, fun ad ha j u hj => ?_⟩
      · intro u hu
        obtain ⟨q, _, hq⟩ := List.mem_flatMap.1 hu
        exact opc_one q u hq
      · cases ha
        have hj1 : j < len * 5 := by
          have := (List.getElem?_eq_some_iff.1 hj).1
          rwa [opcs_length, hlen] at this
        have hi : j / 5 < len := by omega
        have hm5 : j % 5 < 5 := Nat.mod_lt _ (by decide)
        have e : j / 5 * 5 + j % 5 = j := by omega
        have := flat_at opc 5 ((List.range len).map g) (fun _ _ => rfl) (j / 5) (by rw [hlen]; exact hi) (j % 5) hm5
        rw [e] at this
        have hj' : (((List.range len).map g).flatMap opc)[j]? = some u := hj
        rw [hj', List.getElem_map, List.getElem_range] at this
        have h2 := (hg (j / 5) hi).2 (j % 5) u this.symm
        rwa [e] at h2
    · intro d hd
      obtain ⟨i, hi, rfl⟩ := List.mem_map.1 hd
      exact (hg i (by simpa using hi)).1
def opv (d : OpI) : Value := .agg #[.int .i64 d.K, .int .u32 d.id, .int .u32 d.last, .int .i64 d.k.h, .string ⟨d.k.t.toArray⟩]
theorem open_op {v : Value} {d : DataW H} {p : List MemPlace} (hv : Value.okWide Try.prog W r b0 40 v) (h : DataW.Trod enc Try.prog W base spare held 40 v d p) :
    ∃ d' : OpI, v = opv d' ∧ OkI d' := by
  obtain ⟨cs, rfl, hsz⟩ := okWide_struct Try.underlying40 hv
  obtain ⟨fuel, hf⟩ := h
  obtain ⟨d', hd, hok⟩ := trod_op hf
  refine ⟨d', ?_, hok⟩
  simp only [Value.cells] at hd
  have : cs = (opc d').toArray := by rw [← hd]
  rw [this]
  rfl
theorem open_key {v : Value} {d : DataW H} {p : List MemPlace} (hv : Value.okWide Try.prog W r b0 38 v) (h : DataW.Trod enc Try.prog W base spare held 38 v d p) :
    ∃ k : Ky, v = .agg #[.int .i64 k.h, .string ⟨k.t.toArray⟩] ∧ True := by
  obtain ⟨cs, rfl, hsz⟩ := okWide_struct Try.underlying38 hv
  obtain ⟨fuel, hf⟩ := h
  obtain ⟨k, hd⟩ := trod_key hf
  refine ⟨k, ?_, trivial⟩
  simp only [Value.cells] at hd
  have : cs = (kcs k).toArray := by rw [kcs]; unfold str; rw [← hd]
  rw [this]
  rfl
end Go.Proofs.Ytafmhpcfjmannaa

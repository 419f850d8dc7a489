import Derived.Test.YtklgndmndnmdpaaHDoes
import Derived.Deep.Slices
import Derived.ProofKit
import Derived.OpenShut
import Derived.Lib.SmallJoins
import Derived.WideShapes
set_option linter.unusedVariables false
set_option linter.unusedSimpArgs false
namespace Go.Proofs.Ytklgndmndnmdpaa
open Go.RowKit Go.WideShapes Go.Joins Go.Shelf
variable {H : Type} {enc : TypeId × Value → H} {W : World} {base b0 : Nat} {spare : Nat → Bool} {held : Bool} {r : Reach}

theorem byte_of (z : Int) (h : (Lit.int .u8 z).wf = true) : z = ((UInt8.ofNat z.toNat).toNat : Int) := by
  have := wf_u8 h
  simp
  omega
theorem cells_u8 : Try.prog.cellsOf 5 = 1 := by kernel_rfl
/-- A slice of bytes that came in. -/
theorem open_bytes {fuel : Nat} {cs : List Value} {x : DataW H × List MemPlace} (h : DataW.trod enc Try.prog W base spare held fuel 39 cs = some x) : ∃ A c l, cs = [.slice A (l : List UInt8).length c] ∧ Rd W A c l := by
  rcases Deep.open_slice1 Try.underlying39 cells_u8 h with ⟨rfl, _⟩ | ⟨a, len, cap, m, n, V, D, Pl, rfl, _, hl, hm, hmm, _, hx⟩
  · exact ⟨none, 0, [], rfl, Rd.zero (by decide) (fun _ => rfl)⟩
  · have hlm : len ≤ m := by subst hmm; split <;> omega
    have hb : ∀ i, i < len → ∃ b : UInt8, W.cell? (a.add i) = some (u8 b) := fun i hi => by
      obtain ⟨h1, h2⟩ := hx i (by omega)
      obtain ⟨z, e1, _, wz⟩ := DataW.trod_int Try.underlying5 h2
      simp only [List.cons.injEq, and_true] at e1
      refine ⟨UInt8.ofNat z.toNat, ?_⟩
      rw [h1, e1, u8, ← byte_of z wz]
    obtain ⟨f, hf⟩ := Deep.choose_lt hb
    have hlen : ((List.range len).map f).length = len := by simp
    refine ⟨some a, cap, (List.range len).map f, by rw [hlen], by simp [u8s], by rw [hlen]; exact hl, by simpa only [maxLen] using hm, (fun hh => by cases hh), u8s_one _, fun ad ha j u hj => ?_⟩
    cases ha
    obtain ⟨hj', rfl⟩ := u8s_get _ j u hj
    rw [hlen] at hj'
    rw [hf j hj']
    simp
theorem cells_out : Try.prog.cellsOf 47 = 4 := by kernel_rfl
theorem cells_msg : Try.prog.cellsOf 41 = 5 := by kernel_rfl
theorem cells_op : Try.prog.cellsOf 49 = 13 := by kernel_rfl
theorem cells_str : Try.prog.cellsOf 9 = 1 := by kernel_rfl
theorem cells_i : Try.prog.cellsOf 3 = 1 := by kernel_rfl
theorem cells_i64 : Try.prog.cellsOf 2 = 1 := by kernel_rfl
theorem cells_u32 : Try.prog.cellsOf 38 = 1 := by kernel_rfl
theorem cells_u64 : Try.prog.cellsOf 45 = 1 := by kernel_rfl
theorem cells_bs : Try.prog.cellsOf 39 = 1 := by kernel_rfl
theorem nat_u8 {x : Int} (h : (Lit.int .u8 x).wf = true) : ∃ k : Nat, x = k := ⟨x.toNat, by have := wf_u8 h; omega⟩
theorem nat_u32 {x : Int} (h : (Lit.int .u32 x).wf = true) : ∃ k : Nat, x = k ∧ k ≤ 4294967295 := ⟨x.toNat, by have := wf_u32 h; omega, by have := wf_u32 h; omega⟩
theorem nat_u64 {x : Int} (h : (Lit.int .u64 x).wf = true) : ∃ k : Nat, x = k := ⟨x.toNat, by have := wf_u64 h; omega⟩
theorem list_of (s : ByteArray) : ∃ l : List UInt8, s = ⟨l.toArray⟩ := ⟨s.data.toList, by simp⟩
theorem four {cs : List Value} (h : cs.length = 4) : ∃ a b c d, cs = [a, b, c, d] := by
  match cs, h with
  | [a, b, c, d], _ => exact ⟨a, b, c, d, rfl⟩
theorem five {cs : List Value} (h : cs.length = 5) : ∃ a b c d e, cs = [a, b, c, d, e] := by
  match cs, h with
  | [a, b, c, d, e], _ => exact ⟨a, b, c, d, e, rfl⟩
set_option maxRecDepth 100000 in
theorem thirteen {cs : List Value} (h : cs.length = 13) : ∃ a b c d e f g i j k l m n, cs = [a, b, c, d, e, f, g, i, j, k, l, m, n] := by
  match cs, h with
  | [a, b, c, d, e, f, g, i, j, k, l, m, n], _ => exact ⟨a, b, c, d, e, f, g, i, j, k, l, m, n, rfl⟩
theorem trod_struct6 {P : Program} {t : TypeId} {f0 f1 f2 f3 f4 f5 : Field} {fuel : Nat} {cs : List Value} {x : DataW H × List MemPlace} (ht : P.underlying t = some (.struct #[f0, f1, f2, f3, f4, f5])) (h : DataW.trod enc P W base spare held fuel t cs = some x) :
    ∃ y0 y1 y2 y3 y4 y5 n, cs.length = P.cellsOf t ∧ DataW.trod enc P W base spare held n f0.type ((cs.drop f0.offset).take (P.cellsOf f0.type)) = some y0 ∧
      DataW.trod enc P W base spare held n f1.type ((cs.drop f1.offset).take (P.cellsOf f1.type)) = some y1 ∧ DataW.trod enc P W base spare held n f2.type ((cs.drop f2.offset).take (P.cellsOf f2.type)) = some y2 ∧
      DataW.trod enc P W base spare held n f3.type ((cs.drop f3.offset).take (P.cellsOf f3.type)) = some y3 ∧ DataW.trod enc P W base spare held n f4.type ((cs.drop f4.offset).take (P.cellsOf f4.type)) = some y4 ∧ DataW.trod enc P W base spare held n f5.type ((cs.drop f5.offset).take (P.cellsOf f5.type)) = some y5 := by
  obtain ⟨xs, n, _, rfl, hl, hlen, hf⟩ := DataW.trod_struct ht h
  match xs, hlen with
  | [y0, y1, y2, y3, y4, y5], _ => exact ⟨y0, y1, y2, y3, y4, y5, n, hl, by simpa using hf 0 f0 rfl, by simpa using hf 1 f1 rfl, by simpa using hf 2 f2 rfl, by simpa using hf 3 f3 rfl, by simpa using hf 4 f4 rfl, by simpa using hf 5 f5 rfl⟩
theorem trod_struct5 {P : Program} {t : TypeId} {f0 f1 f2 f3 f4 : Field} {fuel : Nat} {cs : List Value} {x : DataW H × List MemPlace} (ht : P.underlying t = some (.struct #[f0, f1, f2, f3, f4])) (h : DataW.trod enc P W base spare held fuel t cs = some x) :
    ∃ y0 y1 y2 y3 y4 n, cs.length = P.cellsOf t ∧ DataW.trod enc P W base spare held n f0.type ((cs.drop f0.offset).take (P.cellsOf f0.type)) = some y0 ∧
      DataW.trod enc P W base spare held n f1.type ((cs.drop f1.offset).take (P.cellsOf f1.type)) = some y1 ∧ DataW.trod enc P W base spare held n f2.type ((cs.drop f2.offset).take (P.cellsOf f2.type)) = some y2 ∧
      DataW.trod enc P W base spare held n f3.type ((cs.drop f3.offset).take (P.cellsOf f3.type)) = some y3 ∧ DataW.trod enc P W base spare held n f4.type ((cs.drop f4.offset).take (P.cellsOf f4.type)) = some y4 := by
  obtain ⟨xs, n, _, rfl, hl, hlen, hf⟩ := DataW.trod_struct ht h
  match xs, hlen with
  | [y0, y1, y2, y3, y4], _ => exact ⟨y0, y1, y2, y3, y4, n, hl, by simpa using hf 0 f0 rfl, by simpa using hf 1 f1 rfl, by simpa using hf 2 f2 rfl, by simpa using hf 3 f3 rfl, by simpa using hf 4 f4 rfl⟩
theorem trod_out {fuel : Nat} {cs : List Value} {x : DataW H × List MemPlace} (h : DataW.trod enc Try.prog W base spare held fuel 47 cs = some x) : ∃ o : Oc, cs = occ o := by
  obtain ⟨y0, y1, y2, y3, n, _, hl, h0, h1, h2, h3⟩ := Joins.trod_struct4 Try.underlying47 h
  rw [cells_out] at hl
  obtain ⟨a, b, c, d, rfl⟩ := four hl
  simp only [cells_u8, cells_u64, cells_str, List.drop_succ_cons, List.drop_zero, List.take_succ_cons, List.take_zero] at h0 h1 h2 h3
  obtain ⟨z0, e0, _, w0⟩ := DataW.trod_int Try.underlying5 h0
  obtain ⟨z1, e1, _, w1⟩ := DataW.trod_int Try.underlying45 h1
  obtain ⟨z2, e2, _, w2⟩ := DataW.trod_int Try.underlying45 h2
  obtain ⟨s3, e3, _, w3⟩ := DataW.trod_string Try.underlying9 h3
  simp only [List.cons.injEq, and_true] at e0 e1 e2 e3
  obtain ⟨k0, rfl⟩ := nat_u8 w0
  obtain ⟨k1, rfl⟩ := nat_u64 w1
  obtain ⟨k2, rfl⟩ := nat_u64 w2
  obtain ⟨l3, rfl⟩ := list_of s3
  subst e0 e1 e2 e3
  exact ⟨⟨k0, k1, k2, l3⟩, rfl⟩
theorem trod_msg {fuel : Nat} {cs : List Value} {x : DataW H × List MemPlace} (h : DataW.trod enc Try.prog W base spare held fuel 41 cs = some x) : ∃ (m : Mg) (A : Option Addr) (c : Nat), cs = mcs m (.slice A m.body.length c) ∧ Rd W A c m.body ∧ m.ttl ≤ 4294967295 ∧ m.cnt ≤ 4294967295 := by
  obtain ⟨y0, y1, y2, y3, y4, n, hl, h0, h1, h2, h3, h4⟩ := trod_struct5 Try.underlying41 h
  rw [cells_msg] at hl
  obtain ⟨a, b, c, d, e, rfl⟩ := five hl
  simp only [cells_u8, cells_u32, cells_str, cells_bs, List.drop_succ_cons, List.drop_zero, List.take_succ_cons, List.take_zero] at h0 h1 h2 h3 h4
  obtain ⟨z0, e0, _, w0⟩ := DataW.trod_int Try.underlying5 h0
  obtain ⟨z1, e1, _, w1⟩ := DataW.trod_int Try.underlying38 h1
  obtain ⟨z2, e2, _, w2⟩ := DataW.trod_int Try.underlying38 h2
  obtain ⟨s3, e3, _, w3⟩ := DataW.trod_string Try.underlying9 h3
  obtain ⟨A, cp, l4, e4, hr⟩ := open_bytes h4
  simp only [List.cons.injEq, and_true] at e0 e1 e2 e3 e4
  obtain ⟨k0, rfl⟩ := nat_u8 w0
  obtain ⟨k1, rfl, hk1⟩ := nat_u32 w1
  obtain ⟨k2, rfl, hk2⟩ := nat_u32 w2
  obtain ⟨l3, rfl⟩ := list_of s3
  subst e0 e1 e2 e3 e4
  exact ⟨⟨k0, k1, k2, l3, l4⟩, A, cp, rfl, hr, hk1, hk2⟩
/-- What a thing to be done has in memory. -/
structure OkD (W : World) (d : OpD) : Prop where
  rd : Rd W d.A d.c d.x.m.body
  ttl : d.x.m.ttl ≤ 4294967295
  cnt : d.x.m.cnt ≤ 4294967295
theorem OkD.below {W W' : World} {d : OpD} (h : OkD W d) (hb : Below W.heap.size W W') : OkD W' d := ⟨h.rd.below hb, h.ttl, h.cnt⟩
set_option maxRecDepth 100000 in
theorem trod_op {fuel : Nat} {cs : List Value} {x : DataW H × List MemPlace} (h : DataW.trod enc Try.prog W base spare held fuel 49 cs = some x) : ∃ d : OpD, cs = opd d ∧ OkD W d := by
  obtain ⟨y0, y1, y2, y3, y4, y5, n, hl, h0, h1, h2, h3, h4, h5⟩ := trod_struct6 Try.underlying49 h
  rw [cells_op] at hl
  obtain ⟨a, b, c, d, e, f, g, i, j, k, l, m, o', rfl⟩ := thirteen hl
  simp only [cells_out, cells_msg, cells_i, cells_i64, cells_str, List.drop_succ_cons, List.drop_zero, List.take_succ_cons, List.take_zero] at h0 h1 h2 h3 h4 h5
  obtain ⟨z0, e0, _, _⟩ := DataW.trod_int Try.underlying3 h0
  obtain ⟨z1, e1, _, _⟩ := DataW.trod_int Try.underlying3 h1
  obtain ⟨s2, e2, _, _⟩ := DataW.trod_string Try.underlying9 h2
  obtain ⟨M, A, cp, e3, hr, ht, hc⟩ := trod_msg h3
  obtain ⟨o, ho⟩ := trod_out h4
  obtain ⟨z5, e5, _, _⟩ := DataW.trod_int Try.underlying2 h5
  obtain ⟨l2, rfl⟩ := list_of s2
  simp only [occ, mcs, List.cons.injEq, and_true] at e0 e1 e2 e3 e5 ho
  obtain ⟨rfl, rfl, rfl, rfl⟩ := ho
  obtain ⟨rfl, rfl, rfl, rfl, rfl⟩ := e3
  subst e0 e1 e2 e5
  exact ⟨⟨⟨z0, z1, l2, M, o, z5⟩, A, cp⟩, rfl, hr, ht, hc⟩
set_option maxRecDepth 100000 in
theorem open_op {v : Value} {d : DataW H} {p : List MemPlace} (hv : Value.okWide Try.prog W r b0 49 v) (h : DataW.Trod enc Try.prog W base spare held 49 v d p) :
    ∃ d' : OpD, v = .agg (opd d').toArray ∧ OkD W d' := by
  obtain ⟨cs, rfl, hsz⟩ := okWide_struct Try.underlying49 hv
  obtain ⟨fuel, hf⟩ := h
  obtain ⟨d', hd, hr⟩ := trod_op hf
  refine ⟨d', ?_, hr⟩
  simp only [Value.cells] at hd
  have : cs = (opd d').toArray := by rw [← hd]
  rw [this]
theorem cells_cf : Try.prog.cellsOf 23 = 4 := by kernel_rfl
def WfC (c : Cf) : Prop := (Lit.int .i64 c.room).wf = true ∧ (Lit.int .i64 c.limit).wf = true
set_option maxRecDepth 100000 in
theorem trod_cf {fuel : Nat} {cs : List Value} {x : DataW H × List MemPlace} (h : DataW.trod enc Try.prog W base spare held fuel 23 cs = some x) : ∃ c : Cf, cs = cfs c ∧ WfC c := by
  obtain ⟨y0, y1, y2, y3, n, _, hl, h0, h1, h2, h3⟩ := Joins.trod_struct4 Try.underlying23 h
  rw [cells_cf] at hl
  obtain ⟨a, b, c, d, rfl⟩ := four hl
  simp only [cells_i, cells_str, List.drop_succ_cons, List.drop_zero, List.take_succ_cons, List.take_zero] at h0 h1 h2 h3
  obtain ⟨s0, e0, _, _⟩ := DataW.trod_string Try.underlying9 h0
  obtain ⟨z1, e1, _, w1⟩ := DataW.trod_int Try.underlying3 h1
  obtain ⟨z2, e2, _, w2⟩ := DataW.trod_int Try.underlying3 h2
  obtain ⟨s3, e3, _, _⟩ := DataW.trod_string Try.underlying9 h3
  simp only [List.cons.injEq, and_true] at e0 e1 e2 e3
  obtain ⟨l0, rfl⟩ := list_of s0
  obtain ⟨l3, rfl⟩ := list_of s3
  subst e0 e1 e2 e3
  exact ⟨⟨l0, z1, z2, l3⟩, rfl, w1, w2⟩
set_option maxRecDepth 100000 in
theorem open_cf {v : Value} {d : DataW H} {p : List MemPlace} (hv : Value.okWide Try.prog W r b0 23 v) (h : DataW.Trod enc Try.prog W base spare held 23 v d p) :
    ∃ c : Cf, v = .agg (cfs c).toArray ∧ WfC c := by
  obtain ⟨cs, rfl, hsz⟩ := okWide_struct Try.underlying23 hv
  obtain ⟨fuel, hf⟩ := h
  obtain ⟨c, hd, hr⟩ := trod_cf hf
  refine ⟨c, ?_, hr⟩
  simp only [Value.cells] at hd
  have : cs = (cfs c).toArray := by rw [← hd]
  rw [this]
theorem cfs_one (c : Cf) : ∀ u ∈ cfs c, u.oneCell' = true := by
  intro u hu
  simp only [cfs, List.mem_cons, List.not_mem_nil, or_false] at hu
  rcases hu with rfl | rfl | rfl | rfl <;> rfl
instance : Inhabited OpD := ⟨⟨⟨0, 0, [], ⟨0, 0, 0, [], []⟩, ⟨0, 0, 0, []⟩, 0⟩, none, 0⟩⟩
instance : Inhabited Cf := ⟨⟨[], 0, 0, []⟩⟩
set_option maxRecDepth 100000 in
theorem opd_one (d : OpD) : ∀ u ∈ opd d, u.oneCell' = true := by
  intro u hu
  simp only [opd, hoc, List.mem_cons, List.not_mem_nil, or_false] at hu
  rcases hu with rfl | rfl | rfl | rfl | rfl | rfl | rfl | rfl | rfl | rfl | rfl | rfl | rfl <;> rfl
abbrev RdO (W : World) (A : Option Addr) (c : Nat) (l : List OpD) : Prop := RdC 13 W A l.length c (opds l) ∧ ∀ d ∈ l, OkD W d
theorem open_ops {fuel : Nat} {cs : List Value} {x : DataW H × List MemPlace} (h : DataW.trod enc Try.prog W base spare held fuel 31 cs = some x) : ∃ A c l, cs = [.slice A (l : List OpD).length c] ∧ RdO W A c l := by
  rcases Deep.open_slice Try.underlying31 h with ⟨rfl, _⟩ | ⟨a, len, cap, m, n, D, Pl, rfl, _, hl, hm, hmm, _, hx⟩
  · exact ⟨none, 0, [], rfl, ⟨rfl, Nat.le_refl _, by decide, fun _ => ⟨rfl, rfl⟩, by simp [opds], fun ad ha => by cases ha⟩, by simp⟩
  · have hlm : len ≤ m := by subst hmm; split <;> omega
    have hb : ∀ i, i < len → ∃ p : OpD, OkD W p ∧ ∀ j u, (opd p)[j]? = some u → W.cell? (a.add (i * 13 + j)) = some u := fun i hi => by
      obtain ⟨cs', h1, h2⟩ := hx i (by omega)
      rw [cells_op] at h1
      obtain ⟨p, rfl, hok⟩ := trod_op h2
      obtain ⟨_, _, g3⟩ := World.cells?_some h1
      refine ⟨p, hok, fun j u hj => ?_⟩
      have := g3 j (List.getElem?_eq_some_iff.1 hj).1
      rw [Addr.add_add] at this
      rw [this, ← hj]
    obtain ⟨g, hg⟩ := Deep.choose_lt hb
    have hlen : ((List.range len).map g).length = len := by simp
    refine ⟨some a, cap, (List.range len).map g, by rw [hlen], ?_, ?_⟩
    · rw [hlen]
      refine ⟨by rw [opds, flat_length opd 13 opd_length, hlen], hl, by simpa only [maxLen] using hm, (fun hh => by cases hh), ?_, fun ad ha j u hj => ?_⟩
      · intro u hu
        obtain ⟨q, _, hq⟩ := List.mem_flatMap.1 hu
        exact opd_one q u hq
      · cases ha
        have hj1 : j < len * 13 := by
          have := (List.getElem?_eq_some_iff.1 hj).1
          rwa [opds, flat_length opd 13 opd_length, hlen] at this
        have hi : j / 13 < len := by omega
        have hm5 : j % 13 < 13 := Nat.mod_lt _ (by decide)
        have e : j / 13 * 13 + j % 13 = j := by omega
        have := flat_at opd 13 ((List.range len).map g) (fun _ _ => rfl) (j / 13) (by rw [hlen]; exact hi) (j % 13) hm5
        rw [e] at this
        have hj' : (((List.range len).map g).flatMap opd)[j]? = some u := hj
        rw [hj', List.getElem_map, List.getElem_range] at this
        have h2 := (hg (j / 13) hi).2 (j % 13) u this.symm
        rwa [e] at h2
    · intro d hd
      obtain ⟨i, hi, rfl⟩ := List.mem_map.1 hd
      exact (hg i (by simpa using hi)).1
abbrev RdF (W : World) (A : Option Addr) (c : Nat) (l : List Cf) : Prop := RdC 4 W A l.length c (l.flatMap cfs) ∧ ∀ d ∈ l, WfC d
theorem open_cfs {fuel : Nat} {cs : List Value} {x : DataW H × List MemPlace} (h : DataW.trod enc Try.prog W base spare held fuel 28 cs = some x) : ∃ A c l, cs = [.slice A (l : List Cf).length c] ∧ RdF W A c l := by
  rcases Deep.open_slice Try.underlying28 h with ⟨rfl, _⟩ | ⟨a, len, cap, m, n, D, Pl, rfl, _, hl, hm, hmm, _, hx⟩
  · exact ⟨none, 0, [], rfl, ⟨rfl, Nat.le_refl _, by decide, fun _ => ⟨rfl, rfl⟩, by simp, fun ad ha => by cases ha⟩, by simp⟩
  · have hlm : len ≤ m := by subst hmm; split <;> omega
    have hb : ∀ i, i < len → ∃ p : Cf, WfC p ∧ ∀ j u, (cfs p)[j]? = some u → W.cell? (a.add (i * 4 + j)) = some u := fun i hi => by
      obtain ⟨cs', h1, h2⟩ := hx i (by omega)
      rw [cells_cf] at h1
      obtain ⟨p, rfl, hok⟩ := trod_cf h2
      obtain ⟨_, _, g3⟩ := World.cells?_some h1
      refine ⟨p, hok, fun j u hj => ?_⟩
      have := g3 j (List.getElem?_eq_some_iff.1 hj).1
      rw [Addr.add_add] at this
      rw [this, ← hj]
    obtain ⟨g, hg⟩ := Deep.choose_lt hb
    have hlen : ((List.range len).map g).length = len := by simp
    refine ⟨some a, cap, (List.range len).map g, by rw [hlen], ?_, ?_⟩
    · rw [hlen]
      refine ⟨by rw [flat_length cfs 4 cfs_length, hlen], hl, by simpa only [maxLen] using hm, (fun hh => by cases hh), ?_, fun ad ha j u hj => ?_⟩
      · intro u hu
        obtain ⟨q, _, hq⟩ := List.mem_flatMap.1 hu
        exact cfs_one q u hq
      · cases ha
        have hj1 : j < len * 4 := by
          have := (List.getElem?_eq_some_iff.1 hj).1
          rwa [flat_length cfs 4 cfs_length, hlen] at this
        have hi : j / 4 < len := by omega
        have hm5 : j % 4 < 4 := Nat.mod_lt _ (by decide)
        have e : j / 4 * 4 + j % 4 = j := by omega
        have := flat_at cfs 4 ((List.range len).map g) (fun _ _ => rfl) (j / 4) (by rw [hlen]; exact hi) (j % 4) hm5
        rw [e] at this
        have hj' : (((List.range len).map g).flatMap cfs)[j]? = some u := hj
        rw [hj', List.getElem_map, List.getElem_range] at this
        have h2 := (hg (j / 4) hi).2 (j % 4) u this.symm
        rwa [e] at h2
    · intro d hd
      obtain ⟨i, hi, rfl⟩ := List.mem_map.1 hd
      exact (hg i (by simpa using hi)).1
end Go.Proofs.Ytklgndmndnmdpaa


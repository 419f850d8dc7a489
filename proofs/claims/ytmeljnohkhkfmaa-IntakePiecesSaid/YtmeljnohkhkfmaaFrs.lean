import Derived.Test.YtmeljnohkhkfmaaOpen5
import Derived.Test.YtmeljnohkhkfmaaFwLaw
import Derived.Deep.RegionHeld3
import Derived.Lib.SmallJoins
import Derived.WideShapes
set_option linter.unusedVariables false
set_option linter.unusedSimpArgs false
namespace Go.Proofs.Ytmeljnohkhkfmaa
open Go.RowKit Go.WideShapes Go.Joins

theorem same_drew (A B : Option Addr) (c d : Nat) (l m : List UInt8) (x y : Nat) (W : World) (h : Rd W A c l) (k : Rd W B d m) :
    Calls Try.prog 19 #[.agg #[.int .u16 x, .slice A l.length c], .agg #[.int .u16 y, .slice B m.length d]] W.drew fun e w' => e = .returned (.bool (decide (x = y) && decide (l = m))) ∧ Below W.heap.size W w' :=
  (same_calls A B c d l m x y W.drew (h.below (Below.refl _ _).drew) (k.below (Below.refl _ _).drew)).mono fun _ _ ⟨h1, h2⟩ => ⟨h1, below_of_drew h2⟩

/-- A frame as it lies in a slice. -/
structure FrameAt where
  ch : Nat
  A : Option Addr
  c : Nat
  l : List UInt8
/-- A slice value reads as frames. -/
structure Frs (w : World) (A : Option Addr) (c : Nat) (fs : List FrameAt) : Prop where
  le : fs.length ≤ c
  max : c ≤ 9223372036854775807
  at_ : ∀ (i : Nat) (hi : i < fs.length), ∃ b o, A = some ⟨b, o, none⟩ ∧ w.cell? ⟨b, o + i * 2, none⟩ = some (.int .u16 (fs[i]).ch) ∧ w.cell? ⟨b, o + i * 2 + 1, none⟩ = some (.slice (fs[i]).A (fs[i]).l.length (fs[i]).c) ∧ (fs[i]).ch ≤ 65535 ∧ Rd w (fs[i]).A (fs[i]).c (fs[i]).l

theorem Frs.below {w w' : World} {A : Option Addr} {c : Nat} {fs : List FrameAt} (h : Frs w A c fs) (hb : Below w.heap.size w w') : Frs w' A c fs :=
  ⟨h.le, h.max, fun i hi => by
    obtain ⟨b, o, h1, h2, h3, h4, h5⟩ := h.at_ i hi
    exact ⟨b, o, h1, below_keeps hb h2 (World.block_lt_of_cell? _ _ h2), below_keeps hb h3 (World.block_lt_of_cell? _ _ h3), h4, h5.below hb⟩⟩

section
variable {H : Type} {enc : TypeId × Value → H} {W : World} {base b0 : Nat} {spare : Nat → Bool} {held : Bool} {r : Reach}

theorem cells_frame : Try.prog.cellsOf 39 = 2 := by kernel_rfl
instance : Inhabited FrameAt := ⟨⟨0, none, 0, []⟩⟩

/-- Two cells that read as a struct of two fields of one cell. -/
theorem trod_agg2 {P : Program} {w : World} {t : TypeId} {f0 f1 : Field} {fuel : Nat} {cs : List Value} {x : DataW H × List MemPlace} (hs : P.underlying t = some (.struct #[f0, f1])) (hone : Deep.oneCellFields P #[f0, f1] = true) (hC : P.cellsOf t = 2)
    (h : DataW.trod enc P w base spare held fuel t cs = some x) :
    ∃ (v0 v1 : Value) (y0 y1 : DataW H × List MemPlace) (n : Nat), cs = [v0, v1] ∧ DataW.trod enc P w base spare held n f0.type [v0] = some y0 ∧ DataW.trod enc P w base spare held n f1.type [v1] = some y1 := by
  obtain ⟨y0, y1, n, hx, hl, h0, h1⟩ := ChangeShapes.trod_struct2 hs h
  rw [hC] at hl
  obtain ⟨v0, v1, rfl⟩ : ∃ v0 v1, cs = [v0, v1] := by
    match cs, hl with
    | [v0, v1], _ => exact ⟨v0, v1, rfl⟩
  obtain ⟨o0, k0⟩ := Deep.hone_of hone 0 f0 rfl
  obtain ⟨o1, k1⟩ := Deep.hone_of hone 1 f1 rfl
  exact ⟨v0, v1, y0, y1, n, rfl, by simpa [o0, k0] using h0, by simpa [o1, k1] using h1⟩

/-- Two cells that read as a frame. -/
theorem trod_frame {fuel : Nat} {cs : List Value} {x : DataW H × List MemPlace} (h : DataW.trod enc Try.prog W base spare held fuel 39 cs = some x) :
    ∃ f : FrameAt, cs = [.int .u16 f.ch, .slice f.A f.l.length f.c] ∧ f.ch ≤ 65535 ∧ Rd W f.A f.c f.l := by
  obtain ⟨v0, v1, y0, y1, n, rfl, h0, h1⟩ := trod_agg2 Try.underlying39 (by kernel_rfl) cells_frame h
  obtain ⟨z, e0, _, wz⟩ := DataW.trod_int Try.underlying37 h0
  obtain ⟨A, c, l, e1, hr⟩ := open_bytes h1
  simp only [List.cons.injEq, and_true] at e0 e1
  subst e0 e1
  obtain ⟨g0, g1⟩ := wf_u16 wz
  obtain ⟨n, rfl⟩ := Int.eq_ofNat_of_zero_le g0
  exact ⟨⟨n, A, c, l⟩, rfl, by show n ≤ 65535; omega, hr⟩

theorem open_frames {fuel : Nat} {cs : List Value} {x : DataW H × List MemPlace} (h : DataW.trod enc Try.prog W base spare held fuel 48 cs = some x) : ∃ A c fs, cs = [.slice A (fs : List FrameAt).length c] ∧ Frs W A c fs := by
  rcases Deep.open_slice Try.underlying48 h with ⟨rfl, _⟩ | ⟨a, len, cap, m, n, D, Pl, rfl, _, hl, hm, hmm, _, hx⟩
  · exact ⟨none, 0, [], rfl, ⟨by simp, by decide, fun i hi => by simp at hi⟩⟩
  · have hlm : len ≤ m := by subst hmm; split <;> omega
    have hpl : 0 < len → ∃ b o, a = ⟨b, o, none⟩ := fun h0 => by
      obtain ⟨cs', h1, h2⟩ := hx 0 (by omega)
      rw [cells_frame] at h1
      obtain ⟨f, rfl, g1, g2⟩ := trod_frame h2
      obtain ⟨_, _, g3⟩ := World.cells?_some h1
      have c0 := no_spot (g3 0 (by omega))
      rw [show (a.add (0 * 2)).add 0 = a from rfl] at c0
      obtain ⟨b, o, sp⟩ := a
      cases c0
      exact ⟨b, o, rfl⟩
    have hb : ∀ i, i < len → ∃ f : FrameAt, (∃ b o, a = ⟨b, o, none⟩ ∧ W.cell? ⟨b, o + i * 2, none⟩ = some (.int .u16 f.ch) ∧ W.cell? ⟨b, o + i * 2 + 1, none⟩ = some (.slice f.A f.l.length f.c)) ∧ f.ch ≤ 65535 ∧ Rd W f.A f.c f.l := fun i hi => by
      obtain ⟨b, o, rfl⟩ := hpl (by omega)
      obtain ⟨cs', h1, h2⟩ := hx i (by omega)
      rw [cells_frame] at h1
      obtain ⟨f, rfl, g1, g2⟩ := trod_frame h2
      obtain ⟨_, _, g3⟩ := World.cells?_some h1
      have c0 := g3 0 (by omega)
      have c1 := g3 1 (by omega)
      rw [plain_add, plain_add] at c0 c1
      exact ⟨f, ⟨b, o, rfl, c0, c1⟩, g1, g2⟩
    obtain ⟨g, hg⟩ := Deep.choose_lt hb
    have hlen : ((List.range len).map g).length = len := by simp
    refine ⟨some a, cap, (List.range len).map g, by rw [hlen], ⟨by rw [hlen]; exact hl, by simpa only [maxLen] using hm, fun i hi => ?_⟩⟩
    rw [hlen] at hi
    obtain ⟨⟨b, o, e, k1, k2⟩, k3, k4⟩ := hg i hi
    exact ⟨b, o, by rw [e], by simpa using k1, by simpa using k2, by simpa using k3, by simpa using k4⟩
end
end Go.Proofs.Ytmeljnohkhkfmaa

import Derived.Test.YtmeljnohkhkfmaaOwn
set_option linter.unusedVariables false
set_option linter.unusedSimpArgs false
namespace Go.Proofs.Ytmeljnohkhkfmaa
open Go.RowKit

theorem eql_nil (A : Option Addr) (n c : Nat) (W : World) : (binOp .eql 24 (.slice A n c) (.slice none 0 0)).run Try.prog W = .ok (.bool A.isNone) W :=
  Lib.run_eql_slice_nil W _ _ _ _ _ _ _ Try.underlying24

/-- A new block, all of it behind the length. -/
theorem OwnB.new {w : World} {base : Nat} (hb : base ≤ w.heap.size) : OwnB (w.alloc (.cells #[] 5)) base (.slice (some ⟨w.heap.size, 0, none⟩) 0 0) [] :=
  OwnB.made (l := []) (sp := []) hb (heap_alloc_new w _) rfl (by omega)
theorem below_alloc (w : World) (o : Obj) : Below w.heap.size w (w.alloc o) := (Below.refl _ _).alloc (Nat.le_refl _) o
theorem size_alloc (w : World) (o : Obj) : (w.alloc o).heap.size = w.heap.size + 1 := by simp
theorem pw_drewN {B : Nat} {a w : World} (h : Below B a w) (n : Nat) : Below B a (w.drewN n) := ⟨h.os, h.tape, h.output, h.size, h.block⟩
/-- Only what is known of the world goes on. -/
theorem forget {P : Program} {c : Code} {Q : Exit → Act → World → Prop} {a : Act} {W : World} (F : World → Prop) (hF : F W) (h : ∀ W, F W → c.wp P Q a W) : c.wp P Q a W := h W hF
theorem below_drew (w : World) : Below w.heap.size w w.drew := ⟨rfl, rfl, rfl, Nat.le_refl _, fun _ _ => rfl⟩
theorem below_of_drew {w w' : World} (h : Below w.drew.heap.size w.drew w') : Below w.heap.size w w' := ⟨h.os, h.tape, h.output, h.size, h.block⟩
/-- Two steps, each seen from its own beginning. -/
theorem below_then {B : Nat} {w w1 w2 : World} (h : Below B w w1) (hB : B ≤ w1.heap.size) (k : Below w1.heap.size w1 w2) : Below B w w2 := h.trans (k.mono hB)
theorem below_grown {B : Nat} {w w1 w2 : World} {row : Option Nat} (h : Below B w w1) (hB : B ≤ w1.heap.size) (hg : w1.grownBy w2 row) (hr : ∀ k, row = some k → B ≤ k) : Below B w w2 := h.grown hg hB hr

/-- What an append of one element lays ahead of itself. -/
theorem rd_one {w : World} {b : UInt8} {z : Int} (h : z = (b.toNat : Int)) : Rd (w.alloc (.cells #[.int .u8 z] 5)) (some ⟨w.heap.size, 0, none⟩) 1 [b] := by
  refine ⟨rfl, Nat.le_refl 1, by decide, (fun hh => by cases hh), u8s_one [b], fun ad ha j u hj => ?_⟩
  cases ha
  rw [plain_add]
  have hh := heap_alloc_new w (.cells #[.int .u8 z] 5)
  subst h
  exact cell_of_heap (l := u8s [b]) hh _ u (by rw [Nat.zero_add]; exact hj)

set_option maxHeartbeats 400000 in
theorem clone_calls (A : Option Addr) (c : Nat) (l : List UInt8) (w : World) (h : Rd w A c l) (hb : l.length ≤ 140737488351232) :
    Calls Try.prog 37 #[.slice A l.length c] w fun e w' => ∃ v, e = .returned v ∧ OwnB w' w.heap.size v l ∧ Below w.heap.size w w' ∧ (v = .slice none 0 0 ↔ A = none) := by
  cases A with
  | none =>
    obtain ⟨rfl, rfl⟩ := h.nil_ rfl
    have hn := eql_nil none 0 0
    go_enter Try.func37, Try.ntmps37
    go_wp2
    go_ret
    exact ⟨_, rfl, OwnB.nil_, Below.refl _ _, by simp⟩
  | some ad =>
    have hn := eql_nil (some ad) l.length c
    have HR := Lib.hid h
    clear h
    go_enter Try.func37, Try.ntmps37
    go_wp2_with (at_builtin; refine wpList_appB _ rfl _ _ rfl w.heap.size (.slice (some ⟨w.heap.size, 0, none⟩) 0 0) [] rfl ?own (some ad) _ _ l rfl rfl ?rd ?hb ?hbase ?_)
    case own => exact OwnB.new (Nat.le_refl _)
    case rd => exact HR.out.below (below_alloc _ _)
    case hb => simp; omega
    case hbase => simp
    · intro v w' h1 h2 h3 h4
      have H2 := Lib.hid h2
      clear h2 hn h4
      go_wp2
      go_ret
      exact ⟨_, rfl, h1, below_grown (below_alloc w _) (by simp) H2.out (by simp [Value.ownBlock]), by simp [h3]⟩
end Go.Proofs.Ytmeljnohkhkfmaa

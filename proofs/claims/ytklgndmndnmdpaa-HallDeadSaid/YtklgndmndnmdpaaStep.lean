import Derived.Test.YtklgndmndnmdpaaQSm
import Derived.Test.YtklgndmndnmdpaaHeld
set_option linter.unusedVariables false
set_option linter.unusedSimpArgs false
namespace Go.Proofs.Ytklgndmndnmdpaa
open Go.RowKit Go.Shelf

theorem OwnC.ne_bx {e t : TypeId} {sz : Nat} {okc : Value → Prop} {w : World} {base b : Nat} {v : Value} {n : Nat} {cs cs' : List Value} (h : OwnC e sz okc w base v n cs) (hb : Bx w b t cs') (hne : e ≠ t) : v.ownBlock ≠ some b := by
  rcases h.2.2 with ⟨rfl, rfl⟩ | ⟨g, cap, sp, rfl, _, hh, _⟩
  · simp [Value.ownBlock]
  · intro e'
    have : g = b := by simpa [Value.ownBlock] using e'
    subst this
    exact Bx.ne (show Bx w g e (cs ++ sp) from hh) hb hne rfl
theorem OwnC.keepT {e : TypeId} {sz : Nat} {okc : Value → Prop} {w w' : World} {base : Nat} {v : Value} {n : Nat} {cs : List Value} (h : OwnC e sz okc w base v n cs) (hk : ∀ k cs', Bx w k e cs' → w'.heap[k]? = w.heap[k]?) : OwnC e sz okc w' base v n cs := by
  refine h.keep fun k hm => ?_
  rcases h.2.2 with ⟨rfl, rfl⟩ | ⟨g, cap, sp, rfl, _, hh, _⟩
  · simp [Value.ownBlock] at hm
  · have : g = k := by simpa [Value.ownBlock] using hm
    subst this
    exact hk _ _ (show Bx w g e (cs ++ sp) from hh)
/-- A step of the owner's; new blocks become its own. -/
theorem CZ.step2 {β : Type} {w : World} {F G G' : List Nat} {P P' : β → World → Prop} {s s' : β} {Z : List Nat} {W W' : World} (h : CZ w F G P s Z W) (t : Tch G W W') (hG : ∀ k ∈ G', k ∈ G ∨ (W.heap.size ≤ k ∧ k < W'.heap.size)) (hP : P' s' W') : ZK Z W W' ∧ CZ w F G' P' s' Z W' := by
  have h1 := h.1.size
  refine ⟨⟨t.size, fun k hk => t.block k (h.2.2.2 k hk).2 fun hm => (h.2.2.1 k hm).2.1 hk⟩, h.1.trans t fun k hk => .inr (h.2.2.1 k hk).1, hP, fun k hk => ?_, fun k hk => ⟨(h.2.2.2 k hk).1, Nat.lt_of_lt_of_le (h.2.2.2 k hk).2 t.size⟩⟩
  rcases hG k hk with h2 | h2
  · exact ⟨(h.2.2.1 k h2).1, (h.2.2.1 k h2).2.1, Nat.lt_of_lt_of_le (h.2.2.1 k h2).2.2 t.size⟩
  · exact ⟨by omega, fun hm => by have := (h.2.2.2 k hm).2; omega, h2.2⟩
theorem Bx.grown {W W' : World} {b : Nat} {t : TypeId} {cs : List Value} {row : Option Nat} (h : Bx W b t cs) (hg : W.grownBy W' row) (hne : row ≠ some b) : Bx W' b t cs := h.keep (hg.block b h.lt fun e => hne e.symm)
theorem grown_cell {W W' : World} {row : Option Nat} {b o : Nat} {v : Value} (hg : W.grownBy W' row) (hne : row ≠ some b) (hc : W.cell? ⟨b, o, none⟩ = some v) : W'.cell? ⟨b, o, none⟩ = some v :=
  cell_of_block (hg.block b (World.block_lt_of_cell? _ _ hc) fun e => hne e.symm) hc
end Go.Proofs.Ytklgndmndnmdpaa

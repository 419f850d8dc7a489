import Derived.Test.YtklgndmndnmdpaaGen
set_option linter.unusedVariables false
set_option linter.unusedSimpArgs false
namespace Go.Proofs.Ytklgndmndnmdpaa
open Go.RowKit

/-- Of what there was, the blocks of F alone have turned. -/
structure Tch (F : List Nat) (w w' : World) : Prop where
  os : w'.os = w.os
  tape : w'.tape = w.tape
  output : w'.output = w.output
  size : w.heap.size ≤ w'.heap.size
  block : ∀ k, k < w.heap.size → k ∉ F → w'.heap[k]? = w.heap[k]?
theorem Tch.refl (F : List Nat) (w : World) : Tch F w w := ⟨rfl, rfl, rfl, Nat.le_refl _, fun _ _ _ => rfl⟩
theorem Tch.mono {F G : List Nat} {w w' : World} (h : Tch F w w') (hs : ∀ k ∈ F, k ∈ G) : Tch G w w' := ⟨h.os, h.tape, h.output, h.size, fun k hk hn => h.block k hk (fun hm => hn (hs k hm))⟩
/-- What the second step turns beside F is new. -/
theorem Tch.trans {F G : List Nat} {w w1 w2 : World} (h : Tch F w w1) (k : Tch G w1 w2) (hs : ∀ j ∈ G, j ∈ F ∨ w.heap.size ≤ j) : Tch F w w2 :=
  ⟨k.os.trans h.os, k.tape.trans h.tape, k.output.trans h.output, Nat.le_trans h.size k.size, fun j hj hn => (k.block j (Nat.lt_of_lt_of_le hj h.size) (fun hm => by rcases hs j hm with h' | h' <;> first | exact hn h' | omega)).trans (h.block j hj hn)⟩
theorem Tch.trans_ {F : List Nat} {w w1 w2 : World} (h : Tch F w w1) (k : Tch F w1 w2) : Tch F w w2 := h.trans k fun j hj => .inl hj
theorem Tch.of_below {w w' : World} (F : List Nat) (h : Below w.heap.size w w') : Tch F w w' := ⟨h.os, h.tape, h.output, h.size, fun k hk _ => h.block k hk⟩
theorem Tch.below {F : List Nat} {w w' : World} {B : Nat} (h : Tch F w w') (hB : B ≤ w.heap.size) (hF : ∀ k ∈ F, B ≤ k) : Below B w w' := ⟨h.os, h.tape, h.output, h.size, fun k hk => h.block k (by omega) (fun hm => by have := hF k hm; omega)⟩
theorem Tch.below0 {w w' : World} (h : Tch [] w w') : Below w.heap.size w w' := h.below (Nat.le_refl _) (fun _ hk => by cases hk)
theorem Tch.alloc {F : List Nat} {w w' : World} (h : Tch F w w') (o : Obj) : Tch F w (w'.alloc o) :=
  ⟨h.os, h.tape, h.output, by have := h.size; simp; omega, fun k hk hn => (heap_alloc_old w' o (by have := h.size; omega)).trans (h.block k hk hn)⟩
theorem Tch.drew {F : List Nat} {w w' : World} (h : Tch F w w') : Tch F w w'.drew := ⟨h.os, h.tape, h.output, h.size, h.block⟩
theorem Tch.drewN {F : List Nat} {w w' : World} (h : Tch F w w') (n : Nat) : Tch F w (w'.drewN n) := ⟨h.os, h.tape, h.output, h.size, h.block⟩
theorem Tch.of_drew {F : List Nat} {w w' : World} (h : Tch F w.drew w') : Tch F w w' := ⟨h.os, h.tape, h.output, h.size, h.block⟩
theorem Tch.setCell {F : List Nat} {w w' : World} (h : Tch F w w') {g j : Nat} (u : Value) (hg : g ∈ F ∨ w.heap.size ≤ g) : Tch F w (w'.setCell ⟨g, j, none⟩ u) :=
  ⟨h.os, h.tape, h.output, by have := h.size; simp; omega, fun k hk hn => by
    have : k ≠ g := fun e => by subst e; rcases hg with h' | h' <;> first | exact hn h' | omega
    exact (Below.heap_setCell w' ⟨g, j, none⟩ u k this).trans (h.block k hk hn)⟩
theorem Tch.grown {F : List Nat} {w w1 w2 : World} {row : Option Nat} (h : Tch F w w1) (hg : w1.grownBy w2 row) (hr : ∀ k, row = some k → k ∈ F ∨ w.heap.size ≤ k) : Tch F w w2 :=
  ⟨hg.os.trans h.os, hg.tape.trans h.tape, hg.output.trans h.output, Nat.le_trans h.size hg.size, fun k hk hn => (hg.block k (Nat.lt_of_lt_of_le hk h.size) (fun e => by rcases hr k e.symm with h' | h' <;> first | exact hn h' | omega)).trans (h.block k hk hn)⟩
/-- A cell in a block that is not turned. -/
theorem Tch.cell {F : List Nat} {w w' : World} (h : Tch F w w') {a : Addr} {v : Value} (hc : w.cell? a = some v) (hn : a.block ∉ F) : w'.cell? a = some v := by
  have hb := h.block a.block (World.block_lt_of_cell? _ _ hc) hn
  unfold World.cell? at hc ⊢
  rw [hb]
  exact hc
theorem RdC.tch {sz : Nat} {F : List Nat} {w w' : World} {A : Option Addr} {n c : Nat} {cs : List Value} (h : RdC sz w A n c cs) (ht : Tch F w w') (hne : ∀ ad, A = some ad → ad.block ∉ F) : RdC sz w' A n c cs := by
  obtain ⟨h1, h2, h3, h4, h5, h6⟩ := h
  refine ⟨h1, h2, h3, h4, h5, fun ad ha j u hj => ?_⟩
  have hc := h6 ad ha j u hj
  exact ht.cell hc (by rw [show (ad.add j).block = ad.block from by unfold Addr.add; split <;> rfl]; exact hne ad ha)
theorem OwnC.tch {e : TypeId} {sz : Nat} {okc : Value → Prop} {F : List Nat} {w w' : World} {base : Nat} {v : Value} {n : Nat} {cs : List Value} (h : OwnC e sz okc w base v n cs) (ht : Tch F w w') (hne : ∀ k, v.ownBlock = some k → k ∉ F) : OwnC e sz okc w' base v n cs :=
  h.keep fun k hk => ht.block k (h.lt k hk).2 (hne k hk)
theorem stays {B : Nat} {w w' : World} {a : Addr} {v : Value} (h : Below B w w') (hc : w.cell? a = some v) (hB : a.block < B) : w'.cell? a = some v := (h.cell hB).trans hc
theorem stays_ {w w' : World} {a : Addr} {v : Value} (h : Below w.heap.size w w') (hc : w.cell? a = some v) : w'.cell? a = some v := stays h hc (World.block_lt_of_cell? _ _ hc)
theorem below_alloc (w : World) (o : Obj) : Below w.heap.size w (w.alloc o) := (Below.refl _ _).alloc (Nat.le_refl _) o
theorem below_then {B : Nat} {w w1 w2 : World} (h : Below B w w1) (hB : B ≤ w1.heap.size) (k : Below w1.heap.size w1 w2) : Below B w w2 := h.trans (k.mono hB)
theorem below_drew (w : World) : Below w.heap.size w w.drew := ⟨rfl, rfl, rfl, Nat.le_refl _, fun _ _ => rfl⟩
theorem below_of_drew {w w' : World} (h : Below w.drew.heap.size w.drew w') : Below w.heap.size w w' := ⟨h.os, h.tape, h.output, h.size, h.block⟩
theorem bcell {W w1 : World} (hb : Below W.heap.size W w1) : (∀ b o, b < W.heap.size → w1.cell? ⟨b, o, none⟩ = W.cell? ⟨b, o, none⟩) ∧ (∀ b o, b < W.heap.size → w1.frozen? ⟨b, o, none⟩ = W.frozen? ⟨b, o, none⟩) :=
  ⟨fun b o h => hb.cell (p := ⟨b, o, none⟩) h, fun b o h => hb.frozen (p := ⟨b, o, none⟩) h⟩
/-- Only what is known of the world goes on. -/
theorem forget {P : Program} {c : Code} {Q : Exit → Act → World → Prop} {a : Act} {W : World} (F : World → Prop) (hF : F W) (h : ∀ W, F W → c.wp P Q a W) : c.wp P Q a W := h W hF
theorem forgetL {P : Program} {ops : Array Oper} {rest : List Oper} {Q : Exit → Act → World → Prop} {a : Act} {W : World} (F : World → Prop) (hF : F W) (h : ∀ W, F W → wpList P ops Q rest a W) : wpList P ops Q rest a W := h W hF
theorem forgetX {Q : Exit → Act → World → Prop} {e : Exit} {a : Act} {W : World} (F : World → Prop) (hF : F W) (h : ∀ W, F W → Q e a W) : Q e a W := h W hF
end Go.Proofs.Ytklgndmndnmdpaa

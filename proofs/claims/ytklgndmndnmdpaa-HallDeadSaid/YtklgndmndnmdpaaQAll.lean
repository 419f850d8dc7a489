import Derived.Test.YtklgndmndnmdpaaQClone
set_option linter.unusedVariables false
set_option linter.unusedSimpArgs false
namespace Go.Proofs.Ytklgndmndnmdpaa
open Go.RowKit Go.Shelf
attribute [local go_sem] Oper.semAt_some

set_option maxHeartbeats 1000000 in
/-- slices.Backward: the slice is boxed. -/
theorem back_in (F : Fence) (n : Nat) (h : F.fn 81) (hro : F.round = none) (A : Option Addr) (k c : Nat) (w : World) :
    CallsIn F n Try.prog 81 #[.slice A k c] w fun e w' => e = .returned (.func (.func 86) #[] #[.pointer (some ⟨w.heap.size, 0, none⟩)]) ∧ w' = w.alloc (.cells #[.slice A k c] 158) := by
  refine callsIn_of_wp Try.func81 rfl h ?_ hro
  simp only [Try.ntmps81, List.size_toArray, List.length_cons, List.length_nil, Nat.reduceAdd, Nat.reduceSub, Array.replicate_succ, Array.replicate_zero, List.push_toArray, List.append_toArray, List.nil_append, List.cons_append]
  gi_wp2
  go_ret
  exact ⟨rfl, rfl⟩

set_option maxRecDepth 100000 in
set_option maxHeartbeats 2000000 in
/-- all's closure where there is no queue: no round. -/
theorem all1_nil (F : Fence) (n : Nat) (h : F.fn 80) (hro : F.round = none) (l : Nat) (Bq Bh : Nat) (w : World) (hq : w.cell? ⟨Bq, 0, none⟩ = some (.pointer none)) :
    CallsIn F n Try.prog 80 #[.func (.yield l) #[] #[], .pointer (some ⟨Bq, 0, none⟩), .pointer (some ⟨Bh, 0, none⟩)] w fun e w' => (∃ v, e = .returned v) ∧ Below w.heap.size w w' := by
  have hb := World.block_lt_of_cell? _ _ hq
  refine callsIn_of_wp_marks Try.func80 rfl h ?_ hro
  simp only [Try.ntmps80, List.size_toArray, List.length_cons, List.length_nil, Nat.reduceAdd, Nat.reduceSub, Array.replicate_succ, Array.replicate_zero, List.push_toArray, List.append_toArray, List.nil_append, List.cons_append]
  gi_wp2
  exact ⟨_, results_none rfl _ _ _, ⟨_, rfl⟩, (Below.refl _ _).alloc (Nat.le_refl _) _⟩
theorem all1_nil_sq (F : Fence) (h : F.fn 80) (hro : F.round = none) {α : Type} (encs : α → Array Value) (Bq Bh : Nat) (w : World) :
    SqZ F Try.prog 80 #[.pointer (some ⟨Bq, 0, none⟩), .pointer (some ⟨Bh, 0, none⟩)] encs (fun _ W => W.cell? ⟨Bq, 0, none⟩ = some (.pointer none)) (fun _ _ => False) (fun xs => xs = []) w :=
  fun n l J Jx W hb hJ hJx hR hY h0 => (all1_nil F n h hro l Bq Bh W (hR _ _ _ h0)).mono fun e W' ⟨h1, h2⟩ => ⟨h1, .inl ⟨[], rfl, hJ.guest _ _ [] _ _ h0 h2 (by simp)⟩⟩
end Go.Proofs.Ytklgndmndnmdpaa

import Derived.Test.YtmeljnohkhkfmaaOffO
import Derived.Test.YtmeljnohkhkfmaaIn7
set_option linter.unusedVariables false
set_option linter.unusedSimpArgs false
namespace Go.Proofs.Ytmeljnohkhkfmaa
open Go.RowKit

/-- The document's intake in memory. -/
structure RIn (w : World) (a : Nat) (F : List Nat) (most : Nat) (l : List UInt8) (ph : Nat) : Prop where
  ex : ∃ bv wt, w.heap[a]? = some (.cells #[.int .u32 most, bv, .bool wt, .bool (decide (ph = 2))] 45 (0, 0)) ∧ OwnO w 0 bv l ∧ (∀ g, bv.ownBlock = some g → g ∈ F ∧ g ≠ a) ∧ (ph = 0 → wt = false) ∧ (ph = 1 → wt = true)
  mem : a ∈ F
  lts : ∀ k ∈ F, k < w.heap.size
  ok : OkI most l ph
theorem RIn.lt {w : World} {a : Nat} {F : List Nat} {most ph : Nat} {l : List UInt8} (h : RIn w a F most l ph) : a < w.heap.size := h.lts a h.mem
theorem RIn.tch {w w' : World} {a : Nat} {F G : List Nat} {most ph : Nat} {l : List UInt8} (h : RIn w a F most l ph) (ht : Tch G w w') (hd : ∀ k ∈ F, k ∉ G) : RIn w' a F most l ph := by
  obtain ⟨⟨bv, wt, h1, h2, h3, h4⟩, hm, hs, hk⟩ := h
  exact ⟨⟨bv, wt, (ht.block a (heap_lt h1) (hd a hm)).trans h1, h2.tch ht (fun k hk => hd k (h3 k hk).1), h3, h4⟩, hm, fun k hk => Nat.lt_of_lt_of_le (hs k hk) ht.size, hk⟩
theorem RIn.below {w w' : World} {a : Nat} {F : List Nat} {most ph : Nat} {l : List UInt8} (h : RIn w a F most l ph) (hb : Below w.heap.size w w') : RIn w' a F most l ph := h.tch (Tch.of_below [] hb) (fun _ _ hk => by cases hk)
theorem RIn.row {w : World} {a : Nat} {F : List Nat} {most ph : Nat} {l : List UInt8} (h : RIn w a F most l ph) : ∃ A c wt, w.heap[a]? = some (.cells #[.int .u32 most, .slice A l.length c, .bool wt, .bool (decide (ph = 2))] 45 (0, 0)) ∧ OwnO w 0 (.slice A l.length c) l ∧ Rd w A c l ∧
    (w.cell? ⟨a, 0, none⟩ = some (.int .u32 most) ∧ w.cell? ⟨a, 1, none⟩ = some (.slice A l.length c) ∧ w.cell? ⟨a, 2, none⟩ = some (.bool wt) ∧ w.cell? ⟨a, 3, none⟩ = some (.bool (decide (ph = 2)))) ∧ (∀ j, w.frozen? ⟨a, j, none⟩ = false) ∧
    (∀ g, (Value.slice A l.length c).ownBlock = some g → g ∈ F ∧ g ≠ a) ∧ (ph = 0 → wt = false) ∧ (ph = 1 → wt = true) := by
  obtain ⟨⟨bv, wt, h1, h2, h3, h4, h5⟩, hm, hs, hk⟩ := h
  obtain ⟨A, c, rfl, hr⟩ := h2.rd
  have hc := fun j u hj => cell_of_heap (l := [.int .u32 most, .slice A l.length c, .bool wt, .bool (decide (ph = 2))]) h1 j u hj
  exact ⟨A, c, wt, h1, h2, hr, ⟨hc 0 _ rfl, hc 1 _ rfl, hc 2 _ rfl, hc 3 _ rfl⟩, fun j => froz_of_heap h1 j, h3, h4, h5⟩
theorem rin_close {w w2 : World} {a : Nat} {F : List Nat} {most ph : Nat} {l : List UInt8} {bv : Value} {wt : Bool} (H1 : w2.heap[a]? = some (.cells #[.int .u32 most, bv, .bool wt, .bool (decide (ph = 2))] 45 (0, 0)))
    (HO : OwnO w2 0 bv l) (ha : a ∈ F) (hne : ∀ g, bv.ownBlock = some g → g ≠ a) (hv' : ∀ g, bv.ownBlock = some g → g ∈ F ∨ w.heap.size ≤ g) (hk : OkI most l ph) (hs : w.heap.size ≤ w2.heap.size) (h0 : ph = 0 → wt = false) (h1 : ph = 1 → wt = true) :
    ∃ F', RIn w2 a F' most l ph ∧ (∀ k ∈ F', k ∈ F ∨ w.heap.size ≤ k) ∧ ∀ k ∈ F', k = a ∨ bv.ownBlock = some k := by
  refine ⟨a :: bv.ownBlock.toList, ⟨⟨bv, wt, H1, HO, fun g hg => ⟨by simp [hg], hne g hg⟩, h0, h1⟩, by simp, fun k hk => ?_, hk⟩, fun k hk => ?_, fun k hk => ?_⟩
  · rcases List.mem_cons.1 hk with rfl | h
    · exact heap_lt H1
    · exact (HO.lt k (by simpa using h)).2
  · rcases List.mem_cons.1 hk with rfl | h
    · exact .inl ha
    · exact hv' k (by simpa using h)
  · rcases List.mem_cons.1 hk with rfl | h
    · exact .inl rfl
    · exact .inr (by simpa using h)

set_option maxHeartbeats 400000 in
theorem rnew_ok (most : Nat) (w : World) (h1 : 512 ≤ most) (h2 : most ≤ 4096) :
    Calls Try.prog 12 #[.int .u32 most] w fun e w' => e = .returned (.tuple #[.pointer (some ⟨w.heap.size, 0, none⟩), .int .i64 0]) ∧ RIn w' w.heap.size [w.heap.size] most [] 0 ∧ Below w.heap.size w w' := by
  go_enter Try.func12, Try.ntmps12
  go_wp2_with fail
  go_ret2
  refine ⟨rfl, ⟨⟨.slice none 0 0, false, ?_, OwnO.nil_, by simp [Value.ownBlock], fun _ => rfl, by decide⟩, by simp, by intro k hk; simp at hk ⊢; omega, ⟨h1, h2, by simp, by omega, fun _ => rfl⟩⟩, ?_⟩
  · have := heap_alloc_new w (.cells #[.int .u32 most, .slice none 0 0, .bool false, .bool false] 45)
    simpa using this
  · exact (below_alloc w _)
set_option maxHeartbeats 400000 in
theorem rnew_bad (most : Nat) (w : World) (h : most < 512 ∨ 4096 < most) (hm : most ≤ 4294967295) :
    Calls Try.prog 12 #[.int .u32 most] w fun e w' => e = .returned (.tuple #[.pointer none, .int .i64 1]) ∧ w = w' := by
  by_cases h1 : most < 512
  · go_enter Try.func12, Try.ntmps12
    go_wp2_with fail
    go_ret2
    exact ⟨rfl, rfl⟩
  · have h2 : 4096 < most := by omega
    go_enter Try.func12, Try.ntmps12
    go_wp2_with fail
    go_ret2
    exact ⟨rfl, rfl⟩
set_option maxHeartbeats 400000 in
theorem rroom_calls {w : World} {a : Nat} {F : List Nat} {most ph : Nat} {l : List UInt8} (h : RIn w a F most l ph) :
    Calls Try.prog 22 #[.pointer (some ⟨a, 0, none⟩)] w fun e w' => e = .returned (.int .i64 (roomI most l ph : Nat)) ∧ Below w.heap.size w w' := by
  obtain ⟨A, c, wt, -, -, -, ⟨c0, c1, c2, c3⟩, -, -, -, -⟩ := h.row
  obtain ⟨k1, k2, k3, k4, k5⟩ := h.ok
  by_cases hp : ph = 2
  · have e : roomI most l ph = 0 := by simp [roomI, hp]
    rw [decide_eq_true hp] at c3
    rw [e]
    clear h hp e k5
    go_enter Try.func22, Try.ntmps22
    go_wp2_with fail
    go_ret
    exact ⟨rfl, Below.refl _ _⟩
  · have e : roomI most l ph = most + 8 - l.length := by simp [roomI, hp]
    rw [decide_eq_false hp] at c3
    rw [e]
    obtain ⟨n, hn⟩ : ∃ n, l.length = n := ⟨_, rfl⟩
    rw [hn] at c1 k3 ⊢
    have q1 : IntKind.i64.wrap ((most : Nat) : Int) = most := IntWalk.i64_in _ (by omega)
    have q2 : IntKind.i64.wrap ((most : Int) + 8) = most + 8 := IntWalk.i64_in _ (by omega)
    have q3 : IntKind.i64.wrap ((most : Int) + 8 - n) = most + 8 - n := IntWalk.i64_in _ (by omega)
    have q4 : (((most + 8 - n : Nat)) : Int) = most + 8 - n := by omega
    rw [q4]
    clear h hp e k5 hn q4
    go_enter Try.func22, Try.ntmps22
    go_wp2_with fail
    go_quiet (fail)
    go_wp2_with fail
    go_ret
    exact ⟨rfl, below_drewN w _⟩
set_option maxHeartbeats 400000 in
theorem rstart_calls (w : World) : Calls Try.prog 29 #[] w fun e w' => e = .returned (.slice (some ⟨w.heap.size, 0, none⟩) 8 8) ∧ OwnB w' w.heap.size (.slice (some ⟨w.heap.size, 0, none⟩) 8 8) stB ∧ Below w.heap.size w w' := by
  go_enter Try.func29, Try.ntmps29
  go_wp2_with fail
  go_ret
  exact ⟨rfl, OwnB.made (l := stB) (sp := []) (Nat.le_refl _) (heap_last rfl) rfl (by decide), below_alloc w _⟩
end Go.Proofs.Ytmeljnohkhkfmaa

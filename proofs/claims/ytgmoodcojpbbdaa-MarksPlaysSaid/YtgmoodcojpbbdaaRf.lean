import Derived.Test.YtgmoodcojpbbdaaKeepM
import Derived.Deep.RegionHeld3
set_option linter.unusedVariables false
set_option linter.unusedSimpArgs false
namespace Go.Proofs.Ytgmoodcojpbbdaa
open Go.RowKit

/-- The reference's marks in memory: a row; all that they are lies in blocks of F. -/
structure Rf (w : World) (a : Nat) (F : List Nat) (ms : Ms) : Prop where
  ex : ∃ tv, w.heap[a]? = some (.cells #[tv] 67 (0, 0)) ∧ OwnC 47 5 (fun _ => True) w 0 tv ms.length (mcs ms) ∧ ∀ g, tv.ownBlock = some g → g ∈ F
  mem : a ∈ F
  lts : ∀ k ∈ F, k < w.heap.size
theorem Rf.lt {w : World} {a : Nat} {F : List Nat} {ms : Ms} (h : Rf w a F ms) : a < w.heap.size := h.lts a h.mem
theorem Rf.tch {w w' : World} {a : Nat} {F G : List Nat} {ms : Ms} (h : Rf w a F ms) (ht : Tch G w w') (hd : ∀ k ∈ F, k ∉ G) : Rf w' a F ms := by
  obtain ⟨⟨tv, h1, h2, h3⟩, hm, hs⟩ := h
  exact ⟨⟨tv, (ht.block a (heap_lt h1) (hd a hm)).trans h1, h2.tch ht (fun k hk => hd k (h3 k hk)), h3⟩, hm, fun k hk => Nat.lt_of_lt_of_le (hs k hk) ht.size⟩
theorem Rf.below {w w' : World} {a : Nat} {F : List Nat} {ms : Ms} (h : Rf w a F ms) (hb : Below w.heap.size w w') : Rf w' a F ms := h.tch (Tch.of_below [] hb) (fun _ _ hk => by cases hk)
theorem Rf.row {w : World} {a : Nat} {F : List Nat} {ms : Ms} (h : Rf w a F ms) : ∃ A c, w.heap[a]? = some (.cells #[.slice A ms.length c] 67 (0, 0)) ∧ OwnC 47 5 (fun _ => True) w 0 (.slice A ms.length c) ms.length (mcs ms) ∧ RdC 5 w A ms.length c (mcs ms) ∧
    w.cell? ⟨a, 0, none⟩ = some (.slice A ms.length c) ∧ w.frozen? ⟨a, 0, none⟩ = false ∧ ∀ g, (Value.slice A ms.length c).ownBlock = some g → g ∈ F ∧ g ≠ a := by
  obtain ⟨⟨tv, h1, h2, h3⟩, hm, hs⟩ := h
  obtain ⟨A, c, rfl, hr⟩ := h2.rd
  refine ⟨A, c, h1, h2, hr, cell_of_heap (l := [.slice A ms.length c]) h1 0 _ rfl, froz_of_heap h1 0, fun g hg => ⟨h3 g hg, fun e => ?_⟩⟩
  rcases h2.2.2 with ⟨e1, _⟩ | ⟨g', cap, sp, e1, hb, hh, _⟩
  · rw [e1] at hg; simp [Value.ownBlock] at hg
  · rw [e1] at hg
    simp [Value.ownBlock] at hg
    subst hg
    rw [e, h1] at hh
    simp at hh
/-- A new row is laid in. -/
theorem rf_close {w w2 : World} {a : Nat} {F : List Nat} {tv v' : Value} {ms' : Ms} (H1 : w2.heap[a]? = some (.cells #[tv] 67 (0, 0)))
    (HO : OwnC 47 5 (fun _ => True) w2 0 v' ms'.length (mcs ms')) (ha : a ∈ F) (hv : ∀ g, v'.ownBlock = some g → g ∈ F ∨ w.heap.size ≤ g) (ht : Tch F w w2) (hF : ∀ k ∈ F, k < w.heap.size) :
    ∃ F', Rf (w2.setCell ⟨a, 0, none⟩ v') a F' ms' ∧ Tch F w (w2.setCell ⟨a, 0, none⟩ v') ∧ ∀ k ∈ F', k ∈ F ∨ w.heap.size ≤ k := by
  have hne : ∀ g, v'.ownBlock = some g → g ≠ a := fun g hg e => by
    rcases HO.2.2 with ⟨e1, _⟩ | ⟨g', cap, sp, e1, hb, hh, _⟩
    · rw [e1] at hg; simp [Value.ownBlock] at hg
    · rw [e1] at hg
      simp [Value.ownBlock] at hg
      subst hg
      rw [e, H1] at hh
      simp at hh
  refine ⟨F ++ v'.ownBlock.toList, ⟨⟨v', ?_, HO.keep fun k hk => Below.heap_setCell _ _ _ _ (hne k hk), fun g hg => by simp [hg]⟩, by simp [ha], fun k hk => ?_⟩, ht.setCell _ (.inl ha), fun k hk => ?_⟩
  · exact heap_set_same (l := [tv]) H1 0 v'
  · have hsz : (w2.setCell ⟨a, 0, none⟩ v').heap.size = w2.heap.size := by simp
    rw [hsz]
    rcases List.mem_append.1 hk with h | h
    · exact Nat.lt_of_lt_of_le (hF k h) ht.size
    · exact (HO.lt k (by simpa using h)).2
  · rcases List.mem_append.1 hk with h | h
    · exact .inl h
    · exact hv k (by simpa using h)

set_option maxHeartbeats 400000 in
theorem rnew_calls (w : World) :
    Calls Try.prog 13 #[] w fun e w' => e = .returned (.pointer (some ⟨w.heap.size, 0, none⟩)) ∧ Rf w' w.heap.size [w.heap.size] [] ∧ Below w.heap.size w w' := by
  go_enter Try.func13, Try.ntmps13
  go_wp2
  go_ret
  exact ⟨rfl, ⟨⟨.slice none 0 0, heap_alloc_new w _, OwnC.nil_, by simp [Value.ownBlock]⟩, by simp, by intro k hk; simp at hk ⊢; omega⟩, below_alloc w _⟩

set_option maxHeartbeats 400000 in
theorem rfinal_calls (o : Outc) (w : World) :
    Calls Try.prog 21 #[ov o] w fun e w' => e = .returned (.bool (fin o)) ∧ Below w.heap.size w w' := by
  obtain ⟨k, a, b, c⟩ := o
  unfold ov
  obtain ⟨S, hS⟩ : ∃ S, str c = S := ⟨_, rfl⟩
  simp only
  rw [hS]
  by_cases hk : k = 2 ∨ k = 3 ∨ k = 4 ∨ k = 5
  · have HF := Lib.hid (show fin ⟨k, a, b, c⟩ = true by unfold fin; simp; omega)
    rw [HF.out]
    clear HF hS
    rcases hk with rfl | rfl | rfl | rfl
    all_goals
      go_enter Try.func21, Try.ntmps21
      go_wp2
      go_ret
      exact ⟨rfl, below_alloc w _⟩
  · have HF := Lib.hid (show fin ⟨k, a, b, c⟩ = false by unfold fin; simp; omega)
    rw [HF.out]
    have e2 : ((k : Int) == 2) = false := by rw [beq_eq_false_iff_ne]; omega
    have e3 : ((k : Int) == 3) = false := by rw [beq_eq_false_iff_ne]; omega
    have e4 : ((k : Int) == 4) = false := by rw [beq_eq_false_iff_ne]; omega
    have e5 : ((k : Int) == 5) = false := by rw [beq_eq_false_iff_ne]; omega
    clear HF hS hk
    go_enter Try.func21, Try.ntmps21
    go_wp2
    go_ret
    exact ⟨rfl, below_alloc w _⟩

set_option maxHeartbeats 800000 in
theorem at_calls (A : Option Addr) (n c : Nat) (th : Ms) (t : List UInt8) (w : World) (h : RdC 5 w A n c (mcs th)) :
    Calls Try.prog 27 #[.slice A n c, str t] w fun e w' => e = .returned (.int .i64 (whereT (th.map (·.1)) t)) ∧ w = w' := by
  have hl : n = th.length := by have := h.1; rw [mcs_length] at this; omega
  subst hl
  have H := Lib.hid h
  have hmx := h.2.2.1
  have hlc := h.2.1
  obtain ⟨N, hN⟩ : ∃ N, th.length = N := ⟨_, rfl⟩
  rw [hN] at hlc ⊢
  have HN := Lib.hid hN
  unfold str
  clear h hN
  go_enter Try.func27, Try.ntmps27
  go_wp2_with fail
  go_loopw [5] (fun i wr => ∃ k : Nat, k ≤ N ∧ i = .int .i64 k ∧ w = wr ∧ Hid (∀ j (hj : j < (th.map (·.1)).length), j < k → (th.map (·.1))[j] ≠ t)) (fun i _ => N - (intOf i).toNat)
  case atStart => exact ⟨0, by omega, rfl, rfl, Lib.hid (fun j _ hj => by omega)⟩
  case round =>
    obtain ⟨k, hk, rfl, rfl, HB⟩ := hrel
    by_cases hkN : k < N
    · have hkl : k < th.length := by rw [HN.out]; exact hkN
      obtain ⟨b0, o0, e, g0, _, _, _, _⟩ := mark_at H.out k hkl
      subst e
      obtain ⟨p, hp⟩ : ∃ p, th[k] = p := ⟨_, rfl⟩
      rw [hp] at g0
      have HP := Lib.hid (show (th.map (·.1))[k]'(by simpa using hkl) = p.1 by rw [List.getElem_map, hp])
      have hkN' : (k : Int) < N := by omega
      clear hp
      by_cases hxt : p.1 = t
      · have hb : (p.1 == t) = true := by rw [lbeq, decide_eq_true hxt]
        have HW := Lib.hid (show whereT (th.map (·.1)) t = k from where_at (by simpa using hkl) (HP.out.trans hxt) HB.out)
        clear hxt
        go_wp2_with fail
        go_ret
        exact ⟨by rw [HW.out]; rfl, rfl⟩
      · have hb : (p.1 == t) = false := by rw [lbeq, decide_eq_false hxt]
        have HXT := Lib.hid hxt
        clear hxt
        go_wp2_with fail
        refine ⟨⟨k + 1, by omega, by go_num, trivial, Lib.hid (fun j hj hjk => ?_)⟩, by simp [intOf]; omega⟩
        by_cases h' : j < k
        · exact HB.out j hj h'
        · obtain rfl : j = k := by omega
          rw [HP.out]; exact HXT.out
    · obtain rfl : k = N := by omega
      have HW := Lib.hid (show whereT (th.map (·.1)) t = -1 from where_none fun j hj => HB.out j hj (by have := HN.out; simp at hj; omega))
      go_wp2_with fail
      go_ret
      exact ⟨by rw [HW.out]; rfl, rfl⟩
end Go.Proofs.Ytgmoodcojpbbdaa

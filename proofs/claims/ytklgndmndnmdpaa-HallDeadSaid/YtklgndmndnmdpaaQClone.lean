import Derived.Test.YtklgndmndnmdpaaQBack
set_option linter.unusedVariables false
set_option linter.unusedSimpArgs false
namespace Go.Proofs.Ytklgndmndnmdpaa
open Go.RowKit

theorem OwnC.box0 {e : TypeId} {sz : Nat} {w : World} {base g : Nat} (hg : g = w.heap.size) (hb : base ≤ g) : OwnC e sz (fun _ => True) (w.alloc (.cells #[] e)) base (.slice (some ⟨g, 0, none⟩) 0 0) 0 [] := by
  subst hg
  exact ⟨by simp, by simp, .inr ⟨w.heap.size, 0, [], rfl, hb, heap_alloc_new w _, by simp, Nat.le_refl _, by decide, by simp⟩⟩
/-- A pointer to an entry. -/
def ev (b : Nat) : Value := .pointer (some ⟨b, 0, none⟩)
theorem Try.info_ep : (Try.prog.info? 143).map (fun i => (i.zero, i.size, i.bytes)) = some (some (.pointer none), 1, 8) := by kernel_rfl
theorem eqlE_nil (A : Option Addr) (n c : Nat) (W : World) : (binOp .eql 122 (.slice A n c) (.slice none 0 0)).run Try.prog W = .ok (.bool A.isNone) W :=
  Lib.run_eql_slice_nil W _ _ _ _ _ _ _ Try.underlying122
set_option maxHeartbeats 400000 in
theorem cloneE_calls (A : Option Addr) (n c : Nat) (bs : List Nat) (w : World) (h : RdC 1 w A n c (bs.map ev)) (hb : n ≤ 1000000) :
    Calls Try.prog 82 #[.slice A n c] w fun e w' => ∃ v, e = .returned v ∧ OwnC 143 1 (fun _ => True) w' w.heap.size v n (bs.map ev) ∧ Below w.heap.size w w' := by
  have hl : n = bs.length := by have := h.1; simp at this; omega
  subst hl
  have H := Lib.hid h
  have hmx := h.2.2.1
  have hlc := h.2.1
  cases A with
  | none =>
    have h0 := h.2.2.2.1 rfl
    have hn : bs = [] := List.eq_nil_of_length_eq_zero h0.1
    subst hn
    obtain ⟨_, rfl⟩ := h0
    clear h
    have hq := eqlE_nil none 0 0
    go_enter Try.func82, Try.ntmps82
    go_wp2_with fail
    go_ret
    exact ⟨_, rfl, OwnC.nil_, Below.refl _ _⟩
  | some ad =>
    obtain ⟨N, hN⟩ : ∃ N, bs.length = N := ⟨_, rfl⟩
    rw [hN] at hlc hb H ⊢
    have HN := Lib.hid hN
    obtain ⟨i0, hi, hz0, hz1', hz2'⟩ := info_parts Try.info_ep
    have hq := eqlE_nil (some ad) N c
    clear h hN
    go_enter Try.func82, Try.ntmps82
    go_wp2_with (at_builtin; refine wpList_appC _ rfl _ _ _ rfl w.heap.size i0 (.pointer none) 8 Try.underlying122 hi hz0 hz1' hz2' rfl (by decide) (fun _ _ => trivial) (.slice (some ⟨w.heap.size, 0, none⟩) 0 0) 0 [] rfl ?own (some ad) N c (bs.map ev) rfl ?rd ?hb ?h63 ?hbase ?_)
    case own =>
      refine OwnC.box0 ?_ ?_
      · simp
      · omega
    case rd => exact H.out.below (below_alloc w _)
    case hb => omega
    case h63 => omega
    case hbase => simp
    intro v2 w2 o2 g2 _ _
    have hB := Lib.hid (show Below w.heap.size w w2 from Below.grown (below_alloc w _) g2 (by simp) (fun k hk => by simp [Value.ownBlock] at hk; omega))
    have O2 := Lib.hid (show OwnC 143 1 (fun _ => True) w2 w.heap.size v2 N (bs.map ev) by simpa using o2)
    clear o2 g2
    go_wp2_with fail
    go_ret
    exact ⟨_, rfl, O2.out, hB.out⟩
end Go.Proofs.Ytklgndmndnmdpaa

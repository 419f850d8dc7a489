import Derived.Test.YtafmhpcfjmannaaIkDel
set_option linter.unusedVariables false
set_option linter.unusedSimpArgs false
namespace Go.Proofs.Ytafmhpcfjmannaa
open Go.RowKit

theorem dropN_map (es : Is) (t : Nat) : dropN (es.map (·.1)) t = (rmI es t).map (·.1) := by
  rw [dropN, rmI, List.filter_map]
  rfl
set_option maxHeartbeats 400000 in
theorem dropI_nil (i : Nat) (w : World) :
    Calls Try.prog 22 #[.pointer none, .int .u32 i] w fun e w' => e = .returned (.bool false) ∧ Below w.heap.size w w' := by
  go_enter Try.func22, Try.ntmps22
  go_wp2_with fail
  refine (getI_nil i _).mono ?_
  rintro e w1 ⟨rfl, b1⟩
  have B1 := Lib.hid (below_then (below_alloc w _) (by simp) b1)
  clear b1
  go_wp2_with fail
  go_ret
  exact ⟨rfl, B1.out.alloc B1.out.size _⟩

set_option maxRecDepth 100000 in
set_option maxHeartbeats 1000000 in
theorem dropI_calls (a : Nat) (F : List Nat) (es : Is) (i : Nat) (w : World) (h : Ik w a F es) {b : Bool} {es' : Is} (hd : dropI es i = (b, es')) :
    Calls Try.prog 22 #[.pointer (some ⟨a, 0, none⟩), .int .u32 i] w fun e w' => ∃ F', e = .returned (.bool b) ∧ Ik w' a F' es' ∧ Tch F w w' ∧ ∀ k ∈ F', k ∈ F ∨ w.heap.size ≤ k := by
  have HM := Lib.hid h
  have hlt := h.lt
  obtain ⟨⟨vh, vt⟩, gb, hg⟩ : ∃ v b, getA es i = (v, b) := ⟨_, _, rfl⟩
  have hgb : (geI es i).isSome = gb := congrArg (·.2) hg
  have HG := Lib.hid hg
  have HGB := Lib.hid hgb
  have HD := Lib.hid hd
  clear h hg hgb hd
  go_enter Try.func22, Try.ntmps22
  go_wp2_with fail
  refine (getI_calls a F es i _ (HM.out.below (below_alloc w _)) HG.out).mono ?_
  rintro e w1 ⟨rfl, b1⟩
  have B1 := Lib.hid (below_then (below_alloc w _) (by simp) b1)
  have hct : w1.cell? ⟨w.heap.size, 0, none⟩ = some (.int .u32 i) := stays b1 (by go_simp) (by simp)
  have hz : w.heap.size < w1.heap.size := by have := b1.size; simp at this; omega
  simp only
  clear b1
  cases gb with
  | false =>
    have he : dropI es i = (false, es) := by unfold dropI; rw [HGB.out]; rfl
    rw [HD.out] at he
    cases he
    go_wp2_with fail
    go_ret
    have := B1.out.alloc B1.out.size (.cells #[.int .i64 vh, .string ⟨vt.toArray⟩] 38)
    exact ⟨F, rfl, HM.out.below this, Tch.of_below F this, fun k hk => .inl hk⟩
  | true =>
    have he : dropI es i = (true, rmI es i) := by unfold dropI; rw [HGB.out]; rfl
    rw [HD.out] at he
    cases he
    go_wp2_with fail
    refine forget (fun W => W.cell? ⟨w.heap.size, 0, none⟩ = some (.int .u32 i) ∧ Below w.heap.size w W ∧ w.heap.size < W.heap.size)
      ⟨stays_ (below_alloc w1 _) hct, B1.out.alloc B1.out.size _, by simp; omega⟩ ?_
    rintro W ⟨f1, f4, f5⟩
    have F4 := Lib.hid f4
    obtain ⟨⟨r, tv, D, h1, h2, h3, h4, h5, h6⟩, hm, hn, hs0⟩ := HM.out
    obtain ⟨A, c, rfl⟩ := h4.slice
    have H1 := Lib.hid ((f4.block a (heap_lt h1)).trans h1)
    have H2 := Lib.hid (h2.tch (Tch.of_below [] f4) (by simp))
    have H4 := Lib.hid (h4.below f4)
    have H3 := Lib.hid h3
    have H6 := Lib.hid h6
    have HLT := Lib.hid (show ∀ k, (Value.slice A es.length c).ownBlock = some k → k < w.heap.size from fun k hk => (h4.lt k hk).2)
    have hrlt := h2.lt
    obtain ⟨hne, hog⟩ := ik_sep h1 h2 h4
    have HOG := Lib.hid hog
    have hc0 := cell_of_heap (l := [.map (some r), .slice A es.length c]) H1.out 0 _ rfl
    have hc1 := cell_of_heap (l := [.map (some r), .slice A es.length c]) H1.out 1 _ rfl
    obtain ⟨n, hnn⟩ : ∃ n, es.length = n := ⟨_, rfl⟩
    have HN := Lib.hid hnn
    rw [hnn] at hc1 H4 HLT H6 HOG
    clear h1 h2 h3 h4 h6 f4 hog hct hnn
    go_still_tail 5, (by kernel_rfl)
    change wpList _ _ _ _ _ W.drew
    refine wpList_mdel _ rfl _ _ rfl Try.underlying57 keyU r D rfl (H2.out.keep rfl) i rfl ?_
    intro w3 hm3 ht3
    have T3 := Lib.hid ht3.of_drew
    have M3 := Lib.hid hm3
    have k0 : w3.cell? ⟨a, 0, none⟩ = some (.map (some r)) := T3.out.cell hc0 (by simpa using hne)
    have k1 : w3.cell? ⟨a, 1, none⟩ = some (.slice A n c) := T3.out.cell hc1 (by simpa using hne)
    have k2 := T3.out.cell f1 (by simp; omega)
    have hmk : ∀ W, (Instr.makeFunc (Fn.func 36) #[] #[.pointer (some ⟨w.heap.size, 0, none⟩)]).run Try.prog W = .ok (.func (.func 36) #[] #[.pointer (some ⟨w.heap.size, 0, none⟩)]) W := fun W => by rfl
    clear hm3 ht3
    go_wp2_with fail
    refine (deln_calls (.slice A n c) n w.heap.size (es.map (·.1)) i _ ?_ k2 (fun e => by have := HLT.out _ e; omega)).mono ?_
    · have := H4.out.tch T3.out fun k hk => by simpa using (HOG.out k hk).2
      rw [List.map_map]
      exact this
    rintro e w4 ⟨v4, rfl, o4, e4, t4⟩
    obtain ⟨A4, c4, rfl⟩ := o4.slice
    obtain ⟨n4, hn4⟩ : ∃ n4, (dropN (es.map (·.1)) i).length = n4 := ⟨_, rfl⟩
    rw [hn4] at o4 e4 ⊢
    have hown : ∀ k ∈ (Value.slice A n c).ownBlock.toList, k ∈ F ∧ k ≠ a ∧ k ≠ r ∧ k < w.heap.size := fun k hk => by
      have hk' : (Value.slice A n c).ownBlock = some k := by simpa using hk
      exact ⟨H6.out k hk', (HOG.out k hk').1, (HOG.out k hk').2, HLT.out k hk'⟩
    have HOWN := Lib.hid hown
    have T4 := Lib.hid t4
    have hA : w4.heap[a]? = W.heap[a]? := by
      rw [t4.block a (by have := T3.out.size; have := F4.out.size; omega) (fun hk => (hown a hk).2.1 rfl)]
      exact T3.out.block a (by have := F4.out.size; omega) (by simpa using hne)
    have hTW : Tch F W w4 := (T3.out.mono (G := F) (by simpa using h5)).trans t4 fun k hk => .inl (hown k hk).1
    have HFIN := Lib.hid (ik_close (es' := rmI es i) H1.out hA (M3.out.tch t4 fun hk => (hown r hk).2.2.1 rfl) (fun j => by
      rw [luk_del, geI_rm, H3.out]
      split <;> rfl) (by
      have h0 := o4
      have hl : (rmI es i).length = n4 := by rw [← hn4, dropN_map, List.length_map]
      have hm : rowC (rmI es i) = (dropN (es.map (·.1)) i).map uv := by rw [dropN_map, List.map_map]; rfl
      rw [hl, hm]
      exact h0) (nodupI_rm hn i) hm h5 (fun g hg => .inl (by rw [e4] at hg; exact H6.out g hg)) hTW (fun k hk => Nat.lt_of_lt_of_le (hs0 k hk) F4.out.size))
    have k4 : w4.cell? ⟨a, 1, none⟩ = some (.slice A n c) := t4.cell k1 fun hk => (hown a hk).2.1 rfl
    have k5 : w4.frozen? ⟨a, 1, none⟩ = false := froz_of_heap (hA.trans H1.out) 1
    have HTW := Lib.hid hTW
    clear hown t4 hA hTW k0 k1 k2 hc0 hc1 f1 hn4 o4 e4
    go_wp2_with fail
    go_ret
    obtain ⟨F', g1, g2, g3⟩ := HFIN.out
    refine ⟨F', rfl, g1, (Tch.of_below F F4.out).trans_ g2, fun k hk => ?_⟩
    rcases g3 k hk with h' | h'
    · exact .inl h'
    · right; omega
end Go.Proofs.Ytafmhpcfjmannaa

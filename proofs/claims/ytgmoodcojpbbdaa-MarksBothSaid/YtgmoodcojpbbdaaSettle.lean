import Derived.Test.YtgmoodcojpbbdaaDel
set_option linter.unusedVariables false
set_option linter.unusedSimpArgs false
namespace Go.Proofs.Ytgmoodcojpbbdaa
open Go.RowKit

def SettlePost (ms : Ms) (a : Nat) (F : List Nat) (t : List UInt8) (w : World) (e : Ending) (w' : World) : Prop :=
  ∃ F', e = .returned (.tuple #[ov (settleM ms t).1, .bool (settleM ms t).2.1]) ∧ Mk w' a F' (settleM ms t).2.2 ∧ Tch F w w' ∧ ∀ k ∈ F', k ∈ F ∨ w.heap.size ≤ k

set_option maxHeartbeats 400000 in
theorem settle_nil (t : List UInt8) (w : World) :
    Calls Try.prog 28 #[.pointer none, str t] w fun e w' => e = .returned (.tuple #[ov oz, .bool false]) ∧ Below w.heap.size w w' := by
  unfold str
  go_enter Try.func28, Try.ntmps28
  go_wp2_with fail
  refine (get_nil t _).mono ?_
  rintro e w1 ⟨rfl, b1⟩
  have B1 := Lib.hid (below_then ((below_alloc w _).trans ((below_alloc _ _).mono (by simp))) (by simp; omega) b1)
  obtain ⟨hcc, hff⟩ := bcell b1
  have HO := Lib.hid ((OutAt.new (w.alloc (.cells #[.string ⟨t.toArray⟩] 9)) oz 33).below b1)
  have hz : w.heap.size + 1 < w1.heap.size := by have := b1.size; simp at this; omega
  unfold ov oz str
  clear b1
  go_wp2
  have ho := HO.out
  rw [show (w.alloc (.cells #[.string ⟨t.toArray⟩] 9)).heap.size = w.heap.size + 1 by simp] at ho
  have hf := (ho.set4 oz).below (below_alloc _ (.cells #[.int .u8 0, .int .u64 0, .int .u64 0, .string ⟨#[]⟩] 33))
  exact bodyPost_ret (results_out rfl rfl rfl hf) rfl ⟨rfl, ((((B1.out.setCell (by simp) _).setCell (by simp) _).setCell (by simp) _).setCell (by simp) _).alloc (by have := B1.out.size; simp; omega) _⟩
theorem dropT_map (ms : Ms) (t : List UInt8) : dropT (ms.map (·.1)) t = (dropM ms t).map (·.1) := by
  rw [dropT, dropM, List.filter_map]
  rfl
theorem out_froz {w : World} {g : Nat} {o : Outc} {T : TypeId} (h : w.heap[g]? = some (.cells #[.int .u8 o.k, .int .u64 o.a, .int .u64 o.b, .string ⟨o.c.toArray⟩] T (0, 0))) : OutAt w g 0 o ∧ ∀ j, w.frozen? ⟨g, j, none⟩ = false :=
  ⟨⟨cell_of_heap (l := ocs o) h 0 _ rfl, cell_of_heap (l := ocs o) h 1 _ rfl, cell_of_heap (l := ocs o) h 2 _ rfl, cell_of_heap (l := ocs o) h 3 _ rfl⟩, fun j => froz_of_heap h j⟩

set_option maxHeartbeats 1000000 in
theorem settle_calls (a : Nat) (F : List Nat) (ms : Ms) (t : List UInt8) (w : World) (h : Mk w a F ms) :
    Calls Try.prog 28 #[.pointer (some ⟨a, 0, none⟩), str t] w (SettlePost ms a F t w) := by
  have HM := Lib.hid h
  have hlt := h.lt
  have bel2 : ∀ (w1 : World), Below w.heap.size w w1 → w.heap.size + 1 < w1.heap.size → ∀ o : Outc, ∀ O, Below w.heap.size w (((((w1.setCell ⟨w.heap.size + 1, 0, none⟩ (.int .u8 o.k)).setCell ⟨w.heap.size + 1, 1, none⟩ (.int .u64 o.a)).setCell ⟨w.heap.size + 1, 2, none⟩ (.int .u64 o.b)).setCell ⟨w.heap.size + 1, 3, none⟩ (.string ⟨o.c.toArray⟩)).alloc O) := fun w1 B1 hz o O =>
    ((((B1.setCell (by simp) _).setCell (by simp) _).setCell (by simp) _).setCell (by simp) _).alloc (by simp; omega) _
  cases hmt : mat ms t with
  | none =>
    have HG := Lib.hid (show getM ms t = (oz, false) by simp [getM, hmt])
    have HS := Lib.hid (show settleM ms t = (oz, false, ms) by simp [settleM, hmt])
    have HB := Lib.hid bel2
    unfold str
    clear h hmt bel2
    go_enter Try.func28, Try.ntmps28
    go_wp2_with fail
    refine (get_calls a F ms t _ (HM.out.below ((below_alloc w _).trans ((below_alloc _ _).mono (by simp))))).mono ?_
    rintro e w1 ⟨rfl, b1⟩
    rw [HG.out]
    have B1 := Lib.hid (below_then ((below_alloc w _).trans ((below_alloc _ _).mono (by simp))) (by simp; omega) b1)
    obtain ⟨hcc, hff⟩ := bcell b1
    have HO := Lib.hid ((OutAt.new (w.alloc (.cells #[.string ⟨t.toArray⟩] 9)) oz 33).below b1)
    have hz : w.heap.size + 1 < w1.heap.size := by have := b1.size; simp at this; omega
    unfold ov oz str
    clear b1
    go_wp2
    have ho := HO.out
    rw [show (w.alloc (.cells #[.string ⟨t.toArray⟩] 9)).heap.size = w.heap.size + 1 by simp] at ho
    have hf := (ho.set4 oz).below (below_alloc _ (.cells #[.int .u8 0, .int .u64 0, .int .u64 0, .string ⟨#[]⟩] 33))
    have hbb := HB.out w1 B1.out hz oz (.cells #[.int .u8 0, .int .u64 0, .int .u64 0, .string ⟨#[]⟩] 33)
    exact bodyPost_ret (results_out rfl rfl rfl hf) rfl ⟨F, by rw [HS.out]; rfl, by rw [HS.out]; exact HM.out.below hbb, Tch.of_below F hbb, fun k hk => .inl hk⟩
  | some o =>
    have HG := Lib.hid (show getM ms t = (o, true) by simp [getM, hmt])
    have HS := Lib.hid (show settleM ms t = (o, true, dropM ms t) by simp [settleM, hmt])
    have HB := Lib.hid bel2
    have HT := Lib.hid hmt
    unfold str
    clear h hmt bel2
    go_enter Try.func28, Try.ntmps28
    go_wp2_with fail
    refine (get_calls a F ms t _ (HM.out.below ((below_alloc w _).trans ((below_alloc _ _).mono (by simp))))).mono ?_
    rintro e w1 ⟨rfl, b1⟩
    rw [HG.out]
    have B1 := Lib.hid (below_then ((below_alloc w _).trans ((below_alloc _ _).mono (by simp))) (by simp; omega) b1)
    have HO := Lib.hid (show OutAt w1 (w.heap.size + 1) 0 oz by
      have ho := (OutAt.new (w.alloc (.cells #[.string ⟨t.toArray⟩] 9)) oz 33).below b1
      rwa [show (w.alloc (.cells #[.string ⟨t.toArray⟩] 9)).heap.size = w.heap.size + 1 by simp] at ho)
    have HZ := Lib.hid (show w1.heap[w.heap.size + 1]? = some (.cells #[.int .u8 0, .int .u64 0, .int .u64 0, .string ⟨#[]⟩] 33 (0, 0)) by
      have h1 := heap_alloc_new (w.alloc (.cells #[.string ⟨t.toArray⟩] 9)) (.cells #[.int .u8 0, .int .u64 0, .int .u64 0, .string ⟨#[]⟩] 33)
      simp only [World.size_alloc] at h1
      exact (b1.block _ (by simp)).trans h1)
    have hct : w1.cell? ⟨w.heap.size, 0, none⟩ = some (.string ⟨t.toArray⟩) := stays b1 (by go_simp) (by simp; omega)
    have hz : w.heap.size + 1 < w1.heap.size := by have := b1.size; simp at this; omega
    have HM1 := Lib.hid (HM.out.below B1.out)
    rw [ov_is]
    clear b1
    go_wp2_with fail
    refine forget (fun W => W.cell? ⟨w.heap.size, 0, none⟩ = some (.string ⟨t.toArray⟩) ∧ OutAt W w1.heap.size 0 o ∧ W.heap[w.heap.size + 1]? = some (.cells #[.int .u8 0, .int .u64 0, .int .u64 0, .string ⟨#[]⟩] 33 (0, 0)) ∧ Below w.heap.size w W ∧ w1.heap.size < W.heap.size)
      ⟨stays_ (below_alloc w1 _) hct, OutAt.new w1 o _, (heap_alloc_old w1 _ hz).trans HZ.out, B1.out.alloc B1.out.size _, by simp⟩ ?_
    rintro W ⟨f1, f2, f3, f4, f5⟩
    have F2 := Lib.hid f2
    have F3 := Lib.hid f3
    have F4 := Lib.hid f4
    obtain ⟨⟨r, tv, D, h1, h2, h3, h4, h5, h6⟩, hm, hn, hs0⟩ := HM.out
    obtain ⟨A, c, rfl⟩ := h4.slice
    have H1 := Lib.hid ((f4.block a (heap_lt h1)).trans h1)
    have H2 := Lib.hid (h2.tch (Tch.of_below [] f4) (by simp))
    have H4 := Lib.hid (h4.below f4)
    have H3 := Lib.hid h3
    have H6 := Lib.hid h6
    have HLT := Lib.hid (show ∀ k, (Value.slice A ms.length c).ownBlock = some k → k < w.heap.size from fun k hk => (h4.lt k hk).2)
    have hrlt := h2.lt
    obtain ⟨hne, hog⟩ := mk_sep h1 h2 h4
    have HOG := Lib.hid hog
    have hc0 := cell_of_heap (l := [.map (some r), .slice A ms.length c]) H1.out 0 _ rfl
    have hc1 := cell_of_heap (l := [.map (some r), .slice A ms.length c]) H1.out 1 _ rfl
    obtain ⟨n, hnn⟩ : ∃ n, ms.length = n := ⟨_, rfl⟩
    have HN := Lib.hid hnn
    rw [hnn] at hc1 H4 HLT H6 HOG
    clear h1 h2 h3 h4 h6 f2 f3 f4 hog hct hnn
    go_still_tail 5, (by kernel_rfl)
    change wpList _ _ _ _ _ W.drew
    refine wpList_mdel _ rfl _ _ rfl Try.underlying48 keyStr r D rfl (H2.out.keep rfl) t rfl ?_
    intro w3 hm3 ht3
    have T3 := Lib.hid ht3.of_drew
    have M3 := Lib.hid hm3
    have k0 : w3.cell? ⟨a, 0, none⟩ = some (.map (some r)) := T3.out.cell hc0 (by simpa using hne)
    have k1 : w3.cell? ⟨a, 1, none⟩ = some (.slice A n c) := T3.out.cell hc1 (by simpa using hne)
    have k2 := T3.out.cell f1 (by simp; omega)
    clear hm3 ht3
    go_wp2_with fail
    refine (del_calls (.slice A n c) n w.heap.size (ms.map (·.1)) t _ ?_ k2 (fun e => by have := HLT.out _ e; omega)).mono ?_
    · have := H4.out.tch T3.out fun k hk => by simpa using (HOG.out k hk).2
      rw [List.map_map]
      exact this
    rintro e w4 ⟨v4, rfl, o4, e4, t4⟩
    obtain ⟨A4, c4, rfl⟩ := o4.slice
    obtain ⟨n4, hn4⟩ : ∃ n4, (dropT (ms.map (·.1)) t).length = n4 := ⟨_, rfl⟩
    rw [hn4] at o4 e4 ⊢
    have hown : ∀ k ∈ (Value.slice A n c).ownBlock.toList, k ∈ F ∧ k ≠ a ∧ k ≠ r ∧ k < w.heap.size := fun k hk => by
      have hk' : (Value.slice A n c).ownBlock = some k := by simpa using hk
      exact ⟨H6.out k hk', (HOG.out k hk').1, (HOG.out k hk').2, HLT.out k hk'⟩
    have HOWN := Lib.hid hown
    have T4 := Lib.hid t4
    have hA : w4.heap[a]? = W.heap[a]? := by
      rw [t4.block a (by have := T3.out.size; have := F4.out.size; omega) (fun hk => (hown a hk).2.1 rfl)]
      exact T3.out.block a (by have := F4.out.size; omega) (by simpa using hne)
    have hTW : Tch F W w4 := (T3.out.mono (G := F) (by simpa using h5)).trans t4 fun k hk => .inl (hown k hk).1
    have HFIN := Lib.hid (mk_close (ms' := dropM ms t) H1.out hA (M3.out.tch t4 fun hk => (hown r hk).2.2.1 rfl) (fun j => by
      rw [luk_del, mat_drop, H3.out]
      split <;> rfl) (by
      have h0 := o4
      have hl : (dropM ms t).length = n4 := by rw [← hn4, dropT_map, List.length_map]
      have hm : (dropM ms t).map (fun p => str p.1) = (dropT (ms.map (·.1)) t).map str := by rw [dropT_map, List.map_map]; rfl
      rw [hl, hm]
      exact h0) (nodup_drop hn t) hm h5 (fun g hg => .inl (by rw [e4] at hg; exact H6.out g hg)) hTW (fun k hk => Nat.lt_of_lt_of_le (hs0 k hk) F4.out.size))
    have k4 : w4.cell? ⟨a, 1, none⟩ = some (.slice A n c) := t4.cell k1 fun hk => (hown a hk).2.1 rfl
    have k5 : w4.frozen? ⟨a, 1, none⟩ = false := froz_of_heap (hA.trans H1.out) 1
    have hOo : OutAt w4 w1.heap.size 0 o := (F2.out.tch T3.out (by simp; omega)).tch t4 fun hk => by have := (hown _ hk).2.2.2; omega
    have hZz : w4.heap[w.heap.size + 1]? = some (.cells #[.int .u8 0, .int .u64 0, .int .u64 0, .string ⟨#[]⟩] 33 (0, 0)) :=
      (t4.block _ (by have := T3.out.size; omega) (fun hk => by have := (hown _ hk).2.2.2; omega)).trans ((T3.out.block _ (by omega) (by simp; omega)).trans F3.out)
    have HOo := Lib.hid hOo
    have HZz := Lib.hid hZz
    have HTW := Lib.hid hTW
    clear hown t4 hA hTW hOo hZz k0 k1 k2 hc0 hc1 f1 hn4
    have T5 := (Tch.refl [a] w4).setCell (g := a) (j := 1) (.slice A4 n4 c4) (by simp)
    obtain ⟨q0, q1, q2, q3⟩ := HOo.out.tch T5 (by simp; omega)
    have Z5 := (T5.block (w.heap.size + 1) (heap_lt HZz.out) (by simp; omega)).trans HZz.out
    obtain ⟨z0, z5⟩ := out_froz (o := oz) Z5
    obtain ⟨z1, z2, z3, z4⟩ := z0
    have z6 := (out_froz (o := oz) HZz.out).2
    have ZO := Lib.hid (show OutAt (w4.setCell ⟨a, 1, none⟩ (.slice A4 n4 c4)) (w.heap.size + 1) 0 oz from ⟨z1, z2, z3, z4⟩)
    have QO := Lib.hid (show OutAt (w4.setCell ⟨a, 1, none⟩ (.slice A4 n4 c4)) w1.heap.size 0 o from ⟨q0, q1, q2, q3⟩)
    clear T5 Z5 z5
    go_wp2_with fail
    have hf := ZO.out.set4 o
    obtain ⟨F', g1, g2, g3⟩ := HFIN.out
    have hsz : w.heap.size ≤ W.heap.size := F4.out.size
    have TS := (((((Tch.refl [w.heap.size + 1] (w4.setCell ⟨a, 1, none⟩ (.slice A4 n4 c4))).setCell (g := w.heap.size + 1) (j := 0) (.int .u8 o.k) (by simp)).setCell (g := w.heap.size + 1) (j := 1) (.int .u64 o.a) (by simp)).setCell (g := w.heap.size + 1) (j := 2) (.int .u64 o.b) (by simp)).setCell (g := w.heap.size + 1) (j := 3) (.string ⟨o.c.toArray⟩) (by simp))
    refine bodyPost_ret (results_out rfl rfl rfl hf) rfl ⟨F', by rw [HS.out]; rfl, ?_, ?_, fun k hk => ?_⟩
    · rw [HS.out]
      exact g1.tch TS (fun k hk => by
        simp only [List.mem_singleton]
        rcases g3 k hk with h' | h'
        · have := hs0 k h'; omega
        · omega)
    · exact ((Tch.of_below F F4.out).trans_ g2).trans TS (fun k hk => by simp at hk; right; omega)
    · rcases g3 k hk with h' | h'
      · exact .inl h'
      · right; omega
end Go.Proofs.Ytgmoodcojpbbdaa

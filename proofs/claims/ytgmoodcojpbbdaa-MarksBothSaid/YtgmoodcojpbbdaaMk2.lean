import Derived.Test.YtgmoodcojpbbdaaMk
import Derived.StillTailTactics
set_option linter.unusedVariables false
set_option linter.unusedSimpArgs false
namespace Go.Proofs.Ytgmoodcojpbbdaa
open Go.RowKit

set_option maxHeartbeats 400000 in
theorem tell_nil (t : List UInt8) (o : Outc) (w : World) :
    Calls Try.prog 23 #[.pointer none, str t, ov o] w fun e w' => e = .returned (.bool false) ∧ Below w.heap.size w w' := by
  obtain ⟨k, x, y, cc⟩ := o
  unfold ov
  unfold str
  simp only
  go_enter Try.func23, Try.ntmps23
  go_wp2_with fail
  refine (get_nil t _).mono ?_
  rintro e w1 ⟨rfl, b1⟩
  have B1 := Lib.hid (below_then (below_alloc w _) (by simp) b1)
  unfold ov oz str
  clear b1
  go_wp2_with fail
  go_ret
  exact ⟨rfl, B1.out.alloc B1.out.size _⟩

theorem tell_spec (ms : Ms) (t : List UInt8) (o : Outc) : (mat ms t = none ∧ tellM ms t o = (false, ms)) ∨ ∃ was, mat ms t = some was ∧ (((fin was = true ∨ fin o = false) ∧ tellM ms t o = (false, ms)) ∨ (fin was = false ∧ fin o = true ∧ tellM ms t o = (true, setM ms t o))) := by
  unfold tellM
  cases h : mat ms t with
  | none => exact .inl ⟨rfl, rfl⟩
  | some was =>
    refine .inr ⟨was, rfl, ?_⟩
    cases h1 : fin was <;> cases h2 : fin o <;> simp_all

set_option maxHeartbeats 800000 in
theorem tell_calls (a : Nat) (F : List Nat) (ms : Ms) (t : List UInt8) (o : Outc) (w : World) (h : Mk w a F ms) :
    Calls Try.prog 23 #[.pointer (some ⟨a, 0, none⟩), str t, ov o] w fun e w' => e = .returned (.bool (tellM ms t o).1) ∧ Mk w' a F (tellM ms t o).2 ∧ Tch F w w' := by
  have HM := Lib.hid h
  have hlt := h.lt
  rcases tell_spec ms t o with ⟨hmt, htl⟩ | ⟨was, hmt, ⟨hf, htl⟩ | ⟨hf1, hf2, htl⟩⟩
  · rw [htl]
    have hg : getM ms t = (oz, false) := by simp [getM, hmt]
    have HG := Lib.hid hg
    obtain ⟨k, x, y, cc⟩ := o
    unfold ov
    unfold str
    simp only
    clear h hmt htl hg
    go_enter Try.func23, Try.ntmps23
    go_wp2_with fail
    refine (get_calls a F ms t _ (HM.out.below (below_alloc w _))).mono ?_
    rintro e w1 ⟨rfl, b1⟩
    rw [HG.out]
    have B1 := Lib.hid (below_then (below_alloc w _) (by simp) b1)
    unfold ov oz str
    clear b1
    go_wp2_with fail
    go_ret
    have := B1.out.alloc B1.out.size (.cells #[.int .u8 0, .int .u64 0, .int .u64 0, .string ⟨#[]⟩] 33)
    exact ⟨rfl, HM.out.below this, Tch.of_below F this⟩
  · rw [htl]
    have hg : getM ms t = (was, true) := by simp [getM, hmt]
    have HG := Lib.hid hg
    have HF := Lib.hid hf
    unfold str
    rw [ov_is]
    clear h hmt htl hg hf
    go_enter Try.func23, Try.ntmps23
    go_wp2_with fail
    refine (get_calls a F ms t _ (HM.out.below (below_alloc w _))).mono ?_
    rintro e w1 ⟨rfl, b1⟩
    rw [HG.out]
    have B1 := Lib.hid (below_then (below_alloc w _) (by simp) b1)
    have HO := Lib.hid ((OutAt.new w o 33).below b1)
    rw [ov_is]
    clear b1
    go_wp2_with fail
    refine (final_calls was _).mono ?_
    rintro e w2 ⟨rfl, b2⟩
    have B2 := Lib.hid (below_then (B1.out.alloc B1.out.size _) (by have := B1.out.size; simp; omega) b2)
    have HO2 := Lib.hid ((HO.out.below (below_alloc w1 _)).below b2)
    clear b2
    cases hfw : fin was with
    | true =>
      clear hfw
      go_wp2_with fail
      go_ret
      exact ⟨rfl, HM.out.below B2.out, Tch.of_below F B2.out⟩
    | false =>
      have hfo : fin o = false := by
        rcases HF.out with h | h
        · rw [hfw] at h; cases h
        · exact h
      have HFO := Lib.hid hfo
      obtain ⟨q0, q1, q2, q3⟩ := HO2.out
      clear hfo hfw
      go_wp2_with fail
      refine (final_calls o _).mono ?_
      rintro e w3 ⟨rfl, b3⟩
      rw [HFO.out]
      have B3 := Lib.hid (below_then B2.out B2.out.size b3)
      clear b3 q0 q1 q2 q3
      go_wp2_with fail
      go_ret
      exact ⟨rfl, HM.out.below B3.out, Tch.of_below F B3.out⟩
  · rw [htl]
    have hg : getM ms t = (was, true) := by simp [getM, hmt]
    have HG := Lib.hid hg
    have HF1 := Lib.hid hf1
    have HF2 := Lib.hid hf2
    have HT := Lib.hid hmt
    unfold str
    rw [ov_is]
    clear h hmt htl hg hf1 hf2
    go_enter Try.func23, Try.ntmps23
    go_wp2_with fail
    refine (get_calls a F ms t _ (HM.out.below (below_alloc w _))).mono ?_
    rintro e w1 ⟨rfl, b1⟩
    rw [HG.out]
    have B1 := Lib.hid (below_then (below_alloc w _) (by simp) b1)
    have HO := Lib.hid ((OutAt.new w o 33).below b1)
    rw [ov_is]
    clear b1
    go_wp2_with fail
    refine (final_calls was _).mono ?_
    rintro e w2 ⟨rfl, b2⟩
    rw [HF1.out]
    have B2 := Lib.hid (below_then (B1.out.alloc B1.out.size _) (by have := B1.out.size; simp; omega) b2)
    have HO2 := Lib.hid ((HO.out.below (below_alloc w1 _)).below b2)
    obtain ⟨q0, q1, q2, q3⟩ := HO2.out
    clear b2
    go_wp2_with fail
    refine (final_calls o _).mono ?_
    rintro e w3 ⟨rfl, b3⟩
    rw [HF2.out]
    have B3 := Lib.hid (below_then B2.out B2.out.size b3)
    obtain ⟨r0, r1, r2, r3⟩ := HO2.out.below b3
    have HM3 := Lib.hid (HM.out.below B3.out)
    obtain ⟨⟨r, tv, D, h1, h2, h3, h4, h5, h6⟩, hm, hn, hs3⟩ := HM3.out
    have hc0 := cell_of_heap (l := [.map (some r), tv]) h1 0 _ rfl
    have H1 := Lib.hid h1
    have H2 := Lib.hid h2
    have H3 := Lib.hid h3
    have H4 := Lib.hid h4
    have H6 := Lib.hid h6
    clear b3 q0 q1 q2 q3 h1 h2 h3 h4 h6 hn
    go_wp2_with fail
    go_still_tail 6, (by kernel_rfl)
    change wpList _ _ _ _ _ w3.drew
    obtain ⟨hne, hog⟩ := mk_sep H1.out H2.out H4.out
    have HOG := Lib.hid hog
    clear hog r0 r1 r2 r3
    refine wpList_mput _ rfl _ _ _ rfl Try.underlying48 keyStr r D rfl (H2.out.keep rfl) t rfl (ov o) rfl ?_
    intro w4 hm4 ht4
    have HM4 := Lib.hid hm4
    have HT4 := Lib.hid ht4.of_drew
    clear hm4 ht4
    go_wp2
    go_ret
    refine ⟨rfl, ⟨⟨r, tv, mput D t (ov o), (HT4.out.block a (heap_lt H1.out) (by simpa using hne)).trans H1.out, HM4.out, fun j => ?_, ?_, h5, H6.out⟩, hm, ?_, fun k hk => Nat.lt_of_lt_of_le (hs3 k hk) HT4.out.size⟩, (Tch.of_below F B3.out).trans_ (HT4.out.mono (by simpa using h5))⟩
    · rw [luk_put, mat_set, H3.out, HT.out]
      split <;> rfl
    · have hl : (setM ms t o).length = ms.length := by simp [setM]
      have hk : ((setM ms t o).map fun p => str p.1) = ms.map fun p => str p.1 := by
        have h0 := congrArg (List.map str) (keys_set ms t o)
        rwa [List.map_map, List.map_map] at h0
      rw [hl, hk]
      exact H4.out.tch HT4.out fun k hk => by simpa using (HOG.out k hk).2
    · rw [keys_set]
      exact HM.out.nodup
end Go.Proofs.Ytgmoodcojpbbdaa

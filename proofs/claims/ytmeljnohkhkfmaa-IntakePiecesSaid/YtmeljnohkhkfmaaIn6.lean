import Derived.Test.YtmeljnohkhkfmaaIn5
set_option linter.unusedVariables false
set_option linter.unusedSimpArgs false
namespace Go.Proofs.Ytmeljnohkhkfmaa
open Go.RowKit

set_option maxHeartbeats 400000 in
theorem inext_nil (w : World) : Calls Try.prog 17 #[.pointer none] w fun e w' => e = .returned (.tuple #[.int .u8 0, .agg #[.int .u16 0, .slice none 0 0]]) ∧ Below w.heap.size w w' := by
  go_enter Try.func17, Try.ntmps17
  go_wp2_with fail
  refine forgetX (fun W => FrB W w.heap.size 0 (.slice none 0 0) ∧ Below w.heap.size w W) ⟨?_, ?_⟩ ?_
  · first | exact (FrB.new w 0 (.slice none 0 0)).set2 rfl | exact FrB.new w 0 (.slice none 0 0)
  · repeat (first | exact Below.refl _ _ | (refine Below.drew ?_) | (refine Below.alloc ?_ (by simp) _) | (refine Below.setCell ?_ (by simp) _))
  rintro W ⟨hf, hb⟩
  exact bodyPost_ret (results_fr (k := .int .u8 0) (i := 2) (t := 3) rfl rfl rfl hf) rfl ⟨rfl, hb⟩
set_option maxHeartbeats 1600000 in
theorem inext_calls {w : World} {a : Nat} {F : List Nat} {most ph : Nat} {l : List UInt8} (h : In w a F most l ph) :
    Calls Try.prog 17 #[.pointer (some ⟨a, 0, none⟩)] w (NxP (nextI most l ph) w a F most) := by
  have H := Lib.hid h
  have HI := Lib.hid (h.below (below_alloc w (.cells #[.int .u16 0, .slice none 0 0] 39)))
  obtain ⟨A, c, -, -, -, ⟨-, -, -, c3⟩, -, -⟩ := HI.out.row
  have hlt := h.lt
  have AF := Lib.hid (show w.heap.size ∉ F from fun h => Nat.lt_irrefl _ (H.out.lts _ h))
  have HP := Lib.hid (show ph = 0 ∨ ph = 1 ∨ ph = 2 by have := h.ok.ph2; omega)
  clear h
  have HN : ∃ r, nextI most l ph = r ∧ ∀ fv, fnv a ph = fv → True := ⟨_, rfl, fun _ _ => trivial⟩
  obtain ⟨r, hr, -⟩ := HN
  rw [hr]
  have HR := Lib.hid hr
  clear hr
  rcases HP.out with rfl | rfl | rfl
  · rw [fnv0] at c3
    go_enter Try.func17, Try.ntmps17
    go_wp2_with fail
    refine (iheader_calls HI.out).mono ?_
    rw [HR.out]
    rintro e w2 ⟨F2, v, rfl, o2, i2, t2, f2, v2⟩
    obtain ⟨A5, c5, rfl⟩ := OwnC.slice o2
    have K2 := Lib.hid ((FrB.new w 0 (.slice none 0 0)).tch t2 AF.out)
    obtain ⟨q0, q1, q2⟩ := K2.out.cells
    have hz2 : w.heap.size < w2.heap.size := heap_lt K2.out
    have HX := Lib.hid (And.intro o2 (And.intro i2 (And.intro t2 (And.intro f2 v2))))
    clear o2 i2 t2 f2 v2 c3
    go_wp2_with fail
    refine forgetX (fun W => FrB W w.heap.size r.ch (.slice A5 r.body.length c5) ∧ Tch [w.heap.size] w2 W) ⟨?_, ?_⟩ ?_
    · exact K2.out.set2 rfl
    · repeat (first | with_reducible exact Tch.refl _ _ | with_reducible refine Tch.setCell ?_ _ (by simp))
    rintro W3 ⟨hf, t3⟩
    obtain ⟨o2, i2, t2, f2, v2⟩ := HX.out
    refine bodyPost_ret (results_fr (k := .int .u8 r.kind) (i := 2) (t := 3) rfl rfl rfl hf) rfl ?_
    refine nx_fin (r := r) (base := w.heap.size) (F := F) i2 ((Tch.of_below F (below_alloc w _)).trans_ t2) (fun k hk => (f2 k hk).imp id (fun h => by simp at h; omega)) (o2.base (by simp)) (Nat.le_refl _) (Nat.le_refl _) (fun h => ?_) (fun g hg => ?_) v2 t3 rfl rfl
    · rcases f2 _ h with h | h
      · exact AF.out h
      · simp at h; omega
    · have := (OwnB.lt o2 g hg).1
      simp at this
      omega
  · rw [fnv1] at c3
    go_enter Try.func17, Try.ntmps17
    go_wp2_with fail
    refine (iframe_calls HI.out).mono ?_
    rw [HR.out]
    rintro e w2 ⟨F2, v, rfl, o2, i2, t2, f2, v2⟩
    obtain ⟨A5, c5, rfl⟩ := OwnC.slice o2
    have K2 := Lib.hid ((FrB.new w 0 (.slice none 0 0)).tch t2 AF.out)
    obtain ⟨q0, q1, q2⟩ := K2.out.cells
    have hz2 : w.heap.size < w2.heap.size := heap_lt K2.out
    have HX := Lib.hid (And.intro o2 (And.intro i2 (And.intro t2 (And.intro f2 v2))))
    clear o2 i2 t2 f2 v2 c3
    go_wp2_with fail
    refine forgetX (fun W => FrB W w.heap.size r.ch (.slice A5 r.body.length c5) ∧ Tch [w.heap.size] w2 W) ⟨?_, ?_⟩ ?_
    · exact K2.out.set2 rfl
    · repeat (first | with_reducible exact Tch.refl _ _ | with_reducible refine Tch.setCell ?_ _ (by simp))
    rintro W3 ⟨hf, t3⟩
    obtain ⟨o2, i2, t2, f2, v2⟩ := HX.out
    refine bodyPost_ret (results_fr (k := .int .u8 r.kind) (i := 2) (t := 3) rfl rfl rfl hf) rfl ?_
    refine nx_fin (r := r) (base := w.heap.size) (F := F) i2 ((Tch.of_below F (below_alloc w _)).trans_ t2) (fun k hk => (f2 k hk).imp id (fun h => by simp at h; omega)) (o2.base (by simp)) (Nat.le_refl _) (Nat.le_refl _) (fun h => ?_) (fun g hg => ?_) v2 t3 rfl rfl
    · rcases f2 _ h with h | h
      · exact AF.out h
      · simp at h; omega
    · have := (OwnB.lt o2 g hg).1
      simp at this
      omega
  · rw [fnv2] at c3
    go_enter Try.func17, Try.ntmps17
    go_wp2_with fail
    refine (ispoil1_calls _).mono ?_
    rintro e w2 ⟨rfl, b2⟩
    have K2 := Lib.hid ((FrB.new w 0 (.slice none 0 0)).tch (Tch.of_below [] b2) (by simp))
    obtain ⟨q0, q1, q2⟩ := K2.out.cells
    have hz2 : w.heap.size < w2.heap.size := heap_lt K2.out
    have B2 := Lib.hid (below_then (below_alloc w _) (by simp) b2)
    have I2 := Lib.hid (HI.out.below b2)
    clear b2 c3
    go_wp2_with fail
    refine forgetX (fun W => FrB W w.heap.size 0 (.slice none 0 0) ∧ Tch [w.heap.size] w2 W) ⟨?_, ?_⟩ ?_
    · exact K2.out.set2 (ch' := 0) (show (0 : Int) = ((0 : Nat) : Int) from rfl)
    · repeat (first | with_reducible exact Tch.refl _ _ | with_reducible refine Tch.setCell ?_ _ (by simp))
    rintro W3 ⟨hf, t3⟩
    refine bodyPost_ret (results_fr (k := .int .u8 3) (i := 2) (t := 3) rfl rfl rfl hf) rfl ?_
    have hl : l = [] := H.out.ok.bad rfl
    subst hl
    rw [← HR.out]
    exact nx_fin (r := ⟨3, 0, [], [], 2⟩) (base := w.heap.size) (F := F) I2.out (Tch.of_below F B2.out) (fun k hk => .inl hk) OwnB.nil_ (Nat.le_refl _) (Nat.le_refl _) AF.out (by simp [Value.ownBlock]) (by simp [Value.ownBlock]) t3 rfl rfl
end Go.Proofs.Ytmeljnohkhkfmaa

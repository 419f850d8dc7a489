import Derived.Test.YtkihafkiinhbkaaApart
import Derived.Test.YtkihafkiinhbkaaFRReadOk
set_option linter.unusedVariables false
set_option linter.unusedSimpArgs false
namespace Go.Proofs.Ytkihafkiinhbkaa
open Go.RowKit

set_option maxHeartbeats 800000 in
theorem freads_big (A : Option Addr) (c : Nat) (l : List UInt8) (most : Nat) (w : World) (hb : 16384 < l.length) :
    Calls Try.prog 4 #[.slice A l.length c, .int .u32 most] w fun e w' => e = .returned (.bool true) ∧ Below w.heap.size w w' := by
  go_enter Try.func4, Try.ntmps4
  go_wp2_with (go_at_call 14; refine (works11_calls _).mono ?_; rintro e w1 ⟨rfl, h1⟩; have H1 := Lib.hid h1; clear h1)
  go_ret
  exact ⟨rfl, H1.out⟩

set_option maxRecDepth 100000 in
set_option maxHeartbeats 1000000 in
theorem freads_calls (A : Option Addr) (c : Nat) (l : List UInt8) (most : Nat) (w : World) (h : Rd w A c l) (hm : most ≤ 4294967295) (hb : l.length ≤ 16384) :
    Calls Try.prog 4 #[.slice A l.length c, .int .u32 most] w fun e w' => e = .returned (.bool true) ∧ Below w.heap.size w w' := by
  have HL := Lib.hid h
  obtain ⟨⟨er, nr, cr, br⟩, hr⟩ : ∃ r, fr l most = r := ⟨_, rfl⟩
  have HF := Lib.hid hr
  have hlc := h.len
  clear h hr
  go_enter Try.func4, Try.ntmps4
  go_wp2_with fail
  refine (roomy_calls A c l _ HL.out (by omega)).mono ?_
  rintro e w1 ⟨rfl, o1, b1⟩
  obtain ⟨A1, c1, e1, r1⟩ := o1.rd
  cases e1
  have O1 := Lib.hid o1
  have R1 := Lib.hid r1
  have B1 := Lib.hid b1
  have HG := Lib.hid (show w.heap.size < w1.heap.size by
    rcases o1 with ⟨e, _⟩ | ⟨g, e', e, h1, h2, h3⟩
    · cases e
    · cases e; exact heap_lt h2)
  clear o1 r1 b1
  go_wp2_with fail
  refine (read_calls _ _ l most _ R1.out hm).mono ?_
  rintro e w2 ⟨v2, rfl, o2, b2⟩
  rw [HF.out] at o2 ⊢
  simp only [frRet] at o2 ⊢
  obtain ⟨A2, c2, rfl, r2⟩ := o2.rd
  have O2 := Lib.hid o2
  have R2 := Lib.hid r2
  have B2 := Lib.hid b2
  clear o2 r2 b2
  go_wp2_with fail
  refine (rread_calls A c l most _ ((HL.out.below (B1.out.trans (B2.out.mono (by have := HG.out; omega)))).below (below_alloc w2 _)) hm (by omega)).mono ?_
  rintro e w3 ⟨v3, rfl, o3, b3⟩
  rw [HF.out] at o3 ⊢
  simp only [frRet] at o3 ⊢
  obtain ⟨A3, c3, rfl, r3⟩ := o3.rd
  have k0 : w3.cell? ⟨w2.heap.size, 0, none⟩ = some (.int .u16 cr) := below_keeps b3 (by go_simp) (by simp)
  have k1 : w3.cell? ⟨w2.heap.size, 1, none⟩ = some (.slice A2 br.length c2) := below_keeps b3 (by go_simp) (by simp)
  have n0 := keeps_alloc k0
  have n1 := keeps_alloc k1
  have R3 := Lib.hid r3
  have B3 := Lib.hid b3
  clear o3 r3 b3
  go_wp2_with fail
  have hal3 := below_alloc w3 (.cells #[.int .u16 cr, .slice A3 br.length c3] 25)
  have BW3 := Lib.hid (((below_alloc w2 _).trans (B3.out.mono (by simp))).trans (hal3.mono (by have := B3.out.size; simp at this; omega)))
  clear hal3
  refine (same_calls A2 A3 c2 c3 br br cr cr _ (R2.out.below BW3.out) (R3.out.below (below_alloc w3 _))).mono ?_
  rintro e w4 ⟨rfl, b4⟩
  have hz3 := B3.out.size
  have z0 := below_keeps b4 (n0 _) (World.block_lt_of_cell? _ _ (n0 _))
  have z1 := below_keeps b4 (n1 _) (World.block_lt_of_cell? _ _ (n1 _))
  have BW4 := Lib.hid (BW3.out.trans (b4.mono (by simp at hz3; simp; omega)))
  clear b4 n0 n1 k0 k1 hz3
  rw [decide_eq_true rfl, decide_eq_true rfl, Bool.true_and]
  have B14 := Lib.hid (B2.out.trans (BW4.out.mono B2.out.size))
  go_wp2_with fail
  refine (kept_calls w.heap.size w.heap.size A c l _ (O1.out.below B14.out) (HL.out.below (B1.out.trans (B14.out.mono (by have := HG.out; omega)))) (by omega)).mono ?_
  rintro e w5 ⟨rfl, rfl⟩
  go_wp2_with fail
  have hap := Apt.of_cells (w := w4.alloc (.cells #[.slice A2 br.length c2, .slice (some ⟨w.heap.size, 0, none⟩) l.length (l.length + 11)] 23)) (g := w4.heap.size) (e := 23) (fr := (0, 0)) [⟨A2, c2, br⟩, ⟨some ⟨w.heap.size, 0, none⟩, l.length + 11, l⟩]
    (heap_alloc_new w4 _) (by simp) (by
      intro r hr
      simp only [List.mem_cons, List.not_mem_nil, or_false] at hr
      rcases hr with rfl | rfl
      · obtain ⟨sp, hsp⟩ := (O2.out.below (BW4.out.trans ((below_alloc w4 _).mono BW4.out.size))).mem
        exact ⟨_, sp, hsp⟩
      · exact ⟨_, _, O1.out.below (B14.out.trans ((below_alloc w4 _).mono B14.out.size))⟩) (by
      have hne : ∀ a, A2 = some a → w.heap.size < a.block := fun a ha => by
        have h1 := (O2.out.lt a.block (by rw [ha]; rfl)).1
        have h2 := HG.out
        omega
      intro i k hi hk hik a b ha hb
      simp only [List.length_cons, List.length_nil] at hi hk
      obtain ⟨rfl, rfl⟩ | ⟨rfl, rfl⟩ : i = 0 ∧ k = 1 ∨ i = 1 ∧ k = 0 := by omega
      · have h1 := hne a ha
        cases hb
        show w.heap.size ≠ a.block
        omega
      · have h1 := hne b hb
        cases ha
        show b.block ≠ w.heap.size
        omega)
  refine (apart_calls _ _ _ _ hap (by simp)).mono ?_
  rintro e w5 ⟨rfl, b5⟩
  have BW5 := Lib.hid (B1.out.trans ((B14.out.trans (((below_alloc w4 _).trans (b5.mono (by simp))).mono B14.out.size)).mono (by have := HG.out; omega)))
  clear b5 hap z0 z1
  go_wp2_with fail
  refine (works11_calls _).mono ?_
  rintro e w6 ⟨rfl, b6⟩
  have B6 := Lib.hid b6
  clear b6
  go_wp2_with fail
  go_ret
  exact ⟨rfl, below_then BW5.out BW5.out.size B6.out⟩

theorem freadsAll_calls (A : Option Addr) (c : Nat) (l : List UInt8) (x : Int) (w : World) (h : Rd w A c l) (hx : (Lit.int .u32 x).wf = true) :
    Calls Try.prog 4 #[.slice A l.length c, .int .u32 x] w fun e w' => e = .returned (.bool true) ∧ Below w.heap.size w w' := by
  obtain ⟨h0, h1⟩ := wf_u32 hx
  obtain ⟨m, rfl⟩ := Int.eq_ofNat_of_zero_le h0
  by_cases hb : 16384 < l.length
  · exact freads_big A c l m w hb
  · exact freads_calls A c l m w h (by omega) (by omega)
end Go.Proofs.Ytkihafkiinhbkaa

import Derived.Test.YtkihafkiinhbkaaFWrite
set_option linter.unusedVariables false
set_option linter.unusedSimpArgs false
namespace Go.Proofs.Ytkihafkiinhbkaa
open Go.RowKit

theorem fw_one : fw 1 [0xaa] = [0, 0, 0, 9, 2, 0, 0, 1, 0xaa] := by decide
theorem fr_one : fr [0, 0, 0, 9, 2, 0, 0, 1, 0xaa] 512 = ⟨0, 9, 1, [0xaa]⟩ := by kernel_rfl
theorem fr_two : fr [0, 0, 0, 9, 2, 0, 0, 1, 0xaa] 8 = ⟨6, 0, 0, []⟩ := by kernel_rfl

set_option maxHeartbeats 800000 in
theorem works11_calls (w : World) : Calls Try.prog 14 #[] w fun e w' => e = .returned (.bool true) ∧ Below w.heap.size w w' := by
  go_enter Try.func14, Try.ntmps14
  go_wp2_with fail
  refine (write_calls (some ⟨w.heap.size, 0, none⟩) 1 [0xaa] 1 _ (rd_one rfl) (by decide) (by decide)).mono ?_
  rintro e w1 ⟨v1, sp, rfl, h1, h2⟩
  rw [fw_one] at h1
  obtain ⟨A1, c1, rfl, r1⟩ := h1.rd
  have R1 := Lib.hid r1
  have B1 := Lib.hid (below_then (below_alloc w _) (by simp) h2)
  obtain ⟨b1, o1, rfl, hc1⟩ := r1.plain (by decide)
  clear h1 h2 r1
  go_wp2_with fail
  refine (read_calls _ c1 _ 512 _ R1.out (by decide)).mono ?_
  rintro e w2 ⟨v2, rfl, h1, h2⟩
  rw [fr_one] at h1 ⊢
  obtain ⟨A2, c2, rfl, r2⟩ := h1.rd
  obtain ⟨b2, o2, rfl, hc2⟩ := r2.plain (by decide)
  have B2 := Lib.hid (below_then B1.out B1.out.size h2)
  have R2 := Lib.hid (R1.out.below h2)
  have H2 := Lib.hid h2
  have H3 := Lib.hid (hc2 0 (by decide))
  have hc3 := (h2.cell (World.block_lt_of_cell? _ _ (hc1 3 (by decide)))).trans (hc1 3 (by decide))
  have H4 := Lib.hid hc3
  clear h1 h2 r2 hc1 hc2 hc3
  simp only [frRet]
  go_wp2_with fail
  refine (read_calls _ c1 _ 8 _ (R2.out.below (below_alloc w2 _)) (by decide)).mono ?_
  rintro e w3 ⟨v3, rfl, h1, h2⟩
  rw [fr_two] at h1 ⊢
  obtain ⟨A3, c3, rfl, r3⟩ := h1.rd
  have k1 : w3.cell? ⟨b2, o2 + 0, none⟩ = some (.int .u8 170) := (h2.cell (p := ⟨b2, o2 + 0, none⟩) (by have := World.block_lt_of_cell? _ _ H3.out; simp at this ⊢; omega)).trans ((World.cell?_alloc_lt _ _ _ (World.block_lt_of_cell? _ _ H3.out)).trans H3.out)
  have k2 : w3.cell? ⟨b1, o1 + 3, none⟩ = some (.int .u8 9) := (h2.cell (p := ⟨b1, o1 + 3, none⟩) (by have := World.block_lt_of_cell? _ _ H4.out; simp at this ⊢; omega)).trans ((World.cell?_alloc_lt _ _ _ (World.block_lt_of_cell? _ _ H4.out)).trans H4.out)
  have k3 : w3.cell? ⟨w2.heap.size, 0, none⟩ = some (.int .u16 1) := (h2.cell (by simp)).trans (by go_simp)
  have k4 : w3.cell? ⟨w2.heap.size, 1, none⟩ = some (.slice (some ⟨b2, o2, none⟩) 1 c2) := (h2.cell (by simp)).trans (by go_simp)
  have B3 := Lib.hid (below_then (below_then B2.out B2.out.size (below_alloc w2 _)) (by have := B2.out.size; simp; omega) h2)
  have alw : ∀ {W : World} {a : Addr} {v : Value}, W.cell? a = some v → ∀ o, (W.alloc o).cell? a = some v := fun h o => (World.cell?_alloc_lt _ _ _ (World.block_lt_of_cell? _ _ h)).trans h
  rw [Nat.add_zero] at k1
  have n1 := alw k1
  have n2 := alw k2
  have n3 := alw k3
  have n4 := alw k4
  clear h1 h2 r3 alw
  simp only [frRet]
  go_wp2_with fail
  go_ret
  exact ⟨rfl, B3.out.alloc B3.out.size _⟩
end Go.Proofs.Ytkihafkiinhbkaa

import Derived.Test.YtkihafkiinhbkaaFwLaw
import Derived.Test.YtkihafkiinhbkaaFOwn
import Derived.Test.YtkihafkiinhbkaaORef2
import Derived.Test.YtkihafkiinhbkaaORef3
set_option linter.unusedVariables false
set_option linter.unusedSimpArgs false
namespace Go.Proofs.Ytkihafkiinhbkaa
open Go.RowKit

theorem rd_two {w : World} : Rd (w.alloc (.cells #[.int .u8 2, .int .u8 0] 5)) (some ⟨w.heap.size, 0, none⟩) 2 [2, 0] := rd_lit (l := [2, 0]) (by rfl) (by decide)

set_option maxHeartbeats 800000 in
theorem rwrite_calls (A : Option Addr) (c : Nat) (l : List UInt8) (x : Nat) (w : World) (h : Rd w A c l) (hb : l.length ≤ 16384) (hx : x ≤ 65535) :
    Calls Try.prog 18 #[.agg #[.int .u16 x, .slice A l.length c]] w fun e w' => ∃ v, e = .returned v ∧ OwnB w' w.heap.size v (fw x l) ∧ Below w.heap.size w w' := by
  have H1 := Lib.hid h
  obtain ⟨n, hn⟩ : ∃ n, 8 + l.length = n := ⟨_, rfl⟩
  have hn1 : (8 : Int) + (l.length : Int) = n := by omega
  have HW := Lib.hid (show fw x l = bytesBE n 4 ++ [2, 0] ++ bytesBE x 2 ++ l by rw [← hn]; simp [fw, fhead])
  have hn2 : n ≤ 16392 := by omega
  clear h hn
  go_enter Try.func18, Try.ntmps18
  go_wp2_with fail
  refine (rlay_n (x := n) (n := 4) (rd_nil _) rfl (by decide) (by decide) (by omega) 4 rfl).mono ?_
  rintro e w1 ⟨v1, rfl, o1, b1⟩
  rw [List.nil_append] at o1
  have O1 := Lib.hid o1
  have B1 := Lib.hid (below_then (below_alloc w _) (by simp) b1)
  have k0 : w1.cell? ⟨w.heap.size, 0, none⟩ = some (.int .u16 x) := below_keeps b1 (by go_simp) (by simp)
  have k1 : w1.cell? ⟨w.heap.size, 1, none⟩ = some (.slice A l.length c) := below_keeps b1 (by go_simp) (by simp)
  have HS1 := Lib.hid (show w.heap.size + 1 ≤ w1.heap.size by have := b1.size; simp at this; omega)
  clear o1 b1
  go_wp2_with (at_builtin; refine wpList_appB _ rfl _ _ rfl (w.heap.size + 1) v1 (bytesBE n 4) rfl ?own (some ⟨w1.heap.size, 0, none⟩) _ _ [2, 0] rfl rfl ?rd ?hb ?hbase ?_)
  case own => exact (O1.out.base (by simp)).alloc _
  case rd => exact rd_two
  case hb => simp [bytesBE_length]
  case hbase => have := HS1.out; simp; omega
  intro v2 w2 a1 a2 a3 a4
  obtain ⟨A2, c2, rfl, r2⟩ := a1.rd
  have R2 := Lib.hid r2
  have B2 := below_grown (Below.refl (w.heap.size + 1) _) (by have := HS1.out; simp; omega) a2 (fun k hk => by have := (O1.out.lt k hk).1; simp at this; omega)
  have m0 : w2.cell? ⟨w.heap.size, 0, none⟩ = some (.int .u16 x) := below_keeps B2 (keeps_alloc k0 _) (by simp)
  have m1 : w2.cell? ⟨w.heap.size, 1, none⟩ = some (.slice A l.length c) := below_keeps B2 (keeps_alloc k1 _) (by simp)
  have BW2 := Lib.hid ((B1.out.alloc B1.out.size _).trans (B2.mono (by omega)))
  have HS2 := Lib.hid (show w.heap.size + 1 ≤ w2.heap.size by have := B2.size; have := HS1.out; simp at *; omega)
  clear a1 a2 a3 a4 r2 B2 k0 k1
  obtain ⟨P2, hP2⟩ : ∃ P2, bytesBE n 4 ++ [2, 0] = P2 := ⟨_, rfl⟩
  have hP6 : P2.length = 6 := by rw [← hP2]; simp [bytesBE_length]
  rw [hP2] at R2 HW
  have HP6 := Lib.hid hP6
  have HP2 := Lib.hid hP2
  rw [hP2, hP6]
  clear hP2 hP6
  go_wp2_with fail
  refine (rlay_n (x := x) (n := 2) R2.out HP6.out (by rw [HP6.out]; decide) (by decide) (by omega) 2 rfl).mono ?_
  rintro e w3 ⟨v3, rfl, o3, b3⟩
  have O3 := Lib.hid o3
  have m2 := below_keeps b3 m1 (World.block_lt_of_cell? _ _ m1)
  have BW3 := Lib.hid (below_then BW2.out BW2.out.size b3)
  have HB3 := Lib.hid (show w.heap.size ≤ w2.heap.size by have := HS2.out; omega)
  have HS3 := Lib.hid b3.size
  clear o3 b3 m0 m1
  go_wp2_with (at_builtin; refine wpList_appB _ rfl _ _ rfl w.heap.size v3 (P2 ++ bytesBE x 2) rfl (O3.out.base HB3.out) A _ _ l rfl rfl (H1.out.below BW3.out) ?hb ?hbase ?_)
  case hb => rw [List.length_append, HP6.out, bytesBE_length]; omega
  case hbase => have := HS3.out; have := HB3.out; omega
  intro v4 w4 a1 a2 a3 a4
  rw [show P2 ++ (bytesBE x 2 ++ l) = fw x l by rw [HW.out, List.append_assoc]] at a1
  have A1' := Lib.hid a1
  have A2' := Lib.hid (below_grown BW3.out BW3.out.size a2 (fun k hk => ((O3.out.base HB3.out).lt k hk).1))
  clear a1 a2 a3 a4
  go_wp2
  go_ret
  exact ⟨_, rfl, A1'.out, A2'.out⟩
end Go.Proofs.Ytkihafkiinhbkaa

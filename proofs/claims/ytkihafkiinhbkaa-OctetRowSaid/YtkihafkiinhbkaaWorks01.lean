import Derived.Test.YtkihafkiinhbkaaPiece
import Derived.Test.YtkihafkiinhbkaaSigned
import Derived.Test.YtkihafkiinhbkaaOff
import Derived.Lib.SlBytesConst
set_option linter.unusedVariables false
set_option linter.unusedSimpArgs false
namespace Go.Proofs.Ytkihafkiinhbkaa
open Go.RowKit

theorem lay_258 : bytesBE 258 2 = [1, 2] := by decide
theorem rd_nil (w : World) : Rd w none 0 [] := Rd.zero (by decide) (fun _ => rfl)

/-- A constant's bytes, laid and marked. -/
theorem rd_const {w : World} {cs : Array Value} {fr : Nat × Nat} (l : List UInt8) (h : cs = (u8s l).toArray) (hm : l.length ≤ 9223372036854775807) : Rd (w.alloc (.cells cs 5 fr)) (some ⟨w.heap.size, 0, none⟩) l.length l := by
  subst h
  exact rd_of_heap (sp := []) (by rw [List.append_nil]; exact heap_alloc_new w _) (Nat.le_refl _) hm

set_option maxRecDepth 100000 in
set_option maxHeartbeats 1000000 in
theorem works01_calls (w : World) :
    Calls Try.prog 28 #[] w fun e w' => e = .returned (.bool true) ∧ Below w.heap.size w w' := by
  go_enter Try.func28, Try.ntmps28
  go_wp2_with fail
  refine (lay_yes none 0 [] 258 2 _ (rd_nil w) (by decide) (by decide)).mono ?_
  rintro e w1 ⟨v1, rfl, h1, h2⟩
  obtain ⟨A1, c1, rfl, r1⟩ := h1.rd
  have R1 := Lib.hid r1
  have B1 := Lib.hid h2
  clear h1 h2 r1
  have kc := fun (w : World) (C : Array Value) (n c : Nat) => Lib.run_convert_bytes_const (P := Try.prog) w 23 5 C n c Try.underlying23 Try.underlying5
  go_wp2_with fail
  refine (layPiece_yes A1 (some ⟨w1.heap.size, 0, none⟩) c1 2 [1, 2] [97, 98] 4 _ (R1.out.below (below_alloc _ _)) (rd_const (l := [97, 98]) rfl (by decide)) (by decide) (by decide) (by decide)).mono ?_
  rintro e w2 ⟨v2, rfl, h1, h2⟩
  rw [show [1, 2] ++ bytesBE [(97 : UInt8), 98].length 4 ++ [97, 98] = [1, 2, 0, 0, 0, 2, 97, 98] from by decide] at h1
  obtain ⟨g, cap, sp, rfl, hb, hh, hc, hm⟩ : ∃ g cap sp, v2 = .slice (some ⟨g, 0, none⟩) 8 cap ∧ w1.heap.size + 1 ≤ g ∧ w2.heap[g]? = some (.cells (u8s (([1, 2] : List UInt8) ++ [0, 0, 0, 2, 97, 98] ++ sp)).toArray 5 (0, 0)) ∧ 6 + (sp : List UInt8).length = cap - 2 ∧ cap ≤ 9223372036854775807 ∧ 8 ≤ cap := by
    rcases h1.open_ with ⟨_, h0⟩ | ⟨g, cap, sp, rfl, hb, hh, hc, hm⟩
    · cases h0
    · simp only [List.length_cons, List.length_nil] at hc
      exact ⟨g, cap, sp, rfl, by simpa using hb, hh, by omega, hm, by omega⟩
  obtain ⟨hm, hcap⟩ := hm
  obtain ⟨A2, c2, e2, r2⟩ := h1.rd
  cases e2
  have B2 := Lib.hid (below_then (below_then B1.out B1.out.size (below_alloc w1 _)) (by have := B1.out.size; simp; omega) h2)
  have R2 := Lib.hid (r2.take0 (k := 2) (by decide))
  have HH := Lib.hid hh
  have HG := Lib.hid hb
  have HC := Lib.hid hc
  clear h1 h2 hh hb r2 kc hc
  have hs2 := slice_from' (some ⟨g, 0, none⟩) 8 cap 2 .i64 2 rfl (by omega)
  rw [show cutA (some ⟨g, 0, none⟩) cap 2 1 = some ⟨g, 2, none⟩ from by unfold cutA; rw [if_neg (by omega)]; rfl] at hs2
  go_wp2_with fail
  refine (tell_n (l := [1, 2]) R2.out rfl (by decide)).mono ?_
  rintro e w3 ⟨rfl, rfl⟩
  rw [show be [1, 2] = 258 from by decide]
  go_wp2_with (at_builtin; refine wpList_app_offB _ rfl (.tmp 30) (.tmp 31) rfl g 6 (cap - 2) [1, 2] [0, 0, 0, 2, 97, 98] sp [9] 2 rfl rfl ?hh rfl HC.out (by omega) (some ⟨w2.heap.size, 0, none⟩) 1 1 rfl rfl ?rd (by decide) ?_)
  case hh => exact (heap_alloc_old w2 _ (heap_lt HH.out)).trans HH.out
  case rd => exact rd_one rfl
  · intro A3 c3 w3 h1 h2
    have R3 := Lib.hid h1
    have B3 := Lib.hid (below_grown (below_then B2.out B2.out.size (below_alloc w2 _)) (by have := B2.out.size; simp; omega) h2 (fun k hk => by cases hk; have := B1.out.size; have := HG.out; omega))
    clear h1 h2 hs2
    go_wp2_with fail
    refine (piece_yes A3 c3 [0, 0, 0, 2, 97, 98, 9] 4 _ R3.out (.inr rfl) (by decide) (by decide) (by decide) (by decide)).mono ?_
    rintro e w4 ⟨p, r, rfl, h1, h2, _, h3⟩
    rw [show ((([0, 0, 0, 2, 97, 98, 9] : List UInt8).drop 4).take (be (([0, 0, 0, 2, 97, 98, 9] : List UInt8).take 4))) = [97, 98] from by decide] at h1
    rw [show ((([0, 0, 0, 2, 97, 98, 9] : List UInt8).drop 4).drop (be (([0, 0, 0, 2, 97, 98, 9] : List UInt8).take 4))) = [9] from by decide] at h2
    obtain ⟨A5, c5, rfl, r5⟩ := h1.rd
    obtain ⟨A6, c6, rfl, r6⟩ := h2.rd
    have s5 : (convert 23 9 (.slice A5 2 c5)).run Try.prog w4 = .ok (.string ⟨#[97, 98]⟩) w4 := conv_bytes r5
    obtain ⟨ad, e6, hc6⟩ := r6.at_ 0 (by decide)
    cases e6
    have hc7 : w4.cell? ad = some (.int .u8 9) := hc6
    have B4 := Lib.hid (below_then B3.out B3.out.size h3)
    clear h1 h2 h3 r5 r6 hc6
    go_wp2_with fail
    refine (signed_in 255 1 _ (by decide) (by decide) (by decide)).mono ?_
    rintro e w5 ⟨rfl, rfl⟩
    rw [show sg 1 255 = 18446744073709551615 from by decide]
    go_wp2
    go_ret
    exact ⟨rfl, B4.out⟩
end Go.Proofs.Ytkihafkiinhbkaa

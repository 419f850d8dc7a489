import Derived.Test.YtmeljnohkhkfmaaFull
import Derived.Deep.RegionLaw
set_option linter.unusedVariables false
set_option linter.unusedSimpArgs false
namespace Go.Proofs.Ytmeljnohkhkfmaa
open Go.RowKit

/-- The bytes of a frame. -/
def fhead (n x : Nat) : List UInt8 := bytesBE (8 + n) 4 ++ [2, 0] ++ bytesBE x 2
def fw (ch : Nat) (l : List UInt8) : List UInt8 := fhead l.length ch ++ l
theorem fhead_length (n x : Nat) : (fhead n x).length = 8 := by simp [fhead, bytesBE_length]

theorem head_cells (n x : Nat) (hb : n ≤ 16384) (hx : x ≤ 65535) : (#[.int .u8 ((8 + (n : Int)) / 16777216), .int .u8 ((8 + (n : Int)) / 65536), .int .u8 ((8 + (n : Int)) / 256), .int .u8 ((8 + (n : Int)) % 256), .int .u8 2, .int .u8 0, .int .u8 ((x : Int) / 256), .int .u8 ((x : Int) % 256)] : Array Value) = (u8s (fhead n x)).toArray := by
  simp [fhead, bytesBE, u8s, u8]
  omega

set_option maxHeartbeats 800000 in
theorem write_calls (A : Option Addr) (c : Nat) (l : List UInt8) (x : Nat) (w : World) (h : Rd w A c l) (hb : l.length ≤ 16384) (hx : x ≤ 65535) :
    Calls Try.prog 27 #[.agg #[.int .u16 x, .slice A l.length c]] w fun e w' => ∃ v sp, e = .returned v ∧ MemB w' w.heap.size v (fw x l) sp ∧ Below w.heap.size w w' := by
  have H1 := Lib.hid h
  clear h
  go_enter Try.func27, Try.ntmps27
  go_wp2_with fail
  have HC := Lib.hid (head_cells l.length x hb hx)
  refine forget (fun W => W.cell? ⟨w.heap.size, 1, none⟩ = some (.slice A l.length c) ∧ W.heap[w.heap.size + 1]? = some (.cells (u8s (fhead l.length x)).toArray 70 (0, 0)) ∧ w.heap.size + 2 ≤ W.heap.size ∧ Below w.heap.size w W) ⟨by go_simp, ?f1, by simp, ((Below.refl _ _).alloc (by simp) _).alloc (by simp) _⟩ ?_
  case f1 =>
    rw [← HC.out]
    have := heap_alloc_new (w.alloc (.cells #[.int .u16 x, .slice A l.length c] 39)) (.cells #[.int .u8 ((8 + (l.length : Int)) / 16777216), .int .u8 ((8 + (l.length : Int)) / 65536), .int .u8 ((8 + (l.length : Int)) / 256), .int .u8 ((8 + (l.length : Int)) % 256), .int .u8 2, .int .u8 0, .int .u8 ((x : Int) / 256), .int .u8 ((x : Int) % 256)] 70)
    simpa using this
  rintro W ⟨f1, f2, f3, f4⟩
  have hr8 : Rd W (some ⟨w.heap.size + 1, 0, none⟩) (fhead l.length x).length (fhead l.length x) := by
    refine ⟨by simp [u8s], by omega, by rw [fhead_length]; decide, (fun hh => by cases hh), u8s_one _, fun ad ha j u hj => ?_⟩
    cases ha
    rw [plain_add, Nat.zero_add]
    exact cell_of_heap f2 j u hj
  have HR8 := Lib.hid hr8
  have F2 := Lib.hid f2
  have F4 := Lib.hid f4
  have HRl := Lib.hid (H1.out.below f4)
  clear hr8 f2 f4
  go_region_law (refine step_app_full _ rfl (.tmp 29) (.tmp 31) rfl w.heap.size ⟨w.heap.size + 1, 0, none⟩ (fhead l.length x) 8 rfl (fhead_length _ _).symm ?_ A _ _ l rfl rfl ?_ ?_ ?_ ?_; (· exact HR8.out.below (by exact (Below.refl _ _).drew)); (· exact HRl.out.below (by exact (Below.refl _ _).drew)); (· rw [fhead_length]; omega); (· simp; omega); intro v' w' a1 a2)
  have A1' := Lib.hid a1
  have A2' := Lib.hid a2
  clear a1 a2
  go_wp2
  go_ret
  have hbw : Below w.heap.size w w' := below_grown F4.out.drew (by simp; omega) A2'.out (by simp)
  rcases A1'.out with ⟨rfl, rfl, rfl⟩ | hown
  · refine ⟨.slice (some ⟨w.heap.size + 1, 0, none⟩) (fhead ([] : List UInt8).length x).length (fhead ([] : List UInt8).length x).length, [], rfl, .inr ⟨w.heap.size + 1, 70, ?_, by omega, ?_, ?_⟩, hbw⟩
    · simp [fw]
    · rw [fw, List.append_nil, List.append_nil]; exact F2.out
    · simp [fw, fhead_length]
  · obtain ⟨sp, hsp⟩ := hown.mem
    exact ⟨_, sp, rfl, hsp, hbw⟩
end Go.Proofs.Ytmeljnohkhkfmaa

import Derived.Test.YtgmoodcojpbbdaaWorks19
import Derived.Laws.MakeOwn
set_option linter.unusedVariables false
set_option linter.unusedSimpArgs false
namespace Go.Proofs.Ytgmoodcojpbbdaa
open Go.RowKit

theorem conv_cells {w : World} {b c : Nat} {l : List UInt8} {sp : List Value} {t : TypeId} (h : w.heap[b]? = some (.cells (l.map (fun x => Value.int .u8 (x.toNat : Int)) ++ sp).toArray t (0, 0))) :
    (convert 59 9 (.slice (some ⟨b, 0, none⟩) l.length c)).run Try.prog w = .ok (.string ⟨l.toArray⟩) w := by
  refine run_convert_bytes_back w _ _ _ _ c l Try.underlying59 Try.underlying5 Try.underlying9 fun j hj => ?_
  rw [plain_add, Nat.zero_add]
  refine cell_of_heap h j _ ?_
  rw [List.getElem?_append_left (by simpa using hj)]
  simp [hj]
theorem conv_two (w : World) (k : Nat) (hk : k < 256) :
    (convert 59 9 (.slice (some ⟨w.heap.size, 0, none⟩) 2 2)).run Try.prog (w.alloc (.cells #[.int .u8 116, .int .u8 (k : Int)] 5)) = .ok (.string ⟨[116, UInt8.ofNat k].toArray⟩) (w.alloc (.cells #[.int .u8 116, .int .u8 (k : Int)] 5)) := by
  have h := heap_alloc_new w (.cells #[.int .u8 116, .int .u8 (k : Int)] 5)
  refine conv_cells (l := [116, UInt8.ofNat k]) (sp := []) (c := 2) (t := 5) ?_
  rw [h]
  simp
  omega
def fk (k : Nat) : Ms := (List.range k).map fun i => ([116, UInt8.ofNat i], oz)
theorem fk_add : ∀ k < 32, addM (fk k) [116, UInt8.ofNat k] = (0, fk (k + 1)) := of_decide_eq_true (by kernel_rfl)
theorem fk_more : addM (fk 32) [109, 111, 114, 101] = (4, fk 32) := of_decide_eq_true (by kernel_rfl)
theorem fk_twice : ∀ k < 32, addM (fk 32) [116, UInt8.ofNat k] = (8, fk 32) := of_decide_eq_true (by kernel_rfl)
theorem fk_mat : ∀ k < 32, mat (fk 32) [116, UInt8.ofNat k] = some oz := of_decide_eq_true (by kernel_rfl)
theorem fk_len : ∀ k < 32, (dropM (fk 32) [116, UInt8.ofNat k]).length = 31 := of_decide_eq_true (by kernel_rfl)
theorem fk_settle (k : Nat) (hk : k < 32) : settleM (fk 32) [116, UInt8.ofNat k] = (oz, true, dropM (fk 32) [116, UInt8.ofNat k]) := by
  unfold settleM
  rw [fk_mat k hk]
theorem fk_last (k n : Nat) (hk : k < 32) : ∃ ms', addM (dropM (fk 32) [116, UInt8.ofNat k]) (List.replicate n 0) = (if n < 1 ∨ 32 < n then 1 else 0, ms') := by
  have hm : mat (dropM (fk 32) [116, UInt8.ofNat k]) (List.replicate n 0) = none := mat_none.2 fun p hp e => by
    have h1 := (List.mem_filter.1 hp).1
    obtain ⟨i, _, rfl⟩ := List.mem_map.1 h1
    simp only at e
    cases n with
    | zero => simp at e
    | succ n => simp [List.replicate_succ] at e
  have hl := fk_len k hk
  unfold addM
  rw [hm, hl, List.length_replicate]
  by_cases h : n < 1 ∨ 32 < n
  · exact ⟨_, by rw [if_pos h, if_pos h]⟩
  · exact ⟨dropM (fk 32) [116, UInt8.ofNat k] ++ [(List.replicate n 0, oz)], by rw [if_neg h, if_neg h]; simp⟩

theorem Try.info_u8' : (Try.prog.info? 5).map (fun i => (i.zero, i.size, i.bytes)) = some (some (.int .u8 0), 1, 1) := by kernel_rfl
theorem made_u8' (c : Nat) : madeCells (Value.int .u8 0).cells c = ((List.replicate c (0 : UInt8)).map (fun x => Value.int .u8 (x.toNat : Int))).toArray := by
  have hz : (Value.int .u8 0).cells = #[Value.int .u8 0] := rfl
  rw [hz]
  apply Array.ext
  · simp [size_madeCells]
  · intro j h1 h2
    simp [madeCells, Nat.mod_one]
theorem make_bytes' (c : Nat) (hc : c ≤ 1000000) (w : World) :
    (Instr.makeSlice 59 (.int .i64 (c : Int)) (.int .i64 (c : Int))).run Try.prog w = .ok (.slice (some ⟨w.heap.size, 0, none⟩) c c) (w.alloc (.cells ((List.replicate c (0 : UInt8)).map (fun x => Value.int .u8 (x.toNat : Int))).toArray 5)) := by
  obtain ⟨i, hi, hz, hz1, hz2⟩ := info_parts Try.info_u8'
  have := run_makeSlice (P := Try.prog) w 59 5 i (.int .u8 0) Try.underlying59 hi hz .i64 .i64 c c (by omega) (by omega) (by rw [hz1]; simp; omega) (by rw [hz2]; omega) (by omega)
  rw [this, hz1, Nat.mul_one, made_u8']
  simp

set_option maxRecDepth 100000 in
set_option maxHeartbeats 1000000 in
theorem mfull_calls (x y : Nat) (hx : x ≤ 255) (hy : y ≤ 255) (w : World) :
    Calls Try.prog 7 #[.int .u8 x, .int .u8 y] w fun e w' => e = .returned (.bool true) ∧ Below w.heap.size w w' := by
  go_enter Try.func7, Try.ntmps7
  go_wp2_with fail
  refine (mf_new w w (Below.refl _ _)).mono ?_
  rintro e w1 ⟨rfl, m1, -⟩
  have M1 := Lib.hid m1
  clear m1
  go_wp2_with fail
  go_loopw [6] (fun i wr => ∃ k : Nat, k ≤ 32 ∧ i = .int .i64 k ∧ ∃ F, MkF w wr (w.heap.size + 1) F (fk k)) (fun i _ => 32 - (intOf i).toNat)
  case atStart => exact ⟨0, by omega, rfl, _, M1.out⟩
  case round =>
    obtain ⟨k, hk, rfl, F, hm⟩ := hrel
    have HM := Lib.hid hm
    clear hm
    by_cases hkN : k < 32
    · have hc := conv_two wr k (by omega)
      have hc256 : (k : Int) % 256 = k := by omega
      go_wp2_with fail
      refine (mf_add [116, UInt8.ofNat k] (HM.out.below (below_alloc _ _)) (fk_add k hkN)).mono ?_
      rintro e w2 ⟨F2, rfl, m2, -, -⟩
      have M2 := Lib.hid m2
      clear m2 hc
      go_wp2_with fail
      exact ⟨⟨k + 1, by omega, by go_num, F2, M2.out⟩, by simp [intOf]; omega⟩
    · obtain rfl : k = 32 := by omega
      clear hkN
      go_wp2_with fail
      refine (mf_add [109, 111, 114, 101] HM.out fk_more).mono ?_
      rintro e w2 ⟨F2, rfl, m2, -, -⟩
      have M2 := Lib.hid m2
      clear m2 HM
      have hxm : ((x : Int) % 32) = ((x % 32 : Nat) : Int) := by omega
      have hxt : ((x : Int).tmod 32) = ((x % 32 : Nat) : Int) := by rw [Int.tmod_eq_emod_of_nonneg (by omega)]; omega
      obtain ⟨k, hk⟩ : ∃ k, x % 32 = k := ⟨_, rfl⟩
      rw [hk] at hxm hxt
      have hk32 : k < 32 := by omega
      have hc := conv_two w2 k (by omega)
      go_wp2_with fail
      refine (mf_add [116, UInt8.ofNat k] (M2.out.below (below_alloc _ _)) (fk_twice k hk32)).mono ?_
      rintro e w3 ⟨F3, rfl, m3, -, -⟩
      have M3 := Lib.hid m3
      clear m3 hc M2
      have hc := conv_two w3 k (by omega)
      go_wp2_with fail
      refine (mf_settle [116, UInt8.ofNat k] (M3.out.below (below_alloc _ _)) (fk_settle k hk32)).mono ?_
      rintro e w4 ⟨F4, rfl, m4, -, -⟩
      have M4 := Lib.hid m4
      clear m4 hc M3
      have hym : ((y : Int) % 40) = ((y % 40 : Nat) : Int) := by omega
      have hyt : ((y : Int).tmod 40) = ((y % 40 : Nat) : Int) := by rw [Int.tmod_eq_emod_of_nonneg (by omega)]; omega
      obtain ⟨n, hn⟩ : ∃ n, y % 40 = n := ⟨_, rfl⟩
      rw [hn] at hym hyt
      have hn40 : n < 40 := by omega
      obtain ⟨ms5, h5⟩ := fk_last k n hk32
      have H5 := Lib.hid h5
      have hmk := make_bytes' n (by omega) (w4.alloc (.cells #[.int .u8 oz.k, .int .u64 oz.a, .int .u64 oz.b, .string ⟨oz.c.toArray⟩] 33))
      have hcv := conv_cells (sp := []) (c := n) (l := List.replicate n 0) (by rw [List.append_nil]; exact heap_alloc_new (w4.alloc (.cells #[.int .u8 oz.k, .int .u64 oz.a, .int .u64 oz.b, .string ⟨oz.c.toArray⟩] 33)) (.cells ((List.replicate n (0 : UInt8)).map (fun x => Value.int .u8 (x.toNat : Int))).toArray 5))
      obtain ⟨Z, hZ⟩ : ∃ Z, ((List.replicate n (0 : UInt8)).map (fun x => Value.int .u8 (x.toNat : Int))).toArray = Z := ⟨_, rfl⟩
      obtain ⟨S, hS⟩ : ∃ S, Hid (S = List.replicate n (0 : UInt8)) := ⟨_, Lib.hid rfl⟩
      rw [hZ] at hmk hcv
      rw [← hS.out] at hcv H5
      have hSl : S.length = n := by rw [hS.out]; simp
      rw [hSl] at hcv
      simp only [World.size_alloc] at hmk hcv
      clear h5 hZ hSl
      go_wp2_with fail
      have BB := Lib.hid ((below_alloc w4 (.cells #[.int .u8 oz.k, .int .u64 oz.a, .int .u64 oz.b, .string ⟨oz.c.toArray⟩] 33)).trans ((below_alloc _ (.cells Z 5)).mono (by simp)))
      refine (mf_add S (M4.out.below BB.out) H5.out).mono ?_
      rintro e w5 ⟨F5, rfl, m5, -, -⟩
      have M5 := Lib.hid m5
      clear m5 hcv hmk M4 BB
      by_cases hn1 : n < 1
      · have e1 : decide (1 ≤ (n : Int)) = false := decide_eq_false (by omega)
        rw [if_pos (.inl hn1)]
        clear hyt hym hxt hxm
        go_wp2_with fail
        refine (works_calls _).mono ?_
        rintro e w6 ⟨rfl, b6⟩
        go_wp2_with fail
        go_ret
        exact ⟨rfl, M5.out.old.trans (b6.mono M5.out.old.size)⟩
      · by_cases hn2 : 32 < n
        · rw [if_pos (.inr hn2)]
          have e1 : decide (1 ≤ (n : Int)) = true := decide_eq_true (by omega)
          have e2 : decide ((n : Int) ≤ 32) = false := decide_eq_false (by omega)
          clear hyt hym hxt hxm
          go_wp2_with fail
          refine (works_calls _).mono ?_
          rintro e w6 ⟨rfl, b6⟩
          go_wp2_with fail
          go_ret
          exact ⟨rfl, M5.out.old.trans (b6.mono M5.out.old.size)⟩
        · rw [if_neg (by omega)]
          clear hyt hym hxt hxm
          go_wp2_with fail
          refine (works_calls _).mono ?_
          rintro e w6 ⟨rfl, b6⟩
          go_wp2_with fail
          go_ret
          exact ⟨rfl, M5.out.old.trans (b6.mono M5.out.old.size)⟩
theorem u8_nat {x : Int} (h : (Lit.int .u8 x).wf = true) : ∃ k : Nat, x = k ∧ k ≤ 255 := by
  simp only [Lit.wf, Bool.and_eq_true, decide_eq_true_eq] at h
  have h1 : IntKind.u8.min = 0 := rfl
  have h2 : IntKind.u8.max = 255 := rfl
  exact ⟨x.toNat, by omega, by omega⟩
theorem mfull_row (x : Int) (hx : (Lit.int .u8 x).wf = true) (y : Int) (hy : (Lit.int .u8 y).wf = true) (w : World) :
    Calls Try.prog 7 #[.int .u8 x, .int .u8 y] w fun e w' => e = .returned (.bool true) ∧ Below w.heap.size w w' := by
  obtain ⟨x, rfl, h1⟩ := u8_nat hx
  obtain ⟨y, rfl, h2⟩ := u8_nat hy
  exact mfull_calls x y h1 h2 w
end Go.Proofs.Ytgmoodcojpbbdaa

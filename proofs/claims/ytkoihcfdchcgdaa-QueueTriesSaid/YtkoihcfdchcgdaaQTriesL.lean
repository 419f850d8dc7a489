import Derived.Test.YtkoihcfdchcgdaaQNilL
import Derived.Lib.SlBytesConst
set_option linter.unusedVariables false
set_option linter.unusedSimpArgs false
namespace Go.Proofs.Ytkoihcfdchcgdaa
open Go.RowKit Go.Shelf

def mgC (k : Nat) : Mg := ⟨0, 0, k, [], [120]⟩
def enC (k : Nat) (h : Bool) : En := ⟨1, mgC k, 0, h⟩
theorem wf_mgC (k : Nat) (h : k ≤ 4294967295) : WfM (mgC k) := ⟨by show 0 < 10; decide, by show 1 ≤ 2048; decide, by show 0 ≤ 64; decide, by show 0 ≤ 4294967295; decide, h⟩
theorem acq_enC (k : Nat) : acqQ [enC k false] 0 = some (enC k false) := rfl
theorem set_enC (n k : Nat) (hk : k < 4294967295) : setQ n [enC k true] 1 ocM = if 0 < n ∧ n ≤ k + 1 then ([], 0, some (enC (k + 1) true)) else ([enC (k + 1) false], 0, none) := by
  have hb : bump ocM (mgC k) = mgC (k + 1) := by
    unfold bump
    rw [if_pos ⟨rfl, hk⟩]
    rfl
  have hf : findH [enC k true] 1 = some (enC k true) := rfl
  have hbe : bumpE ocM (enC k true) = enC (k + 1) true := by unfold bumpE; rw [show (enC k true).m = mgC k from rfl, hb]; rfl
  unfold setQ
  rw [hf]
  simp only
  rw [hbe]
  have hd : deadE n ocM (mgC (k + 1)) = decide (0 < n ∧ n ≤ k + 1) := by
    unfold deadE
    have : ocM.b = 0 := rfl
    have h2 : (mgC (k + 1)).cnt = k + 1 := rfl
    rw [this, h2]
    simp
  rw [if_neg (by decide : ¬ ocM.k = 2), if_neg (by decide : ¬ ocM.k = 3), if_neg (by decide : ¬ ocM.k = 4), if_pos (by decide : ocM.k = 5), show (enC (k + 1) true).m = mgC (k + 1) from rfl, hd]
  by_cases h : 0 < n ∧ n ≤ k + 1
  · rw [if_pos h, decide_eq_true h, if_pos rfl]
    rfl
  · rw [if_neg h, decide_eq_false h, if_neg (by decide)]
    rfl
set_option maxRecDepth 100000 in
set_option maxHeartbeats 4000000 in
theorem tries_row {w : World} (x0 : Int) (w0 : (Lit.int .u8 x0).wf = true) (x1 : Int) (w1 : (Lit.int .u8 x1).wf = true) :
    Calls Try.prog 4 #[.int .u8 x0, .int .u8 x1] w fun e w' => e = .returned (.bool true) ∧ Below w.heap.size w w' := by
  have b0 := wf_u8 w0
  have b1 := wf_u8 w1
  clear w0 w1
  go_enter Try.func4, Try.ntmps4
  go_wp2_with fail
  obtain ⟨n, hn1, hn2⟩ : ∃ n : Nat, x0 % 31 = (n : Int) ∧ n ≤ 30 := ⟨(x0 % 31).toNat, by omega, by omega⟩
  obtain ⟨c, hc1, hc2⟩ : ∃ c : Nat, x1 % 40 = (c : Int) ∧ c ≤ 39 := ⟨(x1 % 40).toNat, by omega, by omega⟩
  rw [hn1, hc1]
  clear hn1 hc1 b0 b1
  refine (qf_new 3 n (Below.refl _ w) (by decide) (by decide) (by omega)).mono ?_
  rintro r w1 ⟨rfl, hq, -⟩
  have HQ := Lib.hid hq
  obtain ⟨q, hqd⟩ : ∃ q, w.heap.size = q := ⟨_, rfl⟩
  rw [hqd] at HQ
  rw [hqd]
  have HG := Lib.hid hqd
  clear hq hqd
  have kc := fun (w : World) (C : Array Value) (n c : Nat) => Lib.run_convert_bytes_const (P := Try.prog) w 22 5 C n c Try.underlying22 Try.underlying5
  go_wp2_with fail
  refine (qf_put_ok (HQ.out.alloc _) (mgC c) (some ⟨w1.heap.size, 0, none⟩) 1 1 rfl (rd_const rfl rfl (by decide)) (wf_mgC c (by omega)) (by decide) (by decide) 0).mono ?_
  rintro r w2 ⟨rfl, hq, -⟩
  have HQ2 : Hid (QF w w2 [] q 3 n 1 [enC c false]) := Lib.hid (hq.less (Z' := []) (by simp))
  clear hq HQ kc
  go_wp2_with fail
  go_loopw [10] (fun v wr => ∃ i : Nat, 1 ≤ i ∧ i ≤ 46 ∧ v = .int .u32 i ∧ QF w wr [] q 3 n 1 [enC (c + i - 1) false] ∧ (i = 46 → n = 0)) (fun v _ => 46 - (intOf v).toNat)
  case atStart => exact ⟨1, by omega, by omega, rfl, by rw [show c + 1 - 1 = c by omega]; exact HQ2.out, by omega⟩
  case round =>
    obtain ⟨i, hi1, hi2, rfl, hq, hx⟩ := hrel
    have HQ3 := Lib.hid hq
    have HX := Lib.hid hx
    clear hq hx
    obtain ⟨k, hk⟩ : ∃ k, c + i - 1 = k := ⟨_, rfl⟩
    rw [hk] at HQ3
    by_cases hi : i ≤ 45
    · have hi' : (i : Int) ≤ 45 := by omega
      go_wp2_with fail
      refine (qf_acq HQ3.out 0).mono ?_
      rintro r w3 (⟨h, -⟩ | ⟨e, v, h, rfl, o, hq, -⟩)
      · rw [acq_enC] at h; cases h
      cases (acq_enC k).symm.trans h
      obtain ⟨A3, c3, rfl, -⟩ := o.rd
      have HQ4 : Hid (QF w w3 [] q 3 n 1 [enC k true]) := Lib.hid (hq.less (Z' := []) (by simp))
      rw [show ∀ v, (itc (enC k false, v)).toArray = #[.int .i64 1, .int .u8 0, .int .u32 0, .int .u32 k, .string ⟨#[]⟩, v] from fun _ => rfl]
      have el : (enC k false).m.body.length = 1 := rfl
      rw [el]
      clear hq h o el HQ3
      go_wp2_with fail
      have hq4 := (HQ4.out.alloc (.cells #[.int .i64 1, .int .u8 0, .int .u32 0, .int .u32 k, .string ⟨#[]⟩, .slice A3 1 c3] 34)).less (Z' := []) (by simp)
      have hs := set_enC n k (by omega)
      refine (qf_set hq4 1 ocM).mono ?_
      rintro r w4 ⟨v4, rfl, hd4, hq5, -⟩
      rw [hs] at hd4 hq5 ⊢
      clear hs hq4 HQ4
      by_cases hd : 0 < n ∧ n ≤ k + 1
      · rw [if_pos hd] at hd4 hq5 ⊢
        obtain ⟨A4, c4, rfl, -⟩ := hd4 _ rfl
        rw [show ∀ c4, deadM (([] : List En), 0, some (enC (k + 1) true)).2.2 (.slice A4 (enC (k + 1) true).m.body.length c4) = .agg #[.int .u8 0, .int .u32 0, .int .u32 ((k + 1 : Nat) : Int), .string ⟨#[]⟩, .slice A4 1 c4] from fun _ => rfl]
        have HQ5 := Lib.hid hq5
        have hn0 : (0 : Int) < n := by omega
        have hni : (n : Int) ≤ (c : Int) + i := by omega
        clear hd4 hq5
        go_wp2_with fail
        have hq6 := (HQ5.out.alloc (.cells #[.int .u8 0, .int .u32 0, .int .u32 ((k + 1 : Nat) : Int), .string ⟨#[]⟩, .slice A4 1 c4] 32)).less (Z' := []) (by simp)
        have hm6 := Bx.new w4 32 [.int .u8 0, .int .u32 0, .int .u32 ((k + 1 : Nat) : Int), .string ⟨#[]⟩, .slice A4 1 c4]
        refine (qf_len hq6).mono ?_
        rintro r w5 ⟨rfl, b5⟩
        have m2 := (hm6.below b5).cell 2 _ rfl
        have HQ6 := Lib.hid (hq6.below b5)
        rw [show (ordQ false []).length = 0 from rfl, show (ordQ true []).length = 0 from rfl]
        clear hq6 hm6 b5 HQ5
        go_wp2_with fail
        refine (works_calls _).mono ?_
        rintro e w6 ⟨rfl, b6⟩
        have B6 := Lib.hid b6
        clear b6
        go_wp2_with fail
        go_ret
        exact ⟨rfl, below_then HQ6.out.old HQ6.out.old.size B6.out⟩
      · rw [if_neg hd] at hd4 hq5 ⊢
        rw [show deadM ([enC (k + 1) false], 0, (none : Option En)).2.2 v4 = .agg #[.int .u8 0, .int .u32 0, .int .u32 0, .string ⟨#[]⟩, .slice none 0 0] from rfl]
        have HQ5 := Lib.hid hq5
        have hnn : ¬ ((0 : Int) < n) ∨ ¬ ((n : Int) ≤ (c : Int) + i) := by omega
        clear hd4 hq5
        go_wp2_with fail
        all_goals
          refine ⟨⟨i + 1, by omega, by omega, by simp, ?_, fun h46 => by omega⟩, by simp [intOf]; omega⟩
          rw [show c + (i + 1) - 1 = k + 1 by omega]
          exact (HQ5.out.alloc _).less (by simp)
    · obtain rfl : i = 46 := by omega
      obtain rfl := HX.out rfl
      go_wp2_with fail
      refine (works_calls _).mono ?_
      rintro e w6 ⟨rfl, b6⟩
      have B6 := Lib.hid b6
      clear b6
      go_wp2_with fail
      go_ret
      exact ⟨rfl, below_then HQ3.out.old HQ3.out.old.size B6.out⟩
end Go.Proofs.Ytkoihcfdchcgdaa

import Derived.Test.YtkihafkiinhbkaaWorks01
set_option linter.unusedVariables false
set_option linter.unusedSimpArgs false
namespace Go.Proofs.Ytkihafkiinhbkaa
open Go.RowKit

theorem be_bytes (x : Nat) : ∀ n, be (bytesBE x n) = x % 2 ^ (8 * n)
  | 0 => by simp [bytesBE, be, Nat.mod_one]
  | n + 1 => by
    rw [bytesBE, be_cons, bytesBE_length, be_bytes x n]
    have e : (256 : Nat) ^ n = 2 ^ (8 * n) := by rw [show (256 : Nat) = 2 ^ 8 from rfl, ← Nat.pow_mul]
    have e2 : (2 : Nat) ^ (8 * (n + 1)) = 2 ^ (8 * n) * 256 := by rw [show 8 * (n + 1) = 8 * n + 8 from by omega, Nat.pow_add]
    rw [e, e2, Nat.mod_mul, Nat.mul_comm (2 ^ (8 * n))]
    simp
    omega
theorem sg_mod (n x : Nat) : sg n (x % 2 ^ (8 * n)) = sg n x := by simp [sg]
theorem sg_lt (n x : Nat) (h1 : 1 ≤ n) (h2 : n ≤ 7) : sg n x ≤ 18446744073709551615 := by
  have := bits64_lt n x 64
  rw [bits64_all n x h1 h2] at this
  omega

theorem fits_1 (x y r : Nat) (hx : x ≤ 18446744073709551615) (hy : x % 2 ^ (8 * 1) = y) (hr : sg 1 y = r) : (wrap64 (r : Int) = wrap64 (x : Int)) ↔ (wrap64 (-wrap64 (2 ^ (8 * 1 - 1))) ≤ wrap64 (x : Int) ∧ wrap64 (x : Int) < wrap64 (2 ^ (8 * 1 - 1))) := by
  subst hy hr
  rw [sg_mod, show wrap64 (-wrap64 (2 ^ (8 * 1 - 1))) = -128 from by decide +kernel, show wrap64 (2 ^ (8 * 1 - 1)) = 128 from by decide +kernel]
  unfold sg wrap64
  simp only [show (2 : Nat) ^ (8 * 1) = 256 from rfl, show (2 : Nat) ^ (8 * 1 - 1) = 128 from rfl]
  split <;> omega
theorem fits_2 (x y r : Nat) (hx : x ≤ 18446744073709551615) (hy : x % 2 ^ (8 * 2) = y) (hr : sg 2 y = r) : (wrap64 (r : Int) = wrap64 (x : Int)) ↔ (wrap64 (-wrap64 (2 ^ (8 * 2 - 1))) ≤ wrap64 (x : Int) ∧ wrap64 (x : Int) < wrap64 (2 ^ (8 * 2 - 1))) := by
  subst hy hr
  rw [sg_mod, show wrap64 (-wrap64 (2 ^ (8 * 2 - 1))) = -32768 from by decide +kernel, show wrap64 (2 ^ (8 * 2 - 1)) = 32768 from by decide +kernel]
  unfold sg wrap64
  simp only [show (2 : Nat) ^ (8 * 2) = 65536 from rfl, show (2 : Nat) ^ (8 * 2 - 1) = 32768 from rfl]
  split <;> omega
theorem fits_3 (x y r : Nat) (hx : x ≤ 18446744073709551615) (hy : x % 2 ^ (8 * 3) = y) (hr : sg 3 y = r) : (wrap64 (r : Int) = wrap64 (x : Int)) ↔ (wrap64 (-wrap64 (2 ^ (8 * 3 - 1))) ≤ wrap64 (x : Int) ∧ wrap64 (x : Int) < wrap64 (2 ^ (8 * 3 - 1))) := by
  subst hy hr
  rw [sg_mod, show wrap64 (-wrap64 (2 ^ (8 * 3 - 1))) = -8388608 from by decide +kernel, show wrap64 (2 ^ (8 * 3 - 1)) = 8388608 from by decide +kernel]
  unfold sg wrap64
  simp only [show (2 : Nat) ^ (8 * 3) = 16777216 from rfl, show (2 : Nat) ^ (8 * 3 - 1) = 8388608 from rfl]
  split <;> omega
theorem fits_4 (x y r : Nat) (hx : x ≤ 18446744073709551615) (hy : x % 2 ^ (8 * 4) = y) (hr : sg 4 y = r) : (wrap64 (r : Int) = wrap64 (x : Int)) ↔ (wrap64 (-wrap64 (2 ^ (8 * 4 - 1))) ≤ wrap64 (x : Int) ∧ wrap64 (x : Int) < wrap64 (2 ^ (8 * 4 - 1))) := by
  subst hy hr
  rw [sg_mod, show wrap64 (-wrap64 (2 ^ (8 * 4 - 1))) = -2147483648 from by decide +kernel, show wrap64 (2 ^ (8 * 4 - 1)) = 2147483648 from by decide +kernel]
  unfold sg wrap64
  simp only [show (2 : Nat) ^ (8 * 4) = 4294967296 from rfl, show (2 : Nat) ^ (8 * 4 - 1) = 2147483648 from rfl]
  split <;> omega
theorem fits_5 (x y r : Nat) (hx : x ≤ 18446744073709551615) (hy : x % 2 ^ (8 * 5) = y) (hr : sg 5 y = r) : (wrap64 (r : Int) = wrap64 (x : Int)) ↔ (wrap64 (-wrap64 (2 ^ (8 * 5 - 1))) ≤ wrap64 (x : Int) ∧ wrap64 (x : Int) < wrap64 (2 ^ (8 * 5 - 1))) := by
  subst hy hr
  rw [sg_mod, show wrap64 (-wrap64 (2 ^ (8 * 5 - 1))) = -549755813888 from by decide +kernel, show wrap64 (2 ^ (8 * 5 - 1)) = 549755813888 from by decide +kernel]
  unfold sg wrap64
  simp only [show (2 : Nat) ^ (8 * 5) = 1099511627776 from rfl, show (2 : Nat) ^ (8 * 5 - 1) = 549755813888 from rfl]
  split <;> omega
theorem fits_6 (x y r : Nat) (hx : x ≤ 18446744073709551615) (hy : x % 2 ^ (8 * 6) = y) (hr : sg 6 y = r) : (wrap64 (r : Int) = wrap64 (x : Int)) ↔ (wrap64 (-wrap64 (2 ^ (8 * 6 - 1))) ≤ wrap64 (x : Int) ∧ wrap64 (x : Int) < wrap64 (2 ^ (8 * 6 - 1))) := by
  subst hy hr
  rw [sg_mod, show wrap64 (-wrap64 (2 ^ (8 * 6 - 1))) = -140737488355328 from by decide +kernel, show wrap64 (2 ^ (8 * 6 - 1)) = 140737488355328 from by decide +kernel]
  unfold sg wrap64
  simp only [show (2 : Nat) ^ (8 * 6) = 281474976710656 from rfl, show (2 : Nat) ^ (8 * 6 - 1) = 140737488355328 from rfl]
  split <;> omega
theorem fits_7 (x y r : Nat) (hx : x ≤ 18446744073709551615) (hy : x % 2 ^ (8 * 7) = y) (hr : sg 7 y = r) : (wrap64 (r : Int) = wrap64 (x : Int)) ↔ (wrap64 (-wrap64 (2 ^ (8 * 7 - 1))) ≤ wrap64 (x : Int) ∧ wrap64 (x : Int) < wrap64 (2 ^ (8 * 7 - 1))) := by
  subst hy hr
  rw [sg_mod, show wrap64 (-wrap64 (2 ^ (8 * 7 - 1))) = -36028797018963968 from by decide +kernel, show wrap64 (2 ^ (8 * 7 - 1)) = 36028797018963968 from by decide +kernel]
  unfold sg wrap64
  simp only [show (2 : Nat) ^ (8 * 7) = 72057594037927936 from rfl, show (2 : Nat) ^ (8 * 7 - 1) = 36028797018963968 from rfl]
  split <;> omega
theorem fits_k (k x y r : Nat) (h1 : 1 ≤ k) (h7 : k ≤ 7) (hx : x ≤ 18446744073709551615) (hy : x % 2 ^ (8 * k) = y) (hr : sg k y = r) : (wrap64 (r : Int) = wrap64 (x : Int)) ↔ (wrap64 (-wrap64 (2 ^ (8 * k - 1))) ≤ wrap64 (x : Int) ∧ wrap64 (x : Int) < wrap64 (2 ^ (8 * k - 1))) := by
  rcases (show k = 1 ∨ k = 2 ∨ k = 3 ∨ k = 4 ∨ k = 5 ∨ k = 6 ∨ k = 7 by omega) with rfl | rfl | rfl | rfl | rfl | rfl | rfl
  · exact fits_1 x y r hx hy hr
  · exact fits_2 x y r hx hy hr
  · exact fits_3 x y r hx hy hr
  · exact fits_4 x y r hx hy hr
  · exact fits_5 x y r hx hy hr
  · exact fits_6 x y r hx hy hr
  · exact fits_7 x y r hx hy hr
set_option maxRecDepth 100000 in
set_option maxHeartbeats 4000000 in
theorem law9_calls (x : Nat) (wide : Int) (w : World) (hx : x ≤ 18446744073709551615) :
    Calls Try.prog 9 #[.int .u64 x, .int .i64 wide] w fun e w' => e = .returned (.bool true) ∧ Below w.heap.size w w' := by
  obtain ⟨r0, hr0⟩ : ∃ r, Hid ((∀ w, Calls Try.prog 24 #[.int .u64 x, .int .i64 wide] w fun e w' => e = .returned (.int .u64 r) ∧ w = w') ∧ (∀ w, Calls Try.prog 25 #[.int .u64 x, .int .i64 wide] w fun e w' => e = .returned (.int .u64 r) ∧ w = w')) := by
    rcases (show 1 ≤ wide ∧ wide ≤ 7 ∨ wide < 1 ∨ 8 ≤ wide by omega) with ⟨h1, h2⟩ | h
    · obtain ⟨n, rfl⟩ := Int.eq_ofNat_of_zero_le (show 0 ≤ wide by omega)
      exact ⟨_, Lib.hid ⟨fun w => signed_in x n w hx (by omega) (by omega), fun w => rsigned_in x n w hx (by omega) (by omega)⟩⟩
    · exact ⟨_, Lib.hid ⟨fun w => signed_out x wide w h, fun w => rsigned_out x wide w h⟩⟩
  go_enter Try.func9, Try.ntmps9
  go_wp2_with (first | (go_at_call 24; refine (hr0.out.1 _).mono ?_; rintro e w1 ⟨rfl, rfl⟩) | (go_at_call 25; refine (hr0.out.2 _).mono ?_; rintro e w1 ⟨rfl, rfl⟩))
  clear hr0
  go_loopw [5, 6, 7, 8, 9] (fun n _ _ _ _ wr => ∃ k : Nat, 1 ≤ k ∧ k ≤ 9 ∧ n = .int .i64 k ∧ Below w.heap.size w wr) (fun n _ _ _ _ _ => 9 - (intOf n).toNat)
  case atStart => exact ⟨1, by omega, by omega, rfl, Below.refl _ _⟩
  case round =>
    obtain ⟨k, hk1, hk9, rfl, hb⟩ := hrel
    have HB := Lib.hid hb
    clear hb
    rcases (show k = 9 ∨ k = 8 ∨ k ≤ 7 by omega) with rfl | rfl | hk7
    · go_wp2_with (go_at_call 28; refine (works01_calls _).mono ?_; rintro e w1 ⟨rfl, h1⟩; have H1 := Lib.hid h1; clear h1)
      go_ret
      exact ⟨rfl, below_then HB.out HB.out.size H1.out⟩
    · go_wp2_with fail
      refine (lay_yes none 0 [] x 8 _ (rd_nil _) (by decide) (by decide)).mono ?_
      rintro e w1 ⟨v1, rfl, h1, h2⟩
      obtain ⟨A1, c1, rfl, r1⟩ := h1.rd
      have R1 := Lib.hid r1
      have B1 := Lib.hid (below_then HB.out HB.out.size h2)
      clear h1 h2 r1
      go_wp2_with fail
      obtain ⟨y, hy⟩ : ∃ y, Hid (be ([] ++ bytesBE x 8) = y) := ⟨_, Lib.hid rfl⟩
      have hyx := hy.out
      rw [List.nil_append, be_bytes] at hyx
      have hy64 : y ≤ 18446744073709551615 := by omega
      have HY := Lib.hid hyx
      clear hyx
      refine (tell_n R1.out (by simp [bytesBE_length]) (by simp [bytesBE_length])).mono ?_
      rintro e w2 ⟨rfl, rfl⟩
      rw [hy.out]
      go_wp2_with fail
      refine (signed_out y 8 _ (.inr (by decide))).mono ?_
      rintro e w2 ⟨rfl, rfl⟩
      obtain rfl : x = y := by have := HY.out; omega
      go_wp2_with fail
      go_roundw
      case rel => exact ⟨9, by omega, by omega, rfl, B1.out⟩
      case measure => simp [intOf]
    · have k8 : ((k : Int) == 8) = false := by simp; omega
      go_wp2_with fail
      refine (lay_yes none 0 [] x k _ (rd_nil _) (by decide) (by omega)).mono ?_
      rintro e w1 ⟨v1, rfl, h1, h2⟩
      obtain ⟨A1, c1, rfl, r1⟩ := h1.rd
      have R1 := Lib.hid r1
      have B1 := Lib.hid (below_then HB.out HB.out.size h2)
      clear h1 h2 r1
      go_wp2_with fail
      obtain ⟨y, hy⟩ : ∃ y, Hid (be ([] ++ bytesBE x k) = y) := ⟨_, Lib.hid rfl⟩
      have hyx := hy.out
      rw [List.nil_append, be_bytes] at hyx
      have hy64 : y ≤ 18446744073709551615 := by have := Nat.mod_le x (2 ^ (8 * k)); omega
      have HY := Lib.hid hyx
      clear hyx
      refine (tell_n R1.out (by simp [bytesBE_length]) (by simp [bytesBE_length]; omega)).mono ?_
      rintro e w2 ⟨rfl, rfl⟩
      rw [hy.out]
      go_wp2_with fail
      obtain ⟨r, hr⟩ : ∃ r, Hid (sg k y = r) := ⟨_, Lib.hid rfl⟩
      refine (signed_in y k _ hy64 hk1 hk7).mono ?_
      rintro e w2 ⟨rfl, rfl⟩
      rw [hr.out]
      have HF := Lib.hid (fits_k k x y r hk1 hk7 hx HY.out hr.out)
      by_cases hL : wrap64 (-wrap64 (2 ^ (8 * k - 1))) ≤ wrap64 (x : Int)
      · by_cases hU : wrap64 (x : Int) < wrap64 (2 ^ (8 * k - 1))
        · have f1 := decide_eq_true hL
          have f2 := decide_eq_true hU
          have f3 : (wrap64 (r : Int) == wrap64 (x : Int)) = true := beq_iff_eq.2 (HF.out.2 ⟨hL, hU⟩)
          clear hL hU hx hy64
          go_wp2_with fail
          go_roundw
          case rel => exact ⟨k + 1, by omega, by omega, by go_num, B1.out⟩
          case measure => simp [intOf]; omega
        · have f1 := decide_eq_true hL
          have f2 := decide_eq_false hU
          have f3 : (wrap64 (r : Int) == wrap64 (x : Int)) = false := beq_eq_false_iff_ne.2 (fun h => hU (HF.out.1 h).2)
          clear hL hU hx hy64
          go_wp2_with fail
          go_roundw
          case rel => exact ⟨k + 1, by omega, by omega, by go_num, B1.out⟩
          case measure => simp [intOf]; omega
      · have f1 := decide_eq_false hL
        have f3 : (wrap64 (r : Int) == wrap64 (x : Int)) = false := beq_eq_false_iff_ne.2 (fun h => hL (HF.out.1 h).1)
        clear hL hx hy64
        go_wp2_with fail
        go_roundw
        case rel => exact ⟨k + 1, by omega, by omega, by go_num, B1.out⟩
        case measure => simp [intOf]; omega

theorem row9 (x wide : Int) (w : World) (hx : (Lit.int .u64 x).wf = true) :
    Calls Try.prog 9 #[.int .u64 x, .int .i64 wide] w fun e w' => e = .returned (.bool true) ∧ Below w.heap.size w w' := by
  have h := wf_u64 hx
  obtain ⟨n, rfl⟩ := Int.eq_ofNat_of_zero_le h.1
  exact law9_calls n wide w (by omega)
end Go.Proofs.Ytkihafkiinhbkaa

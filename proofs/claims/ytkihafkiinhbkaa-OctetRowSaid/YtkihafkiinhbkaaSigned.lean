import Derived.Test.YtkihafkiinhbkaaBase
set_option linter.unusedVariables false
set_option linter.unusedSimpArgs false
namespace Go.Proofs.Ytkihafkiinhbkaa
open Go.RowKit

/-- The lowest n bytes of a number, as one of 64 bits. -/
def sg (n x : Nat) : Nat := if x % 2 ^ (8 * n) < 2 ^ (8 * n - 1) then x % 2 ^ (8 * n) else x % 2 ^ (8 * n) + 18446744073709551616 - 2 ^ (8 * n)

set_option maxHeartbeats 400000 in
theorem signed_out (x wide : Int) (w : World) (h : wide < 1 ∨ 8 ≤ wide) :
    Calls Try.prog 24 #[.int .u64 x, .int .i64 wide] w fun e w' => e = .returned (.int .u64 x) ∧ w = w' := by
  rcases h with h | h
  all_goals
    go_enter Try.func24, Try.ntmps24
    go_wp2
    go_ret
    exact ⟨rfl, rfl⟩

theorem u64_mod (a : Int) : IntKind.u64.wrap a = a % 18446744073709551616 := by
  simp [IntKind.wrap, IntKind.bits, IntKind.signed]
theorem sg_1 (x : Nat) : IntKind.u64.wrap (wrap64 (IntKind.u64.wrap ((x : Int) * 72057594037927936)) / 72057594037927936) = (sg 1 x : Nat) := by
  unfold sg
  simp only [u64_mod, wrap64]
  simp only [show (2 : Nat) ^ (8 * 1) = 256 from rfl, show (2 : Nat) ^ (8 * 1 - 1) = 128 from rfl]
  split <;> omega
theorem sg_2 (x : Nat) : IntKind.u64.wrap (wrap64 (IntKind.u64.wrap ((x : Int) * 281474976710656)) / 281474976710656) = (sg 2 x : Nat) := by
  unfold sg
  simp only [u64_mod, wrap64]
  simp only [show (2 : Nat) ^ (8 * 2) = 65536 from rfl, show (2 : Nat) ^ (8 * 2 - 1) = 32768 from rfl]
  split <;> omega
theorem sg_3 (x : Nat) : IntKind.u64.wrap (wrap64 (IntKind.u64.wrap ((x : Int) * 1099511627776)) / 1099511627776) = (sg 3 x : Nat) := by
  unfold sg
  simp only [u64_mod, wrap64]
  simp only [show (2 : Nat) ^ (8 * 3) = 16777216 from rfl, show (2 : Nat) ^ (8 * 3 - 1) = 8388608 from rfl]
  split <;> omega
theorem sg_4 (x : Nat) : IntKind.u64.wrap (wrap64 (IntKind.u64.wrap ((x : Int) * 4294967296)) / 4294967296) = (sg 4 x : Nat) := by
  unfold sg
  simp only [u64_mod, wrap64]
  simp only [show (2 : Nat) ^ (8 * 4) = 4294967296 from rfl, show (2 : Nat) ^ (8 * 4 - 1) = 2147483648 from rfl]
  split <;> omega
theorem sg_5 (x : Nat) : IntKind.u64.wrap (wrap64 (IntKind.u64.wrap ((x : Int) * 16777216)) / 16777216) = (sg 5 x : Nat) := by
  unfold sg
  simp only [u64_mod, wrap64]
  simp only [show (2 : Nat) ^ (8 * 5) = 1099511627776 from rfl, show (2 : Nat) ^ (8 * 5 - 1) = 549755813888 from rfl]
  split <;> omega
theorem sg_6 (x : Nat) : IntKind.u64.wrap (wrap64 (IntKind.u64.wrap ((x : Int) * 65536)) / 65536) = (sg 6 x : Nat) := by
  unfold sg
  simp only [u64_mod, wrap64]
  simp only [show (2 : Nat) ^ (8 * 6) = 281474976710656 from rfl, show (2 : Nat) ^ (8 * 6 - 1) = 140737488355328 from rfl]
  split <;> omega
theorem sg_7 (x : Nat) : IntKind.u64.wrap (wrap64 (IntKind.u64.wrap ((x : Int) * 256)) / 256) = (sg 7 x : Nat) := by
  unfold sg
  simp only [u64_mod, wrap64]
  simp only [show (2 : Nat) ^ (8 * 7) = 72057594037927936 from rfl, show (2 : Nat) ^ (8 * 7 - 1) = 36028797018963968 from rfl]
  split <;> omega
set_option maxHeartbeats 1000000 in
theorem signed_in (x n : Nat) (w : World) (hx : x ≤ 18446744073709551615) (h1 : 1 ≤ n) (h2 : n ≤ 7) :
    Calls Try.prog 24 #[.int .u64 x, .int .i64 n] w fun e w' => e = .returned (.int .u64 (sg n x : Nat)) ∧ w = w' := by
  rcases (show n = 1 ∨ n = 2 ∨ n = 3 ∨ n = 4 ∨ n = 5 ∨ n = 6 ∨ n = 7 by omega) with rfl | rfl | rfl | rfl | rfl | rfl | rfl
  · go_enter Try.func24, Try.ntmps24
    go_wp2
    go_ret
    exact ⟨congrArg (fun z => Ending.returned (.int .u64 z)) (sg_1 x), rfl⟩
  · go_enter Try.func24, Try.ntmps24
    go_wp2
    go_ret
    exact ⟨congrArg (fun z => Ending.returned (.int .u64 z)) (sg_2 x), rfl⟩
  · go_enter Try.func24, Try.ntmps24
    go_wp2
    go_ret
    exact ⟨congrArg (fun z => Ending.returned (.int .u64 z)) (sg_3 x), rfl⟩
  · go_enter Try.func24, Try.ntmps24
    go_wp2
    go_ret
    exact ⟨congrArg (fun z => Ending.returned (.int .u64 z)) (sg_4 x), rfl⟩
  · go_enter Try.func24, Try.ntmps24
    go_wp2
    go_ret
    exact ⟨congrArg (fun z => Ending.returned (.int .u64 z)) (sg_5 x), rfl⟩
  · go_enter Try.func24, Try.ntmps24
    go_wp2
    go_ret
    exact ⟨congrArg (fun z => Ending.returned (.int .u64 z)) (sg_6 x), rfl⟩
  · go_enter Try.func24, Try.ntmps24
    go_wp2
    go_ret
    exact ⟨congrArg (fun z => Ending.returned (.int .u64 z)) (sg_7 x), rfl⟩

/-- The sum, bit by bit. -/
def bits64 (n x : Nat) : Nat → Nat
  | 0 => 0
  | i + 1 => bits64 n x i + (x / 2 ^ (min i (8 * n - 1)) % 2) * 2 ^ i
theorem bits64_lt (n x i : Nat) : bits64 n x i < 2 ^ i := by
  induction i with
  | zero => simp [bits64]
  | succ i ih =>
    simp only [bits64, Nat.pow_succ]
    have : x / 2 ^ (min i (8 * n - 1)) % 2 ≤ 1 := by omega
    have := Nat.mul_le_mul_right (2 ^ i) this
    omega
theorem mod_pow_succ (x i : Nat) : x % 2 ^ (i + 1) = x % 2 ^ i + (x / 2 ^ i % 2) * 2 ^ i := by
  rw [Nat.pow_succ, Nat.mod_mul, Nat.mul_comm (2 ^ i)]
theorem bits64_low (n x : Nat) (h1 : 1 ≤ n) : ∀ i, i ≤ 8 * n → bits64 n x i = x % 2 ^ i
  | 0, _ => by simp [bits64, Nat.mod_one]
  | i + 1, h => by
    rw [bits64, bits64_low n x h1 i (by omega), Nat.min_eq_left (by omega), mod_pow_succ]
theorem bits64_high (n x : Nat) (h1 : 1 ≤ n) : ∀ d, bits64 n x (8 * n + d) = x % 2 ^ (8 * n) + (x / 2 ^ (8 * n - 1) % 2) * (2 ^ (8 * n + d) - 2 ^ (8 * n))
  | 0 => by simp [bits64_low n x h1]
  | d + 1 => by
    rw [show 8 * n + (d + 1) = (8 * n + d) + 1 from by omega, bits64, bits64_high n x h1 d, Nat.min_eq_right (by omega), Nat.add_assoc, ← Nat.mul_add]
    congr 2
    have := Nat.pow_le_pow_right (show 0 < 2 by omega) (show 8 * n ≤ 8 * n + d by omega)
    rw [Nat.pow_succ]
    omega
theorem bits64_all (n x : Nat) (h1 : 1 ≤ n) (h2 : n ≤ 7) : bits64 n x 64 = sg n x := by
  have h := bits64_high n x h1 (64 - 8 * n)
  rw [show 8 * n + (64 - 8 * n) = 64 from by omega] at h
  rw [h]
  have e := mod_pow_succ x (8 * n - 1)
  rw [show 8 * n - 1 + 1 = 8 * n from by omega] at e
  have l := Nat.mod_lt x (show 0 < 2 ^ (8 * n - 1) from Nat.pow_pos (by omega))
  have p := Nat.pow_le_pow_right (show 0 < 2 by omega) (show 8 * n ≤ 64 by omega)
  unfold sg
  rcases Nat.mod_two_eq_zero_or_one (x / 2 ^ (8 * n - 1)) with hb | hb
  · rw [hb] at e ⊢
    rw [if_pos (by omega)]
    omega
  · rw [hb] at e ⊢
    rw [if_neg (by omega)]
    have : (2 : Nat) ^ 64 = 18446744073709551616 := by decide
    omega

theorem bit_yes (x m : Nat) (h : ((x : Int) / 2 ^ m).tmod 2 == 1) : x / 2 ^ m % 2 = 1 := by
  have h := eq_of_beq h
  have e : ((x : Int) / 2 ^ m) = ((x / 2 ^ m : Nat) : Int) := by simp
  rw [e, Int.tmod_eq_emod_of_nonneg (Int.natCast_nonneg _)] at h
  omega
theorem bit_no (x m : Nat) (h : (((x : Int) / 2 ^ m).tmod 2 == 1) = false) : x / 2 ^ m % 2 = 0 := by
  have h := ne_of_beq_false h
  have e : ((x : Int) / 2 ^ m) = ((x / 2 ^ m : Nat) : Int) := by simp
  rw [e, Int.tmod_eq_emod_of_nonneg (Int.natCast_nonneg _)] at h
  omega
theorem bits_up (n x k z m : Nat) (hz : z = bits64 n x k) (hk : k < 64) (hm : m = min k (8 * n - 1)) (hb : x / 2 ^ m % 2 = 1) : IntKind.u64.wrap ((z : Int) + IntKind.u64.wrap (2 ^ k)) = ((bits64 n x (k + 1) : Nat) : Int) := by
  have h1 := bits64_lt n x k
  have h2 := Nat.pow_le_pow_right (show 0 < 2 by omega) (show k ≤ 63 by omega)
  have h3 : (2 : Nat) ^ 63 = 9223372036854775808 := by decide
  have e : ((2 : Int) ^ k) = ((2 ^ k : Nat) : Int) := by simp
  rw [e, IntWalk.u64_in ((2 ^ k : Nat) : Int) (by omega), IntWalk.u64_in _ (by omega), bits64, ← hm, hb]
  omega
theorem bits_same (n x k z m : Nat) (hz : z = bits64 n x k) (hm : m = min k (8 * n - 1)) (hb : x / 2 ^ m % 2 = 0) : z = bits64 n x (k + 1) := by
  rw [bits64, ← hm, hb, hz]
  omega

set_option maxHeartbeats 400000 in
theorem rsigned_out (x wide : Int) (w : World) (h : wide < 1 ∨ 8 ≤ wide) :
    Calls Try.prog 25 #[.int .u64 x, .int .i64 wide] w fun e w' => e = .returned (.int .u64 x) ∧ w = w' := by
  rcases h with h | h
  all_goals
    go_enter Try.func25, Try.ntmps25
    go_wp2
    go_ret
    exact ⟨rfl, rfl⟩

set_option maxHeartbeats 400000 in
theorem rsigned_in (x n : Nat) (w : World) (hx : x ≤ 18446744073709551615) (h1 : 1 ≤ n) (h2 : n ≤ 7) :
    Calls Try.prog 25 #[.int .u64 x, .int .i64 n] w fun e w' => e = .returned (.int .u64 (sg n x : Nat)) ∧ w = w' := by
  rw [← bits64_all n x h1 h2]
  go_enter Try.func25, Try.ntmps25
  go_wp2
  go_loop [5, 6, 7] (fun o i _ => ∃ (k : Nat) (z : Nat), k ≤ 64 ∧ i = .int .i64 k ∧ o = .int .u64 (z : Int) ∧ Hid (z = bits64 n x k)) (fun _ i _ => 64 - (intOf i).toNat)
  case atStart => exact ⟨0, 0, by omega, rfl, rfl, Lib.hid rfl⟩
  case round =>
    obtain ⟨k, z, hk, rfl, rfl, hz⟩ := hrel
    by_cases hlt : k < 64
    · by_cases hm : k ≤ 8 * n - 1
      · have hmm : k = min k (8 * n - 1) := by omega
        have HM := Lib.hid hmm
        clear hmm
        go_wp2
        · have hb := bit_yes x k (by assumption)
          go_round
          case rel => exact ⟨k + 1, bits64 n x (k + 1), by omega, by go_num, congrArg _ (bits_up n x k z k hz.out hlt HM.out hb), Lib.hid rfl⟩
          case measure => simp [intOf]; omega
        · have hb := bit_no x k (by assumption)
          go_round
          case rel => exact ⟨k + 1, z, by omega, by go_num, rfl, Lib.hid (bits_same n x k z k hz.out HM.out hb)⟩
          case measure => simp [intOf]; omega
      · have hmm : 8 * n - 1 = min k (8 * n - 1) := by omega
        have HM := Lib.hid hmm
        clear hmm
        go_wp2
        · have hb := bit_yes x (8 * n - 1) (by assumption)
          go_round
          case rel => exact ⟨k + 1, bits64 n x (k + 1), by omega, by go_num, congrArg _ (bits_up n x k z _ hz.out hlt HM.out hb), Lib.hid rfl⟩
          case measure => simp [intOf]; omega
        · have hb := bit_no x (8 * n - 1) (by assumption)
          go_round
          case rel => exact ⟨k + 1, z, by omega, by go_num, rfl, Lib.hid (bits_same n x k z _ hz.out HM.out hb)⟩
          case measure => simp [intOf]; omega
    · obtain rfl : k = 64 := by omega
      go_wp2
      go_ret
      exact ⟨by rw [← hz.out]; rfl, rfl⟩
end Go.Proofs.Ytkihafkiinhbkaa

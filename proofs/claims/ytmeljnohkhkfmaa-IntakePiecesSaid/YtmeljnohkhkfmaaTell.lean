import Derived.Test.YtmeljnohkhkfmaaOwn
set_option linter.unusedVariables false
set_option linter.unusedSimpArgs false
namespace Go.Proofs.Ytmeljnohkhkfmaa
open Go.RowKit

theorem int_nat {k : IntKind} {a : Int} {b : Nat} (h : a = (b : Int)) : Value.int k a = Value.int k (b : Int) := by rw [h]

set_option maxHeartbeats 400000 in
theorem tell_calls (A : Option Addr) (c : Nat) (l : List UInt8) (w : World) (h : Rd w A c l) (hl : l.length ≤ 8) :
    Calls Try.prog 32 #[.slice A l.length c] w fun e w' => e = .returned (.tuple #[.int .u64 (be l : Nat), .bool true]) ∧ w = w' := by
  obtain ⟨h1, h2⟩ := h.len
  have hd : decide (8 < l.length) = false := by simp; omega
  go_enter Try.func32, Try.ntmps32
  go_wp2
  go_loop [2, 5, 11] (fun x _ i => ∃ k : Nat, k ≤ l.length ∧ i = .int .i64 k ∧ x = .int .u64 (be (l.take k) : Nat)) (fun _ _ i => l.length - (intOf i).toNat)
  case atStart => exact ⟨0, Nat.zero_le _, rfl, rfl⟩
  case round =>
    obtain ⟨k, hk, rfl, rfl⟩ := hrel
    by_cases hlt : k < l.length
    · obtain ⟨ad, rfl, hc⟩ := h.at_ k hlt
      have hb := be_lt (l.take k) 7 (by simp; omega)
      have hu := l[k].toNat_lt
      have HS := Lib.hid (be_take_succ l k hlt)
      have H := Lib.hid h
      clear h
      go_wp2
      exact ⟨⟨k + 1, by omega, by go_num, int_nat (by rw [HS.out]; simp)⟩, by simp [intOf]; omega⟩
    · obtain rfl : k = l.length := by omega
      go_wp2
      go_ret2
      exact ⟨by simp, rfl⟩

set_option maxHeartbeats 400000 in
theorem tell_long (A : Option Addr) (c : Nat) (l : List UInt8) (w : World) (hl : 8 < l.length) :
    Calls Try.prog 32 #[.slice A l.length c] w fun e w' => e = .returned (.tuple #[.int .u64 0, .bool false]) ∧ w = w' := by
  have hd : decide (8 < l.length) = true := by simp; omega
  go_enter Try.func32, Try.ntmps32
  go_wp2
  go_ret2
  exact ⟨rfl, rfl⟩

set_option maxHeartbeats 400000 in
theorem rtell_calls (A : Option Addr) (c : Nat) (l : List UInt8) (w : World) (h : Rd w A c l) (hl : l.length ≤ 8) :
    Calls Try.prog 42 #[.slice A l.length c] w fun e w' => e = .returned (.tuple #[.int .u64 (be l : Nat), .bool true]) ∧ w = w' := by
  obtain ⟨h1, h2⟩ := h.len
  have hd : decide (8 < l.length) = false := by simp; omega
  go_enter Try.func42, Try.ntmps42
  go_wp2
  go_loop [4, 5, 6] (fun x v i => ∃ (k : Nat) (W : Int), k ≤ l.length ∧ i = .int .i64 ((k : Int) - 1) ∧ x = .int .u64 (be (l.drop k) : Nat) ∧ v = .int .u64 W ∧ Hid (0 < k → W = (256 ^ (l.length - k) : Nat))) (fun _ _ i => (intOf i + 1).toNat)
  case atStart => exact ⟨l.length, 1, Nat.le_refl _, rfl, by simp [be], rfl, Lib.hid (fun _ => by simp)⟩
  case round =>
    obtain ⟨k, W, hk, rfl, rfl, rfl, hW⟩ := hrel
    cases k with
    | zero =>
      go_wp2
      go_ret2
      exact ⟨by simp, rfl⟩
    | succ k =>
    obtain ⟨ad, rfl, hc⟩ := h.at_ k (by omega)
    have H := Lib.hid h
    clear h
    go_wp2
    exact ⟨⟨k, _, by omega, rfl, int_nat (be_back l k (by omega) hl W (hW.out (by omega))), rfl, Lib.hid (fun h0 => pow_back l.length k (by omega) hl h0 W (hW.out (by omega)))⟩, by simp [intOf]⟩

set_option maxHeartbeats 400000 in
theorem rtell_long (A : Option Addr) (c : Nat) (l : List UInt8) (w : World) (hl : 8 < l.length) :
    Calls Try.prog 42 #[.slice A l.length c] w fun e w' => e = .returned (.tuple #[.int .u64 0, .bool false]) ∧ w = w' := by
  have hd : decide (8 < l.length) = true := by simp; omega
  go_enter Try.func42, Try.ntmps42
  go_wp2
  go_ret2
  exact ⟨rfl, rfl⟩
end Go.Proofs.Ytmeljnohkhkfmaa

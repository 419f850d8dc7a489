import Derived.Test.YtmeljnohkhkfmaaClone
import Derived.Test.YtmeljnohkhkfmaaTell
set_option linter.unusedVariables false
set_option linter.unusedSimpArgs false
namespace Go.Proofs.Ytmeljnohkhkfmaa
open Go.RowKit

def bytesBE (x : Nat) : Nat → List UInt8
  | 0 => []
  | n + 1 => UInt8.ofNat (x / 2 ^ (8 * n)) :: bytesBE x n

theorem bytesBE_length (x : Nat) : ∀ n, (bytesBE x n).length = n
  | 0 => rfl
  | n + 1 => by simp [bytesBE, bytesBE_length x n]
theorem tell_n {A : Option Addr} {n c : Nat} {l : List UInt8} {w : World} (h : Rd w A c l) (hn : l.length = n) (hl : n ≤ 8) :
    Calls Try.prog 32 #[.slice A n c] w fun e w' => e = .returned (.tuple #[.int .u64 (be l : Nat), .bool true]) ∧ w = w' := by
  subst hn; exact tell_calls A c l w h hl
theorem clone_n {A : Option Addr} {n c : Nat} {l : List UInt8} {w : World} (h : Rd w A c l) (hn : l.length = n) (hb : n ≤ 140737488351232) :
    Calls Try.prog 37 #[.slice A n c] w fun e w' => ∃ v, e = .returned v ∧ OwnB w' w.heap.size v l ∧ Below w.heap.size w w' ∧ (v = .slice none 0 0 ↔ A = none) := by
  subst hn; exact clone_calls A c l w h hb

theorem rtell_n {A : Option Addr} {n c : Nat} {l : List UInt8} {w : World} (h : Rd w A c l) (hn : l.length = n) (hl : n ≤ 8) :
    Calls Try.prog 42 #[.slice A n c] w fun e w' => e = .returned (.tuple #[.int .u64 (be l : Nat), .bool true]) ∧ w = w' := by
  subst hn; exact rtell_calls A c l w h hl

theorem be_bytes (x : Nat) : ∀ n, be (bytesBE x n) = x % 2 ^ (8 * n)
  | 0 => by simp [bytesBE, be, Nat.mod_one]
  | n + 1 => by
    rw [bytesBE, be_cons, bytesBE_length, be_bytes x n]
    have e : (256 : Nat) ^ n = 2 ^ (8 * n) := by rw [show (256 : Nat) = 2 ^ 8 from rfl, ← Nat.pow_mul]
    have e2 : (2 : Nat) ^ (8 * (n + 1)) = 2 ^ (8 * n) * 256 := by rw [show 8 * (n + 1) = 8 * n + 8 from by omega, Nat.pow_add]
    rw [e, e2, Nat.mod_mul, Nat.mul_comm (2 ^ (8 * n))]
    simp
    omega
theorem keeps_alloc {w : World} {a : Addr} {v : Value} (h : w.cell? a = some v) (o : Obj) : (w.alloc o).cell? a = some v := (World.cell?_alloc_lt _ _ _ (World.block_lt_of_cell? _ _ h)).trans h


end Go.Proofs.Ytmeljnohkhkfmaa

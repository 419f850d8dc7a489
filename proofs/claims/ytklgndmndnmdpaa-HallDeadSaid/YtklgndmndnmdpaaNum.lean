import Derived.Below
import Derived.IntWalk
set_option linter.unusedVariables false
set_option linter.unusedSimpArgs false
namespace Go.Proofs.Ytklgndmndnmdpaa

/-- The number that bytes are, the highest first. -/
def be (l : List UInt8) : Nat := l.foldl (fun x b => x * 256 + b.toNat) 0
theorem be_nil : be [] = 0 := rfl
theorem be_fold (l : List UInt8) : ∀ x, l.foldl (fun x b => x * 256 + b.toNat) x = x * 256 ^ l.length + be l := by
  induction l with
  | nil => intro x; simp [be]
  | cons b l ih =>
    intro x
    have h1 := ih (x * 256 + b.toNat)
    have h2 := ih b.toNat
    simp only [be, List.foldl_cons, List.length_cons, Nat.zero_mul, Nat.zero_add] at *
    rw [h1, h2, Nat.pow_succ, Nat.add_mul, Nat.mul_assoc, Nat.mul_comm 256, Nat.add_assoc]
theorem be_cons (b : UInt8) (l : List UInt8) : be (b :: l) = b.toNat * 256 ^ l.length + be l := by
  have := be_fold l b.toNat
  simpa [be] using this
theorem be_snoc (l : List UInt8) (b : UInt8) : be (l ++ [b]) = be l * 256 + b.toNat := by simp [be, List.foldl_append]
theorem take_succ' {α : Type} (l : List α) (k : Nat) (h : k < l.length) : l.take (k + 1) = l.take k ++ [l[k]] := by
  rw [List.take_succ_eq_append_getElem h]
theorem be_take_succ (l : List UInt8) (k : Nat) (h : k < l.length) : be (l.take (k + 1)) = be (l.take k) * 256 + (l[k]).toNat := by
  rw [take_succ' l k h, be_snoc]
theorem be_lt_pow (l : List UInt8) : be l < 256 ^ l.length := by
  induction l with
  | nil => simp [be]
  | cons b l ih =>
    rw [be_cons, List.length_cons, Nat.pow_succ]
    have := b.toNat_lt
    have h : b.toNat * 256 ^ l.length ≤ 255 * 256 ^ l.length := Nat.mul_le_mul_right _ (by omega)
    omega
theorem be_lt (l : List UInt8) (n : Nat) (h : l.length ≤ n) : be l < 256 ^ n := Nat.lt_of_lt_of_le (be_lt_pow l) (Nat.pow_le_pow_right (by omega) h)
theorem be_drop (l : List UInt8) (k : Nat) (h : k < l.length) : be (l.drop k) = (l[k]).toNat * 256 ^ (l.length - (k + 1)) + be (l.drop (k + 1)) := by
  rw [List.drop_eq_getElem_cons h, be_cons, List.length_drop]
theorem pow256_le (n m : Nat) (h : n ≤ m) : 256 ^ n ≤ 256 ^ m := Nat.pow_le_pow_right (by omega) h
/-- One byte more from behind, in 64 bits. -/
theorem be_back (l : List UInt8) (k : Nat) (h : k < l.length) (hl : l.length ≤ 8) (W : Int) (hW : W = (256 ^ (l.length - (k + 1)) : Nat)) :
    IntKind.u64.wrap ((be (l.drop (k + 1)) : Nat) + IntKind.u64.wrap (W * IntKind.u64.wrap ((l[k]).toNat : Int))) = (be (l.drop k) : Nat) := by
  have hd := be_drop l k h
  have hb := be_lt (l.drop k) 8 (by simp; omega)
  have hu := (l[k]).toNat_lt
  subst hW
  rw [IntWalk.u64_in ((l[k]).toNat : Int) (by omega)]
  have e : (((256 ^ (l.length - (k + 1)) : Nat) : Int) * ((l[k]).toNat : Int)) = (((l[k]).toNat * 256 ^ (l.length - (k + 1)) : Nat) : Int) := by
    rw [← Int.natCast_mul, Nat.mul_comm]
  have h8 : (256 : Nat) ^ 8 = 18446744073709551616 := by decide
  rw [e, IntWalk.u64_in (((l[k]).toNat * 256 ^ (l.length - (k + 1)) : Nat) : Int) (by omega), IntWalk.u64_in _ (by omega)]
  omega
theorem pow_back (n k : Nat) (h : k < n) (hl : n ≤ 8) (h0 : 0 < k) (W : Int) (hW : W = (256 ^ (n - (k + 1)) : Nat)) : IntKind.u64.wrap (256 * W) = (256 ^ (n - k) : Nat) := by
  subst hW
  have e : (256 : Nat) ^ (n - k) = 256 * 256 ^ (n - (k + 1)) := by
    rw [show n - k = (n - (k + 1)) + 1 from by omega, Nat.pow_succ]; omega
  have hb := pow256_le (n - k) 7 (by omega)
  have h8 : (256 : Nat) ^ 7 = 72057594037927936 := by decide
  rw [IntWalk.u64_in _ (by omega)]
  omega
end Go.Proofs.Ytklgndmndnmdpaa

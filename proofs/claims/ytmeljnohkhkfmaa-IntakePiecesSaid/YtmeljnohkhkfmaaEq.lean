import Derived.Test.YtmeljnohkhkfmaaFReadAll
set_option linter.unusedVariables false
set_option linter.unusedSimpArgs false
namespace Go.Proofs.Ytmeljnohkhkfmaa
open Go.RowKit

theorem less_asymm : ∀ (l m : List UInt8), Op.bytesLess l m = true → Op.bytesLess m l = false
  | [], [], h => by simp [Op.bytesLess] at h
  | _ :: _, [], h => by simp [Op.bytesLess] at h
  | [], _ :: _, h => by simp [Op.bytesLess]
  | a :: l, b :: m, h => by
    have ih := less_asymm l m
    simp only [Op.bytesLess, Bool.or_eq_true, Bool.and_eq_true, decide_eq_true_eq, beq_iff_eq, Bool.or_eq_false_iff, Bool.and_eq_false_iff, decide_eq_false_iff_not] at h ⊢
    rcases h with h | ⟨rfl, h⟩
    · exact ⟨fun h' => by rw [UInt8.lt_iff_toNat_lt] at h h'; omega, .inl (by simp; intro he; subst he; rw [UInt8.lt_iff_toNat_lt] at h; omega)⟩
    · exact ⟨fun h' => by rw [UInt8.lt_iff_toNat_lt] at h'; omega, .inr (ih h)⟩
theorem less_both (l m : List UInt8) : ((Op.bytesLess l m || l == m) && (Op.bytesLess m l || m == l)) = decide (l = m) := by
  by_cases he : l = m
  · subst he; simp
  · have he' : ¬ m = l := fun hh => he hh.symm
    cases h1 : Op.bytesLess l m with
    | false => simp [he, he']
    | true => simp [he, he', less_asymm l m h1]

set_option maxHeartbeats 400000 in
theorem eq_calls (A B : Option Addr) (c d : Nat) (l m : List UInt8) (w : World) (h : Rd w A c l) (k : Rd w B d m) :
    Calls Try.prog 25 #[.slice A l.length c, .slice B m.length d] w fun e w' => e = .returned (.bool (decide (l = m))) ∧ w = w' := by
  have s1 : (convert 24 9 (.slice A l.length c)).run Try.prog w = .ok (.string ⟨l.toArray⟩) w := conv_bytes h
  have s2 : (convert 24 9 (.slice B m.length d)).run Try.prog w = .ok (.string ⟨m.toArray⟩) w := conv_bytes k
  have HB := Lib.hid (less_both l m)
  clear h k
  go_enter Try.func25, Try.ntmps25
  go_wp2_with fail
  · go_ret
    refine ⟨?_, rfl⟩
    rw [HB.out]
    first | rfl | simp
  · rename_i hx
    have h0 := HB.out
    go_ret
    refine ⟨?_, rfl⟩
    by_cases he : l = m
    · exact (hx (.inr he)).elim
    · simp [he]

set_option maxHeartbeats 400000 in
theorem same_calls (A B : Option Addr) (c d : Nat) (l m : List UInt8) (x y : Nat) (w : World) (h : Rd w A c l) (k : Rd w B d m) :
    Calls Try.prog 19 #[.agg #[.int .u16 x, .slice A l.length c], .agg #[.int .u16 y, .slice B m.length d]] w fun e w' => e = .returned (.bool (decide (x = y) && decide (l = m))) ∧ Below w.heap.size w w' := by
  have H1 := Lib.hid h
  have H2 := Lib.hid k
  clear h k
  by_cases hxy : x = y
  · subst hxy
    rw [decide_eq_true rfl, Bool.true_and]
    go_enter Try.func19, Try.ntmps19
    go_wp2_with fail
    refine (eq_calls A B c d l m _ (H1.out.below (((Below.refl _ _).alloc (by simp) _).alloc (by simp) _)) (H2.out.below (((Below.refl _ _).alloc (by simp) _).alloc (by simp) _))).mono ?_
    rintro e w1 ⟨rfl, rfl⟩
    go_wp2
    go_ret
    exact ⟨rfl, ((Below.refl _ _).alloc (by simp) _).alloc (by simp) _⟩
  · rw [decide_eq_false hxy, Bool.false_and]
    have hz : ¬ ((x : Int) = y) := by omega
    go_enter Try.func19, Try.ntmps19
    go_wp2_with fail
    go_ret
    exact ⟨rfl, ((Below.refl _ _).alloc (by simp) _).alloc (by simp) _⟩
end Go.Proofs.Ytmeljnohkhkfmaa

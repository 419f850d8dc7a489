import Derived.Test.YtkihafkiinhbkaaORef
import Derived.Deep.RegionLaw
set_option linter.unusedVariables false
set_option linter.unusedSimpArgs false
namespace Go.Proofs.Ytkihafkiinhbkaa
open Go.RowKit

theorem mayB_spec (wide n : Nat) (h : mayB wide n = true) : (wide = 1 ∧ n ≤ 255) ∨ (wide = 4 ∧ n ≤ 2147483647) := by
  unfold mayB at h
  by_cases h1 : (wide : Int) = 1
  · rw [if_pos h1] at h
    exact .inl ⟨by omega, of_decide_eq_true h⟩
  · rw [if_neg h1] at h
    by_cases h4 : (wide : Int) = 4
    · rw [if_pos h4] at h
      exact .inr ⟨by omega, of_decide_eq_true h⟩
    · rw [if_neg h4] at h
      cases h
theorem mayB_no (wide : Int) (n : Nat) (h : mayB wide n = false) : (wide ≠ 1 ∧ wide ≠ 4) ∨ (wide = 1 ∧ 255 < n) ∨ (wide = 4 ∧ 2147483647 < n) := by
  unfold mayB at h
  by_cases h1 : wide = 1
  · rw [if_pos h1] at h
    exact .inr (.inl ⟨h1, by have := of_decide_eq_false h; omega⟩)
  · rw [if_neg h1] at h
    by_cases h4 : wide = 4
    · rw [if_pos h4] at h
      exact .inr (.inr ⟨h4, by have := of_decide_eq_false h; omega⟩)
    · exact .inl ⟨h1, h4⟩

set_option maxHeartbeats 400000 in
theorem rlayPiece_no (A B : Option Addr) (c d : Nat) (l p : List UInt8) (wide : Int) (w : World) (hw : mayB wide p.length = false) (hp : p.length ≤ 140737488351232) :
    Calls Try.prog 31 #[.slice A l.length c, .slice B p.length d, .int .i64 wide] w fun e w' => e = .returned (.tuple #[.slice none 0 0, .int .i64 1]) ∧ w = w' := by
  rcases mayB_no wide _ hw with ⟨h1, h4⟩ | ⟨rfl, h⟩ | ⟨rfl, h⟩
  · have k1 : (wide == 1) = false := by simpa using h1
    have k4 : (wide == 4) = false := by simpa using h4
    have m1 : (wide != 1) = true := by simpa using h1
    have m4 : (wide != 4) = true := by simpa using h4
    clear h1 h4 hw
    go_enter Try.func31, Try.ntmps31
    go_wp2
    go_ret2
    exact ⟨rfl, rfl⟩
  · clear hw
    go_enter Try.func31, Try.ntmps31
    go_wp2
    go_ret2
    exact ⟨rfl, rfl⟩
  · clear hw
    go_enter Try.func31, Try.ntmps31
    go_wp2
    go_ret2
    exact ⟨rfl, rfl⟩

theorem rlay_n {A : Option Addr} {m c : Nat} {l : List UInt8} {x n : Nat} {w : World} (h : Rd w A c l) (hm : l.length = m) (hb : l.length ≤ 140737488351232) (hn : n ≤ 8) (hx : x ≤ 18446744073709551615) (k : Int) (hk : k = n) :
    Calls Try.prog 36 #[.slice A m c, .int .u64 x, .int .i64 k] w fun e w' => ∃ v, e = .returned v ∧ OwnB w' w.heap.size v (l ++ bytesBE x n) ∧ Below w.heap.size w w' := by
  subst hm hk; exact rlay_calls A c l x n w h hb hn hx

set_option maxHeartbeats 400000 in
theorem rlayPiece_yes (A B : Option Addr) (c d : Nat) (l p : List UInt8) (wide : Nat) (w : World) (hl : Rd w A c l) (hq : Rd w B d p) (hw : mayB wide p.length = true) (hb : l.length + 8 + p.length ≤ 140737488351232) :
    Calls Try.prog 31 #[.slice A l.length c, .slice B p.length d, .int .i64 wide] w fun e w' => ∃ v, e = .returned (.tuple #[v, .int .i64 0]) ∧ OwnB w' w.heap.size v (l ++ bytesBE p.length wide ++ p) ∧ Below w.heap.size w w' := by
  have HL := Lib.hid hl
  have HQ := Lib.hid hq
  have hm := mayB_spec _ _ hw
  clear hw hl hq
  rcases hm with ⟨rfl, hm⟩ | ⟨rfl, hm⟩
  all_goals
    go_enter Try.func31, Try.ntmps31
    go_wp2_with (first | (go_at_call 36; refine (rlay_n (l := l) (x := p.length) (w := w) HL.out rfl (by omega) (by decide) (by omega) _ rfl).mono ?_; rintro e w1 ⟨v, rfl, h1, h2⟩; have H1 := Lib.hid h1; have H2 := Lib.hid h2; clear h1 h2) | (at_builtin; refine wpList_appB _ rfl (.tmp 33) (.tmp 34) rfl w.heap.size _ _ rfl H1.out B _ _ p rfl rfl (HQ.out.below H2.out) (by simp [bytesBE_length]; omega) H2.out.size ?_; intro v2 w2 h1 h2 h3 h4))
    have hlt := H1.out.lt
    have HB2 := Lib.hid (below_grown H2.out H2.out.size h2 (fun k hk => (hlt k hk).1))
    have HO := Lib.hid h1
    clear h1 h2 h3 h4 hlt
    go_wp2
    go_ret2
    exact ⟨_, rfl, HO.out, HB2.out⟩
end Go.Proofs.Ytkihafkiinhbkaa

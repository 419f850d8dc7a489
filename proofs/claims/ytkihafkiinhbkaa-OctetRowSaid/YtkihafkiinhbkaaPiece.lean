import Derived.Test.YtkihafkiinhbkaaOct
import Derived.Deep.RegionWith
set_option linter.unusedVariables false
set_option linter.unusedSimpArgs false
namespace Go.Proofs.Ytkihafkiinhbkaa
open Go.RowKit

set_option maxHeartbeats 400000 in
theorem piece_arg (A : Option Addr) (c : Nat) (l : List UInt8) (wide : Int) (w : World) (hw : mayB wide 0 = false) :
    Calls Try.prog 33 #[.slice A l.length c, .int .i64 wide] w fun e w' => e = .returned (.tuple #[.slice none 0 0, .slice none 0 0, .int .i64 1]) ∧ w = w' := by
  have HW := Lib.hid hw
  have hmf : ∀ (fn : Fn) (first cap : Array Value) (w : World), (Instr.makeFunc fn first cap).run Try.prog w = .ok (.func fn first cap) w := fun _ _ _ _ => rfl
  clear hw
  go_enter Try.func33, Try.ntmps33
  go_wp2_with (go_at_call 45; refine (may_calls wide 0 _).mono ?_; rintro e w1 ⟨rfl, rfl⟩; rw [HW.out])
  go_ret3
  exact ⟨rfl, rfl⟩

theorem tell_n {A : Option Addr} {n c : Nat} {l : List UInt8} {w : World} (h : Rd w A c l) (hn : l.length = n) (hl : n ≤ 8) :
    Calls Try.prog 26 #[.slice A n c] w fun e w' => e = .returned (.tuple #[.int .u64 (be l : Nat), .bool true]) ∧ w = w' := by
  subst hn; exact tell_calls A c l w h hl
theorem clone_n {A : Option Addr} {n c : Nat} {l : List UInt8} {w : World} (h : Rd w A c l) (hn : l.length = n) (hb : n ≤ 140737488351232) :
    Calls Try.prog 42 #[.slice A n c] w fun e w' => ∃ v, e = .returned v ∧ OwnB w' w.heap.size v l ∧ Below w.heap.size w w' ∧ (v = .slice none 0 0 ↔ A = none) := by
  subst hn; exact clone_calls A c l w h hb

set_option maxHeartbeats 400000 in
theorem piece_yes (A : Option Addr) (c : Nat) (l : List UInt8) (wide : Nat) (w : World) (h : Rd w A c l) (hw : wide = 1 ∨ wide = 4) (hl : wide ≤ l.length) (hn : mayB wide (be (l.take wide)) = true) (hr : be (l.take wide) ≤ l.length - wide) (hb : l.length ≤ 140737488351232) :
    Calls Try.prog 33 #[.slice A l.length c, .int .i64 wide] w fun e w' => ∃ v1 v2, e = .returned (.tuple #[v1, v2, .int .i64 0]) ∧
      OwnB w' w.heap.size v1 ((l.drop wide).take (be (l.take wide))) ∧ OwnB w' w.heap.size v2 ((l.drop wide).drop (be (l.take wide))) ∧ (∀ k, v1.ownBlock = some k → some k ≠ v2.ownBlock) ∧ Below w.heap.size w w' := by
  obtain ⟨n, hbe⟩ : ∃ n, Hid (be (l.take wide) = n) := ⟨_, Lib.hid rfl⟩
  rw [hbe.out] at hn hr ⊢
  have HW := Lib.hid hw
  have HW0 := Lib.hid (show mayB wide 0 = true by rcases hw with rfl | rfl <;> rfl)
  have HN := Lib.hid hn
  have h8 : wide ≤ 8 := by omega
  have hlc := h.len
  have HR := Lib.hid h
  obtain ⟨A1, hA1⟩ : ∃ A1, Hid (cutA A c wide 1 = A1) := ⟨_, Lib.hid rfl⟩
  have hs1 := slice_from A l.length c wide .i64 hl
  have hr1 := h.cut wide l.length hl (Nat.le_refl _)
  rw [List.take_length] at hr1
  obtain ⟨A2, hA2⟩ : ∃ A2, Hid (cutA A1 (c - wide) n 1 = A2) := ⟨_, Lib.hid rfl⟩
  have hs2 := slice_from A1 (l.length - wide) (c - wide) n .u64 hr
  rw [hA1.out] at hs1 hr1
  rw [hA2.out] at hs2
  have HR1 := Lib.hid hr1
  have HR2 := Lib.hid (hr1.cut n (l.length - wide) hr (by simp))
  clear hr1
  clear hw hn h
  have hmf : ∀ (fn : Fn) (first cap : Array Value) (w : World), (Instr.makeFunc fn first cap).run Try.prog w = .ok (.func fn first cap) w := fun _ _ _ _ => rfl
  go_enter Try.func33, Try.ntmps33
  go_wp2_with (first | (go_at_call 45; refine (may_calls _ _ _).mono ?_; rintro e w1 ⟨rfl, rfl⟩; first | rw [HW0.out] | rw [HN.out]) | (go_at_call 26; refine (tell_n (l := l.take wide) (HR.out.take0 hl) (by simp; omega) h8).mono ?_; rintro e w1 ⟨rfl, rfl⟩; rw [hbe.out]))
  have e2 : ((l.drop wide).take (l.length - wide)) = l.drop wide := List.take_of_length_le (by simp)
  have r2 := HR2.out
  rw [e2, hA2.out] at r2
  have HR2' := Lib.hid r2
  have HL1 := Lib.hid (show ((l.drop wide).take n).length = n by simp; omega)
  have HL2 := Lib.hid (show ((l.drop wide).drop n).length = l.length - wide - n by rw [List.length_drop, List.length_drop])
  have HB : Hid (n ≤ 140737488351232 ∧ l.length - wide - n ≤ 140737488351232) := Lib.hid (by omega)
  have HRn := Lib.hid (HR1.out.take0 (k := n) (by simp; omega))
  clear e2 r2 HR2 HR1 HN HW HW0 hA1 hA2 hbe hmf
  go_region_with (first | (go_at_call_of 42 A1; refine (clone_n (l := (l.drop wide).take n) (HRn.out.below (below_drew w)) HL1.out HB.out.1).mono ?_; rintro e w1 ⟨v1, rfl, h1, h2, h3⟩; have H1 := Lib.hid h1; have H2 := Lib.hid h2; clear h1 h2 h3) | (go_at_call_of 42 A2; refine (clone_n (l := (l.drop wide).drop n) (HR2'.out.below (below_of_drew H2.out)) HL2.out HB.out.2).mono ?_; rintro e w2 ⟨v2, rfl, h3, h4, h5⟩; have H3 := Lib.hid h3; have H4 := Lib.hid h4; clear h3 h4 h5))
  go_wp2
  go_ret3
  have hlt1 := H1.out.lt
  have hlt2 := H3.out.lt
  have B1 := below_of_drew H2.out
  refine ⟨_, _, rfl, H1.out.below H4.out, H3.out.base B1.size, fun k hk e => ?_, below_then B1 B1.size H4.out⟩
  have := (hlt1 k hk).2
  have := (hlt2 k e.symm).1
  omega

set_option maxHeartbeats 400000 in
theorem piece_few (A : Option Addr) (c : Nat) (l : List UInt8) (wide : Nat) (w : World) (hw : wide = 1 ∨ wide = 4) (hl : l.length < wide) :
    Calls Try.prog 33 #[.slice A l.length c, .int .i64 wide] w fun e w' => e = .returned (.tuple #[.slice none 0 0, .slice none 0 0, .int .i64 7]) ∧ w = w' := by
  have HW0 := Lib.hid (show mayB wide 0 = true by rcases hw with rfl | rfl <;> rfl)
  have h8 : wide ≤ 8 := by omega
  clear hw
  have hmf : ∀ (fn : Fn) (first cap : Array Value) (w : World), (Instr.makeFunc fn first cap).run Try.prog w = .ok (.func fn first cap) w := fun _ _ _ _ => rfl
  go_enter Try.func33, Try.ntmps33
  go_wp2_with (go_at_call 45; refine (may_calls _ _ _).mono ?_; rintro e w1 ⟨rfl, rfl⟩; rw [HW0.out])
  go_ret3
  exact ⟨rfl, rfl⟩

set_option maxHeartbeats 400000 in
theorem piece_bad (A : Option Addr) (c : Nat) (l : List UInt8) (wide : Nat) (w : World) (h : Rd w A c l) (hw : wide = 1 ∨ wide = 4) (hl : wide ≤ l.length) (hn : mayB wide (be (l.take wide)) = false) :
    Calls Try.prog 33 #[.slice A l.length c, .int .i64 wide] w fun e w' => e = .returned (.tuple #[.slice none 0 0, .slice none 0 0, .int .i64 7]) ∧ w = w' := by
  obtain ⟨n, hbe⟩ : ∃ n, Hid (be (l.take wide) = n) := ⟨_, Lib.hid rfl⟩
  rw [hbe.out] at hn
  have HW0 := Lib.hid (show mayB wide 0 = true by rcases hw with rfl | rfl <;> rfl)
  have HN := Lib.hid hn
  have h8 : wide ≤ 8 := by omega
  have hlc := h.len
  have HR := Lib.hid h
  have hs1 := slice_from A l.length c wide .i64 hl
  clear hw hn h
  have hmf : ∀ (fn : Fn) (first cap : Array Value) (w : World), (Instr.makeFunc fn first cap).run Try.prog w = .ok (.func fn first cap) w := fun _ _ _ _ => rfl
  go_enter Try.func33, Try.ntmps33
  go_wp2_with (first | (go_at_call 45; refine (may_calls _ _ _).mono ?_; rintro e w1 ⟨rfl, rfl⟩; first | rw [HW0.out] | rw [HN.out]) | (go_at_call 26; refine (tell_n (l := l.take wide) (HR.out.take0 hl) (by simp; omega) h8).mono ?_; rintro e w1 ⟨rfl, rfl⟩; rw [hbe.out]))
  go_ret3
  exact ⟨rfl, rfl⟩

set_option maxHeartbeats 400000 in
theorem piece_long (A : Option Addr) (c : Nat) (l : List UInt8) (wide : Nat) (w : World) (h : Rd w A c l) (hw : wide = 1 ∨ wide = 4) (hl : wide ≤ l.length) (hn : mayB wide (be (l.take wide)) = true) (hr : l.length - wide < be (l.take wide)) :
    Calls Try.prog 33 #[.slice A l.length c, .int .i64 wide] w fun e w' => e = .returned (.tuple #[.slice none 0 0, .slice none 0 0, .int .i64 7]) ∧ w = w' := by
  obtain ⟨n, hbe⟩ : ∃ n, Hid (be (l.take wide) = n) := ⟨_, Lib.hid rfl⟩
  rw [hbe.out] at hn hr
  have HW0 := Lib.hid (show mayB wide 0 = true by rcases hw with rfl | rfl <;> rfl)
  have HN := Lib.hid hn
  have h8 : wide ≤ 8 := by omega
  have hlc := h.len
  have HR := Lib.hid h
  have hs1 := slice_from A l.length c wide .i64 hl
  clear hw hn h
  have hmf : ∀ (fn : Fn) (first cap : Array Value) (w : World), (Instr.makeFunc fn first cap).run Try.prog w = .ok (.func fn first cap) w := fun _ _ _ _ => rfl
  go_enter Try.func33, Try.ntmps33
  go_wp2_with (first | (go_at_call 45; refine (may_calls _ _ _).mono ?_; rintro e w1 ⟨rfl, rfl⟩; first | rw [HW0.out] | rw [HN.out]) | (go_at_call 26; refine (tell_n (l := l.take wide) (HR.out.take0 hl) (by simp; omega) h8).mono ?_; rintro e w1 ⟨rfl, rfl⟩; rw [hbe.out]))
  go_ret3
  exact ⟨rfl, rfl⟩
end Go.Proofs.Ytkihafkiinhbkaa

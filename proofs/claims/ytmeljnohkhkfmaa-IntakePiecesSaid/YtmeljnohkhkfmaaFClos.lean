import Derived.Test.YtmeljnohkhkfmaaPre
import Derived.Laws.EntriesVeiled
set_option linter.unusedVariables false
set_option linter.unusedSimpArgs false
namespace Go.Proofs.Ytmeljnohkhkfmaa
open Go.RowKit

set_option maxHeartbeats 400000 in
theorem read1_calls (p : Addr) (A : Option Addr) (c n : Nat) (l : List UInt8) (x : UInt8) (w : World) (hp : w.cell? p = some (.slice A n c)) (h : Rd w A c l) (hn : l.length = n) (h4 : 4 < n) (hx : l[4]? = some x) :
    Calls Try.prog 33 #[.pointer (some p)] w fun e w' => e = .returned (.int .u64 (4 * (x.toNat : Int))) ∧ w = w' := by
  subst hn
  obtain ⟨b, o, rfl, hcs⟩ := h.plain (by omega)
  have hc := hcs 4 h4
  rw [List.getElem?_eq_getElem h4] at hx
  cases hx
  have hb := (l[4]).toNat_lt
  clear h hcs
  go_enter Try.func33, Try.ntmps33
  go_wp2
  go_ret
  exact ⟨rfl, rfl⟩

set_option maxHeartbeats 400000 in
theorem read4_calls (p : Addr) (A : Option Addr) (c n : Nat) (l : List UInt8) (x : UInt8) (w : World) (hp : w.cell? p = some (.slice A n c)) (h : Rd w A c l) (hn : l.length = n) (h4 : 5 < n) (hx : l[5]? = some x) :
    Calls Try.prog 36 #[.pointer (some p)] w fun e w' => e = .returned (.bool ((x.toNat : Int) == 0)) ∧ w = w' := by
  subst hn
  obtain ⟨b, o, rfl, hcs⟩ := h.plain (by omega)
  have hc := hcs 5 h4
  rw [List.getElem?_eq_getElem h4] at hx
  cases hx
  have hb := (l[5]).toNat_lt
  clear h hcs
  go_enter Try.func36, Try.ntmps36
  go_wp2
  go_ret
  exact ⟨rfl, rfl⟩

def okSize (s m : Nat) : Bool := decide (8 ≤ s ∧ s ≤ m)
set_option maxHeartbeats 400000 in
theorem read2_calls (p q : Addr) (s m : Nat) (w : World) (hp : w.cell? p = some (.int .u64 s)) (hq : w.cell? q = some (.int .u32 m)) (hm : m ≤ 4294967295) :
    Calls Try.prog 34 #[.pointer (some p), .pointer (some q)] w fun e w' => e = .returned (.bool (okSize s m)) ∧ w = w' := by
  unfold okSize
  by_cases h8 : 8 ≤ s
  · by_cases h9 : s ≤ m
    · rw [decide_eq_true ⟨h8, h9⟩]
      go_enter Try.func34, Try.ntmps34
      go_wp2
      go_ret
      exact ⟨rfl, rfl⟩
    · rw [decide_eq_false (by omega)]
      go_enter Try.func34, Try.ntmps34
      go_wp2
      go_ret
      exact ⟨by first | rfl | (simp; done) | (simp; omega), rfl⟩
  · rw [decide_eq_false (by omega)]
    go_enter Try.func34, Try.ntmps34
    go_wp2
    go_ret
    exact ⟨rfl, rfl⟩

set_option maxHeartbeats 1000000 in
theorem read3_calls (p q r : Addr) (A : Option Addr) (c n : Nat) (l : List UInt8) (x : UInt8) (s : Nat) (w : World) (hp : w.cell? p = some (.func (.func 33) #[] #[.pointer (some r)])) (hq : w.cell? q = some (.int .u64 s))
    (hr : w.cell? r = some (.slice A n c)) (h : Rd w A c l) (hn : l.length = n) (h4 : 4 < n) (hx : l[4]? = some x) :
    Calls Try.prog 35 #[.pointer (some p), .pointer (some q)] w fun e w' => ∃ m, e = .returned (.bool (okSize (4 * x.toNat) s)) ∧ w' = w.drewN m := by
  have HR := Lib.hid h
  have HX := Lib.hid hx
  have HN := Lib.hid hn
  clear h hx hn
  have hc1 : ∀ m, Calls Try.prog 33 #[.pointer (some r)] (w.drewN m) fun e w' => e = .returned (.int .u64 (4 * (x.toNat : Int))) ∧ w' = w.drewN m := fun m =>
    (read1_calls r A c n l x (w.drewN m) hr (HR.out.drewN m) HN.out h4 HX.out).mono fun _ _ ⟨h1, h2⟩ => ⟨h1, h2.symm⟩
  have HC := Lib.hid hc1
  clear hc1
  unfold okSize
  have hb := x.toNat_lt
  by_cases h8 : 8 ≤ 4 * x.toNat
  · have d1 : decide ((8 : Int) ≤ 4 * (x.toNat : Int)) = true := by simp; omega
    have d3 : decide (8 ≤ 4 * x.toNat) = true := by simp; omega
    by_cases h9 : 4 * x.toNat ≤ s
    · rw [decide_eq_true ⟨h8, h9⟩]
      have d2 : decide ((4 * (x.toNat : Int)) ≤ (s : Int)) = true := by simp; omega
      have d4 : decide (4 * x.toNat ≤ s) = true := by simp; omega
      go_enter Try.func35, Try.ntmps35
      go_wp2_with fail
      go_quiet ((go_at_call 33; exact Calls.quiet_of_same (HC.out _)))
      go_wp2
      go_ret
      exact ⟨_, rfl, rfl⟩
    · rw [decide_eq_false (by omega)]
      have d2 : decide ((4 * (x.toNat : Int)) ≤ (s : Int)) = false := by simp; omega
      have d4 : decide (4 * x.toNat ≤ s) = false := by simp; omega
      go_enter Try.func35, Try.ntmps35
      go_wp2_with fail
      go_quiet ((go_at_call 33; exact Calls.quiet_of_same (HC.out _)))
      go_wp2
      go_ret
      exact ⟨_, rfl, rfl⟩
  · rw [decide_eq_false (by omega)]
    have d1 : decide ((8 : Int) ≤ 4 * (x.toNat : Int)) = false := by simp; omega
    have d3 : decide (8 ≤ 4 * x.toNat) = false := by simp; omega
    go_enter Try.func35, Try.ntmps35
    go_wp2_with fail
    go_quiet ((go_at_call 33; exact Calls.quiet_of_same (HC.out _)))
    go_wp2
    go_ret
    exact ⟨_, rfl, rfl⟩
end Go.Proofs.Ytmeljnohkhkfmaa

import Derived.Test.YtmeljnohkhkfmaaRoomy
set_option linter.unusedVariables false
set_option linter.unusedSimpArgs false
namespace Go.Proofs.Ytmeljnohkhkfmaa
open Go.RowKit

set_option maxRecDepth 100000 in
set_option maxHeartbeats 800000 in
theorem kept_calls (g base : Nat) (B : Option Addr) (d : Nat) (l : List UInt8) (w : World) (h : MemB w base (.slice (some ⟨g, 0, none⟩) l.length (l.length + 11)) l (places l.length)) (hp : Rd w B d l) (hb : l.length ≤ 20000) :
    Calls Try.prog 16 #[.slice (some ⟨g, 0, none⟩) l.length (l.length + 11), .slice B l.length d] w fun e w' => e = .returned (.bool true) ∧ w = w' := by
  obtain ⟨A0, c0, e0, r0⟩ := h.rd
  cases e0
  have s1 : (convert 24 9 (.slice (some ⟨g, 0, none⟩) l.length (l.length + 11))).run Try.prog w = .ok (.string ⟨l.toArray⟩) w := conv_bytes r0
  have s2 : (convert 24 9 (.slice B l.length d)).run Try.prog w = .ok (.string ⟨l.toArray⟩) w := conv_bytes hp
  have hcell : ∀ m, l.length ≤ m → m < l.length + 11 → w.cell? ⟨g, m, none⟩ = some (.int .u8 (3 * (m : Int) % 256)) := by
    intro m hm1 hm2
    obtain ⟨j, rfl⟩ : ∃ j, m = l.length + j := ⟨m - l.length, by omega⟩
    have hj : j < 11 := by omega
    rcases h with ⟨e, _⟩ | ⟨g', e', e, h1, h2, h3⟩
    · cases e
    · cases e
      have := cell_of_heap h2 (l.length + j) (u8 (UInt8.ofNat (3 * (l.length + j)))) (by
        rw [u8s, List.getElem?_map, List.getElem?_append_right (by omega), places, List.getElem?_map, Nat.add_sub_cancel_left, List.getElem?_range hj]
        rfl)
      rw [this]
      simp [u8]
  obtain ⟨n, hn⟩ : ∃ n, l.length = n := ⟨_, rfl⟩
  rw [hn] at hb s1 s2 hcell ⊢
  have HC := Lib.hid hcell
  obtain ⟨S, hS⟩ : ∃ S : ByteArray, (⟨l.toArray⟩ : ByteArray) = S := ⟨_, rfl⟩
  rw [hS] at s1 s2
  clear h hp r0 hn hcell hS
  go_enter Try.func16, Try.ntmps16
  go_wp2_with fail
  go_loopw [5] (fun i wr => ∃ m : Nat, n ≤ m ∧ m ≤ n + 11 ∧ i = .int .i64 m ∧ w = wr) (fun i _ => n + 11 - (intOf i).toNat)
  case atStart => exact ⟨n, by omega, by omega, rfl, rfl⟩
  case round =>
    obtain ⟨m, hm1, hm2, rfl, rfl⟩ := hrel
    by_cases hk2 : m < n + 11
    · have hc := HC.out m hm1 hk2
      have hmi : (m : Int) < (n : Int) + 11 := by omega
      have e1 : decide ((n : Int) + 11 ≤ (m : Int)) = false := by simp; omega
      have e2 : ((3 * (m : Int) % 256) != (3 * (m : Int) % 256)) = false := by simp
      go_wp2_with fail
      exact ⟨⟨m + 1, by omega, by omega, by go_num, trivial⟩, by simp [intOf]; omega⟩
    · obtain rfl : m = n + 11 := by omega
      go_wp2_with fail
      go_ret
      exact ⟨rfl, rfl⟩
end Go.Proofs.Ytmeljnohkhkfmaa

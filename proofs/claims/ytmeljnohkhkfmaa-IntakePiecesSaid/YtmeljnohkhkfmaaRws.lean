import Derived.Test.YtmeljnohkhkfmaaIn7
set_option linter.unusedVariables false
set_option linter.unusedSimpArgs false
namespace Go.Proofs.Ytmeljnohkhkfmaa
open Go.RowKit

/-- A row of bytes as it lies in a slice of rows. -/
structure PieceAt where
  A : Option Addr
  c : Nat
  l : List UInt8
/-- A slice of rows of bytes as it came in; no row is beyond the reach. -/
structure Rws (w : World) (A : Option Addr) (c : Nat) (ps : List PieceAt) : Prop where
  le : ps.length ≤ c
  max : c ≤ 9223372036854775807
  at_ : ∀ (i : Nat) (hi : i < ps.length), ∃ b o, A = some ⟨b, o, none⟩ ∧ w.cell? ⟨b, o + i, none⟩ = some (.slice (ps[i]).A (ps[i]).l.length (ps[i]).c) ∧ Rd w (ps[i]).A (ps[i]).c (ps[i]).l
  far : ∀ p ∈ ps, p.l.length ≤ 140737488351232
theorem Rws.below {w w' : World} {A : Option Addr} {c : Nat} {ps : List PieceAt} (h : Rws w A c ps) (hb : Below w.heap.size w w') : Rws w' A c ps :=
  ⟨h.le, h.max, fun i hi => by
    obtain ⟨b, o, h1, h2, h3⟩ := h.at_ i hi
    exact ⟨b, o, h1, stays_ hb h2, h3.below hb⟩, h.far⟩
def lens (ps : List PieceAt) : Nat := (ps.map fun p => p.l.length).sum
theorem lens_take (ps : List PieceAt) (i : Nat) (hi : i < ps.length) : lens (ps.take (i + 1)) = lens (ps.take i) + (ps[i]).l.length := by
  rw [lens, lens, List.take_succ_eq_append_getElem hi, List.map_append, List.sum_append, List.map_cons, List.map_nil, List.sum_cons, List.sum_nil, Nat.add_zero]
theorem lens_far {B : Nat} (ps : List PieceAt) (h : ∀ p ∈ ps, p.l.length ≤ B) : ∀ i, lens (ps.take i) ≤ i * B := by
  intro i
  induction i with
  | zero => simp [lens]
  | succ i ih =>
    by_cases hi : i < ps.length
    · rw [lens_take ps i hi, Nat.succ_mul]
      exact Nat.add_le_add ih (h _ (List.getElem_mem hi))
    · rw [List.take_of_length_le (by omega)]
      rw [List.take_of_length_le (by omega)] at ih
      exact Nat.le_trans ih (Nat.mul_le_mul_right _ (Nat.le_succ i))
theorem lens_mem (ps : List PieceAt) : ∀ p ∈ ps, p.l.length ≤ lens ps := by
  intro p hp
  induction ps with
  | nil => cases hp
  | cons q ps ih =>
    have e : lens (q :: ps) = q.l.length + lens ps := by simp [lens]
    rcases List.mem_cons.1 hp with rfl | h
    · omega
    · have := ih h; omega
def largeL (ps : List PieceAt) : Bool := decide (8192 < lens ps) || decide (400 < ps.length)

set_option maxHeartbeats 1000000 in
theorem large_many (A : Option Addr) (n c : Nat) (ps : List PieceAt) (w : World) (h : Rws w A c ps) (hn : ps.length = n) (hm : 400 < n) :
    Calls Try.prog 9 #[.slice A n c] w fun e w' => e = .returned (.bool true) ∧ w = w' := by
  have H := Lib.hid h
  have HN := Lib.hid hn
  have hle := h.le
  have hmx := h.max
  rw [hn] at hle
  clear h hn
  go_enter Try.func9, Try.ntmps9
  go_wp2_with fail
  go_loopw [3, 4] (fun s i wr => ∃ (q : Nat) (z : Int), q ≤ n ∧ i = .int .i64 q ∧ s = .int .i64 z ∧ w = wr) (fun _ i _ => n - (intOf i).toNat)
  case atStart => exact ⟨0, 0, by omega, rfl, rfl, rfl⟩
  case round =>
    obtain ⟨q, z, hq, rfl, rfl, rfl⟩ := hrel
    by_cases hqn : q < n
    · have hqn' : (q : Int) < n := by omega
      obtain ⟨b, o, e, x0, -⟩ := H.out.at_ q (by rw [HN.out]; exact hqn)
      subst e
      go_wp2_with fail
      exact ⟨⟨q + 1, _, by omega, by go_num, rfl, trivial⟩, by simp [intOf]; omega⟩
    · obtain rfl : q = n := by omega
      have h400 : decide ((400 : Int) < q) = true := decide_eq_true (by omega)
      by_cases hz : (8192 : Int) < z
      · go_wp2_with fail
        go_ret
        exact ⟨rfl, rfl⟩
      · have hz' : decide ((8192 : Int) < z) = false := decide_eq_false hz
        go_wp2_with fail
        go_ret
        exact ⟨rfl, rfl⟩
set_option maxHeartbeats 1000000 in
theorem large_few (A : Option Addr) (n c : Nat) (ps : List PieceAt) (w : World) (h : Rws w A c ps) (hn : ps.length = n) (hm : n ≤ 400) :
    Calls Try.prog 9 #[.slice A n c] w fun e w' => e = .returned (.bool (decide (8192 < lens ps))) ∧ w = w' := by
  have H := Lib.hid h
  have HN := Lib.hid hn
  have hle := h.le
  have hmx := h.max
  have HF := Lib.hid (lens_far ps h.far)
  rw [hn] at hle
  obtain ⟨L, hL⟩ : ∃ L, lens ps = L := ⟨_, rfl⟩
  have HL := Lib.hid hL
  rw [hL]
  clear h hn hL
  go_enter Try.func9, Try.ntmps9
  go_wp2_with fail
  go_loopw [3, 4] (fun s i wr => ∃ (q z : Nat), q ≤ n ∧ i = .int .i64 q ∧ s = .int .i64 z ∧ Hid (z = lens (ps.take q)) ∧ w = wr) (fun _ i _ => n - (intOf i).toNat)
  case atStart => exact ⟨0, 0, by omega, rfl, rfl, Lib.hid rfl, rfl⟩
  case round =>
    obtain ⟨q, z, hq, rfl, rfl, HZ, rfl⟩ := hrel
    have hz1 : z ≤ 56294995340492800 := by
      rw [HZ.out]
      exact Nat.le_trans (HF.out q) (Nat.mul_le_mul_right _ (by omega : q ≤ 400))
    by_cases hqn : q < n
    · have hqn' : (q : Int) < n := by omega
      have hql : q < ps.length := by rw [HN.out]; exact hqn
      obtain ⟨b, o, e, x0, -⟩ := H.out.at_ q hql
      subst e
      have hbd := H.out.far _ (List.getElem_mem hql)
      have HT := Lib.hid (lens_take ps q hql)
      obtain ⟨m, hm'⟩ : ∃ m, (ps[q]).l.length = m := ⟨_, rfl⟩
      rw [hm'] at x0 hbd HT
      clear hm'
      go_wp2_with fail
      exact ⟨⟨q + 1, z + m, by omega, by go_num, by go_num, Lib.hid (by rw [HT.out, HZ.out]), trivial⟩, by simp [intOf]; omega⟩
    · obtain rfl : q = n := by omega
      have hzl : z = L := by rw [HZ.out, ← HN.out, List.take_length, HL.out]
      subst hzl
      have h400 : decide ((400 : Int) < q) = false := decide_eq_false (by omega)
      by_cases h8 : 8192 < z
      · have H8 := Lib.hid h8
        clear HZ
        go_wp2_with fail
        go_ret
        exact ⟨by first | rfl | (rw [decide_eq_true H8.out]; rfl), rfl⟩
      · have H8 := Lib.hid h8
        have h8' : decide ((8192 : Int) < z) = false := decide_eq_false (by omega)
        clear HZ
        go_wp2_with fail
        go_ret
        exact ⟨by first | rfl | (rw [decide_eq_false H8.out]; rfl), rfl⟩
theorem large_calls (A : Option Addr) (n c : Nat) (ps : List PieceAt) (w : World) (h : Rws w A c ps) (hn : ps.length = n) {b : Bool} (hb : largeL ps = b) :
    Calls Try.prog 9 #[.slice A n c] w fun e w' => e = .returned (.bool b) ∧ w = w' := by
  by_cases hm : 400 < n
  · have : b = true := by rw [← hb, largeL, hn, decide_eq_true hm, Bool.or_true]
    rw [this]
    exact large_many A n c ps w h hn hm
  · have : b = decide (8192 < lens ps) := by rw [← hb, largeL, hn, decide_eq_false hm, Bool.or_false]
    rw [this]
    exact large_few A n c ps w h hn (by omega)
theorem large_no {ps : List PieceAt} (h : largeL ps = false) : ps.length ≤ 400 ∧ lens ps ≤ 8192 ∧ ∀ p ∈ ps, p.l.length ≤ 8192 := by
  simp only [largeL, Bool.or_eq_false_iff, decide_eq_false_iff_not] at h
  exact ⟨by omega, by omega, fun p hp => Nat.le_trans (lens_mem ps p hp) (by omega)⟩
end Go.Proofs.Ytmeljnohkhkfmaa

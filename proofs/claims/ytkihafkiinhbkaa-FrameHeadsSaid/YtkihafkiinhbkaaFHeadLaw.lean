import Derived.Test.YtkihafkiinhbkaaFwLaw
set_option linter.unusedVariables false
set_option linter.unusedSimpArgs false
namespace Go.Proofs.Ytkihafkiinhbkaa
open Go.RowKit

/-- A head's bytes. -/
def hdb (s pl ty ch : Nat) : List UInt8 := bytesBE s 4 ++ [UInt8.ofNat pl, UInt8.ofNat ty] ++ bytesBE ch 2
theorem hdb_length (s pl ty ch : Nat) : (hdb s pl ty ch).length = 8 := by simp [hdb, bytesBE_length]
theorem fsz_hb (s pl ty ch : Nat) (m : List UInt8) (h : s ≤ 4294967295) : fsz (hdb s pl ty ch ++ m) = s := by
  rw [fsz, hdb, List.append_assoc, List.append_assoc, List.take_append_of_le_length (by simp [bytesBE_length]), List.take_of_length_le (by simp [bytesBE_length]), be_bytes]
  omega
theorem fpl_hb (s pl ty ch : Nat) (m : List UInt8) (h : pl ≤ 255) : fpl (hdb s pl ty ch ++ m) = 4 * pl := by
  simp [fpl, hdb, bytesBE]
  omega
theorem fty_hb (s pl ty ch : Nat) (m : List UInt8) (h : ty ≤ 255) : fty (hdb s pl ty ch ++ m) = ty := by
  simp [fty, hdb, bytesBE]
  omega
theorem fch_hb (s pl ty ch : Nat) (m : List UInt8) (h : ch ≤ 65535) : be (((hdb s pl ty ch ++ m).take 8).drop 6) = ch := by
  have : ((hdb s pl ty ch ++ m).take 8).drop 6 = bytesBE ch 2 := by simp [hdb, bytesBE]
  rw [this, be_bytes]
  omega

theorem take_fields (l : List UInt8) (k : Nat) (hk : k ≤ l.length) : (4 ≤ k → fsz (l.take k) = fsz l) ∧ (5 ≤ k → fpl (l.take k) = fpl l) ∧ (6 ≤ k → fty (l.take k) = fty l) ∧ (l.take k).length = k := by
  have hl : (l.take k).length = k := by rw [List.length_take]; omega
  have e := List.take_append_drop k l
  exact ⟨fun hh => by rw [← fsz_app (l.take k) (l.drop k) (by omega), e], fun hh => by rw [← fpl_app (l.take k) (l.drop k) (by omega), e], fun hh => by rw [← fty_app (l.take k) (l.drop k) (by omega), e], hl⟩

/-- Where a head is wrong: the place behind which it is told; 9: nowhere. -/
def wrongAt (s p ty most : Nat) : Nat := if ¬ (8 ≤ s ∧ s ≤ most) then 4 else if ¬ (8 ≤ p ∧ p ≤ s) then 5 else if ty ≠ 0 then 6 else 9
theorem fr_head (l : List UInt8) (most k : Nat) (hk : k ≤ l.length) (h8 : k ≤ 8) :
    (wrongAt (fsz l) (fpl l) (fty l) most ≤ k → fr (l.take k) most = ⟨6, 0, 0, []⟩) ∧ (k < wrongAt (fsz l) (fpl l) (fty l) most → k < 8 → fr (l.take k) most = ⟨7, 0, 0, []⟩) := by
  obtain ⟨e1, e2, e3, e4⟩ := take_fields l k hk
  unfold wrongAt
  by_cases c1 : ¬ (8 ≤ fsz l ∧ fsz l ≤ most)
  · rw [if_pos c1]
    exact ⟨fun h => fr_wrong (.inl ⟨by omega, by rw [e1 h]; exact c1⟩), fun h _ => fr_short (by omega) (by omega) (by omega) (by omega)⟩
  rw [if_neg c1]
  by_cases c2 : ¬ (8 ≤ fpl l ∧ fpl l ≤ fsz l)
  · rw [if_pos c2]
    exact ⟨fun h => fr_wrong (.inr (.inl ⟨by omega, by rw [e1 (by omega), e2 h]; exact c2⟩)), fun h _ => fr_short (fun hh => by rw [e1 (by omega)]; omega) (by omega) (by omega) (by omega)⟩
  rw [if_neg c2]
  by_cases c3 : fty l ≠ 0
  · rw [if_pos c3]
    exact ⟨fun h => fr_wrong (.inr (.inr ⟨by omega, by rw [e3 h]; exact c3⟩)), fun h _ => fr_short (fun hh => by rw [e1 (by omega)]; omega) (fun hh => by rw [e1 (by omega), e2 (by omega)]; omega) (by omega) (by omega)⟩
  rw [if_neg c3]
  exact ⟨fun h => by omega, fun h h' => fr_short (fun hh => by rw [e1 (by omega)]; omega) (fun hh => by rw [e1 (by omega), e2 (by omega)]; omega) (fun hh => by rw [e3 (by omega)]; omega) (fun hh => by rw [e1 (by omega)]; omega)⟩
/-- The whole of it. -/
theorem fr_head_all (l : List UInt8) (most : Nat) (h8 : 8 ≤ l.length) :
    (wrongAt (fsz l) (fpl l) (fty l) most < 9 → fr l most = ⟨6, 0, 0, []⟩) ∧ (wrongAt (fsz l) (fpl l) (fty l) most = 9 → l.length < fsz l → fr l most = ⟨7, 0, 0, []⟩) ∧
    (wrongAt (fsz l) (fpl l) (fty l) most = 9 → fsz l ≤ l.length → fr l most = fgood l) := by
  unfold wrongAt
  by_cases c1 : ¬ (8 ≤ fsz l ∧ fsz l ≤ most)
  · rw [if_pos c1]
    exact ⟨fun _ => fr_wrong (.inl ⟨by omega, c1⟩), fun h => by omega, fun h => by omega⟩
  rw [if_neg c1]
  by_cases c2 : ¬ (8 ≤ fpl l ∧ fpl l ≤ fsz l)
  · rw [if_pos c2]
    exact ⟨fun _ => fr_wrong (.inr (.inl ⟨by omega, c2⟩)), fun h => by omega, fun h => by omega⟩
  rw [if_neg c2]
  by_cases c3 : fty l ≠ 0
  · rw [if_pos c3]
    exact ⟨fun _ => fr_wrong (.inr (.inr ⟨by omega, c3⟩)), fun h => by omega, fun h => by omega⟩
  rw [if_neg c3]
  exact ⟨fun h => by omega, fun _ h => fr_short (fun _ => by omega) (fun _ => by omega) (fun _ => by omega) (fun _ => h), fun _ h => fr_ok (by omega) (by omega) (by omega) h⟩
end Go.Proofs.Ytkihafkiinhbkaa

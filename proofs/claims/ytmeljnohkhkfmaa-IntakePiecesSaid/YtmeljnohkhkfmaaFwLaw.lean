import Derived.Test.YtmeljnohkhkfmaaFLaw
set_option linter.unusedVariables false
set_option linter.unusedSimpArgs false
namespace Go.Proofs.Ytmeljnohkhkfmaa
open Go.RowKit

theorem fw_length (ch : Nat) (l : List UInt8) : (fw ch l).length = 8 + l.length := by rw [fw, List.length_append, fhead_length]
theorem fsz_fw (ch : Nat) (l : List UInt8) (hl : l.length ≤ 16384) : fsz (fw ch l) = 8 + l.length := by
  rw [fsz, fw, fhead, List.append_assoc, List.append_assoc, List.take_append_of_le_length (by simp [bytesBE_length]), List.take_of_length_le (by simp [bytesBE_length]), be_bytes]
  omega
theorem fpl_fw (ch : Nat) (l : List UInt8) : fpl (fw ch l) = 8 := by simp [fpl, fw, fhead, bytesBE]
theorem fty_fw (ch : Nat) (l : List UInt8) : fty (fw ch l) = 0 := by simp [fty, fw, fhead, bytesBE]
theorem fch_fw (ch : Nat) (l : List UInt8) (hc : ch ≤ 65535) : be (((fw ch l).take 8).drop 6) = ch := by
  have : ((fw ch l).take 8).drop 6 = bytesBE ch 2 := by simp [fw, fhead, bytesBE]
  rw [this, be_bytes]
  omega
theorem fbd_fw (ch : Nat) (l : List UInt8) : ((fw ch l).take (8 + l.length)).drop 8 = l := by
  rw [List.take_of_length_le (by rw [fw_length]; exact Nat.le_refl _), fw, ← fhead_length l.length ch, List.drop_left]
theorem fgood_fw (ch : Nat) (l : List UInt8) (hl : l.length ≤ 16384) (hc : ch ≤ 65535) : fgood (fw ch l) = ⟨0, 8 + l.length, ch, l⟩ := by
  rw [fgood, fsz_fw ch l hl, fpl_fw, fch_fw ch l hc, fbd_fw]

/-- What Write wrote Read reads, with anything behind it. -/
theorem fr_fw_ok (ch : Nat) (l m : List UInt8) (most : Nat) (hl : l.length ≤ 16384) (hc : ch ≤ 65535) (hm : 8 + l.length ≤ most) : fr (fw ch l ++ m) most = ⟨0, 8 + l.length, ch, l⟩ := by
  rw [fr_app_ok m (by rw [fsz_fw ch l hl]; omega) (by rw [fsz_fw ch l hl, fpl_fw]; omega) (fty_fw ch l) (by rw [fsz_fw ch l hl, fw_length]; omega), fgood_fw ch l hl hc]
theorem fr_fw_long (ch : Nat) (l m : List UInt8) (most : Nat) (hl : l.length ≤ 16384) (hm : most < 8 + l.length) : fr (fw ch l ++ m) most = ⟨6, 0, 0, []⟩ := by
  refine fr_app_six m (fr_wrong (.inl ⟨by rw [fw_length]; omega, by rw [fsz_fw ch l hl]; omega⟩))
theorem fr_fw_cut (ch : Nat) (l : List UInt8) (most k : Nat) (hl : l.length ≤ 16384) (hm : 8 + l.length ≤ most) (hk : k < 8 + l.length) : fr ((fw ch l).take k) most = ⟨7, 0, 0, []⟩ :=
  fr_cut k (by rw [fsz_fw ch l hl]; omega) (by rw [fsz_fw ch l hl, fpl_fw]; omega) (fty_fw ch l) (by rw [fsz_fw ch l hl, fw_length]; omega) (by rw [fsz_fw ch l hl]; exact hk)
end Go.Proofs.Ytmeljnohkhkfmaa

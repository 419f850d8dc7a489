import Derived.Test.YtkihafkiinhbkaaWorks01
import Derived.Test.YtkihafkiinhbkaaORef2
set_option linter.unusedVariables false
set_option linter.unusedSimpArgs false
namespace Go.Proofs.Ytkihafkiinhbkaa
open Go.RowKit

theorem whole_own (v : Value) (base : Nat) (A : Option Addr) (c n : Nat) (l : List UInt8) (w : World) (hg : Grd w base v l) (h : Rd w A c l) (hb : l.length ≤ 140737488351232) (hn : n = l.length) :
    Calls Try.prog 32 #[v, .slice A n c] w fun e w' => e = .returned (.bool true) ∧ w = w' := by
  subst hn; exact whole_calls v base A c l w hg h hb

set_option maxRecDepth 100000 in
set_option maxHeartbeats 1000000 in
theorem law10_big (A B : Option Addr) (c d : Nat) (l p : List UInt8) (wide : Int) (w : World) (hb : 65536 < l.length ∨ 65536 < p.length) :
    Calls Try.prog 10 #[.slice A l.length c, .slice B p.length d, .int .i64 wide] w fun e w' => e = .returned (.bool true) ∧ Below w.heap.size w w' := by
  by_cases h1 : 65536 < l.length
  · clear hb
    go_enter Try.func10, Try.ntmps10
    go_wp2_with (go_at_call 28; refine (works01_calls _).mono ?_; rintro e w1 ⟨rfl, h1⟩; have H1 := Lib.hid h1; clear h1)
    go_ret
    exact ⟨rfl, H1.out⟩
  · have h2 : 65536 < p.length := by omega
    clear hb
    go_enter Try.func10, Try.ntmps10
    go_wp2_with (go_at_call 28; refine (works01_calls _).mono ?_; rintro e w1 ⟨rfl, h1⟩; have H1 := Lib.hid h1; clear h1)
    go_ret
    exact ⟨rfl, H1.out⟩

set_option maxRecDepth 100000 in
set_option maxHeartbeats 1000000 in
theorem law10_yes (A B : Option Addr) (c d : Nat) (l p : List UInt8) (wide : Nat) (w : World) (hl : Rd w A c l) (hp : Rd w B d p) (h1 : l.length ≤ 65536) (h2 : p.length ≤ 65536) (hw : mayB wide p.length = true) :
    Calls Try.prog 10 #[.slice A l.length c, .slice B p.length d, .int .i64 wide] w fun e w' => e = .returned (.bool true) ∧ Below w.heap.size w w' := by
  have HL := Lib.hid hl
  have HP := Lib.hid hp
  have HW := Lib.hid hw
  have h8 : wide ≤ 8 := by rcases mayB_spec _ _ hw with h | h <;> omega
  obtain ⟨L, hL⟩ : ∃ L, Hid (l ++ bytesBE p.length wide ++ p = L) := ⟨_, Lib.hid rfl⟩
  clear hl hp hw
  go_enter Try.func10, Try.ntmps10
  go_wp2_with fail
  refine (guarded_calls A c l _ HL.out (by omega)).mono ?_
  rintro e w1 ⟨v1, rfl, g1, b1⟩
  have G1 := Lib.hid g1
  have B1 := Lib.hid b1
  obtain ⟨A1, c1, rfl, r1⟩ := g1.own.rd
  have R1 := Lib.hid r1
  clear g1 b1 r1
  go_wp2_with fail
  refine (guarded_calls B d p _ (HP.out.below B1.out) (by omega)).mono ?_
  rintro e w2 ⟨v2, rfl, g2, b2⟩
  have G2 := Lib.hid g2
  have B2 := Lib.hid b2
  obtain ⟨A2, c2, rfl, r2⟩ := g2.own.rd
  have R2 := Lib.hid r2
  clear g2 b2 r2
  go_wp2_with fail
  refine (layPiece_yes A1 A2 c1 c2 l p wide _ (R1.out.below B2.out) R2.out HW.out h8 (by omega)).mono ?_
  rintro e w3 ⟨v3, rfl, o3, b3⟩
  rw [hL.out] at o3
  obtain ⟨A3, c3, rfl, r3⟩ := o3.rd
  have R3 := Lib.hid r3
  have B3 := Lib.hid b3
  clear o3 b3 r3
  go_wp2_with fail
  have BB := Lib.hid (below_then (below_then B1.out B1.out.size B2.out) (below_then B1.out B1.out.size B2.out).size B3.out)
  refine (rlayPiece_yes A B c d l p wide _ (HL.out.below BB.out) (HP.out.below BB.out) HW.out (by omega)).mono ?_
  rintro e w4 ⟨v4, rfl, o4, b4⟩
  rw [hL.out] at o4
  obtain ⟨A4, c4, rfl, r4⟩ := o4.rd
  have B4 := Lib.hid b4
  have s3 := conv_bytes (R3.out.below B4.out)
  have s4 := conv_bytes r4
  have BW := Lib.hid (below_then BB.out BB.out.size B4.out)
  have W1 := Lib.hid (((G1.out.below B2.out).below B3.out).below B4.out)
  have W2 := Lib.hid ((G2.out.below B3.out).below B4.out)
  clear o4 b4 r4
  unfold str at s3 s4
  go_wp2_with fail
  refine (whole_own _ _ A c l.length l _ W1.out (HL.out.below BW.out) (by omega) rfl).mono ?_
  rintro e w5 ⟨rfl, rfl⟩
  go_wp2_with fail
  refine (whole_own _ _ B d p.length p _ W2.out (HP.out.below BW.out) (by omega) rfl).mono ?_
  rintro e w5 ⟨rfl, rfl⟩
  go_wp2_with fail
  refine (works01_calls _).mono ?_
  rintro e w6 ⟨rfl, b6⟩
  have B6 := Lib.hid b6
  clear b6
  go_wp2
  go_ret
  exact ⟨rfl, below_then BW.out BW.out.size B6.out⟩

set_option maxRecDepth 100000 in
set_option maxHeartbeats 1000000 in
theorem law10_no (A B : Option Addr) (c d : Nat) (l p : List UInt8) (wide : Int) (w : World) (hl : Rd w A c l) (hp : Rd w B d p) (h1 : l.length ≤ 65536) (h2 : p.length ≤ 65536) (hw : mayB wide p.length = false) :
    Calls Try.prog 10 #[.slice A l.length c, .slice B p.length d, .int .i64 wide] w fun e w' => e = .returned (.bool true) ∧ Below w.heap.size w w' := by
  have HL := Lib.hid hl
  have HP := Lib.hid hp
  have HW := Lib.hid hw
  clear hl hp hw
  have s3 : ∀ W, (convert 23 9 (.slice none 0 0)).run Try.prog W = .ok (.string ⟨#[]⟩) W := fun W => conv_bytes (rd_nil W)
  go_enter Try.func10, Try.ntmps10
  go_wp2_with fail
  refine (guarded_calls A c l _ HL.out (by omega)).mono ?_
  rintro e w1 ⟨v1, rfl, g1, b1⟩
  have G1 := Lib.hid g1
  have B1 := Lib.hid b1
  obtain ⟨A1, c1, rfl, r1⟩ := g1.own.rd
  clear g1 b1 r1
  go_wp2_with fail
  refine (guarded_calls B d p _ (HP.out.below B1.out) (by omega)).mono ?_
  rintro e w2 ⟨v2, rfl, g2, b2⟩
  have G2 := Lib.hid g2
  have B2 := Lib.hid b2
  obtain ⟨A2, c2, rfl, r2⟩ := g2.own.rd
  clear g2 b2 r2
  have BW := Lib.hid (below_then B1.out B1.out.size B2.out)
  have W1 := Lib.hid (G1.out.below B2.out)
  go_wp2_with fail
  refine (layPiece_no A1 A2 c1 c2 l p wide _ HW.out (by omega)).mono ?_
  rintro e w3 ⟨rfl, rfl⟩
  go_wp2_with fail
  refine (rlayPiece_no A B c d l p wide _ HW.out (by omega)).mono ?_
  rintro e w4 ⟨rfl, rfl⟩
  go_wp2_with fail
  refine (whole_own _ _ A c l.length l _ W1.out (HL.out.below BW.out) (by omega) rfl).mono ?_
  rintro e w5 ⟨rfl, rfl⟩
  go_wp2_with fail
  refine (whole_own _ _ B d p.length p _ G2.out (HP.out.below BW.out) (by omega) rfl).mono ?_
  rintro e w5 ⟨rfl, rfl⟩
  go_wp2_with fail
  refine (works01_calls _).mono ?_
  rintro e w6 ⟨rfl, b6⟩
  have B6 := Lib.hid b6
  clear b6
  go_wp2
  go_ret
  exact ⟨rfl, below_then BW.out BW.out.size B6.out⟩

theorem law10_calls (A B : Option Addr) (c d : Nat) (l p : List UInt8) (wide : Int) (w : World) (hl : Rd w A c l) (hp : Rd w B d p) :
    Calls Try.prog 10 #[.slice A l.length c, .slice B p.length d, .int .i64 wide] w fun e w' => e = .returned (.bool true) ∧ Below w.heap.size w w' := by
  by_cases hb : 65536 < l.length ∨ 65536 < p.length
  · exact law10_big A B c d l p wide w hb
  · cases hm : mayB wide p.length with
    | false => exact law10_no A B c d l p wide w hl hp (by omega) (by omega) hm
    | true =>
      have hw : wide = (wide.toNat : Int) := by
        unfold mayB at hm
        split at hm
        · omega
        · split at hm
          · omega
          · cases hm
      rw [hw] at hm ⊢
      exact law10_yes A B c d l p wide.toNat w hl hp (by omega) (by omega) hm
end Go.Proofs.Ytkihafkiinhbkaa

import Derived.Test.YtkihafkiinhbkaaFwLaw
import Derived.Test.YtkihafkiinhbkaaFOwn
set_option linter.unusedVariables false
set_option linter.unusedSimpArgs false
namespace Go.Proofs.Ytkihafkiinhbkaa
open Go.RowKit

set_option maxHeartbeats 800000 in
theorem fback_big (A B : Option Addr) (c d : Nat) (l p : List UInt8) (ch most cut : Nat) (w : World) (hb : 8192 < l.length ∨ 4096 < p.length) :
    Calls Try.prog 5 #[.agg #[.int .u16 ch, .slice A l.length c], .slice B p.length d, .int .u32 most, .int .u16 cut] w fun e w' => e = .returned (.bool true) ∧ Below w.heap.size w w' := by
  by_cases h1 : 8192 < l.length
  · clear hb
    go_enter Try.func5, Try.ntmps5
    go_wp2_with (go_at_call 14; refine (works11_calls _).mono ?_; rintro e w1 ⟨rfl, h1⟩; have H1 := Lib.hid h1; clear h1)
    go_ret
    exact ⟨rfl, below_then (below_alloc w _) (by simp) H1.out⟩
  · have h2 : 4096 < p.length := by omega
    clear hb
    go_enter Try.func5, Try.ntmps5
    go_wp2_with (go_at_call 14; refine (works11_calls _).mono ?_; rintro e w1 ⟨rfl, h1⟩; have H1 := Lib.hid h1; clear h1)
    go_ret
    exact ⟨rfl, below_then (below_alloc w _) (by simp) H1.out⟩

set_option maxRecDepth 100000 in
set_option maxHeartbeats 1000000 in
theorem fback_yes (A B : Option Addr) (c d : Nat) (l p : List UInt8) (ch most cut : Nat) (w : World) (hl : Rd w A c l) (hp : Rd w B d p) (hc : ch ≤ 65535) (hm : most ≤ 4294967295) (hb1 : l.length ≤ 8192) (hb2 : p.length ≤ 4096)
    (hcut : cut ≤ 65535) (h1 : 8 + l.length ≤ most) :
    Calls Try.prog 5 #[.agg #[.int .u16 ch, .slice A l.length c], .slice B p.length d, .int .u32 most, .int .u16 cut] w fun e w' => e = .returned (.bool true) ∧ Below w.heap.size w w' := by
  have HL := Lib.hid hl
  have HP := Lib.hid hp
  obtain ⟨L, hL⟩ : ∃ L, fw ch l = L := ⟨_, rfl⟩
  obtain ⟨n, hn⟩ : ∃ n, 8 + l.length = n := ⟨_, rfl⟩
  have F2 := Lib.hid (fr_fw_ok ch l p most (by omega) hc h1)
  have F3 := Lib.hid (fr_fw_cut ch l most (cut % n) (by omega) h1 (by rw [hn]; exact Nat.mod_lt _ (by omega)))
  have HN := Lib.hid (fw_length ch l)
  rw [hL, hn] at F2 HN
  rw [hL] at F3
  have HLL := Lib.hid hL
  have hlc := hl.len
  have hn1 : (8 : Int) + (l.length : Int) = n := by omega
  have hn2 : 8 ≤ n ∧ n ≤ 8200 ∧ n ≤ most := by omega
  clear hl hp hL hn h1
  go_enter Try.func5, Try.ntmps5
  go_wp2_with fail
  refine (write_calls A c l ch _ (HL.out.below (below_alloc w _)) (by omega) hc).mono ?_
  rintro e w1 ⟨v1, sp, rfl, o1, b1⟩
  rw [HLL.out] at o1
  obtain ⟨A1, c1, rfl, r1⟩ := o1.rd
  have hl1 := r1.len
  rw [HN.out] at hl1 ⊢
  have R1 := Lib.hid r1
  have B1 := Lib.hid (below_then (below_alloc w _) (by simp) b1)
  have k0 : w1.cell? ⟨w.heap.size, 0, none⟩ = some (.int .u16 ch) := below_keeps b1 (by go_simp) (by simp)
  have k1 : w1.cell? ⟨w.heap.size, 1, none⟩ = some (.slice A l.length c) := below_keeps b1 (by go_simp) (by simp)
  have K0 := Lib.hid (World.block_lt_of_cell? _ _ k0)
  have hcm : (0 : Int) ≤ (cut : Int) % (n : Int) ∧ (cut : Int) % (n : Int) ≤ (c1 : Int) := by
    have h9 := Int.emod_nonneg (cut : Int) (show (n : Int) ≠ 0 by omega)
    have h8 := Int.emod_lt_of_pos (cut : Int) (show (0 : Int) < n by omega)
    omega
  have HMD := Lib.hid (Nat.mod_lt cut (show 0 < n by omega))
  clear o1 r1 b1
  go_wp2_with (at_builtin; refine wpList_appB _ rfl _ _ rfl w1.heap.size (.slice none 0 0) [] rfl OwnB.nil_ A1 _ _ L rfl HN.out.symm R1.out ?hb ?hbase ?_)
  case hb => simp [HN.out]; omega
  case hbase => simp
  intro v2 w2 a1 a2 a3 a4
  obtain ⟨A2, c2, rfl, r2⟩ := a1.rd
  rw [HN.out] at a1 ⊢
  have H2 := Lib.hid a1
  have B2 := Lib.hid (below_of_grown a2)
  obtain ⟨L2, hL2⟩ : ∃ L2, L ++ p = L2 := ⟨_, rfl⟩
  have HLEN := Lib.hid (show L2.length = n + p.length by rw [← hL2, List.length_append, HN.out])
  rw [hL2] at F2
  have HLL2 := Lib.hid hL2
  clear a1 a2 a3 a4 r2 hL2
  go_wp2_with (at_builtin; refine wpList_appB _ rfl _ _ rfl w1.heap.size (.slice A2 n c2) L rfl H2.out B _ _ p rfl rfl (HP.out.below ?rd) ?hb ?hbase ?_)
  case rd => exact below_then B1.out B1.out.size B2.out
  case hb => rw [HN.out]; omega
  case hbase => exact B2.out.size
  intro v3 w3 a1 a2 a3 a4
  rw [HLL2.out] at a1
  obtain ⟨A3, c3, rfl, r3⟩ := a1.rd
  have R3 := Lib.hid r3
  have B3 := below_grown B2.out B2.out.size a2 (fun k hk => (H2.out.lt k hk).1)
  have R13 := Lib.hid (R1.out.below B3)
  have BW3 := Lib.hid (below_then B1.out B1.out.size B3)
  replace k0 := below_keeps B3 k0 K0.out
  replace k1 := below_keeps B3 k1 K0.out
  have K3 := Lib.hid (World.block_lt_of_cell? _ _ k0)
  clear a1 a2 a3 a4 r3 B2 B3 H2 R1 B1
  go_wp2_with fail
  refine (read_calls A3 c3 L2 most _ R3.out hm).mono ?_
  rintro e w4 ⟨v4, rfl, o4, b4⟩
  rw [F2.out] at o4 ⊢
  simp only [frRet] at o4 ⊢
  obtain ⟨A4, c4, rfl, r4⟩ := o4.rd
  replace k0 := below_keeps b4 k0 K3.out
  replace k1 := below_keeps b4 k1 K3.out
  have n0 := keeps_alloc k0
  have n1 := keeps_alloc k1
  have R4 := Lib.hid r4
  have R14 := Lib.hid (R13.out.below b4)
  have BW4 := Lib.hid (below_then BW3.out BW3.out.size b4)
  clear o4 r4 b4 BW3 R13
  go_wp2_with fail
  refine (read_n (R14.out.take0 (k := cut % n) (by rw [HN.out]; exact Nat.le_of_lt HMD.out) |>.below (below_alloc w4 _)) hm (by rw [List.length_take, HN.out]; exact (Nat.min_eq_left (Nat.le_of_lt HMD.out)).symm)).mono ?_
  rintro e w5 ⟨v5, rfl, o5, b5⟩
  rw [F3.out] at o5 ⊢
  simp only [frRet] at o5 ⊢
  obtain ⟨A5, c5, rfl, r5⟩ := o5.rd
  have K4 := World.block_lt_of_cell? _ _ (n0 (.cells #[.int .u16 ch, .slice A4 l.length c4] 25))
  replace k0 := below_keeps b5 (n0 _) K4
  replace k1 := below_keeps b5 (n1 _) K4
  have k2 : w5.cell? ⟨w4.heap.size, 0, none⟩ = some (.int .u16 ch) := below_keeps b5 (by go_simp) (by simp)
  have k3 : w5.cell? ⟨w4.heap.size, 1, none⟩ = some (.slice A4 l.length c4) := below_keeps b5 (by go_simp) (by simp)
  have R5 := Lib.hid ((R4.out.below (below_alloc w4 _)).below b5)
  have BW5 := Lib.hid (below_then (BW4.out.alloc BW4.out.size _) (by have := BW4.out.size; simp; omega) b5)
  clear o5 r5 b5 R4 R14 BW4 n0 n1 K4
  have n0 := keeps_alloc k0
  have n1 := keeps_alloc k1
  have n2 := keeps_alloc k2
  have n3 := keeps_alloc k3
  go_wp2_with fail
  refine (same_calls A A4 c c4 l l ch ch _ (HL.out.below (BW5.out.alloc BW5.out.size _)) (R5.out.below (below_alloc w5 _))).mono ?_
  rintro e w6 ⟨rfl, b6⟩
  rw [decide_eq_true rfl, decide_eq_true rfl, Bool.true_and]
  have BW6 := Lib.hid (below_then (BW5.out.alloc BW5.out.size _) (by have := BW5.out.size; simp; omega) b6)
  clear k0 k1 k2 k3 n0 n1 n2 n3 b6
  go_wp2_with fail
  refine (works11_calls _).mono ?_
  rintro e w7 ⟨rfl, b7⟩
  have BW7 := Lib.hid (below_then BW6.out BW6.out.size b7)
  clear b7
  go_wp2
  go_ret
  exact ⟨rfl, BW7.out⟩

set_option maxRecDepth 100000 in
set_option maxHeartbeats 1000000 in
theorem fback_no (A B : Option Addr) (c d : Nat) (l p : List UInt8) (ch most cut : Nat) (w : World) (hl : Rd w A c l) (hp : Rd w B d p) (hc : ch ≤ 65535) (hm : most ≤ 4294967295) (hb1 : l.length ≤ 8192) (hb2 : p.length ≤ 4096)
    (h1 : most < 8 + l.length) :
    Calls Try.prog 5 #[.agg #[.int .u16 ch, .slice A l.length c], .slice B p.length d, .int .u32 most, .int .u16 cut] w fun e w' => e = .returned (.bool true) ∧ Below w.heap.size w w' := by
  have HL := Lib.hid hl
  have HP := Lib.hid hp
  obtain ⟨L, hL⟩ : ∃ L, fw ch l = L := ⟨_, rfl⟩
  obtain ⟨n, hn⟩ : ∃ n, 8 + l.length = n := ⟨_, rfl⟩
  have F2 := Lib.hid (fr_fw_long ch l p most (by omega) h1)
  have HN := Lib.hid (fw_length ch l)
  rw [hL] at F2
  rw [hL, hn] at HN
  have HLL := Lib.hid hL
  have hlc := hl.len
  have hn1 : (8 : Int) + (l.length : Int) = n := by omega
  have hn2 : 8 ≤ n ∧ n ≤ 8200 ∧ most < n := by omega
  clear hl hp hL hn h1
  go_enter Try.func5, Try.ntmps5
  go_wp2_with fail
  refine (write_calls A c l ch _ (HL.out.below (below_alloc w _)) (by omega) hc).mono ?_
  rintro e w1 ⟨v1, sp, rfl, o1, b1⟩
  rw [HLL.out] at o1
  obtain ⟨A1, c1, rfl, r1⟩ := o1.rd
  have hl1 := r1.len
  rw [HN.out] at hl1 ⊢
  have R1 := Lib.hid r1
  have B1 := Lib.hid (below_then (below_alloc w _) (by simp) b1)
  have k1 : w1.cell? ⟨w.heap.size, 1, none⟩ = some (.slice A l.length c) := below_keeps b1 (by go_simp) (by simp)
  clear o1 r1 b1
  go_wp2_with (at_builtin; refine wpList_appB _ rfl _ _ rfl w1.heap.size (.slice none 0 0) [] rfl OwnB.nil_ A1 _ _ L rfl HN.out.symm R1.out ?hb ?hbase ?_)
  case hb => simp [HN.out]; omega
  case hbase => simp
  intro v2 w2 a1 a2 a3 a4
  obtain ⟨A2, c2, rfl, r2⟩ := a1.rd
  rw [HN.out] at a1 ⊢
  have H2 := Lib.hid a1
  have B2 := Lib.hid (below_of_grown a2)
  obtain ⟨L2, hL2⟩ : ∃ L2, L ++ p = L2 := ⟨_, rfl⟩
  rw [hL2] at F2
  have HLL2 := Lib.hid hL2
  clear a1 a2 a3 a4 r2 hL2
  go_wp2_with (at_builtin; refine wpList_appB _ rfl _ _ rfl w1.heap.size (.slice A2 n c2) L rfl H2.out B _ _ p rfl rfl (HP.out.below ?rd) ?hb ?hbase ?_)
  case rd => exact below_then B1.out B1.out.size B2.out
  case hb => rw [HN.out]; omega
  case hbase => exact B2.out.size
  intro v3 w3 a1 a2 a3 a4
  rw [HLL2.out] at a1
  obtain ⟨A3, c3, rfl, r3⟩ := a1.rd
  have R3 := Lib.hid r3
  have BW3 := Lib.hid (below_then B1.out B1.out.size (below_grown B2.out B2.out.size a2 (fun k hk => (H2.out.lt k hk).1)))
  clear a1 a2 a3 a4 r3 B2 H2 R1 B1
  go_wp2_with fail
  refine (read_calls A3 c3 L2 most _ R3.out hm).mono ?_
  rintro e w4 ⟨v4, rfl, o4, b4⟩
  rw [F2.out] at o4 ⊢
  simp only [frRet] at o4 ⊢
  obtain ⟨A4, c4, rfl, r4⟩ := o4.rd
  have R4 := Lib.hid r4
  have BW4 := Lib.hid (below_then BW3.out BW3.out.size b4)
  clear o4 r4 b4 BW3
  go_wp2_with fail
  refine (same_calls A4 none c4 0 [] [] 0 0 _ (R4.out.below (below_alloc w4 _)) (Rd.zero (by decide) (fun _ => rfl))).mono ?_
  rintro e w6 ⟨rfl, b6⟩
  rw [decide_eq_true rfl, decide_eq_true rfl, Bool.true_and]
  have BW6 := Lib.hid (below_then (BW4.out.alloc BW4.out.size _) (by have := BW4.out.size; simp; omega) b6)
  clear b6
  go_wp2_with fail
  refine (works11_calls _).mono ?_
  rintro e w7 ⟨rfl, b7⟩
  have BW7 := Lib.hid (below_then BW6.out BW6.out.size b7)
  clear b7
  go_wp2
  go_ret
  exact ⟨rfl, BW7.out⟩

theorem fback_calls (ch : Nat) (A B : Option Addr) (c d : Nat) (l p : List UInt8) (m k : Int) (w : World) (hf : ch ≤ 65535 ∧ Rd w A c l) (hp : Rd w B d p) (hm : (Lit.int .u32 m).wf = true) (hk : (Lit.int .u16 k).wf = true) :
    Calls Try.prog 5 #[.agg #[.int .u16 ch, .slice A l.length c], .slice B p.length d, .int .u32 m, .int .u16 k] w fun e w' => e = .returned (.bool true) ∧ Below w.heap.size w w' := by
  obtain ⟨h0, h1⟩ := wf_u32 hm
  obtain ⟨most, rfl⟩ := Int.eq_ofNat_of_zero_le h0
  obtain ⟨h2, h3⟩ := wf_u16 hk
  obtain ⟨cut, rfl⟩ := Int.eq_ofNat_of_zero_le h2
  by_cases hb : 8192 < l.length ∨ 4096 < p.length
  · exact fback_big A B c d l p ch most cut w hb
  by_cases hl : 8 + l.length ≤ most
  · exact fback_yes A B c d l p ch most cut w hf.2 hp hf.1 (by omega) (by omega) (by omega) (by omega) hl
  · exact fback_no A B c d l p ch most cut w hf.2 hp hf.1 (by omega) (by omega) (by omega) (by omega)
end Go.Proofs.Ytkihafkiinhbkaa

import Derived.Test.YtkihafkiinhbkaaLaw9
set_option linter.unusedVariables false
set_option linter.unusedSimpArgs false
namespace Go.Proofs.Ytkihafkiinhbkaa
open Go.RowKit

theorem less_be : ∀ (l m : List UInt8), l.length = m.length → Op.bytesLess l m = decide (be l < be m)
  | [], [], _ => by simp [Op.bytesLess, be]
  | a :: l, b :: m, h => by
    have hl : l.length = m.length := by simpa using h
    have ih := less_be l m hl
    have h1 := be_lt_pow l
    have h2 := be_lt_pow m
    rw [be_cons, be_cons, hl, Op.bytesLess]
    rw [hl] at h1
    by_cases hab : a < b
    · rw [decide_eq_true hab, Bool.true_or]
      have := UInt8.lt_iff_toNat_lt.1 hab
      have h3 : (a.toNat + 1) * 256 ^ m.length ≤ b.toNat * 256 ^ m.length := Nat.mul_le_mul_right _ this
      rw [Nat.add_mul] at h3
      exact (decide_eq_true (by omega)).symm
    · rw [decide_eq_false hab, Bool.false_or]
      by_cases hba : b < a
      · have hne : (a == b) = false := by
          rw [beq_eq_false_iff_ne]
          rintro rfl
          exact hab hba
        rw [hne, Bool.false_and]
        have hlt2 := UInt8.lt_iff_toNat_lt.1 hba
        have h3 : (b.toNat + 1) * 256 ^ m.length ≤ a.toNat * 256 ^ m.length := Nat.mul_le_mul_right _ hlt2
        rw [Nat.add_mul] at h3
        have hn : ¬ (a.toNat * 256 ^ m.length + be l < b.toNat * 256 ^ m.length + be m) := by omega
        exact (decide_eq_false hn).symm
      · have e : a = b := by
          apply UInt8.toNat_inj.1
          have k1 : ¬ a.toNat < b.toNat := fun h => hab (UInt8.lt_iff_toNat_lt.2 h)
          have k2 : ¬ b.toNat < a.toNat := fun h => hba (UInt8.lt_iff_toNat_lt.2 h)
          omega
        subst e
        rw [ih]
        simp
theorem div_ne (x n : Nat) (h : 2 ^ (8 * n) ≤ x) : ((x : Int) / 2 ^ (8 * n) != 0) = true := by
  have e : ((x : Int) / 2 ^ (8 * n)) = ((x / 2 ^ (8 * n) : Nat) : Int) := by simp
  have := Nat.div_pos h (Nat.pow_pos (by omega))
  rw [e, bne_iff_ne]
  omega
theorem div_eq (x n : Nat) (h : ¬ 2 ^ (8 * n) ≤ x) : ((x : Int) / 2 ^ (8 * n) != 0) = false := by
  have e : ((x : Int) / 2 ^ (8 * n)) = ((x / 2 ^ (8 * n) : Nat) : Int) := by simp
  rw [e, Nat.div_eq_of_lt (by omega)]
  rfl

set_option maxRecDepth 100000 in
set_option maxHeartbeats 4000000 in
theorem law13_calls (x0 y0 wide : Nat) (w : World) (hx : x0 ≤ 18446744073709551615) (hy : y0 ≤ 18446744073709551615) (hw : wide ≤ 255) :
    Calls Try.prog 13 #[.int .u64 x0, .int .u64 y0, .int .u8 wide] w fun e w' => e = .returned (.bool true) ∧ Below w.heap.size w w' := by
  obtain ⟨n, hn⟩ : ∃ n, Hid (wide % 9 = n) := ⟨_, Lib.hid rfl⟩
  have hn8 : n ≤ 8 := by rw [← hn.out]; omega
  have hni : (wide : Int) % 9 = n := by rw [← hn.out]; omega
  go_enter Try.func13, Try.ntmps13
  go_wp2_with fail
  rw [hni]
  clear hni hn
  go_loop [0, 1] (fun x y => ∃ a b : Nat, a ≤ 18446744073709551615 ∧ b ≤ 18446744073709551615 ∧ x = .int .u64 a ∧ y = .int .u64 b) (fun x y => (intOf x).toNat + (intOf y).toNat)
  case atStart => exact ⟨x0, y0, hx, hy, rfl, rfl⟩
  case round =>
    obtain ⟨x, y, hx1, hy1, rfl, rfl⟩ := hrel
    rcases (show n = 0 ∨ n = 8 ∨ (1 ≤ n ∧ n ≤ 7) by omega) with hn0 | hn0 | ⟨hn1, hn7⟩
    · have d1 : decide ((n : Int) < 8) = true := by simp; omega
      have d2 : decide (0 < (n : Int)) = false := by simp; omega
      have d2' : decide (0 < n) = false := by simp; omega
      have d3 : ((n : Int) == 0) = true := by simp; omega
      have H0 := Lib.hid hn0
      clear hn0
      go_wp2_with fail
      refine (lay_yes none 0 [] x n _ (rd_nil _) (by decide) (by omega)).mono ?_
      rintro e w1 ⟨v1, rfl, o1, b1⟩
      rw [H0.out] at o1
      obtain ⟨A1, c1, rfl, r1⟩ := o1.rd
      have R1 := Lib.hid r1
      have B1 := Lib.hid b1
      clear o1 r1 b1
      go_wp2_with fail
      refine (lay_yes none 0 [] y n _ (rd_nil _) (by decide) (by omega)).mono ?_
      rintro e w2 ⟨v2, rfl, o2, b2⟩
      rw [H0.out] at o2
      obtain ⟨A2, c2, rfl, r2⟩ := o2.rd
      have B2 := Lib.hid (below_then B1.out B1.out.size b2)
      have R1' := Lib.hid (R1.out.below b2)
      clear o2 r2 b2
      go_wp2_with fail
      refine (tell_n (l := []) R1'.out rfl (by decide)).mono ?_
      rintro e w3 ⟨rfl, rfl⟩
      rw [be_nil]
      go_wp2_with fail
      refine (works01_calls _).mono ?_
      rintro e w6 ⟨rfl, b6⟩
      have B6 := Lib.hid b6
      clear b6
      go_wp2
      go_ret
      exact ⟨rfl, below_then B2.out B2.out.size B6.out⟩
    · have d1 : decide ((n : Int) < 8) = false := by simp; omega
      have d3 : ((n : Int) == 0) = false := by simp; omega
      have hx2 : x < 2 ^ (8 * n) := by rw [hn0]; omega
      have hy2 : y < 2 ^ (8 * n) := by rw [hn0]; omega
      have H0 := Lib.hid hn0
      clear hn0
      go_wp2_with fail
      refine (lay_yes none 0 [] x n _ (rd_nil _) (by decide) (by omega)).mono ?_
      rintro e w1 ⟨v1, rfl, o1, b1⟩
      obtain ⟨A1, c1, rfl, r1⟩ := o1.rd
      obtain ⟨X, hX⟩ : ∃ X, Hid ([] ++ bytesBE x n = X) := ⟨_, Lib.hid rfl⟩
      have hXl : X.length = n := by rw [← hX.out]; simp [bytesBE_length]
      have hXb : be X = x := by rw [← hX.out, List.nil_append, be_bytes, Nat.mod_eq_of_lt hx2]
      rw [hX.out] at r1
      rw [hX.out, hXl]
      have R1 := Lib.hid r1
      have HXl := Lib.hid hXl
      have HXb := Lib.hid hXb
      have B1 := Lib.hid b1
      clear o1 r1 b1 hXl hXb
      go_wp2_with fail
      refine (lay_yes none 0 [] y n _ (rd_nil _) (by decide) (by omega)).mono ?_
      rintro e w2 ⟨v2, rfl, o2, b2⟩
      obtain ⟨A2, c2, rfl, r2⟩ := o2.rd
      obtain ⟨Y, hY⟩ : ∃ Y, Hid ([] ++ bytesBE y n = Y) := ⟨_, Lib.hid rfl⟩
      have hYl : Y.length = n := by rw [← hY.out]; simp [bytesBE_length]
      have hYb : be Y = y := by rw [← hY.out, List.nil_append, be_bytes, Nat.mod_eq_of_lt hy2]
      rw [hY.out] at r2
      rw [hY.out, hYl]
      have R2 := Lib.hid r2
      have HYl := Lib.hid hYl
      have HYb := Lib.hid hYb
      have B2 := Lib.hid (below_then B1.out B1.out.size b2)
      have R1' := Lib.hid (R1.out.below b2)
      clear o2 r2 b2 hYl hYb
      go_wp2_with fail
      refine (tell_n R1'.out HXl.out (by omega)).mono ?_
      rintro e w3 ⟨rfl, rfl⟩
      rw [HXb.out]
      go_wp2_with fail
      refine (tell_n R2.out HYl.out (by omega)).mono ?_
      rintro e w3 ⟨rfl, rfl⟩
      rw [HYb.out]
      have s1 : (convert 23 9 (.slice A1 n c1)).run Try.prog w2 = .ok (.string ⟨X.toArray⟩) w2 := by have := conv_bytes R1'.out; rw [HXl.out] at this; exact this
      have s2 : (convert 23 9 (.slice A2 n c2)).run Try.prog w2 = .ok (.string ⟨Y.toArray⟩) w2 := by have := conv_bytes R2.out; rw [HYl.out] at this; exact this
      have HO : Hid (Op.bytesLess X Y = decide (x < y)) := Lib.hid (by rw [less_be X Y (HXl.out.trans HYl.out.symm), HXb.out, HYb.out])
      by_cases hxy : x < y
      · have f1 : decide ((x : Int) < (y : Int)) = true := by simpa using hxy
        have f1n : decide (x < y) = true := by simpa using hxy
        have f2 : Op.bytesLess X Y = true := by rw [HO.out]; simpa using hxy
        clear hxy
        go_wp2_with fail
        refine (works01_calls _).mono ?_
        rintro e w6 ⟨rfl, b6⟩
        have B6 := Lib.hid b6
        clear b6
        go_wp2
        go_ret
        exact ⟨rfl, below_then B2.out B2.out.size B6.out⟩
      · have f1 : decide ((x : Int) < (y : Int)) = false := by simpa using hxy
        have f1n : decide (x < y) = false := by simpa using hxy
        have f2 : Op.bytesLess X Y = false := by rw [HO.out]; simpa using hxy
        clear hxy
        go_wp2_with fail
        refine (works01_calls _).mono ?_
        rintro e w6 ⟨rfl, b6⟩
        have B6 := Lib.hid b6
        clear b6
        go_wp2
        go_ret
        exact ⟨rfl, below_then B2.out B2.out.size B6.out⟩
    · by_cases hx2 : 2 ^ (8 * n) ≤ x
      · have f1 := div_ne x n hx2
        have hpos : 256 ≤ x := by have := Nat.pow_le_pow_right (show 0 < 2 by omega) (show 8 ≤ 8 * n by omega); omega
        clear hx2
        go_wp2_with fail
        go_round
        case rel => exact ⟨x / 256, y / 256, by omega, by omega, by go_num, by go_num⟩
        case measure => simp [intOf]; omega
      · by_cases hy2 : 2 ^ (8 * n) ≤ y
        · have f1 := div_eq x n hx2
          have f2 := div_ne y n hy2
          have hpos : 256 ≤ y := by have := Nat.pow_le_pow_right (show 0 < 2 by omega) (show 8 ≤ 8 * n by omega); omega
          clear hx2 hy2
          go_wp2_with fail
          go_round
          case rel => exact ⟨x / 256, y / 256, by omega, by omega, by go_num, by go_num⟩
          case measure => simp [intOf]; omega
        · have f1 := div_eq x n hx2
          have f2 := div_eq y n hy2
          have hx2 := Nat.lt_of_not_le hx2
          have hy2 := Nat.lt_of_not_le hy2
          have n0 : ((n : Int) == 0) = false := by simp; omega
          go_wp2_with fail
          refine (lay_yes none 0 [] x n _ (rd_nil _) (by decide) (by omega)).mono ?_
          rintro e w1 ⟨v1, rfl, o1, b1⟩
          obtain ⟨A1, c1, rfl, r1⟩ := o1.rd
          obtain ⟨X, hX⟩ : ∃ X, Hid ([] ++ bytesBE x n = X) := ⟨_, Lib.hid rfl⟩
          have hXl : X.length = n := by rw [← hX.out]; simp [bytesBE_length]
          have hXb : be X = x := by rw [← hX.out, List.nil_append, be_bytes, Nat.mod_eq_of_lt hx2]
          rw [hX.out] at r1
          rw [hX.out, hXl]
          have R1 := Lib.hid r1
          have HXl := Lib.hid hXl
          have HXb := Lib.hid hXb
          have B1 := Lib.hid b1
          clear o1 r1 b1 hXl hXb
          go_wp2_with fail
          refine (lay_yes none 0 [] y n _ (rd_nil _) (by decide) (by omega)).mono ?_
          rintro e w2 ⟨v2, rfl, o2, b2⟩
          obtain ⟨A2, c2, rfl, r2⟩ := o2.rd
          obtain ⟨Y, hY⟩ : ∃ Y, Hid ([] ++ bytesBE y n = Y) := ⟨_, Lib.hid rfl⟩
          have hYl : Y.length = n := by rw [← hY.out]; simp [bytesBE_length]
          have hYb : be Y = y := by rw [← hY.out, List.nil_append, be_bytes, Nat.mod_eq_of_lt hy2]
          rw [hY.out] at r2
          rw [hY.out, hYl]
          have R2 := Lib.hid r2
          have HYl := Lib.hid hYl
          have HYb := Lib.hid hYb
          have B2 := Lib.hid (below_then B1.out B1.out.size b2)
          have R1' := Lib.hid (R1.out.below b2)
          clear o2 r2 b2 hYl hYb
          go_wp2_with fail
          refine (tell_n R1'.out HXl.out (by omega)).mono ?_
          rintro e w3 ⟨rfl, rfl⟩
          rw [HXb.out]
          go_wp2_with fail
          refine (tell_n R2.out HYl.out (by omega)).mono ?_
          rintro e w3 ⟨rfl, rfl⟩
          rw [HYb.out]
          have s1 : (convert 23 9 (.slice A1 n c1)).run Try.prog w2 = .ok (.string ⟨X.toArray⟩) w2 := by have := conv_bytes R1'.out; rw [HXl.out] at this; exact this
          have s2 : (convert 23 9 (.slice A2 n c2)).run Try.prog w2 = .ok (.string ⟨Y.toArray⟩) w2 := by have := conv_bytes R2.out; rw [HYl.out] at this; exact this
          have HO : Hid (Op.bytesLess X Y = decide (x < y)) := Lib.hid (by rw [less_be X Y (HXl.out.trans HYl.out.symm), HXb.out, HYb.out])
          by_cases hxy : x < y
          · have f1 : decide ((x : Int) < (y : Int)) = true := by simpa using hxy
            have f1n : decide (x < y) = true := by simpa using hxy
            have f2 : Op.bytesLess X Y = true := by rw [HO.out]; simpa using hxy
            clear hxy
            go_wp2_with fail
            refine (works01_calls _).mono ?_
            rintro e w6 ⟨rfl, b6⟩
            have B6 := Lib.hid b6
            clear b6
            go_wp2
            go_ret
            exact ⟨rfl, below_then B2.out B2.out.size B6.out⟩
          · have f1 : decide ((x : Int) < (y : Int)) = false := by simpa using hxy
            have f1n : decide (x < y) = false := by simpa using hxy
            have f2 : Op.bytesLess X Y = false := by rw [HO.out]; simpa using hxy
            clear hxy
            go_wp2_with fail
            refine (works01_calls _).mono ?_
            rintro e w6 ⟨rfl, b6⟩
            have B6 := Lib.hid b6
            clear b6
            go_wp2
            go_ret
            exact ⟨rfl, below_then B2.out B2.out.size B6.out⟩

theorem row13 (x y wide : Int) (w : World) (hx : (Lit.int .u64 x).wf = true) (hy : (Lit.int .u64 y).wf = true) (hw : (Lit.int .u8 wide).wf = true) :
    Calls Try.prog 13 #[.int .u64 x, .int .u64 y, .int .u8 wide] w fun e w' => e = .returned (.bool true) ∧ Below w.heap.size w w' := by
  have h1 := wf_u64 hx
  have h2 := wf_u64 hy
  have h3 := wf_u8 hw
  obtain ⟨a, rfl⟩ := Int.eq_ofNat_of_zero_le h1.1
  obtain ⟨b, rfl⟩ := Int.eq_ofNat_of_zero_le h2.1
  obtain ⟨c, rfl⟩ := Int.eq_ofNat_of_zero_le h3.1
  exact law13_calls a b c w (by omega) (by omega) (by omega)
end Go.Proofs.Ytkihafkiinhbkaa

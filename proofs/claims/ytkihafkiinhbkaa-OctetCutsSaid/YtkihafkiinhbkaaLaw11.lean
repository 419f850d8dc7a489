import Derived.Test.YtkihafkiinhbkaaWorks01
import Derived.Test.YtkihafkiinhbkaaORef3
import Derived.Test.YtkihafkiinhbkaaLaw10
set_option linter.unusedVariables false
set_option linter.unusedSimpArgs false
namespace Go.Proofs.Ytkihafkiinhbkaa
open Go.RowKit

set_option maxRecDepth 100000 in
set_option maxHeartbeats 1000000 in
theorem law11_big (A : Option Addr) (c : Nat) (l : List UInt8) (wide : Int) (w : World) (hb : 65536 < l.length) :
    Calls Try.prog 11 #[.slice A l.length c, .int .i64 wide] w fun e w' => e = .returned (.bool true) ∧ Below w.heap.size w w' := by
  go_enter Try.func11, Try.ntmps11
  go_wp2_with (go_at_call 28; refine (works01_calls _).mono ?_; rintro e w1 ⟨rfl, h1⟩; have H1 := Lib.hid h1; clear h1)
  go_ret
  exact ⟨rfl, H1.out⟩

/-- What both tell alike where there is no piece: so many. -/
def NoPiece (wide : Int) (l : List UInt8) (n : Int) : Prop :=
  (∀ (A : Option Addr) (c : Nat) (w : World), Rd w A c l → Calls Try.prog 33 #[.slice A l.length c, .int .i64 wide] w fun e w' => e = .returned (.tuple #[.slice none 0 0, .slice none 0 0, .int .i64 n]) ∧ w = w') ∧
  (∀ (A : Option Addr) (c : Nat) (w : World), Rd w A c l → Calls Try.prog 34 #[.slice A l.length c, .int .i64 wide] w fun e w' => e = .returned (.tuple #[.slice none 0 0, .slice none 0 0, .int .i64 n]) ∧ w = w')

set_option maxRecDepth 100000 in
set_option maxHeartbeats 1000000 in
theorem law11_no (A : Option Addr) (c : Nat) (l : List UInt8) (wide n : Int) (w : World) (hl : Rd w A c l) (h1 : l.length ≤ 65536) (hn : NoPiece wide l n) :
    Calls Try.prog 11 #[.slice A l.length c, .int .i64 wide] w fun e w' => e = .returned (.bool true) ∧ Below w.heap.size w w' := by
  have HL := Lib.hid hl
  have HN := Lib.hid hn
  clear hl hn
  have s3 : ∀ W, (convert 23 9 (.slice none 0 0)).run Try.prog W = .ok (.string ⟨#[]⟩) W := fun W => conv_bytes (rd_nil W)
  go_enter Try.func11, Try.ntmps11
  go_wp2_with fail
  refine (guarded_calls A c l _ HL.out (by omega)).mono ?_
  rintro e w1 ⟨v1, rfl, g1, b1⟩
  have G1 := Lib.hid g1
  have B1 := Lib.hid b1
  obtain ⟨A1, c1, rfl, r1⟩ := g1.own.rd
  have R1 := Lib.hid r1
  clear g1 b1 r1
  go_wp2_with fail
  refine (HN.out.1 A1 c1 _ R1.out).mono ?_
  rintro e w2 ⟨rfl, rfl⟩
  go_wp2_with fail
  refine (HN.out.2 A c _ (HL.out.below B1.out)).mono ?_
  rintro e w2 ⟨rfl, rfl⟩
  go_wp2_with fail
  refine wp_loop_rounds 1 ?_
  rw [rounds_succ]
  go_wp2_with fail
  refine wp_loop_rounds 1 ?_
  rw [rounds_succ]
  go_wp2_with fail
  refine (whole_own _ _ A c l.length l _ G1.out (HL.out.below B1.out) (by omega) rfl).mono ?_
  rintro e w5 ⟨rfl, rfl⟩
  go_wp2_with fail
  refine (works01_calls _).mono ?_
  rintro e w6 ⟨rfl, b6⟩
  have B6 := Lib.hid b6
  clear b6
  go_wp2
  go_ret
  exact ⟨rfl, below_then B1.out B1.out.size B6.out⟩
set_option maxRecDepth 100000 in
set_option maxHeartbeats 2000000 in
theorem law11_yes (A : Option Addr) (c : Nat) (l : List UInt8) (wide : Nat) (w : World) (hl : Rd w A c l) (h1 : l.length ≤ 65536) (hw : wide = 1 ∨ wide = 4) (hlw : wide ≤ l.length) (hn : mayB wide (be (l.take wide)) = true) (hr : be (l.take wide) ≤ l.length - wide) :
    Calls Try.prog 11 #[.slice A l.length c, .int .i64 wide] w fun e w' => e = .returned (.bool true) ∧ Below w.heap.size w w' := by
  have HL := Lib.hid hl
  have hr2 : be (l.take wide) ≤ 2147483647 := by rcases mayB_spec _ _ hn with h | h <;> omega
  have HP : Hid ((∀ (A : Option Addr) (c : Nat) (w : World), Rd w A c l → Calls Try.prog 33 #[.slice A l.length c, .int .i64 wide] w fun e w' => ∃ v1 v2, e = .returned (.tuple #[v1, v2, .int .i64 0]) ∧
      OwnB w' w.heap.size v1 ((l.drop wide).take (be (l.take wide))) ∧ OwnB w' w.heap.size v2 ((l.drop wide).drop (be (l.take wide))) ∧ (∀ k, v1.ownBlock = some k → some k ≠ v2.ownBlock) ∧ Below w.heap.size w w') ∧
    (∀ (A : Option Addr) (c : Nat) (w : World), Rd w A c l → Calls Try.prog 34 #[.slice A l.length c, .int .i64 wide] w fun e w' => ∃ v1 v2, e = .returned (.tuple #[v1, v2, .int .i64 0]) ∧
      OwnB w' w.heap.size v1 ((l.drop wide).take (be (l.take wide))) ∧ OwnB w' w.heap.size v2 ((l.drop wide).drop (be (l.take wide))) ∧ Below w.heap.size w w')) :=
    Lib.hid ⟨fun A c w h => piece_yes A c l wide w h hw hlw hn hr (by omega), fun A c w h => rpiece_yes A c l wide w h hw hlw hr hr2 (by omega)⟩
  have hPl : ((l.drop wide).take (be (l.take wide))).length ≤ 65536 := by simp; omega
  have hRl : ((l.drop wide).drop (be (l.take wide))).length ≤ 65536 := by simp; omega
  clear hl hn hr hr2
  revert HP hPl hRl
  generalize (l.drop wide).take (be (l.take wide)) = P
  generalize (l.drop wide).drop (be (l.take wide)) = R
  intro HP hPl hRl
  clear hw hlw
  go_enter Try.func11, Try.ntmps11
  go_wp2_with fail
  refine (guarded_calls A c l _ HL.out (by omega)).mono ?_
  rintro e w1 ⟨v1, rfl, g1, b1⟩
  have G1 := Lib.hid g1
  have B1 := Lib.hid b1
  obtain ⟨A1, c1, rfl, r1⟩ := g1.own.rd
  have R1 := Lib.hid r1
  clear g1 b1 r1
  go_wp2_with fail
  refine (HP.out.1 A1 c1 _ R1.out).mono ?_
  rintro e w2 ⟨p, r, rfl, o1, o2, hne, b2⟩
  obtain ⟨Ap, cp, rfl, rp⟩ := o1.rd
  obtain ⟨Ar, cr, rfl, rr⟩ := o2.rd
  have O1 := Lib.hid o1
  have O2 := Lib.hid o2
  have NE := Lib.hid hne
  have B2 := Lib.hid b2
  have RP := Lib.hid rp
  have RR := Lib.hid rr
  clear o1 o2 hne b2 rp rr
  go_wp2_with fail
  have B12 := Lib.hid (below_then B1.out B1.out.size B2.out)
  refine (HP.out.2 A c _ (HL.out.below B12.out)).mono ?_
  rintro e w3 ⟨q, s, rfl, o3, o4, b3⟩
  obtain ⟨Aq, cq, rfl, rq⟩ := o3.rd
  obtain ⟨As, cs, rfl, rs⟩ := o4.rd
  have s1 := conv_bytes (RP.out.below b3)
  have s2 := conv_bytes (RR.out.below b3)
  have s3 := conv_bytes rq
  have s4 := conv_bytes rs
  have O1' := Lib.hid (O1.out.below b3)
  have O2' := Lib.hid (O2.out.below b3)
  have B3 := Lib.hid (below_then B2.out B2.out.size b3)
  unfold str at s1 s2 s3 s4
  clear o3 o4 b3 rq rs
  go_wp2_with fail
  clear s1 s2 s3 s4
  go_loopw [12] (fun i wr => ∃ (k : Nat) (P' : List UInt8), k ≤ P.length ∧ P'.length = P.length ∧ i = .int .i64 k ∧ OwnB wr w1.heap.size (.slice Ap P.length cp) P' ∧ OwnB wr w1.heap.size (.slice Ar R.length cr) R ∧ Below w1.heap.size w1 wr) (fun i _ => P.length - (intOf i).toNat)
  case atStart => exact ⟨0, P, Nat.zero_le _, rfl, rfl, O1'.out, O2'.out, B3.out⟩
  case round =>
    obtain ⟨k, P', hk, hP', rfl, ho1, ho2, hb⟩ := hrel
    have HP' := Lib.hid hP'
    have HO1 := Lib.hid ho1
    have HO2 := Lib.hid ho2
    have HB := Lib.hid hb
    by_cases hlt : k < P.length
    · obtain ⟨g, cap, e, hg1, hg2, hg3⟩ := ho1.form (by omega)
      simp only [Value.slice.injEq] at e
      obtain ⟨rfl, e2, rfl⟩ := e
      obtain ⟨hc, hf⟩ := ho1.cell_at k (by omega)
      have hlp : P.length ≤ cp := by omega
      obtain ⟨b, hbb⟩ : ∃ b, P'[k]'(by omega) = b := ⟨_, rfl⟩
      rw [hbb] at hc
      clear hbb ho1 ho2 hb hP' e2 hg2 hg3
      have hg := Lib.hid hg1
      clear hg1
      go_wp2_with fail
      have HE := HP'.out
      have hne : ∀ k', (Value.slice Ar R.length cr).ownBlock = some k' → k' ≠ g := fun k' hk' e => NE.out g rfl (by rw [hk', e])
      refine ⟨⟨k + 1, P'.set k (b + 1), by omega, by simpa using HE, by go_num, HO1.out.set k (by omega) (b + 1) _ (by simp), HO2.out.set_other hne _, HB.out.setCell hg.out _⟩, by simp [intOf]; omega⟩
    · obtain rfl : k = P.length := by omega
      clear ho1 ho2 hb O1' O2' B3 O1 O2 RP RR NE hP'
      go_wp2_with fail
      obtain ⟨wo, rfl⟩ : ∃ wo : World, wo = wr := ⟨_, rfl⟩
      go_loopw [13] (fun i wr => ∃ (k : Nat) (R' : List UInt8), k ≤ R.length ∧ R'.length = R.length ∧ i = .int .i64 k ∧ OwnB wr w1.heap.size (.slice Ar R.length cr) R' ∧ Below w1.heap.size w1 wr) (fun i _ => R.length - (intOf i).toNat)
      case atStart => exact ⟨0, R, Nat.zero_le _, rfl, rfl, HO2.out, HB.out⟩
      case round =>
        obtain ⟨k, R', hk, hR', rfl, ho2, hb⟩ := hrel
        have HR' := Lib.hid hR'
        have HO2' := Lib.hid ho2
        have HB' := Lib.hid hb
        by_cases hlt : k < R.length
        · obtain ⟨g, cap, e, hg1, hg2, hg3⟩ := ho2.form (by omega)
          simp only [Value.slice.injEq] at e
          obtain ⟨rfl, e2, rfl⟩ := e
          obtain ⟨hc, hf⟩ := ho2.cell_at k (by omega)
          have hlp : R.length ≤ cr := by omega
          obtain ⟨b, hbb⟩ : ∃ b, R'[k]'(by omega) = b := ⟨_, rfl⟩
          rw [hbb] at hc
          clear hbb ho2 hb hR' e2 hg2 hg3 HO2
          have hg := Lib.hid hg1
          clear hg1
          go_wp2_with fail
          have HE := HR'.out
          refine ⟨⟨k + 1, R'.set k (b + 1), by omega, by simpa using HE, by go_num, HO2'.out.set k (by omega) (b + 1) _ (by simp), HB'.out.setCell hg.out _⟩, by simp [intOf]; omega⟩
        · obtain rfl : k = R.length := by omega
          clear ho2 hb hR'
          go_wp2_with fail
          have BW := Lib.hid (below_then B1.out B1.out.size HB'.out)
          refine (whole_own _ _ A c l.length l _ (G1.out.below HB'.out) (HL.out.below BW.out) (by omega) rfl).mono ?_
          rintro e w5 ⟨rfl, rfl⟩
          go_wp2_with fail
          refine (works01_calls _).mono ?_
          rintro e w6 ⟨rfl, b6⟩
          have B6 := Lib.hid b6
          clear b6
          go_wp2
          go_ret
          exact ⟨rfl, below_then BW.out BW.out.size B6.out⟩

theorem law11_calls (A : Option Addr) (c : Nat) (l : List UInt8) (wide : Int) (w : World) (hl : Rd w A c l) :
    Calls Try.prog 11 #[.slice A l.length c, .int .i64 wide] w fun e w' => e = .returned (.bool true) ∧ Below w.heap.size w w' := by
  by_cases hb : 65536 < l.length
  · exact law11_big A c l wide w hb
  by_cases hw : wide = 1 ∨ wide = 4
  · obtain ⟨n, rfl⟩ := Int.eq_ofNat_of_zero_le (show 0 ≤ wide by omega)
    have hn : n = 1 ∨ n = 4 := by omega
    by_cases hlw : n ≤ l.length
    · cases hm : mayB n (be (l.take n)) with
      | false =>
        refine law11_no A c l n 7 w hl (by omega) ⟨fun A c w h => piece_bad A c l n w h hn hlw hm, fun A c w h => rpiece_bad A c l n w h hn hlw ?_⟩
        have hbe := be_lt (l.take n) n (List.length_take_le _ _)
        rcases mayB_no _ _ hm with h | h | h
        · omega
        · exfalso
          obtain rfl : n = 1 := by omega
          omega
        · exact .inr h.2
      | true =>
        by_cases hr : be (l.take n) ≤ l.length - n
        · exact law11_yes A c l n w hl (by omega) hn hlw hm hr
        · exact law11_no A c l n 7 w hl (by omega) ⟨fun A c w h => piece_long A c l n w h hn hlw hm (by omega), fun A c w h => rpiece_bad A c l n w h hn hlw (.inl (by omega))⟩
    · exact law11_no A c l n 7 w hl (by omega) ⟨fun A c w _ => piece_few A c l n w hn (by omega), fun A c w _ => rpiece_few A c l n w hn (by omega)⟩
  · have h0 : mayB wide 0 = false := by unfold mayB; rw [if_neg (by omega), if_neg (by omega)]
    exact law11_no A c l wide 1 w hl (by omega) ⟨fun A c w _ => piece_arg A c l wide w h0, fun A c w _ => rpiece_arg A c l wide w (by omega) (by omega)⟩
end Go.Proofs.Ytkihafkiinhbkaa

import Derived.Test.YtmeljnohkhkfmaaRws
import Derived.Test.YtmeljnohkhkfmaaIntNil
set_option linter.unusedVariables false
set_option linter.unusedSimpArgs false
namespace Go.Proofs.Ytmeljnohkhkfmaa
open Go.RowKit

/-- What comes next is one of four; behind what is bad nothing comes; where nothing comes yet there is room. -/
theorem next_ok {most ph : Nat} {l : List UInt8} (h : OkI most l ph) {r : NxI} (hr : nextI most l ph = r) : OkI most r.l r.ph ∧
    ((r.kind = 3 ∧ r.ph = 2 ∧ r.l = []) ∨ (ph ≠ 2 ∧ r.ph ≠ 2 ∧ ((r.kind = 0 ∧ r.l = l ∧ l.length < most) ∨ (r.kind = 1 ∧ r.l.length < l.length) ∨ (r.kind = 2 ∧ r.l.length < l.length)))) := by
  subst hr
  obtain ⟨h1, h2, h3, h4, h5⟩ := h
  unfold nextI
  split
  · rename_i hp
    subst hp
    split
    · split
      · exact ⟨⟨h1, h2, h3, by first | omega | (simp; done) | (simp; omega), by first | omega | (simp; done) | (simp; omega)⟩, .inr ⟨by first | omega | (simp; done) | (simp; omega), by first | omega | (simp; done) | (simp; omega), .inl ⟨rfl, rfl, by first | omega | (simp; done) | (simp; omega)⟩⟩⟩
      · exact ⟨⟨h1, h2, by first | omega | (simp; done) | (simp; omega), by first | omega | (simp; done) | (simp; omega), by first | omega | (simp; done) | (simp; omega)⟩, .inr ⟨by first | omega | (simp; done) | (simp; omega), by first | omega | (simp; done) | (simp; omega), .inr (.inl ⟨rfl, by first | omega | (simp; done) | (simp; omega)⟩)⟩⟩
    · exact ⟨⟨h1, h2, by first | omega | (simp; done) | (simp; omega), by first | omega | (simp; done) | (simp; omega), fun _ => rfl⟩, .inl ⟨rfl, rfl, rfl⟩⟩
  · split
    · rename_i h0 hp
      subst hp
      split
      · rename_i he
        refine ⟨⟨h1, h2, h3, by first | omega | (simp; done) | (simp; omega), by first | omega | (simp; done) | (simp; omega)⟩, .inr ⟨by first | omega | (simp; done) | (simp; omega), by first | omega | (simp; done) | (simp; omega), .inl ⟨rfl, rfl, ?_⟩⟩⟩
        rcases Nat.lt_or_ge l.length most with h | h
        · exact h
        · exfalso
          rw [fr_eq] at he
          repeat' split at he
          all_goals first | omega | (simp [fgood] at he) | skip
          all_goals (simp at *; omega)
      · split
        · rename_i he
          rcases fr_cases l most with h | h | ⟨-, ha, hb⟩
          · rw [h] at he; simp at he
          · rw [h] at he; simp at he
          · exact ⟨⟨h1, h2, by first | omega | (simp; done) | (simp; omega), by first | omega | (simp; done) | (simp; omega), by first | omega | (simp; done) | (simp; omega)⟩, .inr ⟨by first | omega | (simp; done) | (simp; omega), by first | omega | (simp; done) | (simp; omega), .inr (.inr ⟨rfl, by first | omega | (simp; done) | (simp; omega)⟩)⟩⟩
        · exact ⟨⟨h1, h2, by first | omega | (simp; done) | (simp; omega), by first | omega | (simp; done) | (simp; omega), fun _ => rfl⟩, .inl ⟨rfl, rfl, rfl⟩⟩
    · exact ⟨⟨h1, h2, by first | omega | (simp; done) | (simp; omega), by first | omega | (simp; done) | (simp; omega), fun _ => rfl⟩, .inl ⟨rfl, rfl, rfl⟩⟩
theorem took_cases (most : Nat) (l : List UInt8) (ph : Nat) (b : List UInt8) {R nb T : Nat} (hR : roomI most l ph = R) (hb : b.length = nb) (hT : tookI most l ph b = T) : (R < nb ∧ T = R) ∨ (¬ R < nb ∧ T = nb) := by
  subst hR hb hT
  unfold tookI
  omega

set_option maxRecDepth 100000 in
set_option maxHeartbeats 8000000 in
theorem iroom_law (A : Option Addr) (n c : Nat) (ps : List PieceAt) (z : Nat) (w : World) (h : Rws w A c ps) (hn : ps.length = n) (hz : z ≤ 65535) :
    Calls Try.prog 5 #[.int .u16 z, .slice A n c] w fun e w' => e = .returned (.bool true) ∧ Below w.heap.size w w' := by
  have H := Lib.hid h
  have HN := Lib.hid hn
  have hle := h.le
  have hmx := h.max
  rw [hn] at hle
  obtain ⟨b, hb⟩ : ∃ b, largeL ps = b := ⟨_, rfl⟩
  have HLB := Lib.hid hb
  clear h hn hb
  cases b with
  | true =>
    go_enter Try.func5, Try.ntmps5
    go_wp2_with fail
    refine (large_calls A n c ps _ H.out HN.out HLB.out).mono ?_
    rintro e w1 ⟨rfl, rfl⟩
    go_wp2_with fail
    refine (works_calls _).mono ?_
    rintro e w2 ⟨rfl, b2⟩
    have B2 := Lib.hid b2
    clear b2
    go_wp2_with fail
    go_ret
    exact ⟨rfl, B2.out⟩
  | false =>
    obtain ⟨hn4, -, hfew⟩ := large_no HLB.out
    rw [HN.out] at hn4
    have HFEW := Lib.hid hfew
    obtain ⟨r, hr⟩ : ∃ r, z % 3585 = r := ⟨_, rfl⟩
    have hr2 : r ≤ 3584 := by omega
    have hre : (z : Int) % 3585 = (r : Int) := by omega
    have HM := Lib.hid (show 512 ≤ 512 + r ∧ 512 + r ≤ 4096 by omega)
    clear hfew hr
    go_enter Try.func5, Try.ntmps5
    go_wp2_with fail
    refine (large_calls A n c ps _ H.out HN.out HLB.out).mono ?_
    rintro e w1 ⟨rfl, rfl⟩
    go_wp2_with fail
    refine (if_new w w (Below.refl _ _) (512 + r) HM.out.1 HM.out.2).mono ?_
    obtain ⟨M, hMr⟩ : ∃ M, 512 + r = M := ⟨_, rfl⟩
    have e5 : (512 + (r : Int)) = (M : Int) := by omega
    rw [e5, hMr]
    have hM1 : 512 ≤ M := by omega
    have hM2 : M ≤ 4096 := by omega
    clear hre hr2 HM e5 hMr hz
    rintro e w2 ⟨rfl, m2, -⟩
    have M2 := Lib.hid m2
    obtain ⟨a, ha⟩ : ∃ a, w.heap.size = a := ⟨_, rfl⟩
    rw [ha] at M2 ⊢
    clear m2 ha
    go_wp2_with fail
    go_loopw [8, 9, 10, 11, 12, 13, 14] (fun b i _ _ _ _ _ wr => ∃ (q ph : Nat) (F : List Nat) (l : List UInt8), q ≤ n ∧ i = .int .i64 q ∧ b = .bool (decide (ph = 2)) ∧ InF w wr a F M l ph) (fun _ i _ _ _ _ _ _ => n - (intOf i).toNat)
    case atStart => exact ⟨0, 0, [a], [], by omega, rfl, rfl, M2.out⟩
    case round =>
      obtain ⟨q, ph, F, l, hq, rfl, rfl, hm⟩ := hrel
      have I := Lib.hid hm
      clear hm
      obtain ⟨wo, rfl⟩ : ∃ wo : World, wo = wr := ⟨_, rfl⟩
      by_cases hqn : q < n
      · have hqn' : (q : Int) < n := by omega
        have hql : q < ps.length := by rw [HN.out]; exact hqn
        have hok := I.out.is.ok
        have HOK := Lib.hid hok
        obtain ⟨Hh, hHh⟩ : ∃ Hh, l.length = Hh := ⟨_, rfl⟩
        have HHH := Lib.hid hHh
        obtain ⟨R, hR⟩ : ∃ R, roomI M l ph = R := ⟨_, rfl⟩
        have HR := Lib.hid hR
        have hbig : Hh ≤ 4104 ∧ R ≤ 4104 := by
          have := hok.len
          rw [← hHh, ← hR, roomI]
          split <;> omega
        obtain ⟨hb1, hb2⟩ := hbig
        have HF := H.out.far _ (List.getElem_mem hql)
        obtain ⟨b0, o0, e, x0, -⟩ := (H.out.below I.out.old).at_ q hql
        subst e
        obtain ⟨⟨pA, pc, pl⟩, hp⟩ : ∃ p, ps[q] = p := ⟨_, rfl⟩
        have HROW := Lib.hid (show Rd w pA pc pl by
          obtain ⟨_, _, _, _, hr⟩ := H.out.at_ q hql
          rw [hp] at hr
          exact hr)
        have hpc := HROW.out.len.2
        have hpl := HROW.out.len.1
        rw [hp] at x0 HF
        simp only at x0 HF
        obtain ⟨nb, hnb⟩ : ∃ nb, pl.length = nb := ⟨_, rfl⟩
        have HNB := Lib.hid hnb
        rw [hnb] at x0 HF hpl
        have hb0 : b0 < w.heap.size := by
          obtain ⟨b1, o1, e, y0, -⟩ := H.out.at_ q hql
          cases e
          exact cell_lt y0
        have HBF := Lib.hid (show b0 ∉ F from fun h => by have := I.out.hi b0 h; omega)
        obtain ⟨T, hT⟩ : ∃ T, tookI M l ph pl = T := ⟨_, rfl⟩
        have HT := Lib.hid hT
        have HC := Lib.hid (took_cases M l ph pl hR hnb hT)
        have hfin : decide (((M : Int) + 8) < (Hh : Int) + R) = false ∧ (ph = 2 → R = 0 ∧ Hh = 0) ∧ (ph ≠ 2 → (((Hh : Int) + R) != (M : Int) + 8) = false) := by
          have := hok.len
          refine ⟨decide_eq_false ?_, fun h2 => ?_, fun h2 => ?_⟩
          · rw [← hHh, ← hR, roomI]; split
            · rename_i h2; rw [hok.bad h2]; simp; omega
            · omega
          · rw [← hHh, ← hR, roomI, if_pos h2, hok.bad h2]; exact ⟨rfl, rfl⟩
          · rw [← hHh, ← hR, roomI, if_neg h2]
            have : ((l.length : Int) + ((M + 8 - l.length : Nat) : Int)) = (M : Int) + 8 := by omega
            rw [this]; simp
        obtain ⟨g1, g2, g3⟩ := hfin
        have G2 := Lib.hid g2
        have G3 := Lib.hid g3
        have hTb : decide (((M : Int) + 8) < (Hh : Int) + T) = false ∧ T ≤ 4104 := by
          have := hok.len
          refine ⟨decide_eq_false ?_, ?_⟩
          · rcases HC.out with ⟨h1, h2⟩ | ⟨h1, h2⟩ <;> (have := of_decide_eq_false g1; omega)
          · rcases HC.out with ⟨h1, h2⟩ | ⟨h1, h2⟩ <;> omega
        obtain ⟨g4, hT4⟩ := hTb
        have HX := Lib.hid (And.intro g1 g4)
        clear hok hHh hR hp hnb hb0 hT g2 g3 HF
        go_wp2_with fail
        refine (if_room I.out HR.out).mono ?_
        rintro e w3 ⟨rfl, m3, b3⟩
        have I3 := Lib.hid m3
        have x3 := stays_ b3 x0
        clear m3 b3 I
        go_wp2_with fail
        refine (if_held I3.out HHH.out).mono ?_
        rintro e w4 ⟨rfl, rfl⟩
        have HP := Lib.hid (show ph = 2 ∨ ph ≠ 2 by omega)
        have HLT := Lib.hid (show (l ++ pl.take T).length = Hh + T by
          have := HNB.out
          rw [List.length_append, List.length_take, HHH.out, HNB.out]
          rcases HC.out with ⟨h1, h2⟩ | ⟨h1, h2⟩ <;> omega)
        rcases HP.out with hp | hp
        · obtain ⟨rfl, rfl⟩ := G2.out hp
          rw [decide_eq_true hp]
          have HPP := Lib.hid hp
          clear hp
          go_wp2_with fail
          refine (if_put I3.out (HROW.out.below I3.out.old) HNB.out HT.out rfl).mono ?_
          rintro e w5 ⟨F5, rfl, m5, t5, f5⟩
          have I5 := Lib.hid m5
          have x5 := t5.cell x3 HBF.out
          clear m5 t5 f5 I3 x3
          rcases HC.out with ⟨hc, hT'⟩ | ⟨hc, hT'⟩
          all_goals
            subst hT'
            go_wp2_with fail
            refine (if_held I5.out HLT.out).mono ?_
            rintro e w6 ⟨rfl, rfl⟩
            go_wp2_with fail
            refine (if_held I5.out HLT.out).mono ?_
            rintro e w6 ⟨rfl, rfl⟩
            go_wp2_with fail
            obtain ⟨l5, I5'⟩ : ∃ l5, Hid (InF w w5 a F5 M l5 ph) := ⟨_, I5⟩
            clear I5 HLT HT HR HROW HX HC
            go_loopg [8, 13, 14] l5.length (fun gk b _ _ wi => ∃ (ph : Nat) (F : List Nat) (l : List UInt8), gk = l.length ∧ b = .bool (decide (ph = 2)) ∧ InF w wi a F M l ph)
            case atStart => exact ⟨ph, F5, l5, rfl, by rw [decide_eq_true HPP.out], I5'.out⟩
            case round =>
              obtain ⟨ph2, F6, l6, rfl, rfl, hm6⟩ := hrel
              have I6 := Lib.hid hm6
              obtain ⟨wi, rfl⟩ : ∃ wi : World, wi = wr := ⟨_, rfl⟩
              obtain ⟨⟨kd, ch, bd, l7, ph7⟩, hr7⟩ : ∃ r, nextI M l6 ph2 = r := ⟨_, rfl⟩
              have HR7 := Lib.hid hr7
              have HK := Lib.hid (next_ok hm6.is.ok hr7)
              simp only at HK
              clear hm6 hr7
              rcases HK.out.2 with ⟨rfl, rfl, rfl⟩ | ⟨hp2, hp7, hk⟩
              · have hcase : ph2 = 2 ∨ ph2 ≠ 2 := by omega
                have HCS := Lib.hid hcase
                clear hcase
                rcases HCS.out with h2 | h2
                · subst h2
                  rw [decide_eq_true rfl]
                  go_wp2_with fail
                  refine (if_next I6.out HR7.out).mono ?_
                  rintro e w8 ⟨F8, v8, rfl, o8, m8, -, -, -⟩
                  obtain ⟨A8, c8, rfl⟩ := OwnC.slice o8
                  have I8 := Lib.hid m8
                  clear m8 o8 I6
                  go_wp2_with fail
                  exact ⟨⟨q + 1, 2, F8, [], by omega, by go_num, rfl, I8.out.below (below_alloc w8 _)⟩, by simp [intOf]; omega⟩
                · rw [decide_eq_false h2]
                  clear h2
                  go_wp2_with fail
                  refine (if_next I6.out HR7.out).mono ?_
                  rintro e w8 ⟨F8, v8, rfl, o8, m8, -, -, -⟩
                  obtain ⟨A8, c8, rfl⟩ := OwnC.slice o8
                  have I8 := Lib.hid m8
                  clear m8 o8 I6
                  go_wp2_with fail
                  exact ⟨⟨q + 1, 2, F8, [], by omega, by go_num, rfl, I8.out.below (below_alloc w8 _)⟩, by simp [intOf]; omega⟩
              · rw [decide_eq_false hp2]
                have HP7 := Lib.hid hp7
                have HKK := Lib.hid hk
                clear hp2 hp7 hk
                rcases HKK.out with ⟨rfl, rfl, hlm⟩ | ⟨rfl, hlt⟩ | ⟨rfl, hlt⟩
                · have HRM := Lib.hid (show ∃ R7, roomI M l7 ph7 = R7 + 1 from ⟨M + 7 - l7.length, by rw [roomI, if_neg HP7.out]; omega⟩)
                  go_wp2_with fail
                  refine (if_next I6.out HR7.out).mono ?_
                  rintro e w8 ⟨F8, v8, rfl, o8, m8, -, -, -⟩
                  obtain ⟨A8, c8, rfl⟩ := OwnC.slice o8
                  have I8 := Lib.hid (m8.below (below_alloc w8 (.cells #[.int .u16 ch, .slice A8 bd.length c8] 39)))
                  obtain ⟨R7, hR7⟩ := HRM.out
                  clear m8 o8 I6
                  go_wp2_with fail
                  refine (if_room I8.out hR7).mono ?_
                  rintro e w9 ⟨rfl, m9, -⟩
                  have I9 := Lib.hid m9
                  have h71 : ((((R7 + 1 : Nat)) : Int) == 0) = false := by rw [beq_eq_false_iff_ne]; omega
                  have h72 : ((R7 : Int) + 1 == 0) = false := by rw [beq_eq_false_iff_ne]; omega
                  clear m9 I8 hR7
                  go_wp2_with fail
                  exact ⟨⟨q + 1, ph7, F8, _, by omega, by go_num, by rw [decide_eq_false HP7.out], I9.out⟩, by simp [intOf]; omega⟩
                · go_wp2_with fail
                  refine (if_next I6.out HR7.out).mono ?_
                  rintro e w8 ⟨F8, v8, rfl, o8, m8, -, -, -⟩
                  obtain ⟨A8, c8, rfl⟩ := OwnC.slice o8
                  have I8 := Lib.hid m8
                  clear m8 o8 I6
                  go_wp2_with fail
                  go_roundg l7.length
                  case measure => omega
                  case rel => exact ⟨ph7, F8, l7, rfl, by rw [decide_eq_false HP7.out], I8.out.below (below_alloc w8 _)⟩
                · go_wp2_with fail
                  refine (if_next I6.out HR7.out).mono ?_
                  rintro e w8 ⟨F8, v8, rfl, o8, m8, -, -, -⟩
                  obtain ⟨A8, c8, rfl⟩ := OwnC.slice o8
                  have I8 := Lib.hid m8
                  clear m8 o8 I6
                  go_wp2_with fail
                  go_roundg l7.length
                  case measure => omega
                  case rel => exact ⟨ph7, F8, l7, rfl, by rw [decide_eq_false HP7.out], I8.out.below (below_alloc w8 _)⟩
        · have g3 := G3.out hp
          rw [decide_eq_false hp]
          have HPP := Lib.hid hp
          clear hp
          go_wp2_with fail
          refine (if_put I3.out (HROW.out.below I3.out.old) HNB.out HT.out rfl).mono ?_
          rintro e w5 ⟨F5, rfl, m5, t5, f5⟩
          have I5 := Lib.hid m5
          have x5 := t5.cell x3 HBF.out
          clear m5 t5 f5 I3 x3
          rcases HC.out with ⟨hc, hT'⟩ | ⟨hc, hT'⟩
          all_goals
            subst hT'
            go_wp2_with fail
            refine (if_held I5.out HLT.out).mono ?_
            rintro e w6 ⟨rfl, rfl⟩
            go_wp2_with fail
            refine (if_held I5.out HLT.out).mono ?_
            rintro e w6 ⟨rfl, rfl⟩
            go_wp2_with fail
            obtain ⟨l5, I5'⟩ : ∃ l5, Hid (InF w w5 a F5 M l5 ph) := ⟨_, I5⟩
            clear I5 HLT HT HR HROW HX HC
            go_loopg [8, 13, 14] l5.length (fun gk b _ _ wi => ∃ (ph : Nat) (F : List Nat) (l : List UInt8), gk = l.length ∧ b = .bool (decide (ph = 2)) ∧ InF w wi a F M l ph)
            case atStart => exact ⟨ph, F5, l5, rfl, by rw [decide_eq_false HPP.out], I5'.out⟩
            case round =>
              obtain ⟨ph2, F6, l6, rfl, rfl, hm6⟩ := hrel
              have I6 := Lib.hid hm6
              obtain ⟨wi, rfl⟩ : ∃ wi : World, wi = wr := ⟨_, rfl⟩
              obtain ⟨⟨kd, ch, bd, l7, ph7⟩, hr7⟩ : ∃ r, nextI M l6 ph2 = r := ⟨_, rfl⟩
              have HR7 := Lib.hid hr7
              have HK := Lib.hid (next_ok hm6.is.ok hr7)
              simp only at HK
              clear hm6 hr7
              rcases HK.out.2 with ⟨rfl, rfl, rfl⟩ | ⟨hp2, hp7, hk⟩
              · have hcase : ph2 = 2 ∨ ph2 ≠ 2 := by omega
                have HCS := Lib.hid hcase
                clear hcase
                rcases HCS.out with h2 | h2
                · subst h2
                  rw [decide_eq_true rfl]
                  go_wp2_with fail
                  refine (if_next I6.out HR7.out).mono ?_
                  rintro e w8 ⟨F8, v8, rfl, o8, m8, -, -, -⟩
                  obtain ⟨A8, c8, rfl⟩ := OwnC.slice o8
                  have I8 := Lib.hid m8
                  clear m8 o8 I6
                  go_wp2_with fail
                  exact ⟨⟨q + 1, 2, F8, [], by omega, by go_num, rfl, I8.out.below (below_alloc w8 _)⟩, by simp [intOf]; omega⟩
                · rw [decide_eq_false h2]
                  clear h2
                  go_wp2_with fail
                  refine (if_next I6.out HR7.out).mono ?_
                  rintro e w8 ⟨F8, v8, rfl, o8, m8, -, -, -⟩
                  obtain ⟨A8, c8, rfl⟩ := OwnC.slice o8
                  have I8 := Lib.hid m8
                  clear m8 o8 I6
                  go_wp2_with fail
                  exact ⟨⟨q + 1, 2, F8, [], by omega, by go_num, rfl, I8.out.below (below_alloc w8 _)⟩, by simp [intOf]; omega⟩
              · rw [decide_eq_false hp2]
                have HP7 := Lib.hid hp7
                have HKK := Lib.hid hk
                clear hp2 hp7 hk
                rcases HKK.out with ⟨rfl, rfl, hlm⟩ | ⟨rfl, hlt⟩ | ⟨rfl, hlt⟩
                · have HRM := Lib.hid (show ∃ R7, roomI M l7 ph7 = R7 + 1 from ⟨M + 7 - l7.length, by rw [roomI, if_neg HP7.out]; omega⟩)
                  go_wp2_with fail
                  refine (if_next I6.out HR7.out).mono ?_
                  rintro e w8 ⟨F8, v8, rfl, o8, m8, -, -, -⟩
                  obtain ⟨A8, c8, rfl⟩ := OwnC.slice o8
                  have I8 := Lib.hid (m8.below (below_alloc w8 (.cells #[.int .u16 ch, .slice A8 bd.length c8] 39)))
                  obtain ⟨R7, hR7⟩ := HRM.out
                  clear m8 o8 I6
                  go_wp2_with fail
                  refine (if_room I8.out hR7).mono ?_
                  rintro e w9 ⟨rfl, m9, -⟩
                  have I9 := Lib.hid m9
                  have h71 : ((((R7 + 1 : Nat)) : Int) == 0) = false := by rw [beq_eq_false_iff_ne]; omega
                  have h72 : ((R7 : Int) + 1 == 0) = false := by rw [beq_eq_false_iff_ne]; omega
                  clear m9 I8 hR7
                  go_wp2_with fail
                  exact ⟨⟨q + 1, ph7, F8, _, by omega, by go_num, by rw [decide_eq_false HP7.out], I9.out⟩, by simp [intOf]; omega⟩
                · go_wp2_with fail
                  refine (if_next I6.out HR7.out).mono ?_
                  rintro e w8 ⟨F8, v8, rfl, o8, m8, -, -, -⟩
                  obtain ⟨A8, c8, rfl⟩ := OwnC.slice o8
                  have I8 := Lib.hid m8
                  clear m8 o8 I6
                  go_wp2_with fail
                  go_roundg l7.length
                  case measure => omega
                  case rel => exact ⟨ph7, F8, l7, rfl, by rw [decide_eq_false HP7.out], I8.out.below (below_alloc w8 _)⟩
                · go_wp2_with fail
                  refine (if_next I6.out HR7.out).mono ?_
                  rintro e w8 ⟨F8, v8, rfl, o8, m8, -, -, -⟩
                  obtain ⟨A8, c8, rfl⟩ := OwnC.slice o8
                  have I8 := Lib.hid m8
                  clear m8 o8 I6
                  go_wp2_with fail
                  go_roundg l7.length
                  case measure => omega
                  case rel => exact ⟨ph7, F8, l7, rfl, by rw [decide_eq_false HP7.out], I8.out.below (below_alloc w8 _)⟩
      · obtain rfl : q = n := by omega
        go_wp2_with fail
        refine (works_calls _).mono ?_
        rintro e w7 ⟨rfl, b7⟩
        have B7 := Lib.hid (below_then I.out.old I.out.old.size b7)
        clear b7
        go_wp2_with fail
        go_ret
        exact ⟨rfl, B7.out⟩
theorem iroom_row {w : World} (x : Int) (hx : (Lit.int .u16 x).wf = true) (A : Option Addr) (c : Nat) (ps : List PieceAt) (h : Rws w A c ps) :
    Calls Try.prog 5 #[.int .u16 x, .slice A ps.length c] w fun e w' => e = .returned (.bool true) ∧ Below w.heap.size w w' := by
  obtain ⟨h1, h2⟩ := wf_u16 hx
  obtain ⟨m, rfl⟩ := Int.eq_ofNat_of_zero_le h1
  exact iroom_law A ps.length c ps m w h rfl (by omega)
end Go.Proofs.Ytmeljnohkhkfmaa

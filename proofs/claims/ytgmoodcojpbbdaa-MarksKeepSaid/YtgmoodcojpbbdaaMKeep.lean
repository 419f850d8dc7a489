import Derived.Test.YtgmoodcojpbbdaaKeepLaw
import Derived.Test.YtgmoodcojpbbdaaRf2
import Derived.BigQuiet
import Derived.StillTailTactics
set_option linter.unusedVariables false
set_option linter.unusedSimpArgs false
namespace Go.Proofs.Ytgmoodcojpbbdaa
open Go.RowKit

set_option maxRecDepth 100000 in
set_option maxHeartbeats 4000000 in
theorem mkeep_calls (B C : Option Addr) (n c m e : Nat) (l th : Ms) (w : World) (hr : RdC 5 w B n c (mcs l)) (hs : RdC 5 w C m e (mcs th)) :
    Calls Try.prog 6 #[.slice B n c, .slice C m e] w fun e w' => e = .returned (.bool true) ∧ Below w.heap.size w w' := by
  have hl : n = l.length := by have := hr.1; rw [mcs_length] at this; omega
  subst hl
  have HR := Lib.hid hr
  have HS := Lib.hid hs
  have hmx := hr.2.2.1
  have hlc := hr.2.1
  have hmx2 := hs.2.2.1
  have hlc2 := hs.2.1
  obtain ⟨N, hN⟩ : ∃ N, l.length = N := ⟨_, rfl⟩
  rw [hN] at hlc ⊢
  have HN := Lib.hid hN
  clear hr hs hN
  by_cases hbig : 32 < N
  · have e1 : decide ((32 : Int) < N) = true := decide_eq_true (by omega)
    go_enter Try.func6, Try.ntmps6
    go_wp2_with fail
    refine (works_calls _).mono ?_
    rintro e w1 ⟨rfl, b1⟩
    go_wp2_with fail
    go_ret
    exact ⟨rfl, b1⟩
  have e1 : decide ((32 : Int) < N) = false := decide_eq_false (by omega)
  by_cases hbig2 : 100 < m
  · have e2 : decide ((100 : Int) < m) = true := decide_eq_true (by omega)
    clear hbig
    go_enter Try.func6, Try.ntmps6
    go_wp2_with fail
    refine (works_calls _).mono ?_
    rintro e w1 ⟨rfl, b1⟩
    go_wp2_with fail
    go_ret
    exact ⟨rfl, b1⟩
  have e2 : decide ((100 : Int) < m) = false := decide_eq_false (by omega)
  go_enter Try.func6, Try.ntmps6
  go_wp2_with fail
  refine (mf_new w w (Below.refl _ _)).mono ?_
  rintro e w1 ⟨rfl, m1, -⟩
  have M1 := Lib.hid m1
  clear m1 e1 e2
  obtain ⟨a, ha⟩ : ∃ a, w.heap.size + 1 = a := ⟨_, rfl⟩
  rw [ha] at M1 ⊢
  clear ha
  go_wp2_with fail
  go_loopw [6] (fun i wr => ∃ (k : Nat) (F' : List Nat) (ms' : Ms), k ≤ N ∧ i = .int .i64 k ∧ MkF w wr a F' ms' ∧ GoodM k ms') (fun i _ => N - (intOf i).toNat)
  case atStart => exact ⟨0, _, _, by omega, rfl, M1.out, GoodM.nil⟩
  case round =>
    obtain ⟨k, F', ms', hk, rfl, hm, hg⟩ := hrel
    have HM1 := Lib.hid hm
    have HG1 := Lib.hid hg
    clear hm hg
    by_cases hkN : k < N
    · have hkl : k < l.length := by rw [HN.out]; exact hkN
      have hkN' : (k : Int) < N := by omega
      obtain ⟨b0, o0, e, g0, _, _, _, _⟩ := mark_at (HR.out.below HM1.out.old) k hkl
      subst e
      obtain ⟨p, hp⟩ : ∃ p, l[k] = p := ⟨_, rfl⟩
      rw [hp] at g0
      obtain ⟨nn, ms2, hadd⟩ : ∃ nn ms2, addM ms' p.1 = (nn, ms2) := ⟨_, _, rfl⟩
      go_wp2_with fail
      refine (mf_add p.1 HM1.out hadd).mono ?_
      rintro e w2 ⟨F2, rfl, m2, t2, f2⟩
      have M2 := Lib.hid m2
      have G2 := Lib.hid (HG1.out.add (by omega) hadd)
      clear m2 t2 f2 g0
      by_cases hnn : nn = 0
      · subst hnn
        obtain ⟨b0', o0', e, g0, g1, g2, g3, g4⟩ := mark_at (HR.out.below M2.out.old) k hkl
        cases e
        rw [hp] at g0 g1 g2 g3 g4
        obtain ⟨bb, ms3, htell⟩ : ∃ bb ms3, tellM ms2 p.1 p.2 = (bb, ms3) := ⟨_, _, rfl⟩
        go_wp2_with fail
        go_still_tail 11, (by kernel_rfl)
        change wpList _ _ _ _ _ w2.drew
        go_wp2_with fail
        refine (mf_tell p.1 p.2 (M2.out.below (below_drew w2)) htell).mono ?_
        rintro e w3 ⟨F3, rfl, m3, t3, f3⟩
        have M3 := Lib.hid m3
        have G3 := Lib.hid (G2.out.tell htell)
        clear m3 t3 f3
        go_wp2_with fail
        exact ⟨⟨k + 1, F3, ms3, by omega, by go_num, M3.out, G3.out⟩, by simp [intOf]; omega⟩
      · have e0 : ((nn : Int) == 0) = false := by simp [hnn]
        go_wp2_with fail
        exact ⟨⟨k + 1, F2, ms2, by omega, by go_num, M2.out, G2.out⟩, by simp [intOf]; omega⟩
    · obtain rfl : k = N := by omega
      clear hkN hk
      go_wp2_with fail
      have hlen : ms'.length ≤ 1000000 := by have := HG1.out.few; omega
      obtain ⟨gl, lf, hkp⟩ : ∃ gl lf, keepM th ms' = (gl, lf) := ⟨_, _, rfl⟩
      have HKP := Lib.hid hkp
      have HND1 := Lib.hid HM1.out.is.nodup
      refine (mf_list HM1.out hlen).mono ?_
      rintro e w2 ⟨v1, rfl, o1, m2, b2⟩
      have M2 := Lib.hid m2
      have hv1 : ∀ g, v1.ownBlock = some g → g ∉ F' ∧ g < w2.heap.size := fun g hg => ⟨fun hF => by have := HM1.out.is.lts _ hF; have := (o1.lt g hg).1; omega, (o1.lt g hg).2⟩
      have HV1 := Lib.hid hv1
      have O1 := Lib.hid o1
      obtain ⟨A1, c1, rfl⟩ := o1.slice
      obtain ⟨n1, hn1⟩ : ∃ n1, ms'.length = n1 := ⟨_, rfl⟩
      have hn32 : n1 ≤ 32 := by have := HG1.out.few; omega
      have HN1 := Lib.hid hn1
      rw [hn1] at O1 HV1 ⊢
      have HB2 := Lib.hid b2
      clear o1 m2 b2 hv1 hn1 hkp hlen HM1
      obtain ⟨i0, hi, hz0, hz1, hz2⟩ := info_parts Try.info_mark
      go_wp2_with (at_builtin; refine wpList_appC _ rfl _ _ _ rfl w2.heap.size i0 _ 56 Try.underlying39 hi hz0 hz1 hz2 rfl (by decide) (fun _ _ => trivial) (.slice (some ⟨w2.heap.size, 0, none⟩) 0 0) 0 [] rfl ?own C m e (mcs th) rfl ?rd ?hb ?h63 ?hbase ?_)
      case own =>
        refine OwnC.box0 ?_ ?_
        · simp
        · omega
      case rd => exact (HS.out.below M2.out.old).below (by repeat (first | with_reducible exact Below.refl _ _ | (with_reducible refine Below.alloc ?_ (by first | (simp; done) | (simp; omega)) _)))
      case hb => omega
      case h63 => omega
      case hbase => simp
      intro v2 w3 o3 g3 y1 y2
      clear y1 y2
      have hB3 : Below w2.heap.size w2 w3 := Below.grown (below_alloc w2 _) g3 (by simp) (fun k hk => by simp [Value.ownBlock] at hk; omega)
      obtain ⟨A2, c2, rfl, r3⟩ := o3.rd
      have M3 := Lib.hid (M2.out.below hB3)
      have HB3 := Lib.hid hB3
      have R3 := Lib.hid r3
      have HA3 := Lib.hid (show ∀ ad, A2 = some ad → ad.block ∉ F' from fun ad had hF => by
        have h1 := (o3.lt ad.block (by rw [had]; rfl)).1
        have := M2.out.is.lts _ hF
        omega)
      clear o3 g3 r3 hB3
      go_wp2_with fail
      refine (mf_keep A2 m c2 M3.out (by rw [HN1.out]; omega) R3.out HA3.out HKP.out).mono ?_
      rintro e w4 ⟨v4, F4, rfl, o4, m4, t4, f4, q4⟩
      have M4 := Lib.hid m4
      have O4 := Lib.hid o4
      obtain ⟨A4, c4, rfl⟩ := o4.slice
      have HV4 := Lib.hid (show ∀ g, (Value.slice A4 gl.length c4).ownBlock = some g → g ∉ F4 ∧ g < w4.heap.size from fun g hg => ⟨q4 g hg, (o4.lt g hg).2⟩)
      have HV14 := Lib.hid (show ∀ g, (Value.slice A1 n1 c1).ownBlock = some g → g ∉ F4 ∧ g < w4.heap.size from fun g hg => by
        have h1 := HV1.out g hg
        have h2 := HB3.out.size
        have h3 := t4.size
        refine ⟨fun hF => ?_, by omega⟩
        rcases f4 g hF with h | h
        · exact h1.1 h
        · omega)
      have O14 := Lib.hid ((O1.out.below HB3.out).tch t4 (fun g hg => (HV1.out g hg).1))
      clear o4 m4 t4 f4 q4 M3 R3 HA3 M2 HB3 HV1 O1
      go_wp2_with fail
      have hlf : lf.length ≤ 1000000 := by
        have h1 := keep_two th ms'
        rw [HKP.out] at h1
        have := HN1.out
        simp only at h1
        omega
      refine (mf_list M4.out hlf).mono ?_
      rintro e w5 ⟨v5, rfl, o5, m5, b5⟩
      have M5 := Lib.hid m5
      have O5 := Lib.hid o5
      obtain ⟨A5, c5, rfl⟩ := o5.slice
      have HV5 := Lib.hid (show ∀ g, (Value.slice A5 lf.length c5).ownBlock = some g → g ∉ F4 from fun g hg hF => by have := M4.out.is.lts _ hF; have := (o5.lt g hg).1; omega)
      have O15 := Lib.hid (O14.out.below b5)
      have O45 := Lib.hid (O4.out.below b5)
      clear o5 m5 b5 hlf
      obtain ⟨ng, hng⟩ : ∃ ng, gl.length = ng := ⟨_, rfl⟩
      obtain ⟨nl, hnl⟩ : ∃ nl, lf.length = nl := ⟨_, rfl⟩
      rw [hng] at O45 HV4 ⊢
      rw [hnl] at O5 HV5 ⊢
      have HNG := Lib.hid hng
      have HNL := Lib.hid hnl
      clear hng hnl O4 O14 M4
      go_wp2_with fail
      have HND := Lib.hid M5.out.is.nodup
      have R15 := Lib.hid (show ∀ W, Tch F4 w5 W → RdC 5 W A1 n1 c1 (mcs ms') from fun W hT => by
        obtain ⟨A, cc, he, hr⟩ := O15.out.rd
        cases he
        exact hr.tch hT (fun ad had hF => (HV14.out ad.block (by rw [had]; rfl)).1 hF))
      have R5 := Lib.hid (show ∀ W, Tch F4 w5 W → RdC 5 W A5 nl c5 (mcs lf) from fun W hT => by
        obtain ⟨A, cc, he, hr⟩ := O5.out.rd
        cases he
        exact hr.tch hT (fun ad had hF => HV5.out ad.block (by rw [had]; rfl) hF))
      have R45 := Lib.hid (show ∀ W, Tch F4 w5 W → RdC 1 W A4 ng c4 (gl.map str) from fun W hT => by
        obtain ⟨A, cc, he, hr⟩ := O45.out.rd
        cases he
        exact hr.tch hT (fun ad had hF => (HV4.out ad.block (by rw [had]; rfl)).1 hF))
      have hb1 := (R15.out w5 (Tch.refl _ _)).2.1
      have hb2 := (R15.out w5 (Tch.refl _ _)).2.2.1
      have hb3 := (R5.out w5 (Tch.refl _ _)).2.1
      have hb4 := (R5.out w5 (Tch.refl _ _)).2.2.1
      have hb5 := (R45.out w5 (Tch.refl _ _)).2.1
      have hb6 := (R45.out w5 (Tch.refl _ _)).2.2.1
      clear O15 O5 O45 HV14 HV5 HV4 hi hz0 hz1 hz2
      go_loopw [10, 11, 12, 13] (fun uk ug ui _ wr => ∃ (j : Nat) (F6 : List Nat), j ≤ n1 ∧ ui = .int .i64 j ∧ uk = .int .i64 (kkL th ms' j) ∧ ug = .int .i64 (ggL th ms' j) ∧ MkF w wr a F6 (curG th ms' (ggL th ms' j)) ∧ Tch F4 w5 wr ∧ ∀ x ∈ F6, x ∈ F4 ∨ w5.heap.size ≤ x) (fun _ _ ui _ _ => n1 - (intOf ui).toNat)
      case atStart =>
        refine ⟨0, F4, by omega, rfl, by rw [(kg_zero th ms').1]; rfl, by rw [(kg_zero th ms').2]; rfl, ?_, Tch.refl _ _, fun x hx => .inl hx⟩
        rw [(kg_zero th ms').2]
        have : curG th ms' 0 = lf := by simp [curG, HKP.out]
        rw [this]
        exact M5.out
      case round =>
        obtain ⟨j, F6, hj, rfl, rfl, rfl, hm, ht, hf⟩ := hrel
        have HM6 := Lib.hid hm
        have HT6 := Lib.hid ht
        have HF6 := Lib.hid hf
        clear hm ht hf
        by_cases hjN : j < n1
        · have hjl : j < ms'.length := by rw [HN1.out]; exact hjN
          have hjN' : (j : Int) < n1 := by omega
          obtain ⟨b1, o1, e, g0, g1, g2, g3, g4⟩ := mark_at (R15.out _ HT6.out) j hjl
          subst e
          obtain ⟨p, hp⟩ : ∃ p, ms'[j] = p := ⟨_, rfl⟩
          have HP := Lib.hid hp
          rw [hp] at g0 g1 g2 g3 g4
          rcases where_mat th p.1 with ⟨hmm, hw⟩ | ⟨k', o', hmm, hw, hk'⟩
          · have HW := Lib.hid hw
            have hno := kg_no th ms' j hjl (by rw [hp]; unfold hasB; rw [hmm]; rfl)
            rw [hp, HKP.out] at hno
            have HNO := Lib.hid hno
            go_wp2_with fail
            refine (at_any C m e th p.1 (-1) _ (HS.out.below HM6.out.old) HW.out).mono ?_
            rintro e w6 ⟨rfl, rfl⟩
            go_wp2_with fail
            obtain ⟨hy1, hy2, hy3⟩ := HNO.out
            obtain ⟨gg, hgg⟩ : ∃ gg, ggL th ms' j = gg := ⟨_, rfl⟩
            rw [hgg] at hy2 hy3 HM6 ⊢
            have hy3' : gl[gg]? = some p.1 := hy3
            obtain ⟨hkl, hke⟩ := List.getElem?_eq_some_iff.1 hy3'
            obtain ⟨ad, ead, x0⟩ := (R45.out _ HT6.out).cell gg (str p.1) (by rw [List.getElem?_map, hy3']; rfl)
            subst ead
            have hknl : gg < ng := by rw [← HNG.out]; exact hkl
            have e2 : decide ((ng : Int) ≤ gg) = false := decide_eq_false (by omega)
            have hknl' : (gg : Int) < ng := by omega
            unfold str at x0
            have hadd := cur_add th ms' HND1.out HG1.out gg (by rw [HKP.out]; exact hkl)
            simp only [HKP.out] at hadd
            rw [hke] at hadd
            have HADD := Lib.hid hadd
            clear hadd
            go_still_tail 22, (by kernel_rfl)
            change wpList _ _ _ _ _ wr.drew
            go_wp2_with fail
            have hz7 : ggL th ms' (j + 1) = gg + 1 := hy2
            have HZ7 := Lib.hid hz7
            have HY1 := Lib.hid hy1
            refine (mf_add p.1 (HM6.out.below (below_drew wr)) HADD.out).mono ?_
            rintro e w7 ⟨F7, rfl, m7, t7, f7⟩
            have M7 := Lib.hid m7
            have T7 := Lib.hid (HT6.out.trans (Tch.of_drew t7) (fun x hx => HF6.out x hx))
            have F7' := Lib.hid (show ∀ x ∈ F7, x ∈ F4 ∨ w5.heap.size ≤ x from fun x hx => by
              rcases f7 x hx with h | h
              · exact HF6.out x h
              · right
                have := HT6.out.size
                have h' : wr.heap.size ≤ x := h
                omega)
            clear m7 t7 f7 x0 hz7 hy1 hy2
            go_wp2_with fail
            exact ⟨⟨j + 1, F7, by omega, by go_num, by rw [HY1.out], by rw [HZ7.out]; go_num, by rw [HZ7.out]; exact M7.out, T7.out, F7'.out⟩, by simp [intOf]; omega⟩
          · have HW := Lib.hid hw
            have hyes := kg_yes th ms' j hjl (by rw [hp]; unfold hasB; rw [hmm]; rfl)
            rw [hp, HKP.out] at hyes
            have HYES := Lib.hid hyes
            have e1 : decide ((0 : Int) ≤ (k' : Int)) = true := by simp
            go_wp2_with fail
            refine (at_any C m e th p.1 k' _ (HS.out.below HM6.out.old) HW.out).mono ?_
            rintro e w6 ⟨rfl, rfl⟩
            go_wp2_with fail
            obtain ⟨hy1, hy2, hy3⟩ := HYES.out
            obtain ⟨kk, hkk⟩ : ∃ kk, kkL th ms' j = kk := ⟨_, rfl⟩
            rw [hkk] at hy1 hy3
            have hy3' : lf[kk]? = some p := hy3
            obtain ⟨hkl, hke⟩ := List.getElem?_eq_some_iff.1 hy3'
            obtain ⟨b2, o2, e, x0, x1, x2, x3, x4⟩ := mark_at (R5.out _ HT6.out) kk hkl
            subst e
            rw [hke] at x0 x1 x2 x3 x4
            have hknl : kk < nl := by rw [← HNL.out]; exact hkl
            have e2 : decide ((nl : Int) ≤ kk) = false := decide_eq_false (by omega)
            have hknl' : (kk : Int) < nl := by omega
            rw [hkk]
            go_quiet (fail)
            go_wp2_with fail
            exact ⟨⟨j + 1, F6, by omega, by go_num, by rw [hy1]; go_num, by rw [hy2], by rw [hy2]; exact HM6.out.below ⟨rfl, rfl, rfl, Nat.le_refl _, fun _ _ => rfl⟩, HT6.out.drewN _, HF6.out⟩, by simp [intOf]; omega⟩
        · obtain rfl : j = n1 := by omega
          have hend := kg_end th ms'
          rw [HN1.out, HKP.out] at hend
          rw [HNL.out, HNG.out] at hend
          rw [hend.1, hend.2] at *
          go_wp2_with fail
          refine (works_calls _).mono ?_
          rintro e w6 ⟨rfl, b6⟩
          go_wp2_with fail
          go_ret
          exact ⟨rfl, below_then HM6.out.old HM6.out.old.size b6⟩
theorem mkeep_row (B : Option Addr) (c : Nat) (l : Ms) {w : World} (hr : RdC 5 w B l.length c (mcs l)) (C : Option Addr) (e : Nat) (th : Ms) (hs : RdC 5 w C th.length e (mcs th)) :
    Calls Try.prog 6 #[.slice B l.length c, .slice C th.length e] w fun e w' => e = .returned (.bool true) ∧ Below w.heap.size w w' := mkeep_calls B C _ c _ e l th w hr hs
end Go.Proofs.Ytgmoodcojpbbdaa

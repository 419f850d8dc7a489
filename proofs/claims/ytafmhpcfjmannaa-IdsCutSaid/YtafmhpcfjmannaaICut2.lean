import Derived.Test.YtafmhpcfjmannaaICut
set_option linter.unusedVariables false
set_option linter.unusedSimpArgs false
namespace Go.Proofs.Ytafmhpcfjmannaa
open Go.RowKit

set_option maxRecDepth 100000 in
set_option maxHeartbeats 8000000 in
theorem icut_calls (A : Option Addr) (c : Nat) (ops : List OpI) (f lg ct : Nat) (w : World) (ho : RdO w A c ops) (hf : f < 4294967296) (hlg : lg < 4294967296) (hct : ct < 4294967296) :
    Calls Try.prog 4 #[.slice A ops.length c, .int .u32 f, .int .u32 lg, .int .u32 ct] w fun e w' => e = .returned (.bool true) ∧ Below w.heap.size w w' := by
  have HO := Lib.hid ho.1
  have HOK := Lib.hid ho.2
  have hlc := ho.1.2.1
  have hmx := ho.1.2.2.1
  obtain ⟨N, hN⟩ : ∃ N, ops.length = N := ⟨_, rfl⟩
  rw [hN] at HO hlc ⊢
  have HN := Lib.hid hN
  clear ho hN
  cases hv : vastL ops with
  | true =>
    have HV := Lib.hid hv
    clear hv
    go_enter Try.func4, Try.ntmps4
    go_wp2_with fail
    refine (vast_any A N c ops HV.out _ HO.out).mono ?_
    rintro e w1 ⟨rfl, rfl⟩
    go_wp2_with fail
    refine (works_calls _).mono ?_
    rintro e w2 ⟨rfl, b2⟩
    have B2 := Lib.hid b2
    clear b2
    go_wp2_with fail
    go_ret
    exact ⟨rfl, B2.out⟩
  | false =>
    have HV := Lib.hid hv
    clear hv
    go_enter Try.func4, Try.ntmps4
    go_wp2_with fail
    refine (vast_any A N c ops HV.out _ HO.out).mono ?_
    rintro e w1 ⟨rfl, rfl⟩
    go_wp2_with fail
    refine (if_new w w (Below.refl _ _)).mono ?_
    rintro e w1 ⟨rfl, m1, -⟩
    have M1 := Lib.hid m1
    clear m1
    obtain ⟨a, ha⟩ : ∃ a, w.heap.size + 1 = a := ⟨_, rfl⟩
    rw [ha] at M1 ⊢
    clear ha
    go_wp2_with fail
    go_loopw [10] (fun i wr => ∃ (q : Nat) (F : List Nat) (es : Is), q ≤ N ∧ i = .int .i64 q ∧ IkF w wr a F es) (fun i _ => N - (intOf i).toNat)
    case atStart => exact ⟨0, _, _, by omega, rfl, M1.out⟩
    case round =>
      obtain ⟨q, F, es, hq, rfl, hm⟩ := hrel
      have HM := Lib.hid hm
      clear hm
      by_cases hqN : q < N
      · have hql : q < ops.length := by rw [HN.out]; exact hqN
        have hqN' : (q : Int) < N := by omega
        obtain ⟨b0, o0, e, g0, g1, g2, g3, g4⟩ := op_at (HO.out.below HM.out.old) q hql
        subst e
        have hok := HOK.out _ (List.getElem_mem hql)
        obtain ⟨d, hd⟩ : ∃ d, ops[q] = d := ⟨_, rfl⟩
        rw [hd] at g0 g1 g2 g3 g4 hok
        have HOKd := Lib.hid hok
        clear hd hok
        obtain ⟨x, es2, hdo⟩ : ∃ x es2, doI es d = (x, es2) := by
          cases h : doI es d with
          | mk x e2 => exact ⟨x, e2, rfl⟩
        have HDO := Lib.hid hdo
        clear hdo
        go_wp2_with fail
        refine (does_calls HM.out HOKd.out HDO.out).mono ?_
        rintro e w2 ⟨F2, lv, kw, rfl, -, -, m2, -, -, -, -⟩
        have M2 := Lib.hid m2
        clear m2 g0 g1 g2 g3 g4
        go_wp2_with fail
        exact ⟨⟨q + 1, F2, es2, by omega, by go_num, M2.out⟩, by simp [intOf]; omega⟩
      · obtain rfl : q = N := by omega
        clear hqN hq
        have HG := Lib.hid HM.out.good
        obtain ⟨n, hn⟩ : ∃ n, lg % 1073741824 = n := ⟨_, rfl⟩
        obtain ⟨k, hk⟩ : ∃ k, ct % (n + 1) = k := ⟨_, rfl⟩
        have hn1 : n < 1073741824 := by omega
        have hk1 : k ≤ n := by have := Nat.mod_lt ct (show 0 < n + 1 by omega); omega
        have en : (lg : Int) % 1073741824 = (n : Int) := by omega
        have ek : (ct : Int) % ((n : Int) + 1) = (k : Int) := by rw [← hk]; push_cast; rfl
        have hlnf : (n : Int) < 1073741824 := by omega
        clear hn hk
        go_wp2_with fail
        rw [en, ek]
        rw [show ((f : Int) + n) % 4294967296 = ((mod32 (f + n) : Nat) : Int) by unfold mod32; omega]
        obtain ⟨LA, hLA⟩ : ∃ LA, rangeI es f (mod32 (f + n)) = LA := ⟨_, rfl⟩
        obtain ⟨L2, hL2⟩ : ∃ L2, rangeI es f (mod32 (f + k)) = L2 := ⟨_, rfl⟩
        have hsA := range_small es HG.out f (mod32 (f + n))
        have hs2 := range_small es HG.out f (mod32 (f + k))
        rw [hLA] at hsA
        rw [hL2] at hs2
        have HLA := Lib.hid hLA
        have HL2 := Lib.hid hL2
        obtain ⟨na, hna⟩ : ∃ na, LA.length = na := ⟨_, rfl⟩
        obtain ⟨n2, hn2⟩ : ∃ n2, L2.length = n2 := ⟨_, rfl⟩
        rw [hna] at hsA
        rw [hn2] at hs2
        have HNA := Lib.hid hna
        have HN2 := Lib.hid hn2
        have hna512 := hsA.1
        have hn2512 := hs2.1
        have HXS := Lib.hid hsA.2
        clear hLA hL2 hna hn2 hsA hs2 en ek
        refine (if_range f (mod32 (f + n)) HM.out hf (mod32_lt _) HLA.out).mono ?_
        rintro e w5 ⟨v5, rfl, o5, m5, b5⟩
        obtain ⟨A5, c5, rfl, r5⟩ := o5.rd
        have M5 := Lib.hid m5
        have R5 := Lib.hid r5
        have hq5 := r5.2.1
        have hq5' := r5.2.2.1
        rw [HNA.out] at hq5 ⊢
        clear m5 o5 r5 b5
        go_wp2_with fail
        rw [show ((f : Int) + k) % 4294967296 = ((mod32 (f + k) : Nat) : Int) by unfold mod32; omega]
        refine (if_range f (mod32 (f + k)) M5.out hf (mod32_lt _) HL2.out).mono ?_
        rintro e w6 ⟨v6, rfl, o6, m6, b6⟩
        obtain ⟨A6, c6, rfl, r6⟩ := o6.rd
        have M6 := Lib.hid m6
        have R6 := Lib.hid r6
        have R56 := Lib.hid (R5.out.below b6)
        have hq6 := r6.2.1
        have hq6' := r6.2.2.1
        rw [HN2.out] at hq6 ⊢
        clear m6 o6 r6 b6
        by_cases hkn : k < n
        · have hkn' : (k : Int) < n := by omega
          obtain ⟨LB, hLB⟩ : ∃ LB, rangeI es (mod32 (f + k + 1)) (mod32 (f + n)) = LB := ⟨_, rfl⟩
          have hcut := cut_law es HG.out f n k hf hn1 hk1 L2 LB HL2.out (.inl ⟨hkn, hLB⟩)
          have hsB := (range_small es HG.out (mod32 (f + k + 1)) (mod32 (f + n))).1
          rw [HLA.out] at hcut
          rw [hLB] at hsB
          have HLB := Lib.hid hLB
          obtain ⟨nb, hnb⟩ : ∃ nb, LB.length = nb := ⟨_, rfl⟩
          have hsum := hcut.1
          rw [HNA.out, HN2.out, hnb] at hsum
          rw [hnb] at hsB
          have HNB := Lib.hid hnb
          have HCUT := Lib.hid hcut.2
          clear hcut hLB hnb hkn
          subst hsum
          go_wp2_with fail
          rw [show (((f : Int) + k) % 4294967296 + 1) % 4294967296 = ((mod32 (f + k + 1) : Nat) : Int) by unfold mod32; omega]
          rw [show ((f : Int) + n) % 4294967296 = ((mod32 (f + n) : Nat) : Int) by unfold mod32; omega]
          refine (if_range (mod32 (f + k + 1)) (mod32 (f + n)) M6.out (mod32_lt _) (mod32_lt _) HLB.out).mono ?_
          rintro e w7 ⟨v7, rfl, o7, m7, b7⟩
          obtain ⟨A7, c7, rfl, r7⟩ := o7.rd
          have M7 := Lib.hid m7
          have HRB := Lib.hid r7
          have HRA := Lib.hid (R56.out.below b7)
          have HR2 := Lib.hid (R6.out.below b7)
          have hq7 := r7.2.1
          have hq7' := r7.2.2.1
          rw [HNB.out] at hq7 ⊢
          clear m7 o7 r7 b7
          go_wp2_with fail
          go_loopw [16, 17, 18, 19, 20] (fun u16 _ _ _ _ wr => ∃ i : Nat, i ≤ (n2 + nb) ∧ u16 = .int .i64 i ∧ Below w7.heap.size w7 wr) (fun u16 _ _ _ _ _ => (n2 + nb) - (intOf u16).toNat)
          case atStart => exact ⟨0, by omega, rfl, Below.refl _ _⟩
          case round =>
            obtain ⟨i, hi, rfl, hbl⟩ := hrel
            have HBL := Lib.hid hbl
            clear hbl
            obtain ⟨wo, rfl⟩ : ∃ wo : World, wo = wr := ⟨_, rfl⟩
            by_cases hin : i < (n2 + nb)
            · have hin' : (i : Int) < (n2 + nb) := by omega
              have hil : i < LA.length := by rw [HNA.out]; exact hin
              obtain ⟨bA, oA, e, xA⟩ := num_at (HRA.out.below HBL.out) i hil
              subst e
              obtain ⟨x, hx⟩ : ∃ x, LA[i] = x := ⟨_, rfl⟩
              have hxm : x ∈ LA := by rw [← hx]; exact List.getElem_mem hil
              have hxs := HXS.out x hxm
              have HXC := Lib.hid (HCUT.out x hxm)
              rw [hx] at xA
              obtain ⟨lw, hlw⟩ : ∃ lw, decide (stp f x ≤ k) = lw := ⟨_, rfl⟩
              rw [hlw] at HXC
              have elw : decide (((x : Int) - (f : Int)) % 4294967296 ≤ (k : Int)) = lw := by
                rw [← hlw, decide_eq_decide]
                unfold stp
                omega
              have HX := Lib.hid hx
              clear hx hxm hlw
              cases lw
              · skip
                go_wp2_with fail
                go_loopw [18, 19] (fun u18 u19 wr => ∃ j : Nat, j ≤ n2 ∧ u19 = .int .i64 j ∧ u18 = .int .i64 (cntB (L2.take j) x false) ∧ Below wo.heap.size wo wr) (fun _ u19 _ => n2 - (intOf u19).toNat)
                case atStart => exact ⟨0, by omega, rfl, by simp [cntB], Below.refl _ _⟩
                case round =>
                  obtain ⟨j, hj, rfl, rfl, hb2⟩ := hrel
                  have HB2 := Lib.hid hb2
                  clear hb2
                  obtain ⟨wp, rfl⟩ : ∃ wp : World, wp = wr := ⟨_, rfl⟩
                  have HB3 := Lib.hid (below_then HBL.out HBL.out.size HB2.out)
                  have hcl := cntB_le (L2.take j) x false
                  have hcl2 : (L2.take j).length ≤ 512 := by have := HN2.out; simp; omega
                  by_cases hjn : j < n2
                  · have hjn' : (j : Int) < n2 := by omega
                    have hjl : j < L2.length := by rw [HN2.out]; exact hjn
                    obtain ⟨bB, oB, e, xB⟩ := num_at (HR2.out.below HB3.out) j hjl
                    subst e
                    obtain ⟨bC, oC, e, xC⟩ := num_at (HRA.out.below HB3.out) i hil
                    cases e
                    rw [HX.out] at xC
                    have hsucc := cntB_succ L2 x false j hjl
                    obtain ⟨y, hy⟩ : ∃ y, L2[j] = y := ⟨_, rfl⟩
                    rw [hy] at xB hsucc
                    have HSU := Lib.hid hsucc
                    obtain ⟨ct, hct⟩ : ∃ ct, cntB (L2.take j) x false = ct := ⟨_, rfl⟩
                    rw [hct] at hcl HSU ⊢
                    clear hy hsucc hct
                    by_cases hyx : y = x
                    · subst hyx
                      have HSU2 := Lib.hid (show cntB (L2.take (j + 1)) y false = ct + 0 by rw [HSU.out]; simp)
                      go_wp2_with fail
                      go_quiet (fail)
                      go_wp2_with fail
                      exact ⟨⟨j + 1, by omega, by go_num, by rw [HSU2.out]; go_num, bel_dn HB2.out _⟩, by simp [intOf]; omega⟩
                    · have eyx : ((y : Int) == (x : Int)) = false := by rw [ibeq]; exact decide_eq_false (by omega)
                      have HSU2 := Lib.hid (show cntB (L2.take (j + 1)) x false = ct by rw [HSU.out, if_neg (fun h => hyx h.1)]; rfl)
                      clear hyx
                      go_wp2_with fail
                      go_quiet (fail)
                      go_wp2_with fail
                      exact ⟨⟨j + 1, by omega, by go_num, by rw [HSU2.out], bel_dn HB2.out _⟩, by simp [intOf]; omega⟩
                  · obtain rfl : j = n2 := by omega
                    obtain ⟨cA, hcA⟩ : ∃ cA, cntB (L2.take j) x false = cA := ⟨_, rfl⟩
                    have HCA := Lib.hid (show cntB L2 x false = cA by rw [← hcA, ← HN2.out, List.take_length])
                    rw [hcA] at hcl ⊢
                    clear hcA
                    go_wp2_with fail
                    go_loopw [18, 20] (fun u18 u20 wr => ∃ j : Nat, j ≤ nb ∧ u20 = .int .i64 j ∧ u18 = .int .i64 (cA + cntB (LB.take j) x true : Nat) ∧ Below wo.heap.size wo wr) (fun _ u20 _ => nb - (intOf u20).toNat)
                    case atStart => exact ⟨0, by omega, rfl, by simp [cntB], HB2.out⟩
                    case round =>
                      obtain ⟨t, ht, rfl, rfl, hb4⟩ := hrel
                      have HB4 := Lib.hid hb4
                      clear hb4
                      have HB5 := Lib.hid (below_then HBL.out HBL.out.size HB4.out)
                      have hdl := cntB_le (LB.take t) x true
                      have hdl2 : (LB.take t).length ≤ 512 := by have := HNB.out; simp; omega
                      by_cases htn : t < nb
                      · have htn' : (t : Int) < nb := by omega
                        have htl : t < LB.length := by rw [HNB.out]; exact htn
                        obtain ⟨bB, oB, e, xB⟩ := num_at (HRB.out.below HB5.out) t htl
                        subst e
                        obtain ⟨bC, oC, e, xC⟩ := num_at (HRA.out.below HB5.out) i hil
                        cases e
                        rw [HX.out] at xC
                        have hsucc := cntB_succ LB x true t htl
                        obtain ⟨y, hy⟩ : ∃ y, LB[t] = y := ⟨_, rfl⟩
                        rw [hy] at xB hsucc
                        have HSU := Lib.hid hsucc
                        obtain ⟨ct, hct⟩ : ∃ ct, cntB (LB.take t) x true = ct := ⟨_, rfl⟩
                        rw [hct] at hdl HSU ⊢
                        clear hy hsucc hct
                        by_cases hyx : y = x
                        · subst hyx
                          have HSU2 := Lib.hid (show cntB (LB.take (t + 1)) y true = ct + 1 by rw [HSU.out]; simp)
                          go_wp2_with fail
                          go_quiet (fail)
                          go_wp2_with fail
                          exact ⟨⟨t + 1, by omega, by go_num, by first | (rw [HSU2.out]; go_num) | rw [HSU2.out], bel_dn HB4.out _⟩, by simp [intOf]; omega⟩
                        · have eyx : ((y : Int) == (x : Int)) = false := by rw [ibeq]; exact decide_eq_false (by omega)
                          have HSU2 := Lib.hid (show cntB (LB.take (t + 1)) x true = ct by rw [HSU.out, if_neg (fun h => hyx h.1)]; rfl)
                          clear hyx
                          go_wp2_with fail
                          go_quiet (fail)
                          go_wp2_with fail
                          exact ⟨⟨t + 1, by omega, by go_num, by first | (rw [HSU2.out]; go_num) | rw [HSU2.out], bel_dn HB4.out _⟩, by simp [intOf]; omega⟩
                      · obtain rfl : t = nb := by omega
                        have hone : cA + cntB (LB.take t) x true = 1 := by
                          have h1 := HXC.out
                          rw [HCA.out] at h1
                          rw [← HNB.out, List.take_length]
                          exact h1
                        rw [hone]
                        clear hone hdl hdl2
                        go_wp2_with fail
                        exact ⟨⟨i + 1, by omega, by go_num, HB5.out⟩, by simp [intOf]; omega⟩
              · skip
                go_wp2_with fail
                go_loopw [18, 19] (fun u18 u19 wr => ∃ j : Nat, j ≤ n2 ∧ u19 = .int .i64 j ∧ u18 = .int .i64 (cntB (L2.take j) x true) ∧ Below wo.heap.size wo wr) (fun _ u19 _ => n2 - (intOf u19).toNat)
                case atStart => exact ⟨0, by omega, rfl, by simp [cntB], Below.refl _ _⟩
                case round =>
                  obtain ⟨j, hj, rfl, rfl, hb2⟩ := hrel
                  have HB2 := Lib.hid hb2
                  clear hb2
                  obtain ⟨wp, rfl⟩ : ∃ wp : World, wp = wr := ⟨_, rfl⟩
                  have HB3 := Lib.hid (below_then HBL.out HBL.out.size HB2.out)
                  have hcl := cntB_le (L2.take j) x true
                  have hcl2 : (L2.take j).length ≤ 512 := by have := HN2.out; simp; omega
                  by_cases hjn : j < n2
                  · have hjn' : (j : Int) < n2 := by omega
                    have hjl : j < L2.length := by rw [HN2.out]; exact hjn
                    obtain ⟨bB, oB, e, xB⟩ := num_at (HR2.out.below HB3.out) j hjl
                    subst e
                    obtain ⟨bC, oC, e, xC⟩ := num_at (HRA.out.below HB3.out) i hil
                    cases e
                    rw [HX.out] at xC
                    have hsucc := cntB_succ L2 x true j hjl
                    obtain ⟨y, hy⟩ : ∃ y, L2[j] = y := ⟨_, rfl⟩
                    rw [hy] at xB hsucc
                    have HSU := Lib.hid hsucc
                    obtain ⟨ct, hct⟩ : ∃ ct, cntB (L2.take j) x true = ct := ⟨_, rfl⟩
                    rw [hct] at hcl HSU ⊢
                    clear hy hsucc hct
                    by_cases hyx : y = x
                    · subst hyx
                      have HSU2 := Lib.hid (show cntB (L2.take (j + 1)) y true = ct + 1 by rw [HSU.out]; simp)
                      go_wp2_with fail
                      go_quiet (fail)
                      go_wp2_with fail
                      exact ⟨⟨j + 1, by omega, by go_num, by rw [HSU2.out]; go_num, bel_dn HB2.out _⟩, by simp [intOf]; omega⟩
                    · have eyx : ((y : Int) == (x : Int)) = false := by rw [ibeq]; exact decide_eq_false (by omega)
                      have HSU2 := Lib.hid (show cntB (L2.take (j + 1)) x true = ct by rw [HSU.out, if_neg (fun h => hyx h.1)]; rfl)
                      clear hyx
                      go_wp2_with fail
                      go_quiet (fail)
                      go_wp2_with fail
                      exact ⟨⟨j + 1, by omega, by go_num, by rw [HSU2.out], bel_dn HB2.out _⟩, by simp [intOf]; omega⟩
                  · obtain rfl : j = n2 := by omega
                    obtain ⟨cA, hcA⟩ : ∃ cA, cntB (L2.take j) x true = cA := ⟨_, rfl⟩
                    have HCA := Lib.hid (show cntB L2 x true = cA by rw [← hcA, ← HN2.out, List.take_length])
                    rw [hcA] at hcl ⊢
                    clear hcA
                    go_wp2_with fail
                    go_loopw [18, 20] (fun u18 u20 wr => ∃ j : Nat, j ≤ nb ∧ u20 = .int .i64 j ∧ u18 = .int .i64 (cA + cntB (LB.take j) x false : Nat) ∧ Below wo.heap.size wo wr) (fun _ u20 _ => nb - (intOf u20).toNat)
                    case atStart => exact ⟨0, by omega, rfl, by simp [cntB], HB2.out⟩
                    case round =>
                      obtain ⟨t, ht, rfl, rfl, hb4⟩ := hrel
                      have HB4 := Lib.hid hb4
                      clear hb4
                      have HB5 := Lib.hid (below_then HBL.out HBL.out.size HB4.out)
                      have hdl := cntB_le (LB.take t) x false
                      have hdl2 : (LB.take t).length ≤ 512 := by have := HNB.out; simp; omega
                      by_cases htn : t < nb
                      · have htn' : (t : Int) < nb := by omega
                        have htl : t < LB.length := by rw [HNB.out]; exact htn
                        obtain ⟨bB, oB, e, xB⟩ := num_at (HRB.out.below HB5.out) t htl
                        subst e
                        obtain ⟨bC, oC, e, xC⟩ := num_at (HRA.out.below HB5.out) i hil
                        cases e
                        rw [HX.out] at xC
                        have hsucc := cntB_succ LB x false t htl
                        obtain ⟨y, hy⟩ : ∃ y, LB[t] = y := ⟨_, rfl⟩
                        rw [hy] at xB hsucc
                        have HSU := Lib.hid hsucc
                        obtain ⟨ct, hct⟩ : ∃ ct, cntB (LB.take t) x false = ct := ⟨_, rfl⟩
                        rw [hct] at hdl HSU ⊢
                        clear hy hsucc hct
                        by_cases hyx : y = x
                        · subst hyx
                          have HSU2 := Lib.hid (show cntB (LB.take (t + 1)) y false = ct + 0 by rw [HSU.out]; simp)
                          go_wp2_with fail
                          go_quiet (fail)
                          go_wp2_with fail
                          exact ⟨⟨t + 1, by omega, by go_num, by first | (rw [HSU2.out]; go_num) | rw [HSU2.out], bel_dn HB4.out _⟩, by simp [intOf]; omega⟩
                        · have eyx : ((y : Int) == (x : Int)) = false := by rw [ibeq]; exact decide_eq_false (by omega)
                          have HSU2 := Lib.hid (show cntB (LB.take (t + 1)) x false = ct by rw [HSU.out, if_neg (fun h => hyx h.1)]; rfl)
                          clear hyx
                          go_wp2_with fail
                          go_quiet (fail)
                          go_wp2_with fail
                          exact ⟨⟨t + 1, by omega, by go_num, by first | (rw [HSU2.out]; go_num) | rw [HSU2.out], bel_dn HB4.out _⟩, by simp [intOf]; omega⟩
                      · obtain rfl : t = nb := by omega
                        have hone : cA + cntB (LB.take t) x false = 1 := by
                          have h1 := HXC.out
                          rw [HCA.out] at h1
                          rw [← HNB.out, List.take_length]
                          exact h1
                        rw [hone]
                        clear hone hdl hdl2
                        go_wp2_with fail
                        exact ⟨⟨i + 1, by omega, by go_num, HB5.out⟩, by simp [intOf]; omega⟩
            · have hie : i = n2 + nb := by omega
              subst hie
              have ML := Lib.hid (M7.out.below HBL.out)
              rcases one_law es HG.out f hf with ⟨kx, hgx, hrx⟩ | ⟨kx, hgx, hrx⟩
              · have HGX := Lib.hid hgx
                have HRX := Lib.hid hrx
                clear hgx hrx
                go_wp2_with fail
                refine (if_get f ML.out HGX.out).mono ?_
                rintro e w8 ⟨rfl, m8, b8⟩
                have M8 := Lib.hid (m8.below (below_alloc w8 (.cells #[.int .i64 kx.h, .string ⟨kx.t.toArray⟩] 38)))
                clear m8 b8
                simp only
                go_wp2_with fail
                refine (if_range f f M8.out hf hf HRX.out).mono ?_
                rintro e w9 ⟨v9, rfl, o9, m9, -⟩
                have M9 := Lib.hid m9
                unfold OwnN at o9
                obtain ⟨g9, cp9, rfl, _, hg91, hg92⟩ := o9.form (by simp)
                have x9 := (o9.cell_at 0 (uv f) (by rfl)).1
                unfold uv at x9
                simp only [List.length_cons, List.length_nil, Nat.zero_add]
                clear m9 o9
                go_wp2_with fail
                rw [show ((f : Int) + 1) % 4294967296 = ((mod32 (f + 1) : Nat) : Int) by unfold mod32; omega]
                refine (if_range (mod32 (f + 1)) f M9.out (mod32_lt _) hf (none_law es f hf)).mono ?_
                rintro e w10 ⟨v10, rfl, o10, m10, -⟩
                obtain ⟨A10, c10, rfl⟩ := OwnC.slice o10
                have M10 := Lib.hid m10
                simp only [List.length_nil]
                clear m10 o10 x9 hg91
                go_wp2_with fail
                refine (works_calls _).mono ?_
                rintro e w11 ⟨rfl, b11⟩
                have B11 := Lib.hid (below_then M10.out.old M10.out.old.size b11)
                clear b11
                go_wp2_with fail
                go_ret
                exact ⟨rfl, B11.out⟩
              · have HGX := Lib.hid hgx
                have HRX := Lib.hid hrx
                clear hgx hrx
                go_wp2_with fail
                refine (if_get f ML.out HGX.out).mono ?_
                rintro e w8 ⟨rfl, m8, b8⟩
                have M8 := Lib.hid (m8.below (below_alloc w8 (.cells #[.int .i64 kx.h, .string ⟨kx.t.toArray⟩] 38)))
                clear m8 b8
                simp only
                go_wp2_with fail
                refine (if_range f f M8.out hf hf HRX.out).mono ?_
                rintro e w9 ⟨v9, rfl, o9, m9, -⟩
                have M9 := Lib.hid m9
                obtain ⟨A9, c9, rfl⟩ := OwnC.slice o9
                simp only [List.length_nil]
                clear m9 o9
                go_wp2_with fail
                rw [show ((f : Int) + 1) % 4294967296 = ((mod32 (f + 1) : Nat) : Int) by unfold mod32; omega]
                refine (if_range (mod32 (f + 1)) f M9.out (mod32_lt _) hf (none_law es f hf)).mono ?_
                rintro e w10 ⟨v10, rfl, o10, m10, -⟩
                obtain ⟨A10, c10, rfl⟩ := OwnC.slice o10
                have M10 := Lib.hid m10
                simp only [List.length_nil]
                clear m10 o10
                go_wp2_with fail
                refine (works_calls _).mono ?_
                rintro e w11 ⟨rfl, b11⟩
                have B11 := Lib.hid (below_then M10.out.old M10.out.old.size b11)
                clear b11
                go_wp2_with fail
                go_ret
                exact ⟨rfl, B11.out⟩
        · obtain rfl : k = n := by omega
          have hcut := cut_law es HG.out f k k hf hn1 hk1 L2 [] HL2.out (.inr ⟨rfl, rfl⟩)
          rw [HLA.out] at hcut
          have hsum := hcut.1
          rw [HNA.out, HN2.out] at hsum
          simp only [List.length_nil, Nat.add_zero] at hsum
          obtain ⟨LB, hLB⟩ : ∃ LB : List Nat, ([] : List Nat) = LB := ⟨_, rfl⟩
          rw [hLB] at hcut
          obtain ⟨nb, hnb⟩ : ∃ nb, nb = 0 := ⟨_, rfl⟩
          have HNB := Lib.hid (show LB.length = nb by rw [← hLB, hnb]; rfl)
          have hsB : nb ≤ 512 := by omega
          have HCUT := Lib.hid hcut.2
          obtain ⟨AB, hAB⟩ : ∃ AB : Option Addr, AB = none := ⟨_, rfl⟩
          have HRB := Lib.hid (show RdC 1 w6 AB nb 0 (LB.map uv) by rw [← hLB, hnb, hAB]; exact ⟨rfl, by decide, by decide, fun _ => ⟨rfl, rfl⟩, by simp, fun ad ha => by cases ha⟩)
          have M7 := M6
          have HRA := R56
          have HR2 := R6
          obtain ⟨w7, hw7⟩ : ∃ w7, w7 = w6 := ⟨_, rfl⟩
          subst hw7
          clear hcut hLB hkn
          obtain rfl : n2 = na := hsum.symm
          go_wp2_with fail
          rw [show (Value.slice none 0 0) = Value.slice AB nb 0 by rw [hnb, hAB]]
          clear hnb hAB
          go_loopw [16, 17, 18, 19, 20] (fun u16 _ _ _ _ wr => ∃ i : Nat, i ≤ n2 ∧ u16 = .int .i64 i ∧ Below w7.heap.size w7 wr) (fun u16 _ _ _ _ _ => n2 - (intOf u16).toNat)
          case atStart => exact ⟨0, by omega, rfl, Below.refl _ _⟩
          case round =>
            obtain ⟨i, hi, rfl, hbl⟩ := hrel
            have HBL := Lib.hid hbl
            clear hbl
            obtain ⟨wo, rfl⟩ : ∃ wo : World, wo = wr := ⟨_, rfl⟩
            by_cases hin : i < n2
            · have hin' : (i : Int) < n2 := by omega
              have hil : i < LA.length := by rw [HNA.out]; exact hin
              obtain ⟨bA, oA, e, xA⟩ := num_at (HRA.out.below HBL.out) i hil
              subst e
              obtain ⟨x, hx⟩ : ∃ x, LA[i] = x := ⟨_, rfl⟩
              have hxm : x ∈ LA := by rw [← hx]; exact List.getElem_mem hil
              have hxs := HXS.out x hxm
              have HXC := Lib.hid (HCUT.out x hxm)
              rw [hx] at xA
              obtain ⟨lw, hlw⟩ : ∃ lw, decide (stp f x ≤ k) = lw := ⟨_, rfl⟩
              rw [hlw] at HXC
              have elw : decide (((x : Int) - (f : Int)) % 4294967296 ≤ (k : Int)) = lw := by
                rw [← hlw, decide_eq_decide]
                unfold stp
                omega
              have HX := Lib.hid hx
              clear hx hxm hlw
              cases lw
              · skip
                go_wp2_with fail
                go_loopw [18, 19] (fun u18 u19 wr => ∃ j : Nat, j ≤ n2 ∧ u19 = .int .i64 j ∧ u18 = .int .i64 (cntB (L2.take j) x false) ∧ Below wo.heap.size wo wr) (fun _ u19 _ => n2 - (intOf u19).toNat)
                case atStart => exact ⟨0, by omega, rfl, by simp [cntB], Below.refl _ _⟩
                case round =>
                  obtain ⟨j, hj, rfl, rfl, hb2⟩ := hrel
                  have HB2 := Lib.hid hb2
                  clear hb2
                  obtain ⟨wp, rfl⟩ : ∃ wp : World, wp = wr := ⟨_, rfl⟩
                  have HB3 := Lib.hid (below_then HBL.out HBL.out.size HB2.out)
                  have hcl := cntB_le (L2.take j) x false
                  have hcl2 : (L2.take j).length ≤ 512 := by have := HN2.out; simp; omega
                  by_cases hjn : j < n2
                  · have hjn' : (j : Int) < n2 := by omega
                    have hjl : j < L2.length := by rw [HN2.out]; exact hjn
                    obtain ⟨bB, oB, e, xB⟩ := num_at (HR2.out.below HB3.out) j hjl
                    subst e
                    obtain ⟨bC, oC, e, xC⟩ := num_at (HRA.out.below HB3.out) i hil
                    cases e
                    rw [HX.out] at xC
                    have hsucc := cntB_succ L2 x false j hjl
                    obtain ⟨y, hy⟩ : ∃ y, L2[j] = y := ⟨_, rfl⟩
                    rw [hy] at xB hsucc
                    have HSU := Lib.hid hsucc
                    obtain ⟨ct, hct⟩ : ∃ ct, cntB (L2.take j) x false = ct := ⟨_, rfl⟩
                    rw [hct] at hcl HSU ⊢
                    clear hy hsucc hct
                    by_cases hyx : y = x
                    · subst hyx
                      have HSU2 := Lib.hid (show cntB (L2.take (j + 1)) y false = ct + 0 by rw [HSU.out]; simp)
                      go_wp2_with fail
                      go_quiet (fail)
                      go_wp2_with fail
                      exact ⟨⟨j + 1, by omega, by go_num, by rw [HSU2.out]; go_num, bel_dn HB2.out _⟩, by simp [intOf]; omega⟩
                    · have eyx : ((y : Int) == (x : Int)) = false := by rw [ibeq]; exact decide_eq_false (by omega)
                      have HSU2 := Lib.hid (show cntB (L2.take (j + 1)) x false = ct by rw [HSU.out, if_neg (fun h => hyx h.1)]; rfl)
                      clear hyx
                      go_wp2_with fail
                      go_quiet (fail)
                      go_wp2_with fail
                      exact ⟨⟨j + 1, by omega, by go_num, by rw [HSU2.out], bel_dn HB2.out _⟩, by simp [intOf]; omega⟩
                  · obtain rfl : j = n2 := by omega
                    obtain ⟨cA, hcA⟩ : ∃ cA, cntB (L2.take j) x false = cA := ⟨_, rfl⟩
                    have HCA := Lib.hid (show cntB L2 x false = cA by rw [← hcA, ← HN2.out, List.take_length])
                    rw [hcA] at hcl ⊢
                    clear hcA
                    go_wp2_with fail
                    go_loopw [18, 20] (fun u18 u20 wr => ∃ j : Nat, j ≤ nb ∧ u20 = .int .i64 j ∧ u18 = .int .i64 (cA + cntB (LB.take j) x true : Nat) ∧ Below wo.heap.size wo wr) (fun _ u20 _ => nb - (intOf u20).toNat)
                    case atStart => exact ⟨0, by omega, rfl, by simp [cntB], HB2.out⟩
                    case round =>
                      obtain ⟨t, ht, rfl, rfl, hb4⟩ := hrel
                      have HB4 := Lib.hid hb4
                      clear hb4
                      have HB5 := Lib.hid (below_then HBL.out HBL.out.size HB4.out)
                      have hdl := cntB_le (LB.take t) x true
                      have hdl2 : (LB.take t).length ≤ 512 := by have := HNB.out; simp; omega
                      by_cases htn : t < nb
                      · have htn' : (t : Int) < nb := by omega
                        have htl : t < LB.length := by rw [HNB.out]; exact htn
                        obtain ⟨bB, oB, e, xB⟩ := num_at (HRB.out.below HB5.out) t htl
                        subst e
                        obtain ⟨bC, oC, e, xC⟩ := num_at (HRA.out.below HB5.out) i hil
                        cases e
                        rw [HX.out] at xC
                        have hsucc := cntB_succ LB x true t htl
                        obtain ⟨y, hy⟩ : ∃ y, LB[t] = y := ⟨_, rfl⟩
                        rw [hy] at xB hsucc
                        have HSU := Lib.hid hsucc
                        obtain ⟨ct, hct⟩ : ∃ ct, cntB (LB.take t) x true = ct := ⟨_, rfl⟩
                        rw [hct] at hdl HSU ⊢
                        clear hy hsucc hct
                        by_cases hyx : y = x
                        · subst hyx
                          have HSU2 := Lib.hid (show cntB (LB.take (t + 1)) y true = ct + 1 by rw [HSU.out]; simp)
                          go_wp2_with fail
                          go_quiet (fail)
                          go_wp2_with fail
                          exact ⟨⟨t + 1, by omega, by go_num, by first | (rw [HSU2.out]; go_num) | rw [HSU2.out], bel_dn HB4.out _⟩, by simp [intOf]; omega⟩
                        · have eyx : ((y : Int) == (x : Int)) = false := by rw [ibeq]; exact decide_eq_false (by omega)
                          have HSU2 := Lib.hid (show cntB (LB.take (t + 1)) x true = ct by rw [HSU.out, if_neg (fun h => hyx h.1)]; rfl)
                          clear hyx
                          go_wp2_with fail
                          go_quiet (fail)
                          go_wp2_with fail
                          exact ⟨⟨t + 1, by omega, by go_num, by first | (rw [HSU2.out]; go_num) | rw [HSU2.out], bel_dn HB4.out _⟩, by simp [intOf]; omega⟩
                      · obtain rfl : t = nb := by omega
                        have hone : cA + cntB (LB.take t) x true = 1 := by
                          have h1 := HXC.out
                          rw [HCA.out] at h1
                          rw [← HNB.out, List.take_length]
                          exact h1
                        rw [hone]
                        clear hone hdl hdl2
                        go_wp2_with fail
                        exact ⟨⟨i + 1, by omega, by go_num, HB5.out⟩, by simp [intOf]; omega⟩
              · skip
                go_wp2_with fail
                go_loopw [18, 19] (fun u18 u19 wr => ∃ j : Nat, j ≤ n2 ∧ u19 = .int .i64 j ∧ u18 = .int .i64 (cntB (L2.take j) x true) ∧ Below wo.heap.size wo wr) (fun _ u19 _ => n2 - (intOf u19).toNat)
                case atStart => exact ⟨0, by omega, rfl, by simp [cntB], Below.refl _ _⟩
                case round =>
                  obtain ⟨j, hj, rfl, rfl, hb2⟩ := hrel
                  have HB2 := Lib.hid hb2
                  clear hb2
                  obtain ⟨wp, rfl⟩ : ∃ wp : World, wp = wr := ⟨_, rfl⟩
                  have HB3 := Lib.hid (below_then HBL.out HBL.out.size HB2.out)
                  have hcl := cntB_le (L2.take j) x true
                  have hcl2 : (L2.take j).length ≤ 512 := by have := HN2.out; simp; omega
                  by_cases hjn : j < n2
                  · have hjn' : (j : Int) < n2 := by omega
                    have hjl : j < L2.length := by rw [HN2.out]; exact hjn
                    obtain ⟨bB, oB, e, xB⟩ := num_at (HR2.out.below HB3.out) j hjl
                    subst e
                    obtain ⟨bC, oC, e, xC⟩ := num_at (HRA.out.below HB3.out) i hil
                    cases e
                    rw [HX.out] at xC
                    have hsucc := cntB_succ L2 x true j hjl
                    obtain ⟨y, hy⟩ : ∃ y, L2[j] = y := ⟨_, rfl⟩
                    rw [hy] at xB hsucc
                    have HSU := Lib.hid hsucc
                    obtain ⟨ct, hct⟩ : ∃ ct, cntB (L2.take j) x true = ct := ⟨_, rfl⟩
                    rw [hct] at hcl HSU ⊢
                    clear hy hsucc hct
                    by_cases hyx : y = x
                    · subst hyx
                      have HSU2 := Lib.hid (show cntB (L2.take (j + 1)) y true = ct + 1 by rw [HSU.out]; simp)
                      go_wp2_with fail
                      go_quiet (fail)
                      go_wp2_with fail
                      exact ⟨⟨j + 1, by omega, by go_num, by rw [HSU2.out]; go_num, bel_dn HB2.out _⟩, by simp [intOf]; omega⟩
                    · have eyx : ((y : Int) == (x : Int)) = false := by rw [ibeq]; exact decide_eq_false (by omega)
                      have HSU2 := Lib.hid (show cntB (L2.take (j + 1)) x true = ct by rw [HSU.out, if_neg (fun h => hyx h.1)]; rfl)
                      clear hyx
                      go_wp2_with fail
                      go_quiet (fail)
                      go_wp2_with fail
                      exact ⟨⟨j + 1, by omega, by go_num, by rw [HSU2.out], bel_dn HB2.out _⟩, by simp [intOf]; omega⟩
                  · obtain rfl : j = n2 := by omega
                    obtain ⟨cA, hcA⟩ : ∃ cA, cntB (L2.take j) x true = cA := ⟨_, rfl⟩
                    have HCA := Lib.hid (show cntB L2 x true = cA by rw [← hcA, ← HN2.out, List.take_length])
                    rw [hcA] at hcl ⊢
                    clear hcA
                    go_wp2_with fail
                    go_loopw [18, 20] (fun u18 u20 wr => ∃ j : Nat, j ≤ nb ∧ u20 = .int .i64 j ∧ u18 = .int .i64 (cA + cntB (LB.take j) x false : Nat) ∧ Below wo.heap.size wo wr) (fun _ u20 _ => nb - (intOf u20).toNat)
                    case atStart => exact ⟨0, by omega, rfl, by simp [cntB], HB2.out⟩
                    case round =>
                      obtain ⟨t, ht, rfl, rfl, hb4⟩ := hrel
                      have HB4 := Lib.hid hb4
                      clear hb4
                      have HB5 := Lib.hid (below_then HBL.out HBL.out.size HB4.out)
                      have hdl := cntB_le (LB.take t) x false
                      have hdl2 : (LB.take t).length ≤ 512 := by have := HNB.out; simp; omega
                      by_cases htn : t < nb
                      · have htn' : (t : Int) < nb := by omega
                        have htl : t < LB.length := by rw [HNB.out]; exact htn
                        obtain ⟨bB, oB, e, xB⟩ := num_at (HRB.out.below HB5.out) t htl
                        subst e
                        obtain ⟨bC, oC, e, xC⟩ := num_at (HRA.out.below HB5.out) i hil
                        cases e
                        rw [HX.out] at xC
                        have hsucc := cntB_succ LB x false t htl
                        obtain ⟨y, hy⟩ : ∃ y, LB[t] = y := ⟨_, rfl⟩
                        rw [hy] at xB hsucc
                        have HSU := Lib.hid hsucc
                        obtain ⟨ct, hct⟩ : ∃ ct, cntB (LB.take t) x false = ct := ⟨_, rfl⟩
                        rw [hct] at hdl HSU ⊢
                        clear hy hsucc hct
                        by_cases hyx : y = x
                        · subst hyx
                          have HSU2 := Lib.hid (show cntB (LB.take (t + 1)) y false = ct + 0 by rw [HSU.out]; simp)
                          go_wp2_with fail
                          go_quiet (fail)
                          go_wp2_with fail
                          exact ⟨⟨t + 1, by omega, by go_num, by first | (rw [HSU2.out]; go_num) | rw [HSU2.out], bel_dn HB4.out _⟩, by simp [intOf]; omega⟩
                        · have eyx : ((y : Int) == (x : Int)) = false := by rw [ibeq]; exact decide_eq_false (by omega)
                          have HSU2 := Lib.hid (show cntB (LB.take (t + 1)) x false = ct by rw [HSU.out, if_neg (fun h => hyx h.1)]; rfl)
                          clear hyx
                          go_wp2_with fail
                          go_quiet (fail)
                          go_wp2_with fail
                          exact ⟨⟨t + 1, by omega, by go_num, by first | (rw [HSU2.out]; go_num) | rw [HSU2.out], bel_dn HB4.out _⟩, by simp [intOf]; omega⟩
                      · obtain rfl : t = nb := by omega
                        have hone : cA + cntB (LB.take t) x false = 1 := by
                          have h1 := HXC.out
                          rw [HCA.out] at h1
                          rw [← HNB.out, List.take_length]
                          exact h1
                        rw [hone]
                        clear hone hdl hdl2
                        go_wp2_with fail
                        exact ⟨⟨i + 1, by omega, by go_num, HB5.out⟩, by simp [intOf]; omega⟩
            · obtain rfl : i = n2 := by omega
              have ML := Lib.hid (M7.out.below HBL.out)
              rcases one_law es HG.out f hf with ⟨kx, hgx, hrx⟩ | ⟨kx, hgx, hrx⟩
              · have HGX := Lib.hid hgx
                have HRX := Lib.hid hrx
                clear hgx hrx
                go_wp2_with fail
                refine (if_get f ML.out HGX.out).mono ?_
                rintro e w8 ⟨rfl, m8, b8⟩
                have M8 := Lib.hid (m8.below (below_alloc w8 (.cells #[.int .i64 kx.h, .string ⟨kx.t.toArray⟩] 38)))
                clear m8 b8
                simp only
                go_wp2_with fail
                refine (if_range f f M8.out hf hf HRX.out).mono ?_
                rintro e w9 ⟨v9, rfl, o9, m9, -⟩
                have M9 := Lib.hid m9
                unfold OwnN at o9
                obtain ⟨g9, cp9, rfl, _, hg91, hg92⟩ := o9.form (by simp)
                have x9 := (o9.cell_at 0 (uv f) (by rfl)).1
                unfold uv at x9
                simp only [List.length_cons, List.length_nil, Nat.zero_add]
                clear m9 o9
                go_wp2_with fail
                rw [show ((f : Int) + 1) % 4294967296 = ((mod32 (f + 1) : Nat) : Int) by unfold mod32; omega]
                refine (if_range (mod32 (f + 1)) f M9.out (mod32_lt _) hf (none_law es f hf)).mono ?_
                rintro e w10 ⟨v10, rfl, o10, m10, -⟩
                obtain ⟨A10, c10, rfl⟩ := OwnC.slice o10
                have M10 := Lib.hid m10
                simp only [List.length_nil]
                clear m10 o10 x9 hg91
                go_wp2_with fail
                refine (works_calls _).mono ?_
                rintro e w11 ⟨rfl, b11⟩
                have B11 := Lib.hid (below_then M10.out.old M10.out.old.size b11)
                clear b11
                go_wp2_with fail
                go_ret
                exact ⟨rfl, B11.out⟩
              · have HGX := Lib.hid hgx
                have HRX := Lib.hid hrx
                clear hgx hrx
                go_wp2_with fail
                refine (if_get f ML.out HGX.out).mono ?_
                rintro e w8 ⟨rfl, m8, b8⟩
                have M8 := Lib.hid (m8.below (below_alloc w8 (.cells #[.int .i64 kx.h, .string ⟨kx.t.toArray⟩] 38)))
                clear m8 b8
                simp only
                go_wp2_with fail
                refine (if_range f f M8.out hf hf HRX.out).mono ?_
                rintro e w9 ⟨v9, rfl, o9, m9, -⟩
                have M9 := Lib.hid m9
                obtain ⟨A9, c9, rfl⟩ := OwnC.slice o9
                simp only [List.length_nil]
                clear m9 o9
                go_wp2_with fail
                rw [show ((f : Int) + 1) % 4294967296 = ((mod32 (f + 1) : Nat) : Int) by unfold mod32; omega]
                refine (if_range (mod32 (f + 1)) f M9.out (mod32_lt _) hf (none_law es f hf)).mono ?_
                rintro e w10 ⟨v10, rfl, o10, m10, -⟩
                obtain ⟨A10, c10, rfl⟩ := OwnC.slice o10
                have M10 := Lib.hid m10
                simp only [List.length_nil]
                clear m10 o10
                go_wp2_with fail
                refine (works_calls _).mono ?_
                rintro e w11 ⟨rfl, b11⟩
                have B11 := Lib.hid (below_then M10.out.old M10.out.old.size b11)
                clear b11
                go_wp2_with fail
                go_ret
                exact ⟨rfl, B11.out⟩
theorem icut_row {w : World} (A : Option Addr) (c : Nat) (ops : List OpI) (ho : RdO w A c ops) (x y z : Int) (hx : (Lit.int .u32 x).wf = true) (hy : (Lit.int .u32 y).wf = true) (hz : (Lit.int .u32 z).wf = true) :
    Calls Try.prog 4 #[.slice A ops.length c, .int .u32 x, .int .u32 y, .int .u32 z] w fun e w' => e = .returned (.bool true) ∧ Below w.heap.size w w' := by
  have h1 := wf_u32 hx
  have h2 := wf_u32 hy
  have h3 := wf_u32 hz
  obtain ⟨a, rfl⟩ : ∃ a : Nat, x = a := ⟨x.toNat, by omega⟩
  obtain ⟨b, rfl⟩ : ∃ b : Nat, y = b := ⟨y.toNat, by omega⟩
  obtain ⟨d, rfl⟩ : ∃ d : Nat, z = d := ⟨z.toNat, by omega⟩
  exact icut_calls A c ops a b d w ho (by omega) (by omega) (by omega)
end Go.Proofs.Ytafmhpcfjmannaa

import Derived.Test.YtmeljnohkhkfmaaSoon
set_option linter.unusedVariables false
set_option linter.unusedSimpArgs false
namespace Go.Proofs.Ytmeljnohkhkfmaa
open Go.RowKit

set_option maxHeartbeats 800000 in
theorem isoon_big (A : Option Addr) (c : Nat) (n : Nat) (w : World) (hb : 12 < n) :
    Calls Try.prog 8 #[.slice A n c] w fun e w' => e = .returned (.bool true) ∧ Below w.heap.size w w' := by
  go_enter Try.func8, Try.ntmps8
  go_wp2_with fail
  refine (works_calls _).mono ?_
  rintro e w1 ⟨rfl, h1⟩
  have H1 := Lib.hid h1
  clear h1
  go_wp2_with fail
  go_ret
  exact ⟨rfl, H1.out⟩

set_option maxRecDepth 100000 in
set_option maxHeartbeats 4000000 in
theorem isoon_calls (A : Option Addr) (c : Nat) (fs : List FrameAt) (w : World) (h : Frs w A c fs) (hb : fs.length ≤ 12) :
    Calls Try.prog 8 #[.slice A fs.length c] w fun e w' => e = .returned (.bool true) ∧ Below w.heap.size w w' := by
  have HF := Lib.hid h
  have hlc := h.le
  have hmx := h.max
  obtain ⟨N, hN⟩ : ∃ N, fs.length = N := ⟨_, rfl⟩
  rw [hN] at hb hlc ⊢
  have HN := Lib.hid hN
  clear h hN
  go_enter Try.func8, Try.ntmps8
  go_wp2_with fail
  refine (if_new w w (Below.refl _ _) 1024 (by decide) (by decide)).mono ?_
  rintro e w1 ⟨rfl, m1, b1⟩
  have M1 := Lib.hid m1
  obtain ⟨a, ha⟩ : ∃ a, w.heap.size = a := ⟨_, rfl⟩
  have HA := Lib.hid ha
  have ha1 : a < w1.heap.size := by rw [← ha]; exact m1.is.lt
  rw [ha] at M1 ⊢
  clear m1 b1 ha
  go_wp2_with fail
  refine (istart_calls _).mono ?_
  rintro e w2 ⟨rfl, o2, b2⟩
  have M2 := Lib.hid (M1.out.below b2)
  have HS2 := Lib.hid (OwnB.lt o2 _ rfl)
  have R2 := Lib.hid (show RwsO (w2.alloc (.cells #[.slice (some ⟨w1.heap.size, 0, none⟩) 8 8] 24)) (a + 1) (.slice (some ⟨w2.heap.size, 0, none⟩) 1 1) [stB] by
    obtain ⟨A, c, e, hr⟩ := o2.rd
    cases e
    have := HS2.out
    exact RwsO.one hr (by omega) ⟨_, rfl, by show a + 1 ≤ w1.heap.size; omega, this.2⟩)
  clear o2 b2 M1
  go_wp2_with fail
  go_loopw [5, 6] (fun v i wr => ∃ q : Nat, q ≤ N ∧ i = .int .i64 q ∧ RwsO wr (a + 1) v (soonR (fs.take q)) ∧ InF w wr a [a] 1024 [] 0 ∧ Hid (∀ j (hj : j < fs.length), j < q → (fs[j]).l.length ≤ 200)) (fun _ i _ => N - (intOf i).toNat)
  case atStart => exact ⟨0, by omega, rfl, R2.out, M2.out.below (below_alloc w2 _), Lib.hid (fun j _ hj => by omega)⟩
  case round =>
    obtain ⟨q, hq, rfl, hr, hm, HS⟩ := hrel
    have R := Lib.hid hr
    have M := Lib.hid hm
    clear hr hm
    by_cases hqN : q < N
    · obtain ⟨b0, o0, rfl, g1, g2, g3, g4⟩ := (HF.out.below M.out.old).at_ q (by rw [HN.out]; exact hqN)
      obtain ⟨f, hf⟩ : ∃ f, fs[q]'(by rw [HN.out]; exact hqN) = f := ⟨_, rfl⟩
      have HT := Lib.hid (soonR_take fs q (by rw [HN.out]; exact hqN))
      rw [hf] at g1 g2 g3 g4 HT
      have HFk := Lib.hid hf
      have RB := Lib.hid g4
      have hqN' : (q : Int) < N := by omega
      clear hf g4
      by_cases h5 : f.l.length ≤ 200
      · go_wp2_with fail
        refine (write_calls f.A f.c f.l f.ch _ RB.out (by omega) g3).mono ?_
        rintro e w3 ⟨v3, sp, rfl, o3, b3⟩
        have hfl : (fw f.ch f.l).length = 8 + f.l.length := fw_length _ _
        obtain ⟨A3, c3, rfl, r3, hfar⟩ := o3.far (by omega)
        have R3 := Lib.hid r3
        have B3 := Lib.hid b3
        have HFAR := Lib.hid hfar
        obtain ⟨L3, hL3⟩ : ∃ L3, fw f.ch f.l = L3 := ⟨_, rfl⟩
        rw [hL3] at R3 HT ⊢
        obtain ⟨z3, hz3⟩ : ∃ z3, L3.length = z3 := ⟨_, rfl⟩
        have HZ3 := Lib.hid hz3
        have HTL := Lib.hid (show (soonR (fs.take q)).length ≤ 1000 by rw [soonR_len, List.length_take, HN.out]; omega)
        rw [hz3]
        clear o3 r3 b3 g1 g2 hfar hL3 hfl hz3
        go_wp2_with (at_builtin; refine wpList_appR rfl _ _ rfl (w3.alloc (.cells #[.slice A3 z3 c3] 24)) (a + 1) u5 (soonR (fs.take q)) rfl ((R.out.below B3.out).below (below_alloc w3 _)) w3.heap.size A3 c3 L3 rfl ?hc (R3.out.below (below_alloc w3 _)) ?hfar HTL.out ?hbase ?_)
        case hc => rw [HZ3.out]; go_simp
        case hfar =>
          obtain ⟨ad, e1, e2, e3⟩ := HFAR.out
          have := M.out.is.lt
          exact ⟨ad, e1, by omega, by simp; omega, fun e => by have := R.out.lt _ e; omega⟩
        case hbase => have := M.out.is.lt; have := B3.out.size; simp; omega
        intro v4 w4 r4 b4
        rw [← HT.out] at r4
        have R4 := Lib.hid r4
        have M4 := Lib.hid (show InF w w4 a [a] 1024 [] 0 from ((M.out.below B3.out).below (below_alloc w3 (.cells #[.slice A3 z3 c3] 24))).belowB b4 (by rw [HA.out]; omega) (by simp))
        clear r4 b4
        go_wp2_with fail
        exact ⟨⟨q + 1, by omega, by go_num, R4.out, M4.out, Lib.hid (fun j hj hjk => by
          by_cases hjk' : j < q
          · exact HS.out j hj hjk'
          · obtain rfl : j = q := by omega
            rw [HFk.out]; exact h5)⟩, by simp [intOf]; omega⟩
      · go_wp2_with fail
        refine (works_calls _).mono ?_
        rintro e w7 ⟨rfl, b7⟩
        have BW7 := Lib.hid (below_then M.out.old M.out.old.size b7)
        clear b7
        go_wp2_with fail
        go_ret
        exact ⟨rfl, BW7.out⟩
    · obtain rfl : q = N := by omega
      have ht : fs.take q = fs := by rw [← HN.out, List.take_length]
      obtain ⟨g, cg, hv5, hg1, hg2, hrs⟩ := R.out.rows a (by omega) (by rw [soonR_len]; omega)
      rw [ht] at hv5 hg1 hrs
      rw [soonR_len, HN.out] at hv5 hg1
      subst hv5
      have SI := Lib.hid (show SoonI w wr a wr.heap.size g (soonR fs) [a] [] 0 from ⟨M.out, hrs, fun k hk => .inl (by simpa using hk), Nat.le_refl _⟩)
      obtain ⟨H, hH⟩ : ∃ H, wr.heap.size = H := ⟨_, rfl⟩
      rw [hH] at SI
      have HSL := Lib.hid (show (soonR fs).length = q + 1 by rw [soonR_len, HN.out])
      have HSH := Lib.hid (fun j hj => HS.out j hj (by have := HN.out; omega))
      clear ht hrs R M R2 M2 HS2 hH HS
      go_wp2_with fail
      go_loopw [7, 8, 9, 10, 11] (fun i _ _ _ _ wr => ∃ (p ph : Nat) (F : List Nat), p ≤ q + 1 ∧ i = .int .i64 p ∧ SoonI w wr a H g (soonR fs) F [] ph ∧ Hid (p = 0 ∧ ph = 0 ∨ 0 < p ∧ ph = 1)) (fun i _ _ _ _ _ => q + 1 - (intOf i).toNat)
      case atStart => exact ⟨0, 0, [a], by omega, rfl, SI.out, Lib.hid (.inl ⟨rfl, rfl⟩)⟩
      case round =>
        obtain ⟨p, ph, F, hp, rfl, hsi, HC⟩ := hrel
        have S := Lib.hid hsi
        clear hsi SI
        by_cases hpq : p < q + 1
        · have hpl : p < (soonR fs).length := by rw [HSL.out]; exact hpq
          have hpq' : (p : Int) < q + 1 := by omega
          obtain ⟨Lp, hLp⟩ : ∃ Lp, (soonR fs)[p] = Lp := ⟨_, rfl⟩
          have HK : ∃ K ch body, Hid (CutR Lp ph K ch body ∧ (p = 0 ∧ K = 1 ∨ ∃ p', p = p' + 1 ∧ p' < q ∧ K = 2 ∧ ∃ f, fs[p']? = some f ∧ f.ch = ch ∧ f.l = body)) := by
            rcases HC.out with ⟨h1, h2⟩ | ⟨h1, h2⟩
            · subst h1 h2
              refine ⟨1, 0, [], Lib.hid ⟨?_, .inl ⟨rfl, rfl⟩⟩⟩
              rw [← hLp]
              exact cut_head
            · subst h2
              obtain ⟨p', rfl⟩ : ∃ p', p = p' + 1 := ⟨p - 1, by omega⟩
              have hp' : p' < fs.length := by rw [HN.out]; omega
              obtain ⟨b1, o1, -, -, -, h3, -⟩ := HF.out.at_ p' hp'
              refine ⟨2, _, _, Lib.hid ⟨?_, .inr ⟨p', rfl, by omega, rfl, fs[p'], List.getElem?_eq_getElem hp', rfl, rfl⟩⟩⟩
              rw [← hLp, soonR_succ fs p' hp' hpl]
              exact cut_frame _ _ (HSH.out p' hp') h3
          obtain ⟨K, ch, body, HCR⟩ := HK
          have hcr := HCR.out.1
          obtain ⟨nL, hnL⟩ : ∃ nL, Lp.length = nL := ⟨_, rfl⟩
          have HNL := Lib.hid hnL
          have hn1 : 8 ≤ nL := by rw [← hnL]; exact hcr.lo
          have hn2 : nL ≤ 208 := by rw [← hnL]; exact hcr.hi
          have hph := hcr.ph1
          have HPH := Lib.hid hph
          have hx0 := fun (w' : World) (F : List Nat) (l : List UInt8) (ph : Nat) (h : SoonI w w' a H g (soonR fs) F l ph) => h.rows.at_ p hpl
          rw [hLp, hnL] at hx0
          have HX0 := Lib.hid hx0
          obtain ⟨pA, pc, x0, hr0, hd0⟩ := hx0 _ _ _ _ S.out
          clear hcr hnL hLp hd0 hph hx0 hpl
          go_wp2_with fail
          go_loopw [8, 9, 10, 11] (fun i _ _ _ wr => ∃ (k ph2 : Nat) (F : List Nat) (l : List UInt8), k ≤ nL ∧ i = .int .i64 k ∧ SoonI w wr a H g (soonR fs) F l ph2 ∧ Hid (k < nL ∧ ph2 = ph ∧ l = Lp.take k ∨ k = nL ∧ ph2 = 1 ∧ l = [])) (fun i _ _ _ _ => nL - (intOf i).toNat)
          case atStart => exact ⟨0, ph, F, [], by omega, rfl, S.out, Lib.hid (.inl ⟨by omega, rfl, rfl⟩)⟩
          case round =>
            obtain ⟨k, ph2, F2, l2, hk, rfl, hs2, HC2⟩ := hrel
            have S2 := Lib.hid hs2
            clear hs2 S hr0 x0
            obtain ⟨pA, pc, x0, hr0, -⟩ := HX0.out _ _ _ _ S2.out
            have hpc := hr0.len
            rw [HNL.out] at hpc
            obtain ⟨hpc1, hpc2⟩ := hpc
            by_cases hkn : k < nL
            · have hkn' : (k : Int) < nL := by omega
              have hc2 : ph2 = ph ∧ l2 = Lp.take k := by
                rcases HC2.out with ⟨-, h1, h2⟩ | ⟨h, -⟩
                · exact ⟨h1, h2⟩
                · omega
              obtain ⟨rfl, rfl⟩ := hc2
              have HLK := Lib.hid (show (Lp.take k).length = k by rw [List.length_take, HNL.out]; omega)
              obtain ⟨xk, hxk⟩ : ∃ xk, Lp[k]? = some xk := ⟨_, List.getElem?_eq_getElem (by rw [HNL.out]; exact hkn)⟩
              have HXK := Lib.hid hxk
              have R1 := Lib.hid (rd_byte hr0 k xk hxk)
              have hsl := fun W => slice_both' pA nL pc k (k + 1) .i64 .i64 k ((k : Int) + 1) rfl (by omega) (by omega) (by omega) W
              rw [show k + 1 - k = 1 by omega] at hsl
              obtain ⟨C, hC⟩ : ∃ C, cutA pA pc k 1 = C := ⟨_, rfl⟩
              rw [hC] at R1 hsl
              clear hC hxk hr0 HC2
              go_wp2_with fail
              refine (if_held S2.out.inn (n := k) HLK.out).mono ?_
              rintro e w3 ⟨rfl, rfl⟩
              go_wp2_with fail
              refine (soon_put S2.out R1.out rfl (nb := 1) (l' := Lp.take (k + 1)) (took_one' _ (by rw [HLK.out]; omega) HPH.out) (take_next Lp k xk HXK.out)).mono ?_
              rintro e w4 ⟨F4, rfl, s4⟩
              have S4 := Lib.hid s4
              clear s4 S2 R1 hsl x0
              by_cases hlast : k + 1 < nL
              · have hl1 : ((k : Int) == (nL : Int) - 1) = false := by rw [beq_eq_false_iff_ne]; omega
                go_wp2_with fail
                refine (soon_next S4.out (HCR.out.1.part k (by rw [HNL.out]; exact hlast))).mono ?_
                rintro e w5 ⟨F5, A5, c5, rfl, r5, s5⟩
                have S5 := Lib.hid s5
                obtain ⟨pA5, pc5, x5, -, -⟩ := HX0.out _ _ _ _ s5
                have hg5 := cell_lt x5
                clear s5 S4 r5
                go_wp2_with fail
                go_quiet (fail)
                go_wp2_with fail
                exact ⟨⟨k + 1, ph2, F5, _, by omega, by go_num, (S5.out.below (below_alloc w5 _)).below (below_drewN _ _), Lib.hid (.inl ⟨by omega, rfl, rfl⟩)⟩, by simp [intOf]; omega⟩
              · have hl1 : ((k : Int) == (nL : Int) - 1) = true := by rw [beq_iff_eq]; omega
                have HNK := Lib.hid (show k + 1 = nL by omega)
                go_wp2_with fail
                refine (soon_next S4.out (HCR.out.1.whole k (HNK.out.trans HNL.out.symm))).mono ?_
                rintro e w5 ⟨F5, A5, c5, rfl, r5, s5⟩
                have S5 := Lib.hid s5
                obtain ⟨pA5, pc5, x5, -, -⟩ := HX0.out _ _ _ _ s5
                have hg5 := cell_lt x5
                have R5 := Lib.hid r5
                clear s5 S4 r5
                rcases HCR.out.2 with ⟨hpe, rfl⟩ | ⟨p', hpe, hp', rfl, f, hf, rfl, rfl⟩
                · have e1 : ((p : Int) == 0) = true := by rw [beq_iff_eq]; omega
                  have e2 : decide ((0 : Int) < (p : Int)) = false := decide_eq_false (by omega)
                  have e3 : decide (0 < p) = false := decide_eq_false (by omega)
                  have HPE := Lib.hid hpe
                  clear hpe
                  go_wp2_with fail
                  go_quiet (fail)
                  go_wp2_with fail
                  exact ⟨⟨k + 1, 1, F5, _, by omega, by go_num, (S5.out.below (below_alloc w5 _)).below (below_drewN _ _), Lib.hid (.inr ⟨HNK.out, rfl, rfl⟩)⟩, by simp [intOf]; omega⟩
                · have hpl' : p' < fs.length := by rw [HN.out]; exact hp'
                  obtain ⟨b1, o1, rfl, g2, g3, -, g5⟩ := (HF.out.below S5.out.inn.old).at_ p' hpl'
                  obtain ⟨hf', hff⟩ := List.getElem?_eq_some_iff.1 hf
                  rw [hff] at g2 g3 g5
                  have RF := Lib.hid g5
                  have HP' := Lib.hid hp'
                  have e1 : ((p : Int) == 0) = false := by rw [beq_eq_false_iff_ne]; omega
                  have d1 : decide ((0 : Int) < (p : Int)) = true := decide_eq_true (by omega)
                  have d3 : decide (0 < p) = true := decide_eq_true (by omega)
                  have d2 : ((p : Int) - 1) = (p' : Int) := by omega
                  have hp1 : (p' : Int) < q := by omega
                  have hw1 : IntKind.i64.wrap ((p : Int) - 1) = (p' : Int) := by rw [IntKind.wrap_i64]; omega
                  have hw2 : IntKind.i64.wrap (p' : Int) = (p' : Int) := by rw [IntKind.wrap_i64]; omega
                  have hp2 : (1 : Int) ≤ p := by omega
                  clear hf hf' hff g5 hpl' hp' hpe
                  go_wp2_with fail
                  obtain ⟨X, hX⟩ : ∃ X, w5.heap.size = X := ⟨_, rfl⟩
                  refine forget (fun W => W.cell? ⟨X, 0, none⟩ = some (.int .u16 f.ch) ∧ W.cell? ⟨X, 1, none⟩ = some (.slice A5 f.l.length c5) ∧ W.cell? ⟨b1, o1 + p' * 2, none⟩ = some (.int .u16 f.ch) ∧ W.cell? ⟨b1, o1 + p' * 2 + 1, none⟩ = some (.slice f.A f.l.length f.c) ∧ Rd W A5 c5 f.l ∧ Rd W f.A f.c f.l ∧ SoonI w W a H g (soonR fs) F5 [] 1)
                    ⟨by rw [← hX]; go_simp, by rw [← hX]; go_simp, keeps_alloc g2 _, keeps_alloc g3 _, R5.out.below (below_alloc w5 _), RF.out.below (below_alloc w5 _), S5.out.below (below_alloc w5 _)⟩ ?_
                  rw [hX]
                  rintro W ⟨f0, f1, f2, f3, f4, f5, f6⟩
                  have F4' := Lib.hid f4
                  have F5' := Lib.hid f5
                  have F6' := Lib.hid f6
                  clear f4 f5 f6 g2 g3 hX x5 hg5 S5 R5 RF
                  go_region_held3 (fun W' => W'.cell? ⟨X, 0, none⟩ = some (.int .u16 f.ch) ∧ W'.cell? ⟨X, 1, none⟩ = some (.slice A5 f.l.length c5) ∧ W'.cell? ⟨b1, o1 + p' * 2, none⟩ = some (.int .u16 f.ch) ∧ W'.cell? ⟨b1, o1 + p' * 2 + 1, none⟩ = some (.slice f.A f.l.length f.c)) (go_keep)
                    (first
                      | (go_at_call 19; refine (same_drew A5 f.A c5 f.c f.l f.l f.ch f.ch W F4'.out F5'.out).mono ?_; rintro e w6 ⟨rfl, b6⟩; rw [decide_eq_true rfl, decide_eq_true rfl, Bool.true_and]; have m0 := below_keeps b6 f0 (World.block_lt_of_cell? _ _ f0); have m1 := below_keeps b6 f1 (World.block_lt_of_cell? _ _ f1); have m2 := below_keeps b6 f2 (World.block_lt_of_cell? _ _ f2); have m3 := below_keeps b6 f3 (World.block_lt_of_cell? _ _ f3); have B6 := Lib.hid b6; clear b6))
                  go_wp2_with fail
                  exact ⟨⟨k + 1, 1, F5, _, by omega, by go_num, F6'.out.below B6.out, Lib.hid (.inr ⟨HNK.out, rfl, rfl⟩)⟩, by simp [intOf]; omega⟩
            · obtain rfl : k = nL := by omega
              have hc2 : ph2 = 1 ∧ l2 = [] := by
                rcases HC2.out with ⟨h, -⟩ | ⟨-, h1, h2⟩
                · omega
                · exact ⟨h1, h2⟩
              obtain ⟨rfl, rfl⟩ := hc2
              go_wp2_with fail
              exact ⟨⟨p + 1, 1, F2, by omega, by go_num, S2.out, Lib.hid (.inr ⟨by omega, rfl⟩)⟩, by simp [intOf]; omega⟩
        · obtain rfl : p = q + 1 := by omega
          go_wp2_with fail
          refine (if_held S.out.inn (n := 0) rfl).mono ?_
          rintro e w6 ⟨rfl, rfl⟩
          go_wp2_with fail
          refine (works_calls _).mono ?_
          rintro e w7 ⟨rfl, b7⟩
          have B7 := Lib.hid (below_then S.out.inn.old S.out.inn.old.size b7)
          clear b7
          go_wp2_with fail
          go_ret
          exact ⟨rfl, B7.out⟩
theorem isoon_row {w : World} (A : Option Addr) (c : Nat) (fs : List FrameAt) (h : Frs w A c fs) :
    Calls Try.prog 8 #[.slice A fs.length c] w fun e w' => e = .returned (.bool true) ∧ Below w.heap.size w w' := by
  by_cases hb : 12 < fs.length
  · exact isoon_big A c fs.length w hb
  · exact isoon_calls A c fs w h (by omega)
end Go.Proofs.Ytmeljnohkhkfmaa

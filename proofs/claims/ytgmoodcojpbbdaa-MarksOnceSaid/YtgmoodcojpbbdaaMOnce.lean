import Derived.Test.YtgmoodcojpbbdaaOnceLaw
import Derived.Test.YtgmoodcojpbbdaaOpenM2
import Derived.Test.YtgmoodcojpbbdaaMNil
import Derived.StillTailTactics
set_option linter.unusedVariables false
set_option linter.unusedSimpArgs false
namespace Go.Proofs.Ytgmoodcojpbbdaa
open Go.RowKit

theorem fin_yes {o : Outc} (h : fin o = true) : decide ((1 : Int) < o.k) = true ∧ decide ((o.k : Int) ≤ 5) = true := by
  simp only [fin, Bool.and_eq_true, decide_eq_true_eq] at h
  exact ⟨decide_eq_true (by omega), decide_eq_true (by omega)⟩
theorem bel_dn {B : Nat} {w w' : World} (h : Below B w w') (n : Nat) : Below B w (w'.drewN n) := ⟨h.os, h.tape, h.output, h.size, h.block⟩
/-- A map of a block says the marks' states. -/
def Says (w : World) (r : Nat) (ms : Ms) : Prop := ∃ D, MapS str w r D ∧ ∀ t, luk D t = (mat ms t).map ov
theorem Says.tch {w w' : World} {F : List Nat} {r : Nat} {ms : Ms} (h : Says w r ms) (ht : Tch F w w') (hr : r ∉ F) : Says w' r ms := let ⟨D, h1, h2⟩ := h; ⟨D, h1.tch ht hr, h2⟩
theorem Says.lt {w : World} {r : Nat} {ms : Ms} (h : Says w r ms) : r < w.heap.size := let ⟨_, h1, _⟩ := h; h1.lt
theorem Says.look {w : World} {r : Nat} {ms : Ms} (h : Says w r ms) (t : List UInt8) {o : Outc} {b : Bool} (hg : getM ms t = (o, b)) :
    (Instr.lookup 48 (.map (some r)) (.string ⟨t.toArray⟩) true).run Try.prog w = .ok (.tuple #[.agg #[.int .u8 o.k, .int .u64 o.a, .int .u64 o.b, .string ⟨o.c.toArray⟩], .bool b]) w := by
  obtain ⟨D, h1, h2⟩ := h
  have := h1.look Try.underlying48 keyStr t _ (zero_out _) true
  rw [h2] at this
  unfold getM at hg
  cases hm : mat ms t with
  | none => rw [hm] at hg this; cases hg; exact this
  | some q => rw [hm] at hg this; cases hg; exact this
theorem Says.none (w : World) : Says (w.alloc (.map #[] 0)) w.heap.size [] := ⟨[], MapS.made w, fun t => rfl⟩

set_option maxRecDepth 100000 in
set_option maxHeartbeats 4000000 in
theorem monce_calls (A : Option Addr) (c : Nat) (ops : List OpD) (w : World) (ho : RdO w A c ops) :
    Calls Try.prog 4 #[.slice A ops.length c] w fun e w' => e = .returned (.bool true) ∧ Below w.heap.size w w' := by
  have HO := Lib.hid ho.1
  have HOK := Lib.hid ho.2
  have hlc := ho.1.2.1
  have hmx := ho.1.2.2.1
  obtain ⟨N, hN⟩ : ∃ N, ops.length = N := ⟨_, rfl⟩
  rw [hN] at HO hlc ⊢
  have HN := Lib.hid hN
  clear ho hN
  cases hv : vastL ops with
  | true =>
    have HV := Lib.hid hv
    clear hv
    go_enter Try.func4, Try.ntmps4
    go_wp2_with fail
    refine (vast_any A N c ops true HV.out _ HO.out).mono ?_
    rintro e w1 ⟨rfl, rfl⟩
    go_wp2_with fail
    refine (works_calls _).mono ?_
    rintro e w2 ⟨rfl, b2⟩
    have B2 := Lib.hid b2
    clear b2
    go_wp2_with fail
    go_ret
    exact ⟨rfl, B2.out⟩
  | false =>
    have HV := Lib.hid hv
    have HVN := Lib.hid (show ∀ d ∈ ops, d.n ≤ 100 from fun d hd => by
      have h := hv
      simp only [vastL, Bool.or_eq_false_iff, List.any_eq_false, vastD] at h
      have := h.2 d hd
      simp at this
      exact this.2)
    clear hv
    have hmm := @run_makeMap Try.prog
    go_enter Try.func4, Try.ntmps4
    go_wp2_with fail
    refine (vast_any A N c ops false HV.out _ HO.out).mono ?_
    rintro e w1 ⟨rfl, rfl⟩
    go_wp2_with fail
    refine (mf_new w w (Below.refl _ _)).mono ?_
    rintro e w1 ⟨rfl, m1, -⟩
    have M1 := Lib.hid m1
    clear m1
    obtain ⟨a, ha⟩ : ∃ a, w.heap.size + 1 = a := ⟨_, rfl⟩
    rw [ha] at M1 ⊢
    clear ha
    go_wp2_with fail
    go_loopw [4, 5, 6, 7, 8, 9, 10, 11, 12, 13, 14, 15] (fun um i _ _ _ _ _ _ _ _ _ _ wr => ∃ (q r : Nat) (F : List Nat) (ms : Ms), q ≤ N ∧ i = .int .i64 q ∧ um = .map (some r) ∧ MkF w wr a F ms ∧ Hid (GoodM 32 ms) ∧ Says wr r ms ∧ Hid (r ∉ F ∧ w.heap.size ≤ r)) (fun _ i _ _ _ _ _ _ _ _ _ _ _ => N - (intOf i).toNat)
    case atStart => exact ⟨0, w1.heap.size, _, _, by omega, rfl, rfl, M1.out.below (below_alloc w1 _), Lib.hid ⟨by simp, by decide, by simp, by simp⟩, Says.none w1, Lib.hid ⟨fun h => Nat.lt_irrefl _ (M1.out.is.lts _ h), M1.out.old.size⟩⟩
    case round =>
      obtain ⟨q, r, F, ms, hq, rfl, rfl, hm, HG, hsy, HRF⟩ := hrel
      have HM := Lib.hid hm
      have HS := Lib.hid hsy
      clear hm hsy
      obtain ⟨wo, rfl⟩ : ∃ wo : World, wo = wr := ⟨_, rfl⟩
      by_cases hqN : q < N
      · have hql : q < ops.length := by rw [HN.out]; exact hqN
        have hqN' : (q : Int) < N := by omega
        obtain ⟨b0, o0, e, g0, g1, g2, g3, g4, g5, g6⟩ := op_at (HO.out.below HM.out.old) q hql
        subst e
        have hok := HOK.out _ (List.getElem_mem hql)
        have hn100 := HVN.out _ (List.getElem_mem hql)
        have hb0 : b0 < w.heap.size := by
          obtain ⟨b1, o1, e, y0, _⟩ := op_at HO.out q hql
          cases e
          exact cell_lt y0
        obtain ⟨⟨K, t, o, A', n', c', th⟩, hd⟩ : ∃ d, ops[q] = d := ⟨_, rfl⟩
        rw [hd] at g0 g1 g2 g3 g4 g5 g6 hok hn100
        simp only at g0 g1 g2 g3 g4 g5 g6 hn100
        have HOKd := Lib.hid hok
        have HBF := Lib.hid (show b0 ∉ F from fun h => by have := HM.out.hi b0 h; omega)
        have HND := Lib.hid HM.out.is.nodup
        obtain ⟨x, ms2, hdo⟩ : ∃ x ms2, doM ms ⟨K, t, o, A', n', c', th⟩ = (x, ms2) := by
          cases h : doM ms ⟨K, t, o, A', n', c', th⟩ with
          | mk x e2 => exact ⟨x, e2, rfl⟩
        have HDO := Lib.hid hdo
        have hlen : ms.length ≤ 1000000 := by have := HG.out.few; omega
        have HLEN := Lib.hid hlen
        clear hok hd hdo hlen
        go_wp2_with fail
        refine (doesM_calls (N := 0) HM.out HLEN.out (HOKd.out.2.below HM.out.old) hn100 HDO.out).mono ?_
        rintro e w2 ⟨F2, lv, sv, rfl, ol, os, m2, t2, f2⟩
        obtain ⟨Al, cl, rfl⟩ := OwnC.slice ol
        obtain ⟨As, cs, rfl⟩ := OwnC.slice os
        have M2 := Lib.hid m2
        have G2 := Lib.hid (good_do HG.out HDO.out)
        have S2 := Lib.hid (HS.out.tch t2 HRF.out.1)
        have HRF2 := Lib.hid (show r ∉ F2 from fun h => by
          rcases f2 r h with h' | h'
          · exact HRF.out.1 h'
          · have := HS.out.lt
            omega)
        have k0 := t2.cell g0 HBF.out
        have k1 := t2.cell g1 HBF.out
        have hb02 : b0 < w2.heap.size := cell_lt k0
        clear m2 t2 f2 g0 g1 g2 g3 g4 g5 g6 ol os
        unfold tvv
        go_upto_region 9 with fail
        obtain ⟨om, bm, hgm⟩ : ∃ om bm, getM ms t = (om, bm) := ⟨_, _, rfl⟩
        have HGM := Lib.hid hgm
        have B3 := below_alloc w2 (.cells #[.int .i64 x.e, .int .u8 x.o.k, .int .u64 x.o.a, .int .u64 x.o.b, .string ⟨x.o.c.toArray⟩, .bool x.is, .slice Al x.l.length cl, .slice As x.s.length cs] 37)
        refine forget (fun W => MkF w W a F2 ms2 ∧ Says W r ms ∧ BoxW W w2.heap.size (.int .i64 x.e) (.int .u8 x.o.k) (.int .u64 x.o.a) (.int .u64 x.o.b) (.string ⟨x.o.c.toArray⟩) (.bool x.is) (.slice Al x.l.length cl) (.slice As x.s.length cs) ∧ W.cell? ⟨b0, o0 + q * 7, none⟩ = some (.int .i64 K) ∧ W.cell? ⟨b0, o0 + q * 7 + 1, none⟩ = some (.string ⟨t.toArray⟩) ∧ w2.heap.size < W.heap.size) ⟨M2.out.below B3, S2.out.tch (Tch.of_below [] B3) (by simp), BoxW.new w2 _ _ _ _ _ _ _ _, stays_ B3 k0, stays_ B3 k1, by simp⟩ ?_
        rintro W3 ⟨m3, s3, bx3, h0, h1, hsz3⟩
        have hl3 := s3.look t hgm
        have M3 := Lib.hid m3
        have S3 := Lib.hid s3
        obtain ⟨p0, p1, p2, p3, p4, p5, p6, p7, -⟩ := bx3.cells
        have hb03 : b0 < W3.heap.size := cell_lt h0
        clear m3 s3 bx3 B3 k0 k1 hgm
        have hxk : (K = 3 ∧ x.is = bm ∧ x.o = om) ∨ (K == 3) = false := by
          by_cases hK : K = 3
          · obtain ⟨h1, h2⟩ := settle_ans HDO.out hK
            have h3 := HGM.out
            unfold getM at h3
            cases h3
            exact .inl ⟨hK, h1, h2⟩
          · exact .inr (by simp [hK])
        have HXK := Lib.hid hxk
        clear hxk
        rcases HXK.out with ⟨e1, e2, e3⟩ | e1
        · subst e1
          rw [e2] at p5
          rw [e3] at p1 p2 p3 p4
          clear e2 e3
          go_upto_region 12 with fail
          refine forget (fun W => MkF w W a F2 ms2 ∧ Says W r ms) ⟨?_, ?_⟩ ?_
          · exact M3.out.below (below_alloc W3 _)
          · exact S3.out.tch (Tch.of_below [] (below_alloc W3 _)) (by simp)
          clear p0 p1 p2 p3 p4 p5 p6 p7 h0 h1 hl3
          rintro W4 ⟨m4, s4⟩
          have M4 := Lib.hid m4
          have S4 := Lib.hid s4
          clear m4 s4
          go_wp2_with fail
          refine (mf_list (M4.out.below (below_alloc W4 (.map #[] 0))) (by have := G2.out.few; omega)).mono ?_
          rintro e w5 ⟨v5, rfl, o5, m5, b5⟩
          obtain ⟨A5, c5, rfl, r5⟩ := o5.rd
          have M5 := Lib.hid m5
          have S5 := Lib.hid ((S4.out.tch (Tch.of_below [] (below_alloc W4 (.map #[] 0))) (by simp)).tch (Tch.of_below [] b5) (by simp))
          have NW5 := Lib.hid ((Says.none W4).tch (Tch.of_below [] b5) (by simp))
          have AB5 := Lib.hid (show ∀ ad, A5 = some ad → W4.heap.size < ad.block from fun ad had => by have := (o5.lt ad.block (by rw [had]; rfl)).1; simp at this; omega)
          have hrn : W4.heap.size < w5.heap.size := by have := b5.size; simp at this; omega
          have RN := Lib.hid (show W4.heap.size ∉ F2 ∧ w.heap.size ≤ W4.heap.size ∧ W4.heap.size ≠ r from ⟨fun h => Nat.lt_irrefl _ (M4.out.is.lts _ h), M4.out.old.size, fun h => by have := S4.out.lt; omega⟩)
          obtain ⟨rn, hrne⟩ : ∃ rn, W4.heap.size = rn := ⟨_, rfl⟩
          rw [hrne] at NW5 AB5 hrn RN ⊢
          have hc51 := r5.2.1
          have hc52 := r5.2.2.1
          obtain ⟨n2, hn2⟩ : ∃ n2, ms2.length = n2 := ⟨_, rfl⟩
          have hn32 : n2 ≤ 32 := by rw [← hn2]; exact G2.out.few
          rw [hn2] at r5 hc51 ⊢
          have R5 := Lib.hid r5
          have HN2 := Lib.hid hn2
          clear o5 m5 b5 r5 hn2 hrne S4 M4
          go_wp2_with fail
          go_loopw [11, 12, 13, 14, 15] (fun u _ _ _ _ wi => ∃ j : Nat, j ≤ n2 ∧ u = .int .i64 j ∧ Says wi rn (ms2.take j) ∧ Tch [rn] w5 wi) (fun u _ _ _ _ _ => n2 - (intOf u).toNat)
          case atStart => exact ⟨0, by omega, rfl, NW5.out, Tch.refl _ _⟩
          case round =>
            obtain ⟨j, hj, rfl, hsj, htj⟩ := hrel
            have SJ := Lib.hid hsj
            have TJ := Lib.hid htj
            obtain ⟨wi, rfl⟩ : ∃ wi : World, wi = wr := ⟨_, rfl⟩
            clear htj
            by_cases hjn : j < n2
            · have hjn' : (j : Int) < n2 := by omega
              have hjl : j < ms2.length := by rw [HN2.out]; exact hjn
              obtain ⟨b3, o3, e, x0, x1, x2, x3, x4⟩ := mark_at (R5.out.tch TJ.out (fun ad had hF => by have := AB5.out ad had; simp at hF; omega)) j hjl
              subst e
              have hb3n : rn < b3 := AB5.out _ rfl
              have htn := mat_take_none M5.out.is.nodup j hjl
              have hts : ms2.take (j + 1) = ms2.take j ++ [ms2[j]] := List.take_succ_eq_append_getElem hjl
              have hmm2 : mat ms2 ms2[j].1 = some ms2[j].2 := mat_of_mem M5.out.is.nodup (List.getElem_mem hjl)
              obtain ⟨⟨pt, po⟩, hp⟩ : ∃ p, ms2[j] = p := ⟨_, rfl⟩
              rw [hp] at x0 x1 x2 x3 x4 htn hts hmm2
              simp only at x0 x1 x2 x3 x4 htn hmm2
              have hl17 := hsj.look pt (o := oz) (b := false) (by simp [getM, htn])
              simp only [oz] at hl17
              have HTN := Lib.hid htn
              have HTS := Lib.hid hts
              have HMM := Lib.hid hmm2
              have HX := Lib.hid (And.intro x0 (And.intro x1 (And.intro x2 (And.intro x3 x4))))
              clear hp hts htn hmm2 hsj
              go_upto_region 20 with fail
              refine forget (fun W => Below wi.heap.size wi W) (below_alloc wi _) ?_
              rintro W6 b6
              have B6 := Lib.hid b6
              replace x0 := stays_ b6 x0
              replace x1 := stays_ b6 x1
              replace x2 := stays_ b6 x2
              replace x3 := stays_ b6 x3
              replace x4 := stays_ b6 x4
              clear b6 hl17
              go_still_tail 11, (by kernel_rfl)
              change wpList _ _ _ _ _ W6.drew
              obtain ⟨D, hD1, hD2⟩ := SJ.out.tch (Tch.of_below [] B6.out) (by simp)
              refine wpList_mput _ rfl _ _ _ rfl Try.underlying48 keyStr rn D rfl (hD1.keep rfl) pt rfl (ov po) rfl ?_
              intro w7 hm7 ht7
              have S7 := Lib.hid (show Says w7 rn (ms2.take (j + 1)) from ⟨mput D pt (ov po), hm7, fun t => by
                rw [luk_put, HTS.out, mat_snoc _ _ _ HTN.out, hD2]
                split <;> rfl⟩)
              have T7 := Lib.hid (show Tch [rn] w5 w7 from (TJ.out.trans (Tch.of_below [] B6.out) (by simp)).trans_ ht7.of_drew)
              have y0 := ht7.of_drew.cell x0 (by simp; omega)
              have y1 := ht7.of_drew.cell x1 (by simp; omega)
              have y2 := ht7.of_drew.cell x2 (by simp; omega)
              have y3 := ht7.of_drew.cell x3 (by simp; omega)
              have y4 := ht7.of_drew.cell x4 (by simp; omega)
              have hb37 : b3 < w7.heap.size := cell_lt y0
              have hS7r := S5.out.tch T7.out (by simpa using fun e => RN.out.2.2 e.symm)
              obtain ⟨ow, bw, hgw⟩ : ∃ ow bw, getM ms pt = (ow, bw) := ⟨_, _, rfl⟩
              have hl21 := hS7r.look pt hgw
              have hcase : (bw = false) ∨ (bw = true ∧ ow = po ∧ fin ow = true) ∨ (bw = true ∧ ow = oz) := by
                unfold getM at hgw
                cases hm : mat ms pt with
                | none => rw [hm] at hgw; cases hgw; exact .inl rfl
                | some q0 =>
                  rw [hm] at hgw
                  cases hgw
                  refine .inr ?_
                  rcases HG.out.fins _ (mat_mem hm) with h | h
                  · exact .inr ⟨rfl, h⟩
                  · exact .inl ⟨rfl, (once_law HND.out HDO.out hm h HMM.out).symm, h⟩
              have HC := Lib.hid hcase
              clear hcase hgw hD1 hD2 hm7 ht7 x0 x1 x2 x3 x4 hS7r
              rcases HC.out with h1 | ⟨h1, h2, h3⟩ | ⟨h1, h2⟩
              · subst h1
                go_wp2_with fail
                go_quiet (fail)
                go_wp2_with fail
                exact ⟨⟨j + 1, by omega, by go_num, (S7.out.tch (Tch.of_below [] (below_alloc w7 _)) (by simp)).tch (Tch.of_below [] (below_drewN _ _)) (by simp), (T7.out.alloc _).drewN _⟩, by simp [intOf]; omega⟩
              · subst h1 h2
                have em := (fin_yes h3).1
                clear h3
                go_wp2_with fail
                go_quiet (fail)
                go_wp2_with fail
                exact ⟨⟨j + 1, by omega, by go_num, (S7.out.tch (Tch.of_below [] (below_alloc w7 _)) (by simp)).tch (Tch.of_below [] (below_drewN _ _)) (by simp), (T7.out.alloc _).drewN _⟩, by simp [intOf]; omega⟩
              · subst h1 h2
                simp only [oz] at hl21
                go_wp2_with fail
                go_quiet (fail)
                go_wp2_with fail
                exact ⟨⟨j + 1, by omega, by go_num, (S7.out.tch (Tch.of_below [] (below_alloc w7 _)) (by simp)).tch (Tch.of_below [] (below_drewN _ _)) (by simp), (T7.out.alloc _).drewN _⟩, by simp [intOf]; omega⟩
            · obtain rfl : j = n2 := by omega
              have SF := Lib.hid (show Says wi rn ms2 from by
                have := SJ.out
                rwa [← HN2.out, List.take_length] at this)
              have MF := Lib.hid (show MkF w wi a F2 ms2 from ⟨M5.out.old.trans (TJ.out.below M5.out.old.size (fun k hk => by simp at hk; rw [hk]; exact RN.out.2.1)), M5.out.is.tch TJ.out (fun k hk h => by simp at h; rw [h] at hk; exact RN.out.1 hk), M5.out.hi⟩)
              have e32 : decide ((32 : Int) < (j : Int)) = false := decide_eq_false (by omega)
              clear hsj
              go_wp2_with fail
              exact ⟨⟨q + 1, rn, F2, ms2, by omega, by go_num, rfl, MF.out, G2, SF.out, Lib.hid ⟨RN.out.1, RN.out.2.1⟩⟩, by simp [intOf]; omega⟩
        · skip
          go_upto_region 12 with fail
          refine forget (fun W => MkF w W a F2 ms2 ∧ Says W r ms) ⟨?_, ?_⟩ ?_
          · exact M3.out.below (below_alloc W3 _)
          · exact S3.out.tch (Tch.of_below [] (below_alloc W3 _)) (by simp)
          clear p0 p1 p2 p3 p4 p5 p6 p7 h0 h1 hl3
          rintro W4 ⟨m4, s4⟩
          have M4 := Lib.hid m4
          have S4 := Lib.hid s4
          clear m4 s4
          go_wp2_with fail
          refine (mf_list (M4.out.below (below_alloc W4 (.map #[] 0))) (by have := G2.out.few; omega)).mono ?_
          rintro e w5 ⟨v5, rfl, o5, m5, b5⟩
          obtain ⟨A5, c5, rfl, r5⟩ := o5.rd
          have M5 := Lib.hid m5
          have S5 := Lib.hid ((S4.out.tch (Tch.of_below [] (below_alloc W4 (.map #[] 0))) (by simp)).tch (Tch.of_below [] b5) (by simp))
          have NW5 := Lib.hid ((Says.none W4).tch (Tch.of_below [] b5) (by simp))
          have AB5 := Lib.hid (show ∀ ad, A5 = some ad → W4.heap.size < ad.block from fun ad had => by have := (o5.lt ad.block (by rw [had]; rfl)).1; simp at this; omega)
          have hrn : W4.heap.size < w5.heap.size := by have := b5.size; simp at this; omega
          have RN := Lib.hid (show W4.heap.size ∉ F2 ∧ w.heap.size ≤ W4.heap.size ∧ W4.heap.size ≠ r from ⟨fun h => Nat.lt_irrefl _ (M4.out.is.lts _ h), M4.out.old.size, fun h => by have := S4.out.lt; omega⟩)
          obtain ⟨rn, hrne⟩ : ∃ rn, W4.heap.size = rn := ⟨_, rfl⟩
          rw [hrne] at NW5 AB5 hrn RN ⊢
          have hc51 := r5.2.1
          have hc52 := r5.2.2.1
          obtain ⟨n2, hn2⟩ : ∃ n2, ms2.length = n2 := ⟨_, rfl⟩
          have hn32 : n2 ≤ 32 := by rw [← hn2]; exact G2.out.few
          rw [hn2] at r5 hc51 ⊢
          have R5 := Lib.hid r5
          have HN2 := Lib.hid hn2
          clear o5 m5 b5 r5 hn2 hrne S4 M4
          go_wp2_with fail
          go_loopw [11, 12, 13, 14, 15] (fun u _ _ _ _ wi => ∃ j : Nat, j ≤ n2 ∧ u = .int .i64 j ∧ Says wi rn (ms2.take j) ∧ Tch [rn] w5 wi) (fun u _ _ _ _ _ => n2 - (intOf u).toNat)
          case atStart => exact ⟨0, by omega, rfl, NW5.out, Tch.refl _ _⟩
          case round =>
            obtain ⟨j, hj, rfl, hsj, htj⟩ := hrel
            have SJ := Lib.hid hsj
            have TJ := Lib.hid htj
            obtain ⟨wi, rfl⟩ : ∃ wi : World, wi = wr := ⟨_, rfl⟩
            clear htj
            by_cases hjn : j < n2
            · have hjn' : (j : Int) < n2 := by omega
              have hjl : j < ms2.length := by rw [HN2.out]; exact hjn
              obtain ⟨b3, o3, e, x0, x1, x2, x3, x4⟩ := mark_at (R5.out.tch TJ.out (fun ad had hF => by have := AB5.out ad had; simp at hF; omega)) j hjl
              subst e
              have hb3n : rn < b3 := AB5.out _ rfl
              have htn := mat_take_none M5.out.is.nodup j hjl
              have hts : ms2.take (j + 1) = ms2.take j ++ [ms2[j]] := List.take_succ_eq_append_getElem hjl
              have hmm2 : mat ms2 ms2[j].1 = some ms2[j].2 := mat_of_mem M5.out.is.nodup (List.getElem_mem hjl)
              obtain ⟨⟨pt, po⟩, hp⟩ : ∃ p, ms2[j] = p := ⟨_, rfl⟩
              rw [hp] at x0 x1 x2 x3 x4 htn hts hmm2
              simp only at x0 x1 x2 x3 x4 htn hmm2
              have hl17 := hsj.look pt (o := oz) (b := false) (by simp [getM, htn])
              simp only [oz] at hl17
              have HTN := Lib.hid htn
              have HTS := Lib.hid hts
              have HMM := Lib.hid hmm2
              have HX := Lib.hid (And.intro x0 (And.intro x1 (And.intro x2 (And.intro x3 x4))))
              clear hp hts htn hmm2 hsj
              go_upto_region 20 with fail
              refine forget (fun W => Below wi.heap.size wi W) (below_alloc wi _) ?_
              rintro W6 b6
              have B6 := Lib.hid b6
              replace x0 := stays_ b6 x0
              replace x1 := stays_ b6 x1
              replace x2 := stays_ b6 x2
              replace x3 := stays_ b6 x3
              replace x4 := stays_ b6 x4
              clear b6 hl17
              go_still_tail 11, (by kernel_rfl)
              change wpList _ _ _ _ _ W6.drew
              obtain ⟨D, hD1, hD2⟩ := SJ.out.tch (Tch.of_below [] B6.out) (by simp)
              refine wpList_mput _ rfl _ _ _ rfl Try.underlying48 keyStr rn D rfl (hD1.keep rfl) pt rfl (ov po) rfl ?_
              intro w7 hm7 ht7
              have S7 := Lib.hid (show Says w7 rn (ms2.take (j + 1)) from ⟨mput D pt (ov po), hm7, fun t => by
                rw [luk_put, HTS.out, mat_snoc _ _ _ HTN.out, hD2]
                split <;> rfl⟩)
              have T7 := Lib.hid (show Tch [rn] w5 w7 from (TJ.out.trans (Tch.of_below [] B6.out) (by simp)).trans_ ht7.of_drew)
              have y0 := ht7.of_drew.cell x0 (by simp; omega)
              have y1 := ht7.of_drew.cell x1 (by simp; omega)
              have y2 := ht7.of_drew.cell x2 (by simp; omega)
              have y3 := ht7.of_drew.cell x3 (by simp; omega)
              have y4 := ht7.of_drew.cell x4 (by simp; omega)
              have hb37 : b3 < w7.heap.size := cell_lt y0
              have hS7r := S5.out.tch T7.out (by simpa using fun e => RN.out.2.2 e.symm)
              obtain ⟨ow, bw, hgw⟩ : ∃ ow bw, getM ms pt = (ow, bw) := ⟨_, _, rfl⟩
              have hl21 := hS7r.look pt hgw
              have hcase : (bw = false) ∨ (bw = true ∧ ow = po ∧ fin ow = true) ∨ (bw = true ∧ ow = oz) := by
                unfold getM at hgw
                cases hm : mat ms pt with
                | none => rw [hm] at hgw; cases hgw; exact .inl rfl
                | some q0 =>
                  rw [hm] at hgw
                  cases hgw
                  refine .inr ?_
                  rcases HG.out.fins _ (mat_mem hm) with h | h
                  · exact .inr ⟨rfl, h⟩
                  · exact .inl ⟨rfl, (once_law HND.out HDO.out hm h HMM.out).symm, h⟩
              have HC := Lib.hid hcase
              clear hcase hgw hD1 hD2 hm7 ht7 x0 x1 x2 x3 x4 hS7r
              rcases HC.out with h1 | ⟨h1, h2, h3⟩ | ⟨h1, h2⟩
              · subst h1
                go_wp2_with fail
                go_quiet (fail)
                go_wp2_with fail
                exact ⟨⟨j + 1, by omega, by go_num, (S7.out.tch (Tch.of_below [] (below_alloc w7 _)) (by simp)).tch (Tch.of_below [] (below_drewN _ _)) (by simp), (T7.out.alloc _).drewN _⟩, by simp [intOf]; omega⟩
              · subst h1 h2
                have em := (fin_yes h3).1
                clear h3
                go_wp2_with fail
                go_quiet (fail)
                go_wp2_with fail
                exact ⟨⟨j + 1, by omega, by go_num, (S7.out.tch (Tch.of_below [] (below_alloc w7 _)) (by simp)).tch (Tch.of_below [] (below_drewN _ _)) (by simp), (T7.out.alloc _).drewN _⟩, by simp [intOf]; omega⟩
              · subst h1 h2
                simp only [oz] at hl21
                go_wp2_with fail
                go_quiet (fail)
                go_wp2_with fail
                exact ⟨⟨j + 1, by omega, by go_num, (S7.out.tch (Tch.of_below [] (below_alloc w7 _)) (by simp)).tch (Tch.of_below [] (below_drewN _ _)) (by simp), (T7.out.alloc _).drewN _⟩, by simp [intOf]; omega⟩
            · obtain rfl : j = n2 := by omega
              have SF := Lib.hid (show Says wi rn ms2 from by
                have := SJ.out
                rwa [← HN2.out, List.take_length] at this)
              have MF := Lib.hid (show MkF w wi a F2 ms2 from ⟨M5.out.old.trans (TJ.out.below M5.out.old.size (fun k hk => by simp at hk; rw [hk]; exact RN.out.2.1)), M5.out.is.tch TJ.out (fun k hk h => by simp at h; rw [h] at hk; exact RN.out.1 hk), M5.out.hi⟩)
              have e32 : decide ((32 : Int) < (j : Int)) = false := decide_eq_false (by omega)
              clear hsj
              go_wp2_with fail
              exact ⟨⟨q + 1, rn, F2, ms2, by omega, by go_num, rfl, MF.out, G2, SF.out, Lib.hid ⟨RN.out.1, RN.out.2.1⟩⟩, by simp [intOf]; omega⟩
      · obtain rfl : q = N := by omega
        go_wp2_with fail
        refine (works_calls _).mono ?_
        rintro e w7 ⟨rfl, b7⟩
        have B7 := Lib.hid (below_then HM.out.old HM.out.old.size b7)
        clear b7
        go_wp2_with fail
        go_ret
        exact ⟨rfl, B7.out⟩
theorem monce_row {w : World} (A : Option Addr) (c : Nat) (ops : List OpD) (ho : RdO w A c ops) :
    Calls Try.prog 4 #[.slice A ops.length c] w fun e w' => e = .returned (.bool true) ∧ Below w.heap.size w w' := monce_calls A c ops w ho
end Go.Proofs.Ytgmoodcojpbbdaa

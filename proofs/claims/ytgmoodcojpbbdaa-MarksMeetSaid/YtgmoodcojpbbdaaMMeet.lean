import Derived.Test.YtgmoodcojpbbdaaGood
import Derived.Test.YtgmoodcojpbbdaaRf2
import Derived.BigQuiet
import Derived.StillTailTactics
import Derived.Deep.CutBlock
set_option linter.unusedVariables false
set_option linter.unusedSimpArgs false
namespace Go.Proofs.Ytgmoodcojpbbdaa
open Go.RowKit

theorem fin_yes {o : Outc} (h : fin o = true) : decide ((1 : Int) < o.k) = true ∧ decide ((o.k : Int) ≤ 5) = true := by
  simp only [fin, Bool.and_eq_true, decide_eq_true_eq] at h
  exact ⟨decide_eq_true (by omega), decide_eq_true (by omega)⟩
theorem bel_dn {B : Nat} {w w' : World} (h : Below B w w') (n : Nat) : Below B w (w'.drewN n) := ⟨h.os, h.tape, h.output, h.size, h.block⟩
theorem fin3 (o : Outc) : (fin o = true ∧ decide ((1 : Int) < o.k) = true ∧ decide ((o.k : Int) ≤ 5) = true) ∨ (fin o = false ∧ decide ((1 : Int) < o.k) = false) ∨ (fin o = false ∧ decide ((1 : Int) < o.k) = true ∧ decide ((o.k : Int) ≤ 5) = false) := by
  simp only [fin]
  by_cases h1 : 2 ≤ o.k
  · by_cases h2 : o.k ≤ 5
    · left; simp [h1, h2]; omega
    · right; right; simp [h1, h2]; omega
  · right; left; simp [h1]; omega
theorem first_mat {th : Ms} {q : Nat} {t : List UInt8} (hq : q < th.length) (he : th[q].1 = t) (hno : ∀ r (hr : r < th.length), r < q → th[r].1 ≠ t) : mat th t = some th[q].2 := by
  have e : th = th.take q ++ th[q] :: th.drop (q + 1) := by rw [← List.drop_eq_getElem_cons hq, List.take_append_drop]
  have h2 : ∀ (xs : Ms), (∀ p ∈ xs, p.1 ≠ t) → ∀ ys, mat (xs ++ ys) t = mat ys t := by
    intro xs
    induction xs with
    | nil => intros; rfl
    | cons x xs ih =>
      intro h ys
      rw [List.cons_append, mat_cons, if_neg (h x (by simp)), ih (fun p hp => h p (by simp [hp]))]
  obtain ⟨x, hx⟩ : ∃ x, th[q] = x := ⟨_, rfl⟩
  rw [hx] at he ⊢
  have h3 := h2 (th.take q) (fun p hp => by
    obtain ⟨i, hi, rfl⟩ := List.getElem_of_mem hp
    rw [List.getElem_take]
    exact hno i (by simp at hi; omega) (by simp at hi; omega)) (th[q] :: th.drop (q + 1))
  rw [← e, hx, mat_cons, if_pos he] at h3
  exact h3
/-- A box that holds an outcome. -/
def BoxO (w : World) (b : Nat) (o : Outc) : Prop := w.heap[b]? = some (.cells (ocs o).toArray 33 (0, 0))
theorem BoxO.new (w : World) (o : Outc) : BoxO (w.alloc (.cells #[.int .u8 o.k, .int .u64 o.a, .int .u64 o.b, .string ⟨o.c.toArray⟩] 33)) w.heap.size o := heap_alloc_new w _
theorem BoxO.out {w : World} {b : Nat} {o : Outc} (h : BoxO w b o) : w.cell? ⟨b, 0, none⟩ = some (.int .u8 o.k) ∧ w.cell? ⟨b, 1, none⟩ = some (.int .u64 o.a) ∧ w.cell? ⟨b, 2, none⟩ = some (.int .u64 o.b) ∧ w.cell? ⟨b, 3, none⟩ = some (.string ⟨o.c.toArray⟩) ∧ ∀ j, w.frozen? ⟨b, j, none⟩ = false := by
  obtain ⟨⟨a, b, c, d⟩, e⟩ := out_froz h
  exact ⟨a, b, c, d, e⟩
theorem BoxO.set4 {w : World} {b : Nat} {o' : Outc} (h : BoxO w b o') (o : Outc) :
    BoxO ((((w.setCell ⟨b, 0, none⟩ (.int .u8 o.k)).setCell ⟨b, 1, none⟩ (.int .u64 o.a)).setCell ⟨b, 2, none⟩ (.int .u64 o.b)).setCell ⟨b, 3, none⟩ (.string ⟨o.c.toArray⟩)) b o :=
  heap_set_same (heap_set_same (heap_set_same (heap_set_same h 0 _) 1 _) 2 _) 3 _
theorem BoxO.below {w w' : World} {b : Nat} {o : Outc} (h : BoxO w b o) (hb : Below w.heap.size w w') : BoxO w' b o := (hb.block b (heap_lt h)).trans h
theorem step_all (th ms mf : Ms) (st : List St) (hmt : meetM th ms = (mf, st)) (hn : (ms.map (·.1)).Nodup) {N : Nat} (hG : GoodM N ms) (j : Nat) (hj : j < ms.length) (p : List UInt8 × Outc) (hp : ms[j] = p) :
    ∃ hs : j < st.length, ((fin p.2 = false ∧ p.2 = oz ∧ mat th p.1 = none ∧ st[j] = (p.1, 1, oz)) ∨
      (fin p.2 = true ∧ mat th p.1 = none ∧ st[j] = (p.1, 4, p.2) ∧ getM mf p.1 = (p.2, true)) ∨
      ∃ o, mat th p.1 = some o ∧ ((fin p.2 = true ∧ st[j] = (p.1, 3, p.2) ∧ getM mf p.1 = (p.2, true)) ∨
        (fin p.2 = false ∧ p.2 = oz ∧ fin o = true ∧ st[j] = (p.1, 3, o) ∧ getM mf p.1 = (o, true)) ∨
        (fin p.2 = false ∧ p.2 = oz ∧ fin o = false ∧ st[j] = (p.1, 2, oz)))) := by
  have h1 : mf = curM th ms ms.length := by rw [cur_all, hmt]
  have hst : st = ms.map fun p => (stepM th p).2 := by rw [show st = (meetM th ms).2 by rw [hmt]]; rfl
  have hfz : p.2 = oz ∨ fin p.2 = true := hG.fins p (by rw [← hp]; exact List.getElem_mem _)
  have hz : fin p.2 = false → p.2 = oz := fun h => by rcases hfz with e | e; exact e; rw [h] at e; cases e
  have hsj : ∃ hs : j < st.length, st[j] = (stepM th p).2 := by subst hst; exact ⟨by simpa using hj, by simp [hp]⟩
  obtain ⟨hs, hsj⟩ := hsj
  have hg : getM mf p.1 = ((stepM th p).1.2, true) := by
    have hk : ((stepM th p).1.1, (stepM th p).1.2) ∈ mf := by
      rw [show mf = (meetM th ms).1 by rw [hmt]]
      exact List.mem_map.2 ⟨p, by rw [← hp]; exact List.getElem_mem _, rfl⟩
    rw [step_key] at hk
    have hnd : (mf.map (·.1)).Nodup := by rw [h1, cur_keys]; exact hn
    have := mat_of_mem hnd hk
    simp [getM, this]
  refine ⟨hs, ?_⟩
  rw [hsj, hg]
  unfold stepM
  cases hm : mat th p.1 with
  | none =>
    cases hf : fin p.2
    · exact .inl ⟨rfl, hz hf, rfl, rfl⟩
    · exact .inr (.inl ⟨rfl, rfl, rfl, rfl⟩)
  | some o =>
    refine .inr (.inr ⟨o, rfl, ?_⟩)
    cases hf : fin p.2
    · cases ho : fin o
      · exact .inr (.inr ⟨rfl, hz hf, rfl, by simp [hf, ho]⟩)
      · exact .inr (.inl ⟨rfl, hz hf, rfl, by simp [hf, ho], by simp [hf, ho]⟩)
    · exact .inl ⟨rfl, by simp [hf], by simp [hf]⟩

set_option maxRecDepth 100000 in
set_option maxHeartbeats 4000000 in
theorem mmeet_calls (B C : Option Addr) (n c m e : Nat) (l th : Ms) (w : World) (hr : RdC 5 w B n c (mcs l)) (hs : RdC 5 w C m e (mcs th)) :
    Calls Try.prog 5 #[.slice B n c, .slice C m e] w fun e w' => e = .returned (.bool true) ∧ Below w.heap.size w w' := by
  have hl : n = l.length := by have := hr.1; rw [mcs_length] at this; omega
  subst hl
  have HR := Lib.hid hr
  have HS := Lib.hid hs
  have hmx := hr.2.2.1
  have hlc := hr.2.1
  have hmx2 := hs.2.2.1
  have hlc2 := hs.2.1
  obtain ⟨N, hN⟩ : ∃ N, l.length = N := ⟨_, rfl⟩
  rw [hN] at hlc ⊢
  have HN := Lib.hid hN
  clear hr hs hN
  by_cases hbig : 32 < N
  · have e1 : decide ((32 : Int) < N) = true := decide_eq_true (by omega)
    go_enter Try.func5, Try.ntmps5
    go_wp2_with fail
    refine (works_calls _).mono ?_
    rintro e w1 ⟨rfl, b1⟩
    go_wp2_with fail
    go_ret
    exact ⟨rfl, b1⟩
  have e1 : decide ((32 : Int) < N) = false := decide_eq_false (by omega)
  by_cases hbig2 : 100 < m
  · have e2 : decide ((100 : Int) < m) = true := decide_eq_true (by omega)
    clear hbig
    go_enter Try.func5, Try.ntmps5
    go_wp2_with fail
    refine (works_calls _).mono ?_
    rintro e w1 ⟨rfl, b1⟩
    go_wp2_with fail
    go_ret
    exact ⟨rfl, b1⟩
  have e2 : decide ((100 : Int) < m) = false := decide_eq_false (by omega)
  go_enter Try.func5, Try.ntmps5
  go_wp2_with fail
  refine (mf_new w w (Below.refl _ _)).mono ?_
  rintro e w1 ⟨rfl, m1, -⟩
  have M1 := Lib.hid m1
  clear m1 e1 e2
  obtain ⟨a, ha⟩ : ∃ a, w.heap.size + 1 = a := ⟨_, rfl⟩
  rw [ha] at M1 ⊢
  clear ha
  go_wp2_with fail
  go_loopw [6] (fun i wr => ∃ (k : Nat) (F' : List Nat) (ms' : Ms), k ≤ N ∧ i = .int .i64 k ∧ MkF w wr a F' ms' ∧ GoodM k ms') (fun i _ => N - (intOf i).toNat)
  case atStart => exact ⟨0, _, _, by omega, rfl, M1.out, GoodM.nil⟩
  case round =>
    obtain ⟨k, F', ms', hk, rfl, hm, hg⟩ := hrel
    have HM1 := Lib.hid hm
    have HG1 := Lib.hid hg
    clear hm hg
    by_cases hkN : k < N
    · have hkl : k < l.length := by rw [HN.out]; exact hkN
      have hkN' : (k : Int) < N := by omega
      obtain ⟨b0, o0, e, g0, _, _, _, _⟩ := mark_at (HR.out.below HM1.out.old) k hkl
      subst e
      obtain ⟨p, hp⟩ : ∃ p, l[k] = p := ⟨_, rfl⟩
      rw [hp] at g0
      obtain ⟨nn, ms2, hadd⟩ : ∃ nn ms2, addM ms' p.1 = (nn, ms2) := ⟨_, _, rfl⟩
      go_wp2_with fail
      refine (mf_add p.1 HM1.out hadd).mono ?_
      rintro e w2 ⟨F2, rfl, m2, t2, f2⟩
      have M2 := Lib.hid m2
      have G2 := Lib.hid (HG1.out.add (by omega) hadd)
      clear m2 t2 f2 g0
      by_cases hnn : nn = 0
      · subst hnn
        obtain ⟨b0', o0', e, g0, g1, g2, g3, g4⟩ := mark_at (HR.out.below M2.out.old) k hkl
        cases e
        rw [hp] at g0 g1 g2 g3 g4
        obtain ⟨bb, ms3, htell⟩ : ∃ bb ms3, tellM ms2 p.1 p.2 = (bb, ms3) := ⟨_, _, rfl⟩
        go_wp2_with fail
        go_still_tail 11, (by kernel_rfl)
        change wpList _ _ _ _ _ w2.drew
        go_wp2_with fail
        refine (mf_tell p.1 p.2 (M2.out.below (below_drew w2)) htell).mono ?_
        rintro e w3 ⟨F3, rfl, m3, t3, f3⟩
        have M3 := Lib.hid m3
        have G3 := Lib.hid (G2.out.tell htell)
        clear m3 t3 f3
        go_wp2_with fail
        exact ⟨⟨k + 1, F3, ms3, by omega, by go_num, M3.out, G3.out⟩, by simp [intOf]; omega⟩
      · have e0 : ((nn : Int) == 0) = false := by simp [hnn]
        go_wp2_with fail
        exact ⟨⟨k + 1, F2, ms2, by omega, by go_num, M2.out, G2.out⟩, by simp [intOf]; omega⟩
    · obtain rfl : k = N := by omega
      clear hkN hk
      go_wp2_with fail
      have hlen : ms'.length ≤ 1000000 := by have := HG1.out.few; omega
      obtain ⟨mf, st, hmt⟩ : ∃ mf st, meetM th ms' = (mf, st) := ⟨_, _, rfl⟩
      have HMT := Lib.hid hmt
      have HND1 := Lib.hid HM1.out.is.nodup
      refine (mf_list HM1.out hlen).mono ?_
      rintro e w2 ⟨v1, rfl, o1, m2, b2⟩
      have M2 := Lib.hid m2
      have hv1 : ∀ g, v1.ownBlock = some g → g ∉ F' ∧ g < w2.heap.size := fun g hg => ⟨fun hF => by have := HM1.out.is.lts _ hF; have := (o1.lt g hg).1; omega, (o1.lt g hg).2⟩
      have HV1 := Lib.hid hv1
      have O1 := Lib.hid o1
      obtain ⟨A1, c1, rfl⟩ := o1.slice
      obtain ⟨n1, hn1⟩ : ∃ n1, ms'.length = n1 := ⟨_, rfl⟩
      have hn32 : n1 ≤ 32 := by have := HG1.out.few; omega
      have HN1 := Lib.hid hn1
      rw [hn1] at O1 HV1 ⊢
      have HB2 := Lib.hid b2
      clear o1 m2 b2 hv1 hn1 hmt hlen HM1
      obtain ⟨i0, hi, hz0, hz1, hz2⟩ := info_parts Try.info_mark
      go_wp2_with (at_builtin; refine wpList_appC _ rfl _ _ _ rfl w2.heap.size i0 _ 56 Try.underlying39 hi hz0 hz1 hz2 rfl (by decide) (fun _ _ => trivial) (.slice (some ⟨w2.heap.size, 0, none⟩) 0 0) 0 [] rfl ?own C m e (mcs th) rfl ?rd ?hb ?h63 ?hbase ?_)
      case own =>
        refine OwnC.box0 ?_ ?_
        · simp
        · omega
      case rd => exact (HS.out.below M2.out.old).below (by repeat (first | with_reducible exact Below.refl _ _ | (with_reducible refine Below.alloc ?_ (by first | (simp; done) | (simp; omega)) _)))
      case hb => omega
      case h63 => omega
      case hbase => simp
      intro v2 w3 o3 g3 y1 y2
      clear y1 y2
      have hB3 : Below w2.heap.size w2 w3 := Below.grown (below_alloc w2 _) g3 (by simp) (fun k hk => by simp [Value.ownBlock] at hk; omega)
      obtain ⟨A2, c2, rfl, r3⟩ := o3.rd
      have M3 := Lib.hid (M2.out.below hB3)
      have HB3 := Lib.hid hB3
      have R3 := Lib.hid r3
      have HA3 := Lib.hid (show ∀ ad, A2 = some ad → ad.block ∉ F' from fun ad had hF => by
        have h1 := (o3.lt ad.block (by rw [had]; rfl)).1
        have := M2.out.is.lts _ hF
        omega)
      clear o3 g3 r3 hB3
      go_wp2_with fail
      refine (mf_meet A2 m c2 M3.out (by rw [HN1.out]; omega) R3.out HA3.out HMT.out).mono ?_
      rintro e w4 ⟨v4, rfl, o4, m4, t4⟩
      have M4 := Lib.hid m4
      obtain ⟨A4, c4, rfl⟩ := o4.slice
      have hstl : st.length = n1 := by rw [← HN1.out, show st = (meetM th ms').2 by rw [HMT.out]]; simp [meetM]
      rw [hstl] at o4 ⊢
      have R4 := Lib.hid (show RdC 6 w4 A4 n1 c4 (scs st) from by
        obtain ⟨A, cc, he, hr⟩ := o4.rd
        cases he
        exact hr)
      have R1 := Lib.hid (show RdC 5 w4 A1 n1 c1 (mcs ms') from by
        obtain ⟨A, cc, he, hr⟩ := ((O1.out.below HB3.out).tch t4 (fun g hg => (HV1.out g hg).1)).rd
        cases he
        exact hr)
      have hb1 := R1.out.2.1
      have hb2 := R1.out.2.2.1
      have hb3 := R4.out.2.1
      have hb4 := R4.out.2.2.1
      clear o4 m4 t4 M3 R3 HA3 M2 HB3 HV1 O1
      go_wp2_with fail
      go_loopg [9, 10, 11, 12, 13, 14, 15, 16, 17, 18] n1 (fun gk ui _ _ _ _ _ _ _ _ _ wr => ∃ j : Nat, j ≤ n1 ∧ gk = n1 - j ∧ ui = .int .i64 j ∧ Below w4.heap.size w4 wr)
      case atStart => exact ⟨0, by omega, by omega, rfl, Below.refl _ _⟩
      case round =>
        obtain ⟨j, hj, rfl, rfl, hb⟩ := hrel
        have HB := Lib.hid hb
        clear hb
        obtain ⟨wo, rfl⟩ : ∃ wo : World, wo = wr := ⟨_, rfl⟩
        by_cases hjN : j < n1
        · have hjN' : (j : Int) < n1 := by omega
          have hjl : j < ms'.length := by rw [HN1.out]; exact hjN
          obtain ⟨p, hp⟩ : ∃ p, ms'[j] = p := ⟨_, rfl⟩
          have HP := Lib.hid hp
          go_upto_block 4 with fail
          go_cut [10] (fun uh wx => ∃ (hs : Bool) (o : Outc), uh = .bool hs ∧ BoxO wx wo.heap.size o ∧ Below wo.heap.size wo wx ∧ wo.heap.size < wx.heap.size ∧ Hid ((hs = false ∧ mat th p.1 = none) ∨ (hs = true ∧ mat th p.1 = some o)))
          case first =>
           go_wp2_with fail
           go_loopw [10, 12] (fun uh uk wi => ∃ (q : Nat) (hs : Bool) (o : Outc), q ≤ m ∧ uk = .int .i64 q ∧ uh = .bool hs ∧ BoxO wi wo.heap.size o ∧ Below wo.heap.size wo wi ∧ wo.heap.size < wi.heap.size ∧ Hid ((hs = false ∧ ∀ r (hr : r < th.length), r < q → th[r].1 ≠ p.1) ∨ (hs = true ∧ mat th p.1 = some o))) (fun uh uk _ => m - (intOf uk).toNat)
           case atStart => exact ⟨0, false, oz, by omega, rfl, rfl, BoxO.new wo oz, below_alloc wo _, by simp, Lib.hid (.inl ⟨rfl, fun r _ h => by omega⟩)⟩
           case round =>
             obtain ⟨q, hs, o, hq, rfl, rfl, hoa, hbi, hzi, hst⟩ := hrel
             have HST := Lib.hid hst.out
             have HBI := Lib.hid hbi
             obtain ⟨d0, d1, d2, d3, d4⟩ := hoa.out
             have HOA := Lib.hid hoa
             clear hoa
             have hml : th.length = m := by have := HS.out.1; rw [mcs_length] at this; omega
             have BW := Lib.hid (below_then HB.out HB.out.size HBI.out)
             obtain ⟨b1, o1, eA1, g0, g1, g2, g3, g4⟩ := mark_at (R1.out.below BW.out) j hjl
             subst eA1
             rw [HP.out] at g0 g1 g2 g3 g4
             by_cases hc : q < m ∧ hs = false
             · obtain ⟨hqm, rfl⟩ := hc
               have hqm' : (q : Int) < m := by omega
               obtain ⟨b2, o2, eA2, t0, t1, t2, t3, t4⟩ := mark_at (HS.out.below (below_then M4.out.old M4.out.old.size BW.out)) q (by omega)
               subst eA2
               obtain ⟨r, hr⟩ : ∃ r, th[q]'(by omega) = r := ⟨_, rfl⟩
               rw [hr] at t0 t1 t2 t3 t4
               have hno : ∀ r (hr : r < th.length), r < q → th[r].1 ≠ p.1 := by
                 rcases HST.out with ⟨_, h⟩ | ⟨h, _⟩
                 · exact h
                 · cases h
               have HNO := Lib.hid hno
               have HR1 := Lib.hid (show th[q]? = some r by rw [List.getElem?_eq_getElem (by omega), hr])
               have HZ := Lib.hid hzi
               have HML := Lib.hid hml
               clear hno hr hzi hml HST
               by_cases he : r.1 = p.1
               · have e3 : (r.1 == p.1) = true := by simp [he]
                 have HM := Lib.hid (show mat th p.1 = some r.2 by
                   have hq : q < th.length := by rw [HML.out]; exact hqm
                   have hr : th[q] = r := by have := HR1.out; rwa [List.getElem?_eq_getElem hq, Option.some.injEq] at this
                   have := first_mat hq (by rw [hr]; exact he) HNO.out
                   rw [this, hr])
                 clear he
                 clear hst hbi
                 go_wp2_with fail
                 go_quiet (fail)
                 go_wp2_with fail
                 exact ⟨⟨q + 1, true, r.2, by omega, by go_num, rfl, (HOA.out.below (below_drewN _ _)).set4 r.2, ((((HBI.out.trans ((below_drewN _ _).mono HBI.out.size)).setCell (Nat.le_refl _) _).setCell (Nat.le_refl _) _).setCell (Nat.le_refl _) _).setCell (Nat.le_refl _) _, by simpa using HZ.out, Lib.hid (.inr ⟨rfl, HM.out⟩)⟩, by simp [intOf]; omega⟩
               · have e3 : (r.1 == p.1) = false := by simp [he]
                 have HNO2 := Lib.hid (show ∀ r (hr : r < th.length), r < q + 1 → th[r].1 ≠ p.1 from fun i hi hiq => by
                   by_cases h' : i < q
                   · exact HNO.out i hi h'
                   · obtain rfl : i = q := by omega
                     have := HR1.out
                     rw [List.getElem?_eq_getElem hi, Option.some.injEq] at this
                     rw [this]
                     exact he)
                 clear hst hbi he
                 go_wp2_with fail
                 go_quiet (fail)
                 go_wp2_with fail
                 exact ⟨⟨q + 1, false, r.2, by omega, by go_num, rfl, (HOA.out.below (below_drewN _ _)).set4 r.2, ((((HBI.out.trans ((below_drewN _ _).mono HBI.out.size)).setCell (Nat.le_refl _) _).setCell (Nat.le_refl _) _).setCell (Nat.le_refl _) _).setCell (Nat.le_refl _) _, by simpa using HZ.out, Lib.hid (.inl ⟨rfl, HNO2.out⟩)⟩, by simp [intOf]; omega⟩
             · have hend : (hs = false ∧ mat th p.1 = none ∧ q = m) ∨ (hs = true ∧ mat th p.1 = some o) := by
                 rcases HST.out with ⟨h1, h2⟩ | h
                 · have hq' : q = m := by
                     apply Classical.byContradiction
                     intro hne
                     exact hc ⟨by omega, h1⟩
                   refine .inl ⟨h1, mat_none.2 fun r hr e => ?_, hq'⟩
                   obtain ⟨i, hi, rfl⟩ := List.getElem_of_mem hr
                   exact h2 i hi (by omega) e
                 · exact .inr h
               have HEND := Lib.hid hend
               clear hend hc hst HST hbi hml
               rcases HEND.out with ⟨rfl, hmn, rfl⟩ | ⟨rfl, hms⟩
               · have HMN := Lib.hid hmn
                 clear hmn
                 go_wp2_with fail
                 go_meet
                 exact ⟨false, o, rfl, HOA.out, HBI.out, hzi, Lib.hid (.inl ⟨rfl, HMN.out⟩)⟩
               · have HMS := Lib.hid hms
                 clear hms
                 have hqd : q < m ∨ q = m := by omega
                 rcases hqd with hqm | rfl
                 · have hqm' : (q : Int) < m := by omega
                   go_wp2_with fail
                   go_meet
                   exact ⟨true, o, rfl, HOA.out, HBI.out, hzi, Lib.hid (.inr ⟨rfl, HMS.out⟩)⟩
                 · go_wp2_with fail
                   go_meet
                   exact ⟨true, o, rfl, HOA.out, HBI.out, hzi, Lib.hid (.inr ⟨rfl, HMS.out⟩)⟩
          case rest =>
           obtain ⟨hs, o, rfl, hbo, hbi, hzi, hend⟩ := hcut
           obtain ⟨wr, hwr⟩ : ∃ wr : World, wr = wc := ⟨_, rfl⟩
           subst hwr
           have HEND := Lib.hid hend.out
           obtain ⟨d0, d1, d2, d3, d4⟩ := hbo.out
           have BW := Lib.hid (below_then HB.out HB.out.size hbi)
           obtain ⟨b1, o1, eA1, g0, g1, g2, g3, g4⟩ := mark_at (R1.out.below BW.out) j hjl
           subst eA1
           rw [HP.out] at g0 g1 g2 g3 g4
           obtain ⟨hjs, hall⟩ := step_all th ms' mf st HMT.out HND1.out HG1.out j hjl p HP.out
           obtain ⟨b3, o3, eA4, s0, s1, s2, s3, s4, s5⟩ := step_at (R4.out.below BW.out) j hjs
           subst eA4
           obtain ⟨x, hx⟩ : ∃ x, st[j] = x := ⟨_, rfl⟩
           rw [hx] at hall s0 s1 s2 s3 s4 s5
           have hwz := BW.out.size
           have HALL := Lib.hid hall
           have hb1l : b1 < wr.heap.size := cell_lt g0
           have hb3l : b3 < wr.heap.size := cell_lt s0
           clear hall hx hend hbi hbo
           rcases HEND.out with ⟨rfl, hmn⟩ | ⟨rfl, hms⟩
           · rcases HALL.out with ⟨f1, f2, _, hx⟩ | ⟨f1, _, hx, hg⟩ | ⟨o', hm', _⟩
             · subst hx
               clear HALL HEND f1 hmn
               rw [f2] at g1 g2 g3 g4
               clear f2
               simp only [oz] at s0 s1 s2 s3 s4 s5 g1 g2 g3 g4
               as_aux_lemma =>
                 go_wp2_with fail
                 go_quiet (fail)
                 go_wp2_with fail
                 go_roundg (n1 - (j + 1))
                 case measure => omega
                 case rel => exact ⟨j + 1, by omega, rfl, by go_num, (by repeat (first | with_reducible exact BW.out | with_reducible refine bel_dn ?_ _ | (with_reducible refine Below.setCell ?_ (by first | omega | (simp; done) | (simp; omega)) _) | (with_reducible refine Below.alloc ?_ (by first | omega | (simp; done) | (simp; omega)) _)))⟩
             · subst hx
               have em := (fin_yes f1).1
               have HG := Lib.hid hg
               clear HALL HEND f1 hmn hg
               simp only at s0 s1 s2 s3 s4 s5
               as_aux_lemma =>
                 go_wp2_with fail
                 go_quiet (fail)
                 go_wp2_with fail
                 refine (mf_get p.1 (M4.out.below (by repeat (first | with_reducible exact BW.out | with_reducible refine bel_dn ?_ _ | (with_reducible refine Below.setCell ?_ (by first | omega | (simp; done) | (simp; omega)) _) | (with_reducible refine Below.alloc ?_ (by first | omega | (simp; done) | (simp; omega)) _)))) HG.out).mono ?_
                 rintro e w5 ⟨rfl, m5, b5⟩
                 have hz5 : wr.heap.size + 1 < w5.heap.size := by have := b5.size; simp at this; omega
                 have hz6 : wr.heap.size < w5.heap.size := by omega
                 have y2 : w5.cell? ⟨wr.heap.size, 2, none⟩ = some (.int .u8 p.2.k) := stays b5 (by go_simp) (by simp; omega)
                 have y3 : w5.cell? ⟨wr.heap.size, 3, none⟩ = some (.int .u64 p.2.a) := stays b5 (by go_simp) (by simp; omega)
                 have y4 : w5.cell? ⟨wr.heap.size, 4, none⟩ = some (.int .u64 p.2.b) := stays b5 (by go_simp) (by simp; omega)
                 have y5 : w5.cell? ⟨wr.heap.size, 5, none⟩ = some (.string ⟨p.2.c.toArray⟩) := stays b5 (by go_simp) (by simp; omega)
                 have v0 : w5.cell? ⟨wr.heap.size + 1, 0, none⟩ = some (.int .u8 p.2.k) := stays b5 (by go_simp) (by simp)
                 have v1 : w5.cell? ⟨wr.heap.size + 1, 1, none⟩ = some (.int .u64 p.2.a) := stays b5 (by go_simp) (by simp)
                 have v2 : w5.cell? ⟨wr.heap.size + 1, 2, none⟩ = some (.int .u64 p.2.b) := stays b5 (by go_simp) (by simp)
                 have v3 : w5.cell? ⟨wr.heap.size + 1, 3, none⟩ = some (.string ⟨p.2.c.toArray⟩) := stays b5 (by go_simp) (by simp)
                 have BW5 := Lib.hid (show Below w4.heap.size w4 w5 from below_then (by repeat (first | with_reducible exact BW.out | with_reducible refine bel_dn ?_ _ | (with_reducible refine Below.setCell ?_ (by first | omega | (simp; done) | (simp; omega)) _) | (with_reducible refine Below.alloc ?_ (by first | omega | (simp; done) | (simp; omega)) _))) (by simp; omega) b5)
                 clear m5 b5
                 go_wp2_with fail
                 go_roundg (n1 - (j + 1))
                 case measure => omega
                 case rel => exact ⟨j + 1, by omega, rfl, by go_num, BW5.out.alloc BW5.out.size _⟩
             · rw [hm'] at hmn; cases hmn
           · rcases HALL.out with ⟨_, _, hmn, _⟩ | ⟨_, hmn, _, _⟩ | ⟨o', hm', hcase⟩
             · rw [hms] at hmn; cases hmn
             · rw [hms] at hmn; cases hmn
             · obtain rfl : o' = o := by rw [hms] at hm'; exact (Option.some.inj hm').symm
               rcases hcase with ⟨f1, hx, hg⟩ | ⟨f1, f2, f3, hx, hg⟩ | ⟨f1, f2, f3, hx⟩
               · subst hx
                 have em := (fin_yes f1).1
                 have HG := Lib.hid hg
                 have hf3 : (decide ((1 : Int) < o'.k) = true ∧ decide ((o'.k : Int) ≤ 5) = true) ∨ decide ((1 : Int) < o'.k) = false ∨ (decide ((1 : Int) < o'.k) = true ∧ decide ((o'.k : Int) ≤ 5) = false) := by
                   rcases fin3 o' with h | h | h
                   · exact .inl h.2
                   · exact .inr (.inl h.2)
                   · exact .inr (.inr h.2)
                 clear HALL HEND f1 hms hm' hg
                 simp only at s0 s1 s2 s3 s4 s5
                 rcases hf3 with ⟨k1, k2⟩ | k1 | ⟨k1, k2⟩
                 · as_aux_lemma =>
                     go_wp2_with fail
                     go_quiet (fail)
                     go_wp2_with fail
                     refine (mf_get p.1 (M4.out.below (by repeat (first | with_reducible exact BW.out | with_reducible refine bel_dn ?_ _ | (with_reducible refine Below.setCell ?_ (by first | omega | (simp; done) | (simp; omega)) _) | (with_reducible refine Below.alloc ?_ (by first | omega | (simp; done) | (simp; omega)) _)))) HG.out).mono ?_
                     rintro e w5 ⟨rfl, m5, b5⟩
                     have hz5 : wr.heap.size + 1 < w5.heap.size := by have := b5.size; simp at this; omega
                     have hz6 : wr.heap.size < w5.heap.size := by omega
                     have y2 : w5.cell? ⟨wr.heap.size, 2, none⟩ = some (.int .u8 p.2.k) := stays b5 (by go_simp) (by simp; omega)
                     have y3 : w5.cell? ⟨wr.heap.size, 3, none⟩ = some (.int .u64 p.2.a) := stays b5 (by go_simp) (by simp; omega)
                     have y4 : w5.cell? ⟨wr.heap.size, 4, none⟩ = some (.int .u64 p.2.b) := stays b5 (by go_simp) (by simp; omega)
                     have y5 : w5.cell? ⟨wr.heap.size, 5, none⟩ = some (.string ⟨p.2.c.toArray⟩) := stays b5 (by go_simp) (by simp; omega)
                     have v0 : w5.cell? ⟨wr.heap.size + 1, 0, none⟩ = some (.int .u8 p.2.k) := stays b5 (by go_simp) (by simp)
                     have v1 : w5.cell? ⟨wr.heap.size + 1, 1, none⟩ = some (.int .u64 p.2.a) := stays b5 (by go_simp) (by simp)
                     have v2 : w5.cell? ⟨wr.heap.size + 1, 2, none⟩ = some (.int .u64 p.2.b) := stays b5 (by go_simp) (by simp)
                     have v3 : w5.cell? ⟨wr.heap.size + 1, 3, none⟩ = some (.string ⟨p.2.c.toArray⟩) := stays b5 (by go_simp) (by simp)
                     have BW5 := Lib.hid (show Below w4.heap.size w4 w5 from below_then (by repeat (first | with_reducible exact BW.out | with_reducible refine bel_dn ?_ _ | (with_reducible refine Below.setCell ?_ (by first | omega | (simp; done) | (simp; omega)) _) | (with_reducible refine Below.alloc ?_ (by first | omega | (simp; done) | (simp; omega)) _))) (by simp; omega) b5)
                     clear m5 b5
                     go_wp2_with fail
                     go_roundg (n1 - (j + 1))
                     case measure => omega
                     case rel => exact ⟨j + 1, by omega, rfl, by go_num, BW5.out.alloc BW5.out.size _⟩
                 · as_aux_lemma =>
                     go_wp2_with fail
                     go_quiet (fail)
                     go_wp2_with fail
                     refine (mf_get p.1 (M4.out.below (by repeat (first | with_reducible exact BW.out | with_reducible refine bel_dn ?_ _ | (with_reducible refine Below.setCell ?_ (by first | omega | (simp; done) | (simp; omega)) _) | (with_reducible refine Below.alloc ?_ (by first | omega | (simp; done) | (simp; omega)) _)))) HG.out).mono ?_
                     rintro e w5 ⟨rfl, m5, b5⟩
                     have hz5 : wr.heap.size + 1 < w5.heap.size := by have := b5.size; simp at this; omega
                     have hz6 : wr.heap.size < w5.heap.size := by omega
                     have y2 : w5.cell? ⟨wr.heap.size, 2, none⟩ = some (.int .u8 p.2.k) := stays b5 (by go_simp) (by simp; omega)
                     have y3 : w5.cell? ⟨wr.heap.size, 3, none⟩ = some (.int .u64 p.2.a) := stays b5 (by go_simp) (by simp; omega)
                     have y4 : w5.cell? ⟨wr.heap.size, 4, none⟩ = some (.int .u64 p.2.b) := stays b5 (by go_simp) (by simp; omega)
                     have y5 : w5.cell? ⟨wr.heap.size, 5, none⟩ = some (.string ⟨p.2.c.toArray⟩) := stays b5 (by go_simp) (by simp; omega)
                     have v0 : w5.cell? ⟨wr.heap.size + 1, 0, none⟩ = some (.int .u8 p.2.k) := stays b5 (by go_simp) (by simp)
                     have v1 : w5.cell? ⟨wr.heap.size + 1, 1, none⟩ = some (.int .u64 p.2.a) := stays b5 (by go_simp) (by simp)
                     have v2 : w5.cell? ⟨wr.heap.size + 1, 2, none⟩ = some (.int .u64 p.2.b) := stays b5 (by go_simp) (by simp)
                     have v3 : w5.cell? ⟨wr.heap.size + 1, 3, none⟩ = some (.string ⟨p.2.c.toArray⟩) := stays b5 (by go_simp) (by simp)
                     have BW5 := Lib.hid (show Below w4.heap.size w4 w5 from below_then (by repeat (first | with_reducible exact BW.out | with_reducible refine bel_dn ?_ _ | (with_reducible refine Below.setCell ?_ (by first | omega | (simp; done) | (simp; omega)) _) | (with_reducible refine Below.alloc ?_ (by first | omega | (simp; done) | (simp; omega)) _))) (by simp; omega) b5)
                     clear m5 b5
                     go_wp2_with fail
                     go_roundg (n1 - (j + 1))
                     case measure => omega
                     case rel => exact ⟨j + 1, by omega, rfl, by go_num, BW5.out.alloc BW5.out.size _⟩
                 · as_aux_lemma =>
                     go_wp2_with fail
                     go_quiet (fail)
                     go_wp2_with fail
                     refine (mf_get p.1 (M4.out.below (by repeat (first | with_reducible exact BW.out | with_reducible refine bel_dn ?_ _ | (with_reducible refine Below.setCell ?_ (by first | omega | (simp; done) | (simp; omega)) _) | (with_reducible refine Below.alloc ?_ (by first | omega | (simp; done) | (simp; omega)) _)))) HG.out).mono ?_
                     rintro e w5 ⟨rfl, m5, b5⟩
                     have hz5 : wr.heap.size + 1 < w5.heap.size := by have := b5.size; simp at this; omega
                     have hz6 : wr.heap.size < w5.heap.size := by omega
                     have y2 : w5.cell? ⟨wr.heap.size, 2, none⟩ = some (.int .u8 p.2.k) := stays b5 (by go_simp) (by simp; omega)
                     have y3 : w5.cell? ⟨wr.heap.size, 3, none⟩ = some (.int .u64 p.2.a) := stays b5 (by go_simp) (by simp; omega)
                     have y4 : w5.cell? ⟨wr.heap.size, 4, none⟩ = some (.int .u64 p.2.b) := stays b5 (by go_simp) (by simp; omega)
                     have y5 : w5.cell? ⟨wr.heap.size, 5, none⟩ = some (.string ⟨p.2.c.toArray⟩) := stays b5 (by go_simp) (by simp; omega)
                     have v0 : w5.cell? ⟨wr.heap.size + 1, 0, none⟩ = some (.int .u8 p.2.k) := stays b5 (by go_simp) (by simp)
                     have v1 : w5.cell? ⟨wr.heap.size + 1, 1, none⟩ = some (.int .u64 p.2.a) := stays b5 (by go_simp) (by simp)
                     have v2 : w5.cell? ⟨wr.heap.size + 1, 2, none⟩ = some (.int .u64 p.2.b) := stays b5 (by go_simp) (by simp)
                     have v3 : w5.cell? ⟨wr.heap.size + 1, 3, none⟩ = some (.string ⟨p.2.c.toArray⟩) := stays b5 (by go_simp) (by simp)
                     have BW5 := Lib.hid (show Below w4.heap.size w4 w5 from below_then (by repeat (first | with_reducible exact BW.out | with_reducible refine bel_dn ?_ _ | (with_reducible refine Below.setCell ?_ (by first | omega | (simp; done) | (simp; omega)) _) | (with_reducible refine Below.alloc ?_ (by first | omega | (simp; done) | (simp; omega)) _))) (by simp; omega) b5)
                     clear m5 b5
                     go_wp2_with fail
                     go_roundg (n1 - (j + 1))
                     case measure => omega
                     case rel => exact ⟨j + 1, by omega, rfl, by go_num, BW5.out.alloc BW5.out.size _⟩
               · subst hx
                 obtain ⟨k1, k2⟩ := fin_yes f3
                 have HG := Lib.hid hg
                 clear HALL HEND f1 f3 hms hm' hg
                 rw [f2] at g1 g2 g3 g4
                 clear f2
                 simp only [oz] at s0 s1 s2 s3 s4 s5 g1 g2 g3 g4
                 as_aux_lemma =>
                   go_wp2_with fail
                   go_quiet (fail)
                   go_wp2_with fail
                   refine (mf_get p.1 (M4.out.below (by repeat (first | with_reducible exact BW.out | with_reducible refine bel_dn ?_ _ | (with_reducible refine Below.setCell ?_ (by first | omega | (simp; done) | (simp; omega)) _) | (with_reducible refine Below.alloc ?_ (by first | omega | (simp; done) | (simp; omega)) _)))) HG.out).mono ?_
                   rintro e w5 ⟨rfl, m5, b5⟩
                   have hz5 : wr.heap.size + 1 < w5.heap.size := by have := b5.size; simp at this; omega
                   have hz6 : wr.heap.size < w5.heap.size := by omega
                   have y2 : w5.cell? ⟨wr.heap.size, 2, none⟩ = some (.int .u8 o'.k) := stays b5 (by go_simp) (by simp; omega)
                   have y3 : w5.cell? ⟨wr.heap.size, 3, none⟩ = some (.int .u64 o'.a) := stays b5 (by go_simp) (by simp; omega)
                   have y4 : w5.cell? ⟨wr.heap.size, 4, none⟩ = some (.int .u64 o'.b) := stays b5 (by go_simp) (by simp; omega)
                   have y5 : w5.cell? ⟨wr.heap.size, 5, none⟩ = some (.string ⟨o'.c.toArray⟩) := stays b5 (by go_simp) (by simp; omega)
                   have v0 : w5.cell? ⟨wr.heap.size + 1, 0, none⟩ = some (.int .u8 o'.k) := stays b5 (by go_simp) (by simp)
                   have v1 : w5.cell? ⟨wr.heap.size + 1, 1, none⟩ = some (.int .u64 o'.a) := stays b5 (by go_simp) (by simp)
                   have v2 : w5.cell? ⟨wr.heap.size + 1, 2, none⟩ = some (.int .u64 o'.b) := stays b5 (by go_simp) (by simp)
                   have v3 : w5.cell? ⟨wr.heap.size + 1, 3, none⟩ = some (.string ⟨o'.c.toArray⟩) := stays b5 (by go_simp) (by simp)
                   have BW5 := Lib.hid (show Below w4.heap.size w4 w5 from below_then (by repeat (first | with_reducible exact BW.out | with_reducible refine bel_dn ?_ _ | (with_reducible refine Below.setCell ?_ (by first | omega | (simp; done) | (simp; omega)) _) | (with_reducible refine Below.alloc ?_ (by first | omega | (simp; done) | (simp; omega)) _))) (by simp; omega) b5)
                   clear m5 b5
                   go_wp2_with fail
                   go_roundg (n1 - (j + 1))
                   case measure => omega
                   case rel => exact ⟨j + 1, by omega, rfl, by go_num, BW5.out.alloc BW5.out.size _⟩
               · subst hx
                 have hf3 : decide ((1 : Int) < o'.k) = false ∨ (decide ((1 : Int) < o'.k) = true ∧ decide ((o'.k : Int) ≤ 5) = false) := by
                   rcases fin3 o' with h | h | h
                   · rw [f3] at h; cases h.1
                   · exact .inl h.2
                   · exact .inr h.2
                 clear HALL HEND f1 f3 hms hm'
                 rw [f2] at g1 g2 g3 g4
                 clear f2
                 simp only [oz] at s0 s1 s2 s3 s4 s5 g1 g2 g3 g4
                 rcases hf3 with k1 | ⟨k1, k2⟩
                 · as_aux_lemma =>
                     go_wp2_with fail
                     go_quiet (fail)
                     go_wp2_with fail
                     go_roundg (n1 - (j + 1))
                     case measure => omega
                     case rel => exact ⟨j + 1, by omega, rfl, by go_num, (by repeat (first | with_reducible exact BW.out | with_reducible refine bel_dn ?_ _ | (with_reducible refine Below.setCell ?_ (by first | omega | (simp; done) | (simp; omega)) _) | (with_reducible refine Below.alloc ?_ (by first | omega | (simp; done) | (simp; omega)) _)))⟩
                 · as_aux_lemma =>
                     go_wp2_with fail
                     go_quiet (fail)
                     go_wp2_with fail
                     go_roundg (n1 - (j + 1))
                     case measure => omega
                     case rel => exact ⟨j + 1, by omega, rfl, by go_num, (by repeat (first | with_reducible exact BW.out | with_reducible refine bel_dn ?_ _ | (with_reducible refine Below.setCell ?_ (by first | omega | (simp; done) | (simp; omega)) _) | (with_reducible refine Below.alloc ?_ (by first | omega | (simp; done) | (simp; omega)) _)))⟩
        · obtain rfl : j = n1 := by omega
          go_wp2_with fail
          refine (works_calls _).mono ?_
          rintro e w6 ⟨rfl, b6⟩
          go_wp2_with fail
          go_ret
          exact ⟨rfl, below_then (M4.out.below HB.out).old (M4.out.below HB.out).old.size b6⟩
theorem mmeet_row (B : Option Addr) (c : Nat) (l : Ms) {w : World} (hr : RdC 5 w B l.length c (mcs l)) (C : Option Addr) (e : Nat) (th : Ms) (hs : RdC 5 w C th.length e (mcs th)) :
    Calls Try.prog 5 #[.slice B l.length c, .slice C th.length e] w fun e w' => e = .returned (.bool true) ∧ Below w.heap.size w w' := mmeet_calls B C _ c _ e l th w hr hs
end Go.Proofs.Ytgmoodcojpbbdaa

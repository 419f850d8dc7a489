import Derived.Test.YtgmoodcojpbbdaaMeetLaw
set_option linter.unusedVariables false
set_option linter.unusedSimpArgs false
namespace Go.Proofs.Ytgmoodcojpbbdaa
open Go.RowKit

theorem Try.info_step : (Try.prog.info? 55).map (fun i => (i.zero, i.size, i.bytes)) = some (some (.agg #[.string ⟨#[]⟩, .int .i64 0, .int .u8 0, .int .u64 0, .int .u64 0, .string ⟨#[]⟩]), 6, 64) := by kernel_rfl

theorem step_spec (th : Ms) (p : List UInt8 × Outc) : ∃ own kd st, stepM th p = ((p.1, own), (p.1, kd, st)) ∧
    (((getM th p.1).2 = true ∧ fin own = true ∧ kd = 3 ∧ st = own) ∨ ((getM th p.1).2 = true ∧ fin own = false ∧ kd = 2 ∧ st = oz) ∨ ((getM th p.1).2 = false ∧ fin own = true ∧ kd = 4 ∧ st = own) ∨ ((getM th p.1).2 = false ∧ fin own = false ∧ kd = 1 ∧ st = oz)) := by
  unfold stepM getM
  cases mat th p.1 with
  | none =>
    cases h : fin p.2
    · exact ⟨p.2, 1, oz, by simp [h], by simp [h]⟩
    · exact ⟨p.2, 4, p.2, by simp [h], by simp [h]⟩
  | some o =>
    simp only
    generalize (if !fin p.2 && fin o then o else p.2) = own
    cases h : fin own
    · exact ⟨own, 2, oz, by simp [h], by simp [h]⟩
    · exact ⟨own, 3, own, by simp [h], by simp [h]⟩
def MeetPost (th ms : Ms) (a : Nat) (F : List Nat) (w : World) (e : Ending) (w' : World) : Prop :=
  ∃ v, e = .returned v ∧ OwnC 55 6 (fun _ => True) w' w.heap.size v ms.length (scs (meetM th ms).2) ∧ Mk w' a F (meetM th ms).1 ∧ Tch F w w'

set_option maxHeartbeats 400000 in
theorem meet_nil (A : Option Addr) (n c : Nat) (w : World) :
    Calls Try.prog 24 #[.pointer none, .slice A n c] w fun e w' => e = .returned (.slice none 0 0) ∧ w = w' := by
  go_enter Try.func24, Try.ntmps24
  go_wp2_with fail
  refine (list_nil _).mono ?_
  rintro e w1 ⟨rfl, rfl⟩
  go_wp2_with fail
  refine wp_loop_rounds 1 ?_
  rw [rounds_succ]
  go_wp2_with fail
  go_ret
  exact ⟨rfl, rfl⟩

set_option maxRecDepth 100000 in
set_option maxHeartbeats 16000000 in
theorem meet_calls (a : Nat) (F : List Nat) (ms th : Ms) (A : Option Addr) (n c : Nat) (w : World) (h : Mk w a F ms) (hb : ms.length ≤ 1000000) (ht : RdC 5 w A n c (mcs th)) (hA : ∀ ad, A = some ad → ad.block ∉ F) :
    Calls Try.prog 24 #[.pointer (some ⟨a, 0, none⟩), .slice A n c] w (MeetPost th ms a F w) := by
  have HM := Lib.hid h
  have HT := Lib.hid ht
  have HA := Lib.hid hA
  obtain ⟨N, hN⟩ : ∃ N, ms.length = N := ⟨_, rfl⟩
  rw [hN] at hb
  have HN := Lib.hid hN
  have HND := Lib.hid h.nodup
  clear h ht hA hN
  go_enter Try.func24, Try.ntmps24
  go_wp2_with fail
  refine (list_calls a F ms _ HM.out (by rw [HN.out]; exact hb)).mono ?_
  rintro e w1 ⟨v1, rfl, o1, b1⟩
  obtain ⟨A1, c1, rfl, r1⟩ := o1.rd
  have R1 := Lib.hid r1
  have B1 := Lib.hid b1
  have hsz1 := b1.size
  have HF1 := Lib.hid (show ∀ ad, A1 = some ad → ad.block ∉ F from fun ad had hF => by
    have h1 := (o1.lt ad.block (by rw [had]; rfl)).1
    have h2 := HM.out.lts _ hF
    omega)
  have hl1 := r1.2.1
  have hm1 := r1.2.2.1
  rw [HN.out] at hl1 ⊢
  clear o1 b1 r1
  go_wp2_with fail
  go_loopw [4, 6, 7, 8, 9, 10, 11, 15] (fun l _ _ _ _ _ _ i wr => ∃ k : Nat, k ≤ N ∧ i = .int .i64 k ∧ OwnC 55 6 (fun _ => True) wr w1.heap.size l k (scs ((ms.take k).map fun p => (stepM th p).2)) ∧ Mk wr a F (curM th ms k) ∧ Tch F w1 wr) (fun _ _ _ _ _ _ _ i _ => N - (intOf i).toNat)
  case atStart => exact ⟨0, by omega, rfl, OwnC.nil_, by rw [cur_zero]; exact HM.out.below B1.out, Tch.refl _ _⟩
  case round =>
    obtain ⟨k, hk, rfl, ho, hmk, htc⟩ := hrel
    have HO := Lib.hid ho
    have HMK := Lib.hid hmk
    have HTC := Lib.hid htc
    have hszr := htc.size
    clear ho hmk htc
    by_cases hkN : k < N
    · have hkl : k < ms.length := by rw [HN.out]; exact hkN
      obtain ⟨b0, o0, e, g0, g1, g2, g3, g4⟩ := mark_at (R1.out.tch HTC.out HF1.out) k hkl
      subst e
      obtain ⟨p, hp⟩ : ∃ p, ms[k] = p := ⟨_, rfl⟩
      rw [hp] at g0 g1 g2 g3 g4
      have HTELL := Lib.hid (show (tellM (curM th ms k) p.1 (getM th p.1).1).2 = curM th ms (k + 1) by rw [← hp]; exact cur_tell th ms HND.out k hkl)
      have hget : mat (curM th ms (k + 1)) p.1 = some (stepM th p).1.2 := by rw [← hp]; exact cur_mat_succ th ms HND.out k hkl
      have HTAKE := Lib.hid (show (ms.take (k + 1)).map (fun p => (stepM th p).2) = (ms.take k).map (fun p => (stepM th p).2) ++ [(stepM th p).2] by rw [List.take_succ_eq_append_getElem hkl, List.map_append, hp]; rfl)
      obtain ⟨own, kd, st, hst, hcase⟩ := step_spec th p
      have HGET := Lib.hid (show getM (curM th ms (k + 1)) p.1 = (own, true) by simp [getM, hget, hst])
      rw [hst] at HTAKE
      obtain ⟨LS, hLS⟩ : ∃ LS, (ms.take k).map (fun p => (stepM th p).2) = LS := ⟨_, rfl⟩
      rw [hLS] at HO HTAKE
      clear hLS
      have HCASE := Lib.hid hcase
      have hkN' : (k : Int) < N := by omega
      clear hp hkl hget hst hcase
      go_wp2_with fail
      refine (first_calls A n c th p.1 _ ((HT.out.below B1.out).tch HTC.out HA.out |>.below (below_alloc _ _))).mono ?_
      rintro e w2 ⟨rfl, b2⟩
      obtain ⟨so, hso⟩ : ∃ so, (getM th p.1).1 = so := ⟨_, rfl⟩
      obtain ⟨sb, hsb⟩ : ∃ sb, (getM th p.1).2 = sb := ⟨_, rfl⟩
      rw [hso] at HTELL
      rw [hsb] at HCASE
      rw [hso, hsb, ov_is]
      have B2 := Lib.hid (below_then (below_alloc wr _) (by simp) b2)
      have xc : w2.cell? ⟨wr.heap.size, 0, none⟩ = some (.string ⟨p.1.toArray⟩) := stays b2 (by go_simp) (by simp)
      have hsz2 := B2.out.size
      clear b2 hso hsb
      have hlw : wr.heap.size < w2.heap.size := World.block_lt_of_cell? _ _ xc
      go_wp2_with fail
      have B3 := Lib.hid (B2.out.alloc B2.out.size (.cells #[.int .u8 so.k, .int .u64 so.a, .int .u64 so.b, .string ⟨so.c.toArray⟩] 33))
      have xc2 := stays_ (below_alloc w2 (.cells #[.int .u8 so.k, .int .u64 so.a, .int .u64 so.b, .string ⟨so.c.toArray⟩] 33)) xc
      refine (tell_calls a F (curM th ms k) p.1 so _ (HMK.out.below B3.out)).mono ?_
      rintro e w3 ⟨rfl, mk3, t3⟩
      rw [HTELL.out] at mk3
      have MK3 := Lib.hid mk3
      have hwrF : wr.heap.size ∉ F := fun hF => by have := HMK.out.lts _ hF; omega
      have xc3 := t3.cell xc2 hwrF
      have T3 := Lib.hid ((Tch.of_below F B3.out).trans_ t3)
      have hsz3 : w2.heap.size < w3.heap.size := by have := t3.size; simp at this; omega
      clear mk3 t3 xc xc2
      go_wp2_with fail
      refine (get_calls a F (curM th ms (k + 1)) p.1 _ MK3.out).mono ?_
      rintro e w4 ⟨rfl, b4⟩
      rw [HGET.out]
      have xc4 := stays_ b4 xc3
      have T4 := Lib.hid (T3.out.trans (Tch.of_below [] b4) (by simp))
      have MK4 := Lib.hid (MK3.out.below b4)
      have hsz4 := b4.size
      rw [ov_is]
      clear b4 xc3
      have hlw4 : wr.heap.size < w4.heap.size := by omega
      simp only
      have hstep : ∀ (W : World) (b : Nat), W.heap[b]? = some (.cells #[.string ⟨p.1.toArray⟩, .int .i64 0, .int .u8 0, .int .u64 0, .int .u64 0, .string ⟨#[]⟩] 55 (0, 0)) →
          (W.cell? ⟨b, 0, none⟩ = some (.string ⟨p.1.toArray⟩) ∧ W.cell? ⟨b, 1, none⟩ = some (.int .i64 0) ∧ W.cell? ⟨b, 2, none⟩ = some (.int .u8 0) ∧ W.cell? ⟨b, 3, none⟩ = some (.int .u64 0) ∧ W.cell? ⟨b, 4, none⟩ = some (.int .u64 0) ∧ W.cell? ⟨b, 5, none⟩ = some (.string ⟨#[]⟩)) ∧ ∀ j, W.frozen? ⟨b, j, none⟩ = false := fun W b hb =>
        have hc := fun j u hj => cell_of_heap (l := [.string ⟨p.1.toArray⟩, .int .i64 0, .int .u8 0, .int .u64 0, .int .u64 0, .string ⟨#[]⟩]) hb j u hj
        ⟨⟨hc 0 _ rfl, hc 1 _ rfl, hc 2 _ rfl, hc 3 _ rfl, hc 4 _ rfl, hc 5 _ rfl⟩, fun j => froz_of_heap hb j⟩
      have HSTEP := Lib.hid hstep
      clear hstep
      rcases HCASE.out with ⟨rfl, hfin, rfl, rfl⟩ | ⟨rfl, hfin, rfl, rfl⟩ | ⟨rfl, hfin, rfl, rfl⟩ | ⟨rfl, hfin, rfl, rfl⟩
      · have HFIN := Lib.hid hfin
        clear hfin
        go_wp2_with fail
        refine (final_calls st _).mono ?_
        rintro e w5 ⟨rfl, b5⟩
        rw [HFIN.out]
        have Z5 : w5.heap[w4.heap.size + 1]? = some (.cells #[.string ⟨p.1.toArray⟩, .int .i64 0, .int .u8 0, .int .u64 0, .int .u64 0, .string ⟨#[]⟩] 55 (0, 0)) := by
          have h1 := heap_alloc_new (w4.alloc (.cells #[.int .u8 st.k, .int .u64 st.a, .int .u64 st.b, .string ⟨st.c.toArray⟩] 33)) (.cells #[.string ⟨p.1.toArray⟩, .int .i64 0, .int .u8 0, .int .u64 0, .int .u64 0, .string ⟨#[]⟩] 55)
          simp only [World.size_alloc] at h1
          exact (b5.block _ (by simp)).trans h1
        obtain ⟨⟨s0, s1, s2, s3, s4, s5⟩, s6⟩ := HSTEP.out w5 _ Z5
        obtain ⟨q0, q1, q2, q3⟩ := ((OutAt.new w4 st 33).below (below_alloc _ (.cells #[.string ⟨p.1.toArray⟩, .int .i64 0, .int .u8 0, .int .u64 0, .int .u64 0, .string ⟨#[]⟩] 55))).below b5
        have T5 := Lib.hid (T4.out.trans (Tch.of_below [] ((below_alloc w4 _).trans (((below_alloc _ _).trans (b5.mono (by simp))).mono (by simp)))) (by simp))
        have MK5 := Lib.hid (MK4.out.below ((below_alloc w4 _).trans (((below_alloc _ _).trans (b5.mono (by simp))).mono (by simp))))
        have hsz5 : w4.heap.size + 1 < w5.heap.size := heap_lt Z5
        clear b5 Z5 xc4
        go_wp2_with fail
        go_region
        go_upto_region 15 with fail
        have HW := Lib.hid (show ∀ W, Tch [w4.heap.size + 1] w5 W → OwnC 55 6 (fun _ => True) W w1.heap.size u4 k (scs LS) ∧ Mk W a F (curM th ms (k + 1)) ∧ Tch F w1 W ∧ w1.heap.size ≤ W.heap.size from fun W hT =>
          ⟨(HO.out.tch T5.out (fun g hg hF => by have := (HO.out.lt g hg).1; have := HM.out.lts g hF; omega)).tch hT (fun g hg => by have := (HO.out.lt g hg).2; simp; omega),
           MK5.out.tch hT (fun g hg => by have := HMK.out.lts g hg; simp; omega),
           (HTC.out.trans_ T5.out).trans hT (fun j hj => by simp at hj; right; omega), by have := hT.size; have := T5.out.size; omega⟩)
        refine forget (fun W => W.cell? ⟨w4.heap.size + 1, 0, none⟩ = some (.string ⟨p.1.toArray⟩) ∧ W.cell? ⟨w4.heap.size + 1, 1, none⟩ = some (.int .i64 3) ∧ W.cell? ⟨w4.heap.size + 1, 2, none⟩ = some (.int .u8 st.k) ∧ W.cell? ⟨w4.heap.size + 1, 3, none⟩ = some (.int .u64 st.a) ∧ W.cell? ⟨w4.heap.size + 1, 4, none⟩ = some (.int .u64 st.b) ∧ W.cell? ⟨w4.heap.size + 1, 5, none⟩ = some (.string ⟨st.c.toArray⟩) ∧ Tch [w4.heap.size + 1] w5 W)
          ⟨by go_simp, by go_simp, (by go_simp <;> rfl), (by go_simp <;> rfl), (by go_simp <;> rfl), (by go_simp <;> rfl), (by repeat (first | exact Tch.refl _ _ | refine Tch.drew ?_ | refine Tch.alloc ?_ _ | refine Tch.setCell ?_ _ (by simp)))⟩ ?_
        rintro W ⟨y0, y1, y2, y3, y4, y5, y6⟩
        obtain ⟨x1, x2, x3, x4⟩ := HW.out W y6
        have HX := Lib.hid (And.intro x1 (And.intro x2 x3))
        obtain ⟨i0, hi, hz0, hz1, hz2⟩ := info_parts Try.info_step
        clear x1 x2 x3 y6 HW s0 s1 s2 s3 s4 s5 s6
        go_wp2_with (at_builtin; refine wpList_appC _ rfl _ _ _ rfl w1.heap.size i0 _ 64 Try.underlying52 hi hz0 hz1 hz2 rfl (by decide) (fun _ _ => trivial) u4 k (scs LS) rfl (HX.out.1.alloc _) (some ⟨W.heap.size, 0, none⟩) 1 1 (sc (p.1, 3, st)) rfl ?rd ?hb ?h63 ?hbase ?_)
        case rd => exact rdc_box (sc (p.1, 3, st)) 1 6 rfl (sc_one _) (by decide)
        case hb => omega
        case h63 => omega
        case hbase => simp; omega
        intro v6 w6 o6 g6 _ _
        rw [← scs_snoc, ← HTAKE.out] at o6
        have O6 := Lib.hid o6
        have TT := Lib.hid (show Mk w6 a F (curM th ms (k + 1)) ∧ Tch F w1 w6 from by
          have hne : ∀ g, u4.ownBlock = some g → g ∉ F := fun g hg hF => by have := (HO.out.lt g hg).1; have := HM.out.lts g hF; omega
          have t6 : Tch u4.ownBlock.toList W w6 := ((Tch.refl _ W).alloc _).grown g6 (fun g hg => by simp [hg])
          exact ⟨HX.out.2.1.tch t6 (fun g hg hm => hne g (by simpa using hm) hg), HX.out.2.2.trans t6 (fun g hg => .inr (HO.out.lt g (by simpa using hg)).1)⟩)
        clear o6 g6 y0 y1 y2 y3 y4 y5
        go_wp2_with fail
        exact ⟨⟨k + 1, by omega, by go_num, O6.out, TT.out.1, TT.out.2⟩, by simp [intOf]; omega⟩
      · have HFIN := Lib.hid hfin
        clear hfin
        go_wp2_with fail
        refine (final_calls own _).mono ?_
        rintro e w5 ⟨rfl, b5⟩
        rw [HFIN.out]
        have Z5 : w5.heap[w4.heap.size + 1]? = some (.cells #[.string ⟨p.1.toArray⟩, .int .i64 0, .int .u8 0, .int .u64 0, .int .u64 0, .string ⟨#[]⟩] 55 (0, 0)) := by
          have h1 := heap_alloc_new (w4.alloc (.cells #[.int .u8 own.k, .int .u64 own.a, .int .u64 own.b, .string ⟨own.c.toArray⟩] 33)) (.cells #[.string ⟨p.1.toArray⟩, .int .i64 0, .int .u8 0, .int .u64 0, .int .u64 0, .string ⟨#[]⟩] 55)
          simp only [World.size_alloc] at h1
          exact (b5.block _ (by simp)).trans h1
        obtain ⟨⟨s0, s1, s2, s3, s4, s5⟩, s6⟩ := HSTEP.out w5 _ Z5
        obtain ⟨q0, q1, q2, q3⟩ := ((OutAt.new w4 own 33).below (below_alloc _ (.cells #[.string ⟨p.1.toArray⟩, .int .i64 0, .int .u8 0, .int .u64 0, .int .u64 0, .string ⟨#[]⟩] 55))).below b5
        have T5 := Lib.hid (T4.out.trans (Tch.of_below [] ((below_alloc w4 _).trans (((below_alloc _ _).trans (b5.mono (by simp))).mono (by simp)))) (by simp))
        have MK5 := Lib.hid (MK4.out.below ((below_alloc w4 _).trans (((below_alloc _ _).trans (b5.mono (by simp))).mono (by simp))))
        have hsz5 : w4.heap.size + 1 < w5.heap.size := heap_lt Z5
        clear b5 Z5 xc4
        go_upto_region 15 with fail
        have HW := Lib.hid (show ∀ W, Tch [w4.heap.size + 1] w5 W → OwnC 55 6 (fun _ => True) W w1.heap.size u4 k (scs LS) ∧ Mk W a F (curM th ms (k + 1)) ∧ Tch F w1 W ∧ w1.heap.size ≤ W.heap.size from fun W hT =>
          ⟨(HO.out.tch T5.out (fun g hg hF => by have := (HO.out.lt g hg).1; have := HM.out.lts g hF; omega)).tch hT (fun g hg => by have := (HO.out.lt g hg).2; simp; omega),
           MK5.out.tch hT (fun g hg => by have := HMK.out.lts g hg; simp; omega),
           (HTC.out.trans_ T5.out).trans hT (fun j hj => by simp at hj; right; omega), by have := hT.size; have := T5.out.size; omega⟩)
        refine forget (fun W => W.cell? ⟨w4.heap.size + 1, 0, none⟩ = some (.string ⟨p.1.toArray⟩) ∧ W.cell? ⟨w4.heap.size + 1, 1, none⟩ = some (.int .i64 2) ∧ W.cell? ⟨w4.heap.size + 1, 2, none⟩ = some (.int .u8 oz.k) ∧ W.cell? ⟨w4.heap.size + 1, 3, none⟩ = some (.int .u64 oz.a) ∧ W.cell? ⟨w4.heap.size + 1, 4, none⟩ = some (.int .u64 oz.b) ∧ W.cell? ⟨w4.heap.size + 1, 5, none⟩ = some (.string ⟨oz.c.toArray⟩) ∧ Tch [w4.heap.size + 1] w5 W)
          ⟨by go_simp, by go_simp, (by go_simp <;> rfl), (by go_simp <;> rfl), (by go_simp <;> rfl), (by go_simp <;> rfl), (by repeat (first | exact Tch.refl _ _ | refine Tch.drew ?_ | refine Tch.alloc ?_ _ | refine Tch.setCell ?_ _ (by simp)))⟩ ?_
        rintro W ⟨y0, y1, y2, y3, y4, y5, y6⟩
        obtain ⟨x1, x2, x3, x4⟩ := HW.out W y6
        have HX := Lib.hid (And.intro x1 (And.intro x2 x3))
        obtain ⟨i0, hi, hz0, hz1, hz2⟩ := info_parts Try.info_step
        clear x1 x2 x3 y6 HW s0 s1 s2 s3 s4 s5 s6
        go_wp2_with (at_builtin; refine wpList_appC _ rfl _ _ _ rfl w1.heap.size i0 _ 64 Try.underlying52 hi hz0 hz1 hz2 rfl (by decide) (fun _ _ => trivial) u4 k (scs LS) rfl (HX.out.1.alloc _) (some ⟨W.heap.size, 0, none⟩) 1 1 (sc (p.1, 2, oz)) rfl ?rd ?hb ?h63 ?hbase ?_)
        case rd => exact rdc_box (sc (p.1, 2, oz)) 1 6 rfl (sc_one _) (by decide)
        case hb => omega
        case h63 => omega
        case hbase => simp; omega
        intro v6 w6 o6 g6 _ _
        rw [← scs_snoc, ← HTAKE.out] at o6
        have O6 := Lib.hid o6
        have TT := Lib.hid (show Mk w6 a F (curM th ms (k + 1)) ∧ Tch F w1 w6 from by
          have hne : ∀ g, u4.ownBlock = some g → g ∉ F := fun g hg hF => by have := (HO.out.lt g hg).1; have := HM.out.lts g hF; omega
          have t6 : Tch u4.ownBlock.toList W w6 := ((Tch.refl _ W).alloc _).grown g6 (fun g hg => by simp [hg])
          exact ⟨HX.out.2.1.tch t6 (fun g hg hm => hne g (by simpa using hm) hg), HX.out.2.2.trans t6 (fun g hg => .inr (HO.out.lt g (by simpa using hg)).1)⟩)
        clear o6 g6 y0 y1 y2 y3 y4 y5
        go_wp2_with fail
        exact ⟨⟨k + 1, by omega, by go_num, O6.out, TT.out.1, TT.out.2⟩, by simp [intOf]; omega⟩
      · have HFIN := Lib.hid hfin
        clear hfin
        go_wp2_with fail
        refine (final_calls st _).mono ?_
        rintro e w5 ⟨rfl, b5⟩
        rw [HFIN.out]
        have Z5 : w5.heap[w4.heap.size + 1]? = some (.cells #[.string ⟨p.1.toArray⟩, .int .i64 0, .int .u8 0, .int .u64 0, .int .u64 0, .string ⟨#[]⟩] 55 (0, 0)) := by
          have h1 := heap_alloc_new (w4.alloc (.cells #[.int .u8 st.k, .int .u64 st.a, .int .u64 st.b, .string ⟨st.c.toArray⟩] 33)) (.cells #[.string ⟨p.1.toArray⟩, .int .i64 0, .int .u8 0, .int .u64 0, .int .u64 0, .string ⟨#[]⟩] 55)
          simp only [World.size_alloc] at h1
          exact (b5.block _ (by simp)).trans h1
        obtain ⟨⟨s0, s1, s2, s3, s4, s5⟩, s6⟩ := HSTEP.out w5 _ Z5
        obtain ⟨q0, q1, q2, q3⟩ := ((OutAt.new w4 st 33).below (below_alloc _ (.cells #[.string ⟨p.1.toArray⟩, .int .i64 0, .int .u8 0, .int .u64 0, .int .u64 0, .string ⟨#[]⟩] 55))).below b5
        have T5 := Lib.hid (T4.out.trans (Tch.of_below [] ((below_alloc w4 _).trans (((below_alloc _ _).trans (b5.mono (by simp))).mono (by simp)))) (by simp))
        have MK5 := Lib.hid (MK4.out.below ((below_alloc w4 _).trans (((below_alloc _ _).trans (b5.mono (by simp))).mono (by simp))))
        have hsz5 : w4.heap.size + 1 < w5.heap.size := heap_lt Z5
        clear b5 Z5 xc4
        go_wp2_with fail
        go_region
        go_upto_region 15 with fail
        have HW := Lib.hid (show ∀ W, Tch [w4.heap.size + 1] w5 W → OwnC 55 6 (fun _ => True) W w1.heap.size u4 k (scs LS) ∧ Mk W a F (curM th ms (k + 1)) ∧ Tch F w1 W ∧ w1.heap.size ≤ W.heap.size from fun W hT =>
          ⟨(HO.out.tch T5.out (fun g hg hF => by have := (HO.out.lt g hg).1; have := HM.out.lts g hF; omega)).tch hT (fun g hg => by have := (HO.out.lt g hg).2; simp; omega),
           MK5.out.tch hT (fun g hg => by have := HMK.out.lts g hg; simp; omega),
           (HTC.out.trans_ T5.out).trans hT (fun j hj => by simp at hj; right; omega), by have := hT.size; have := T5.out.size; omega⟩)
        refine forget (fun W => W.cell? ⟨w4.heap.size + 1, 0, none⟩ = some (.string ⟨p.1.toArray⟩) ∧ W.cell? ⟨w4.heap.size + 1, 1, none⟩ = some (.int .i64 4) ∧ W.cell? ⟨w4.heap.size + 1, 2, none⟩ = some (.int .u8 st.k) ∧ W.cell? ⟨w4.heap.size + 1, 3, none⟩ = some (.int .u64 st.a) ∧ W.cell? ⟨w4.heap.size + 1, 4, none⟩ = some (.int .u64 st.b) ∧ W.cell? ⟨w4.heap.size + 1, 5, none⟩ = some (.string ⟨st.c.toArray⟩) ∧ Tch [w4.heap.size + 1] w5 W)
          ⟨by go_simp, by go_simp, (by go_simp <;> rfl), (by go_simp <;> rfl), (by go_simp <;> rfl), (by go_simp <;> rfl), (by repeat (first | exact Tch.refl _ _ | refine Tch.drew ?_ | refine Tch.alloc ?_ _ | refine Tch.setCell ?_ _ (by simp)))⟩ ?_
        rintro W ⟨y0, y1, y2, y3, y4, y5, y6⟩
        obtain ⟨x1, x2, x3, x4⟩ := HW.out W y6
        have HX := Lib.hid (And.intro x1 (And.intro x2 x3))
        obtain ⟨i0, hi, hz0, hz1, hz2⟩ := info_parts Try.info_step
        clear x1 x2 x3 y6 HW s0 s1 s2 s3 s4 s5 s6
        go_wp2_with (at_builtin; refine wpList_appC _ rfl _ _ _ rfl w1.heap.size i0 _ 64 Try.underlying52 hi hz0 hz1 hz2 rfl (by decide) (fun _ _ => trivial) u4 k (scs LS) rfl (HX.out.1.alloc _) (some ⟨W.heap.size, 0, none⟩) 1 1 (sc (p.1, 4, st)) rfl ?rd ?hb ?h63 ?hbase ?_)
        case rd => exact rdc_box (sc (p.1, 4, st)) 1 6 rfl (sc_one _) (by decide)
        case hb => omega
        case h63 => omega
        case hbase => simp; omega
        intro v6 w6 o6 g6 _ _
        rw [← scs_snoc, ← HTAKE.out] at o6
        have O6 := Lib.hid o6
        have TT := Lib.hid (show Mk w6 a F (curM th ms (k + 1)) ∧ Tch F w1 w6 from by
          have hne : ∀ g, u4.ownBlock = some g → g ∉ F := fun g hg hF => by have := (HO.out.lt g hg).1; have := HM.out.lts g hF; omega
          have t6 : Tch u4.ownBlock.toList W w6 := ((Tch.refl _ W).alloc _).grown g6 (fun g hg => by simp [hg])
          exact ⟨HX.out.2.1.tch t6 (fun g hg hm => hne g (by simpa using hm) hg), HX.out.2.2.trans t6 (fun g hg => .inr (HO.out.lt g (by simpa using hg)).1)⟩)
        clear o6 g6 y0 y1 y2 y3 y4 y5
        go_wp2_with fail
        exact ⟨⟨k + 1, by omega, by go_num, O6.out, TT.out.1, TT.out.2⟩, by simp [intOf]; omega⟩
      · have HFIN := Lib.hid hfin
        clear hfin
        go_wp2_with fail
        refine (final_calls own _).mono ?_
        rintro e w5 ⟨rfl, b5⟩
        rw [HFIN.out]
        have Z5 : w5.heap[w4.heap.size + 1]? = some (.cells #[.string ⟨p.1.toArray⟩, .int .i64 0, .int .u8 0, .int .u64 0, .int .u64 0, .string ⟨#[]⟩] 55 (0, 0)) := by
          have h1 := heap_alloc_new (w4.alloc (.cells #[.int .u8 own.k, .int .u64 own.a, .int .u64 own.b, .string ⟨own.c.toArray⟩] 33)) (.cells #[.string ⟨p.1.toArray⟩, .int .i64 0, .int .u8 0, .int .u64 0, .int .u64 0, .string ⟨#[]⟩] 55)
          simp only [World.size_alloc] at h1
          exact (b5.block _ (by simp)).trans h1
        obtain ⟨⟨s0, s1, s2, s3, s4, s5⟩, s6⟩ := HSTEP.out w5 _ Z5
        obtain ⟨q0, q1, q2, q3⟩ := ((OutAt.new w4 own 33).below (below_alloc _ (.cells #[.string ⟨p.1.toArray⟩, .int .i64 0, .int .u8 0, .int .u64 0, .int .u64 0, .string ⟨#[]⟩] 55))).below b5
        have T5 := Lib.hid (T4.out.trans (Tch.of_below [] ((below_alloc w4 _).trans (((below_alloc _ _).trans (b5.mono (by simp))).mono (by simp)))) (by simp))
        have MK5 := Lib.hid (MK4.out.below ((below_alloc w4 _).trans (((below_alloc _ _).trans (b5.mono (by simp))).mono (by simp))))
        have hsz5 : w4.heap.size + 1 < w5.heap.size := heap_lt Z5
        clear b5 Z5 xc4
        go_upto_region 15 with fail
        have HW := Lib.hid (show ∀ W, Tch [w4.heap.size + 1] w5 W → OwnC 55 6 (fun _ => True) W w1.heap.size u4 k (scs LS) ∧ Mk W a F (curM th ms (k + 1)) ∧ Tch F w1 W ∧ w1.heap.size ≤ W.heap.size from fun W hT =>
          ⟨(HO.out.tch T5.out (fun g hg hF => by have := (HO.out.lt g hg).1; have := HM.out.lts g hF; omega)).tch hT (fun g hg => by have := (HO.out.lt g hg).2; simp; omega),
           MK5.out.tch hT (fun g hg => by have := HMK.out.lts g hg; simp; omega),
           (HTC.out.trans_ T5.out).trans hT (fun j hj => by simp at hj; right; omega), by have := hT.size; have := T5.out.size; omega⟩)
        refine forget (fun W => W.cell? ⟨w4.heap.size + 1, 0, none⟩ = some (.string ⟨p.1.toArray⟩) ∧ W.cell? ⟨w4.heap.size + 1, 1, none⟩ = some (.int .i64 1) ∧ W.cell? ⟨w4.heap.size + 1, 2, none⟩ = some (.int .u8 oz.k) ∧ W.cell? ⟨w4.heap.size + 1, 3, none⟩ = some (.int .u64 oz.a) ∧ W.cell? ⟨w4.heap.size + 1, 4, none⟩ = some (.int .u64 oz.b) ∧ W.cell? ⟨w4.heap.size + 1, 5, none⟩ = some (.string ⟨oz.c.toArray⟩) ∧ Tch [w4.heap.size + 1] w5 W)
          ⟨by go_simp, by go_simp, (by go_simp <;> rfl), (by go_simp <;> rfl), (by go_simp <;> rfl), (by go_simp <;> rfl), (by repeat (first | exact Tch.refl _ _ | refine Tch.drew ?_ | refine Tch.alloc ?_ _ | refine Tch.setCell ?_ _ (by simp)))⟩ ?_
        rintro W ⟨y0, y1, y2, y3, y4, y5, y6⟩
        obtain ⟨x1, x2, x3, x4⟩ := HW.out W y6
        have HX := Lib.hid (And.intro x1 (And.intro x2 x3))
        obtain ⟨i0, hi, hz0, hz1, hz2⟩ := info_parts Try.info_step
        clear x1 x2 x3 y6 HW s0 s1 s2 s3 s4 s5 s6
        go_wp2_with (at_builtin; refine wpList_appC _ rfl _ _ _ rfl w1.heap.size i0 _ 64 Try.underlying52 hi hz0 hz1 hz2 rfl (by decide) (fun _ _ => trivial) u4 k (scs LS) rfl (HX.out.1.alloc _) (some ⟨W.heap.size, 0, none⟩) 1 1 (sc (p.1, 1, oz)) rfl ?rd ?hb ?h63 ?hbase ?_)
        case rd => exact rdc_box (sc (p.1, 1, oz)) 1 6 rfl (sc_one _) (by decide)
        case hb => omega
        case h63 => omega
        case hbase => simp; omega
        intro v6 w6 o6 g6 _ _
        rw [← scs_snoc, ← HTAKE.out] at o6
        have O6 := Lib.hid o6
        have TT := Lib.hid (show Mk w6 a F (curM th ms (k + 1)) ∧ Tch F w1 w6 from by
          have hne : ∀ g, u4.ownBlock = some g → g ∉ F := fun g hg hF => by have := (HO.out.lt g hg).1; have := HM.out.lts g hF; omega
          have t6 : Tch u4.ownBlock.toList W w6 := ((Tch.refl _ W).alloc _).grown g6 (fun g hg => by simp [hg])
          exact ⟨HX.out.2.1.tch t6 (fun g hg hm => hne g (by simpa using hm) hg), HX.out.2.2.trans t6 (fun g hg => .inr (HO.out.lt g (by simpa using hg)).1)⟩)
        clear o6 g6 y0 y1 y2 y3 y4 y5
        go_wp2_with fail
        exact ⟨⟨k + 1, by omega, by go_num, O6.out, TT.out.1, TT.out.2⟩, by simp [intOf]; omega⟩
    · obtain rfl : k = N := by omega
      have hck : curM th ms k = (meetM th ms).1 := by rw [← cur_all, HN.out]
      have hst : (ms.take k).map (fun p => (stepM th p).2) = (meetM th ms).2 := by rw [← HN.out, List.take_length]; rfl
      rw [hck] at HMK
      rw [hst] at HO
      go_wp2_with fail
      go_ret
      exact ⟨_, rfl, by rw [HN.out]; exact HO.out.base B1.out.size, HMK.out, (Tch.of_below F B1.out).trans_ HTC.out⟩
end Go.Proofs.Ytgmoodcojpbbdaa

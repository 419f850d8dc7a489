import Derived.Test.YtgmoodcojpbbdaaRf5
import Derived.Test.YtgmoodcojpbbdaaDoM
set_option linter.unusedVariables false
set_option linter.unusedSimpArgs false
namespace Go.Proofs.Ytgmoodcojpbbdaa
open Go.RowKit

theorem cur_stay (th ms : Ms) (k : Nat) (hk : k < ms.length) (h : mat th ms[k].1 = none) : curM th ms (k + 1) = curM th ms k := by
  rw [cur_succ th ms k hk, cur_at th ms k hk]
  unfold stepM
  rw [h]
theorem cur_len (th ms : Ms) (k : Nat) : (curM th ms k).length = ms.length := by
  have := congrArg List.length (cur_keys th ms k)
  simpa using this
theorem cur_get (th ms : Ms) (k : Nat) (hk : k < ms.length) (h : k < (curM th ms k).length) : (curM th ms k)[k] = ms[k] := by
  apply Option.some.inj
  rw [← List.getElem?_eq_getElem h, cur_at th ms k hk, List.getElem?_append_right (by simp; omega)]
  simp [Nat.min_eq_left (Nat.le_of_lt hk)]
theorem cur_get_succ (th ms : Ms) (k : Nat) (hk : k < ms.length) (h : k < (curM th ms (k + 1)).length) : (curM th ms (k + 1))[k] = (stepM th ms[k]).1 := by
  apply Option.some.inj
  rw [← List.getElem?_eq_getElem h, cur_succ th ms k hk, List.getElem?_append_right (by simp; omega)]
  simp [Nat.min_eq_left (Nat.le_of_lt hk)]
theorem RdC.tchN {sz : Nat} {F : List Nat} {w w' : World} {A : Option Addr} {n c : Nat} {cs : List Value} (h : RdC sz w A n c cs) (ht : Tch F w w') (hne : ∀ u, cs[0]? = some u → ∀ ad, A = some ad → ad.block ∉ F) : RdC sz w' A n c cs := by
  cases cs with
  | nil =>
    obtain ⟨h1, h2, h3, h4, h5, h6⟩ := h
    exact ⟨h1, h2, h3, h4, h5, fun ad _ j u hj => by simp at hj⟩
  | cons u cs => exact h.tch ht (hne u rfl)
def RmP (th ms : Ms) (a : Nat) (F : List Nat) (w : World) (e : Ending) (w' : World) : Prop :=
  ∃ v, e = .returned v ∧ OwnS w' w.heap.size v (meetM th ms).2 ∧ Rf w' a F (meetM th ms).1 ∧ Tch F w w'
set_option maxRecDepth 100000 in
set_option maxHeartbeats 16000000 in
theorem rmeet_calls (a : Nat) (F : List Nat) (ms th : Ms) (A : Option Addr) (n c : Nat) (w : World) (h : Rf w a F ms) (hnd : (ms.map (·.1)).Nodup) (hb : ms.length ≤ 1000000) (ht : RdC 5 w A n c (mcs th)) (hA : ∀ u, (mcs th)[0]? = some u → ∀ ad, A = some ad → ad.block ∉ F) :
    Calls Try.prog 34 #[.pointer (some ⟨a, 0, none⟩), .slice A n c] w (RmP th ms a F w) := by
  have HM := Lib.hid h
  have HT := Lib.hid ht
  have HA := Lib.hid hA
  have HND := Lib.hid hnd
  obtain ⟨N, hN⟩ : ∃ N, ms.length = N := ⟨_, rfl⟩
  rw [hN] at hb
  have HN := Lib.hid hN
  have hmt := ht.2.2.1
  have hlt' := ht.2.1
  have hlw := h.lt
  clear h ht hA hN hnd
  go_enter Try.func34, Try.ntmps34
  go_wp2_with fail
  go_loopw [5, 6, 7, 8, 9, 10] (fun l i _ _ _ _ wr => ∃ k : Nat, k ≤ N ∧ i = .int .i64 k ∧ OwnC 68 6 (fun _ => True) wr w.heap.size l k (scs ((ms.take k).map fun p => (stepM th p).2)) ∧ Rf wr a F (curM th ms k) ∧ Tch F w wr) (fun _ i _ _ _ _ _ => N - (intOf i).toNat)
  case atStart => exact ⟨0, by omega, rfl, OwnC.nil_, by rw [cur_zero]; exact HM.out, Tch.refl _ _⟩
  case round =>
    obtain ⟨k, hk, rfl, ho, hmk, htc⟩ := hrel
    have HO := Lib.hid ho
    have HMK := Lib.hid hmk
    have HTC := Lib.hid htc
    have hszr := htc.size
    obtain ⟨A1, c1, _, _, r1, hc1, hf1, _⟩ := hmk.row
    have hcl : (curM th ms k).length = N := by rw [cur_len, HN.out]
    rw [hcl] at r1 hc1
    have R1 := Lib.hid r1
    have HCL := Lib.hid hcl
    have hm2 := r1.2.1
    have hm3 := r1.2.2.1
    clear ho hmk htc r1 hcl
    by_cases hkN : k < N
    · have hkl : k < ms.length := by rw [HN.out]; exact hkN
      have hkN' : (k : Int) < N := by omega
      obtain ⟨b0, o0, e, x0, x1, x2, x3, x4⟩ := mark_at R1.out k (by rw [HCL.out]; exact hkN)
      subst e
      rw [cur_get th ms k hkl] at x0 x1 x2 x3 x4
      obtain ⟨p, hp⟩ : ∃ p, ms[k] = p := ⟨_, rfl⟩
      rw [hp] at x0 x1 x2 x3 x4
      have HP := Lib.hid hp
      have HKL := Lib.hid hkl
      have HTAKE := Lib.hid (show (ms.take (k + 1)).map (fun p => (stepM th p).2) = (ms.take k).map (fun p => (stepM th p).2) ++ [(stepM th p).2] by rw [List.take_succ_eq_append_getElem hkl, List.map_append, hp]; rfl)
      obtain ⟨LS, hLS⟩ : ∃ LS, (ms.take k).map (fun p => (stepM th p).2) = LS := ⟨_, rfl⟩
      rw [hLS] at HO HTAKE
      clear hLS hp
      rcases where_mat th p.1 with ⟨hmn, hw⟩ | ⟨z, o', hm, hw, hz⟩
      · have HW := Lib.hid hw
        have HMN := Lib.hid hmn
        clear hmn hw
        go_wp2_with fail
        refine (at_any A n c th p.1 (-1) _ ((HT.out.tchN HTC.out HA.out)) HW.out).mono ?_
        rintro e w1 ⟨rfl, rfl⟩
        go_upto_region 9 with fail
        refine forget (fun W => Rf W a F (curM th ms (k + 1)) ∧ OwnC 68 6 (fun _ => True) W w.heap.size u5 k (scs LS) ∧ Tch F w W) ⟨by rw [cur_stay th ms k HKL.out (by rw [HP.out]; exact HMN.out)]; exact HMK.out, HO.out, HTC.out⟩ ?_
        clear hc1 hf1 x0 x1 x2 x3 x4
        rintro W ⟨rw4, ow4, tw4⟩
        have RW := Lib.hid rw4
        have OW := Lib.hid ow4
        have TW := Lib.hid tw4
        have hszW := tw4.size
        obtain ⟨A2, c2, _, _, r2, hc2, hf2, _⟩ := rw4.row
        have hl2 : (curM th ms (k + 1)).length = N := by rw [cur_len, HN.out]
        rw [hl2] at r2 hc2
        have R2 := Lib.hid r2
        have hn2 := r2.2.1
        have hn3 := r2.2.2.1
        obtain ⟨b4, o4, e, t0, t1, t2, t3, t4⟩ := mark_at r2 k (by rw [hl2]; exact hkN)
        subst e
        rw [cur_get_succ th ms k HKL.out, HP.out] at t0 t1 t2 t3 t4
        obtain ⟨own, kd, st, hst, hcase⟩ := step_spec th p
        rw [hst] at t0 t1 t2 t3 t4 HTAKE
        have hgp : (getM th p.1).2 = false := by simp [getM, HMN.out]
        rw [hgp] at hcase
        have HSTEP := Lib.hid (show ∀ (W : World) (b : Nat), W.heap[b]? = some (.cells #[.string ⟨p.1.toArray⟩, .int .i64 1, .int .u8 0, .int .u64 0, .int .u64 0, .string ⟨#[]⟩] 68 (0, 0)) →
            (W.cell? ⟨b, 0, none⟩ = some (.string ⟨p.1.toArray⟩) ∧ W.cell? ⟨b, 1, none⟩ = some (.int .i64 1) ∧ W.cell? ⟨b, 2, none⟩ = some (.int .u8 0) ∧ W.cell? ⟨b, 3, none⟩ = some (.int .u64 0) ∧ W.cell? ⟨b, 4, none⟩ = some (.int .u64 0) ∧ W.cell? ⟨b, 5, none⟩ = some (.string ⟨#[]⟩)) ∧ ∀ j, W.frozen? ⟨b, j, none⟩ = false from fun W b hb =>
          have hc := fun j u hj => cell_of_heap (l := [.string ⟨p.1.toArray⟩, .int .i64 1, .int .u8 0, .int .u64 0, .int .u64 0, .string ⟨#[]⟩]) hb j u hj
          ⟨⟨hc 0 _ rfl, hc 1 _ rfl, hc 2 _ rfl, hc 3 _ rfl, hc 4 _ rfl, hc 5 _ rfl⟩, fun j => froz_of_heap hb j⟩)
        have HCASE := Lib.hid hcase
        clear rw4 ow4 tw4 r2 hl2 hst hcase hgp
        rcases HCASE.out with ⟨e1, hfin, rfl, rfl⟩ | ⟨e1, hfin, rfl, rfl⟩ | ⟨e1, hfin, rfl, rfl⟩ | ⟨e1, hfin, rfl, rfl⟩
        · cases e1
        · cases e1
        · have HFIN := Lib.hid hfin
          clear hfin
          go_wp2_with fail
          refine (rfinal_calls st _).mono ?_
          rintro e w5 ⟨rfl, b5⟩
          rw [HFIN.out]
          have Z5 : w5.heap[W.heap.size + 1]? = some (.cells #[.string ⟨p.1.toArray⟩, .int .i64 1, .int .u8 0, .int .u64 0, .int .u64 0, .string ⟨#[]⟩] 68 (0, 0)) := by
            have h1 := heap_alloc_new (W.alloc (.cells #[.int .u8 st.k, .int .u64 st.a, .int .u64 st.b, .string ⟨st.c.toArray⟩] 33)) (.cells #[.string ⟨p.1.toArray⟩, .int .i64 1, .int .u8 0, .int .u64 0, .int .u64 0, .string ⟨#[]⟩] 68)
            simp only [World.size_alloc] at h1
            exact (b5.block _ (by simp)).trans h1
          obtain ⟨⟨s0, s1, s2, s3, s4, s5⟩, s6⟩ := HSTEP.out w5 _ Z5
          obtain ⟨q0, q1, q2, q3⟩ := ((OutAt.new W st 33).below (below_alloc _ (.cells #[.string ⟨p.1.toArray⟩, .int .i64 1, .int .u8 0, .int .u64 0, .int .u64 0, .string ⟨#[]⟩] 68))).below b5
          simp only [Nat.zero_add] at q0 q1 q2 q3
          have BW5 : Below W.heap.size W w5 := (below_alloc W _).trans (((below_alloc _ _).trans (b5.mono (by simp))).mono (by simp))
          have B5 := Lib.hid BW5
          have hsz5 : W.heap.size + 1 < w5.heap.size := heap_lt Z5
          clear b5 Z5 BW5
          go_upto_region 18 with fail
          refine forget (fun W' => W'.cell? ⟨W.heap.size + 1, 0, none⟩ = some (.string ⟨p.1.toArray⟩) ∧ W'.cell? ⟨W.heap.size + 1, 1, none⟩ = some (.int .i64 4) ∧ W'.cell? ⟨W.heap.size + 1, 2, none⟩ = some (.int .u8 st.k) ∧ W'.cell? ⟨W.heap.size + 1, 3, none⟩ = some (.int .u64 st.a) ∧ W'.cell? ⟨W.heap.size + 1, 4, none⟩ = some (.int .u64 st.b) ∧ W'.cell? ⟨W.heap.size + 1, 5, none⟩ = some (.string ⟨st.c.toArray⟩) ∧ Tch [W.heap.size + 1] w5 W')
            ⟨by go_simp, by go_simp, (by go_simp <;> rfl), (by go_simp <;> rfl), (by go_simp <;> rfl), (by go_simp <;> rfl), (by repeat (first | exact Tch.refl _ _ | refine Tch.drew ?_ | refine Tch.alloc ?_ _ | refine Tch.setCell ?_ _ (by simp)))⟩ ?_
          rintro V ⟨z0, z1, z2, z3, z4, z5, z6⟩
          have HX := Lib.hid (show OwnC 68 6 (fun _ => True) V w.heap.size u5 k (scs LS) ∧ Rf V a F (curM th ms (k + 1)) ∧ Tch F w V from
            ⟨((OW.out.tch (Tch.of_below [] B5.out) (by simp)).tch z6 (fun g hg => by have := (OW.out.lt g hg).2; simp; omega)),
             (RW.out.below B5.out).tch z6 (fun g hg => by have := RW.out.lts g hg; simp; omega),
             (TW.out.trans (Tch.of_below [] B5.out) (by simp)).trans z6 (fun j hj => by have := TW.out.size; simp at hj; right; omega)⟩)
          have hszV : w.heap.size ≤ V.heap.size := HX.out.2.2.size
          obtain ⟨i0, hi, hz0, hz1, hz2⟩ := info_parts Try.info_rstep
          clear z6 s0 s1 s2 s3 s4 s5 s6
          go_wp2_with (at_builtin; refine wpList_appC _ rfl _ _ _ rfl w.heap.size i0 _ 64 Try.underlying34 hi hz0 hz1 hz2 rfl (by decide) (fun _ _ => trivial) u5 k (scs LS) rfl (HX.out.1.alloc _) (some ⟨V.heap.size, 0, none⟩) 1 1 (sc (p.1, 4, st)) rfl ?rd ?hb ?h63 ?hbase ?_)
          case rd => exact rdc_box (sc (p.1, 4, st)) 1 6 rfl (sc_one _) (by decide)
          case hb => omega
          case h63 => omega
          case hbase => simp; omega
          intro v6 w6 o6 g6 _ _
          rw [← scs_snoc, ← HTAKE.out] at o6
          have O6 := Lib.hid o6
          have TT := Lib.hid (show Rf w6 a F (curM th ms (k + 1)) ∧ Tch F w w6 from by
            have hne : ∀ g, u5.ownBlock = some g → g ∉ F := fun g hg hF => by have := (HO.out.lt g hg).1; have := HM.out.lts g hF; omega
            have t6 : Tch u5.ownBlock.toList V w6 := ((Tch.refl _ V).alloc _).grown g6 (fun g hg => by simp [hg])
            exact ⟨HX.out.2.1.tch t6 (fun g hg hm => hne g (by simpa using hm) hg), HX.out.2.2.trans t6 (fun g hg => .inr (HO.out.lt g (by simpa using hg)).1)⟩)
          clear o6 g6 z0 z1 z2 z3 z4 z5
          go_wp2_with fail
          exact ⟨⟨k + 1, by omega, by go_num, O6.out, TT.out.1, TT.out.2⟩, by simp [intOf]; omega⟩
        · have HFIN := Lib.hid hfin
          clear hfin
          go_wp2_with fail
          refine (rfinal_calls own _).mono ?_
          rintro e w5 ⟨rfl, b5⟩
          rw [HFIN.out]
          have Z5 : w5.heap[W.heap.size + 1]? = some (.cells #[.string ⟨p.1.toArray⟩, .int .i64 1, .int .u8 0, .int .u64 0, .int .u64 0, .string ⟨#[]⟩] 68 (0, 0)) := by
            have h1 := heap_alloc_new (W.alloc (.cells #[.int .u8 own.k, .int .u64 own.a, .int .u64 own.b, .string ⟨own.c.toArray⟩] 33)) (.cells #[.string ⟨p.1.toArray⟩, .int .i64 1, .int .u8 0, .int .u64 0, .int .u64 0, .string ⟨#[]⟩] 68)
            simp only [World.size_alloc] at h1
            exact (b5.block _ (by simp)).trans h1
          obtain ⟨⟨s0, s1, s2, s3, s4, s5⟩, s6⟩ := HSTEP.out w5 _ Z5
          obtain ⟨q0, q1, q2, q3⟩ := ((OutAt.new W own 33).below (below_alloc _ (.cells #[.string ⟨p.1.toArray⟩, .int .i64 1, .int .u8 0, .int .u64 0, .int .u64 0, .string ⟨#[]⟩] 68))).below b5
          simp only [Nat.zero_add] at q0 q1 q2 q3
          have BW5 : Below W.heap.size W w5 := (below_alloc W _).trans (((below_alloc _ _).trans (b5.mono (by simp))).mono (by simp))
          have B5 := Lib.hid BW5
          have hsz5 : W.heap.size + 1 < w5.heap.size := heap_lt Z5
          clear b5 Z5 BW5
          go_upto_region 18 with fail
          refine forget (fun W' => W'.cell? ⟨W.heap.size + 1, 0, none⟩ = some (.string ⟨p.1.toArray⟩) ∧ W'.cell? ⟨W.heap.size + 1, 1, none⟩ = some (.int .i64 1) ∧ W'.cell? ⟨W.heap.size + 1, 2, none⟩ = some (.int .u8 oz.k) ∧ W'.cell? ⟨W.heap.size + 1, 3, none⟩ = some (.int .u64 oz.a) ∧ W'.cell? ⟨W.heap.size + 1, 4, none⟩ = some (.int .u64 oz.b) ∧ W'.cell? ⟨W.heap.size + 1, 5, none⟩ = some (.string ⟨oz.c.toArray⟩) ∧ Tch [W.heap.size + 1] w5 W')
            ⟨by go_simp, by go_simp, (by go_simp <;> rfl), (by go_simp <;> rfl), (by go_simp <;> rfl), (by go_simp <;> rfl), (by repeat (first | exact Tch.refl _ _ | refine Tch.drew ?_ | refine Tch.alloc ?_ _ | refine Tch.setCell ?_ _ (by simp)))⟩ ?_
          rintro V ⟨z0, z1, z2, z3, z4, z5, z6⟩
          have HX := Lib.hid (show OwnC 68 6 (fun _ => True) V w.heap.size u5 k (scs LS) ∧ Rf V a F (curM th ms (k + 1)) ∧ Tch F w V from
            ⟨((OW.out.tch (Tch.of_below [] B5.out) (by simp)).tch z6 (fun g hg => by have := (OW.out.lt g hg).2; simp; omega)),
             (RW.out.below B5.out).tch z6 (fun g hg => by have := RW.out.lts g hg; simp; omega),
             (TW.out.trans (Tch.of_below [] B5.out) (by simp)).trans z6 (fun j hj => by have := TW.out.size; simp at hj; right; omega)⟩)
          have hszV : w.heap.size ≤ V.heap.size := HX.out.2.2.size
          obtain ⟨i0, hi, hz0, hz1, hz2⟩ := info_parts Try.info_rstep
          clear z6 s0 s1 s2 s3 s4 s5 s6
          go_wp2_with (at_builtin; refine wpList_appC _ rfl _ _ _ rfl w.heap.size i0 _ 64 Try.underlying34 hi hz0 hz1 hz2 rfl (by decide) (fun _ _ => trivial) u5 k (scs LS) rfl (HX.out.1.alloc _) (some ⟨V.heap.size, 0, none⟩) 1 1 (sc (p.1, 1, oz)) rfl ?rd ?hb ?h63 ?hbase ?_)
          case rd => exact rdc_box (sc (p.1, 1, oz)) 1 6 rfl (sc_one _) (by decide)
          case hb => omega
          case h63 => omega
          case hbase => simp; omega
          intro v6 w6 o6 g6 _ _
          rw [← scs_snoc, ← HTAKE.out] at o6
          have O6 := Lib.hid o6
          have TT := Lib.hid (show Rf w6 a F (curM th ms (k + 1)) ∧ Tch F w w6 from by
            have hne : ∀ g, u5.ownBlock = some g → g ∉ F := fun g hg hF => by have := (HO.out.lt g hg).1; have := HM.out.lts g hF; omega
            have t6 : Tch u5.ownBlock.toList V w6 := ((Tch.refl _ V).alloc _).grown g6 (fun g hg => by simp [hg])
            exact ⟨HX.out.2.1.tch t6 (fun g hg hm => hne g (by simpa using hm) hg), HX.out.2.2.trans t6 (fun g hg => .inr (HO.out.lt g (by simpa using hg)).1)⟩)
          clear o6 g6 z0 z1 z2 z3 z4 z5
          go_wp2_with fail
          exact ⟨⟨k + 1, by omega, by go_num, O6.out, TT.out.1, TT.out.2⟩, by simp [intOf]; omega⟩
      · have HW := Lib.hid hw
        have HMN := Lib.hid hm
        obtain ⟨hzl, hze⟩ := List.getElem?_eq_some_iff.1 hz
        have hnl : th.length = n := by have := HT.out.1; rw [mcs_length] at this; omega
        have hzn : z < n := by omega
        have hzn' : (z : Int) < n := by omega
        obtain ⟨b3, o3, e, y0, y1, y2, y3, y4⟩ := mark_at (HT.out.tchN HTC.out HA.out) z hzl
        rw [hze] at y0 y1 y2 y3 y4
        subst e
        have HTELL := Lib.hid (show (tellM (curM th ms k) p.1 o').2 = curM th ms (k + 1) by
          have h1 := cur_tell th ms HND.out k HKL.out
          rw [HP.out] at h1
          have h2 : (getM th p.1).1 = o' := by unfold getM; rw [HMN.out]; rfl
          rw [h2] at h1
          exact h1)
        have HNK := Lib.hid (show ((curM th ms k).map (·.1)).Nodup by rw [cur_keys]; exact HND.out)
        clear hw hm hz hzl hze hnl
        go_wp2_with fail
        refine (at_any _ n c th p.1 z _ ((HT.out.tchN HTC.out HA.out)) HW.out).mono ?_
        rintro e w1 ⟨rfl, rfl⟩
        go_wp2_with fail
        refine (rtell_calls a F (curM th ms k) p.1 o' _ HMK.out HNK.out).mono ?_
        rintro e w2 ⟨rfl, rf2, t2'⟩
        rw [HTELL.out] at rf2
        have RF2 := Lib.hid rf2
        have T2' := Lib.hid t2'
        clear rf2 t2' hc1 hf1 x0 x1 x2 x3 x4 y0 y1 y2 y3 y4
        go_upto_region 9 with fail
        refine forget (fun W => Rf W a F (curM th ms (k + 1)) ∧ OwnC 68 6 (fun _ => True) W w.heap.size u5 k (scs LS) ∧ Tch F w W) ⟨RF2.out, HO.out.tch T2'.out (fun g hg hF => by have := (HO.out.lt g hg).1; have := HM.out.lts g hF; omega), HTC.out.trans_ T2'.out⟩ ?_
        rintro W ⟨rw4, ow4, tw4⟩
        have RW := Lib.hid rw4
        have OW := Lib.hid ow4
        have TW := Lib.hid tw4
        have hszW := tw4.size
        obtain ⟨A2, c2, _, _, r2, hc2, hf2, _⟩ := rw4.row
        have hl2 : (curM th ms (k + 1)).length = N := by rw [cur_len, HN.out]
        rw [hl2] at r2 hc2
        have R2 := Lib.hid r2
        have hn2 := r2.2.1
        have hn3 := r2.2.2.1
        obtain ⟨b4, o4, e, t0, t1, t2, t3, t4⟩ := mark_at r2 k (by rw [hl2]; exact hkN)
        subst e
        rw [cur_get_succ th ms k HKL.out, HP.out] at t0 t1 t2 t3 t4
        obtain ⟨own, kd, st, hst, hcase⟩ := step_spec th p
        rw [hst] at t0 t1 t2 t3 t4 HTAKE
        have hgp : (getM th p.1).2 = true := by simp [getM, HMN.out]
        rw [hgp] at hcase
        have HSTEP := Lib.hid (show ∀ (W : World) (b : Nat), W.heap[b]? = some (.cells #[.string ⟨p.1.toArray⟩, .int .i64 1, .int .u8 0, .int .u64 0, .int .u64 0, .string ⟨#[]⟩] 68 (0, 0)) →
            (W.cell? ⟨b, 0, none⟩ = some (.string ⟨p.1.toArray⟩) ∧ W.cell? ⟨b, 1, none⟩ = some (.int .i64 1) ∧ W.cell? ⟨b, 2, none⟩ = some (.int .u8 0) ∧ W.cell? ⟨b, 3, none⟩ = some (.int .u64 0) ∧ W.cell? ⟨b, 4, none⟩ = some (.int .u64 0) ∧ W.cell? ⟨b, 5, none⟩ = some (.string ⟨#[]⟩)) ∧ ∀ j, W.frozen? ⟨b, j, none⟩ = false from fun W b hb =>
          have hc := fun j u hj => cell_of_heap (l := [.string ⟨p.1.toArray⟩, .int .i64 1, .int .u8 0, .int .u64 0, .int .u64 0, .string ⟨#[]⟩]) hb j u hj
          ⟨⟨hc 0 _ rfl, hc 1 _ rfl, hc 2 _ rfl, hc 3 _ rfl, hc 4 _ rfl, hc 5 _ rfl⟩, fun j => froz_of_heap hb j⟩)
        have HCASE := Lib.hid hcase
        clear rw4 ow4 tw4 r2 hl2 hst hcase hgp
        rcases HCASE.out with ⟨e1, hfin, rfl, rfl⟩ | ⟨e1, hfin, rfl, rfl⟩ | ⟨e1, hfin, rfl, rfl⟩ | ⟨e1, hfin, rfl, rfl⟩
        · have HFIN := Lib.hid hfin
          clear hfin
          go_wp2_with fail
          refine (rfinal_calls st _).mono ?_
          rintro e w5 ⟨rfl, b5⟩
          rw [HFIN.out]
          have Z5 : w5.heap[W.heap.size + 1]? = some (.cells #[.string ⟨p.1.toArray⟩, .int .i64 1, .int .u8 0, .int .u64 0, .int .u64 0, .string ⟨#[]⟩] 68 (0, 0)) := by
            have h1 := heap_alloc_new (W.alloc (.cells #[.int .u8 st.k, .int .u64 st.a, .int .u64 st.b, .string ⟨st.c.toArray⟩] 33)) (.cells #[.string ⟨p.1.toArray⟩, .int .i64 1, .int .u8 0, .int .u64 0, .int .u64 0, .string ⟨#[]⟩] 68)
            simp only [World.size_alloc] at h1
            exact (b5.block _ (by simp)).trans h1
          obtain ⟨⟨s0, s1, s2, s3, s4, s5⟩, s6⟩ := HSTEP.out w5 _ Z5
          obtain ⟨q0, q1, q2, q3⟩ := ((OutAt.new W st 33).below (below_alloc _ (.cells #[.string ⟨p.1.toArray⟩, .int .i64 1, .int .u8 0, .int .u64 0, .int .u64 0, .string ⟨#[]⟩] 68))).below b5
          simp only [Nat.zero_add] at q0 q1 q2 q3
          have BW5 : Below W.heap.size W w5 := (below_alloc W _).trans (((below_alloc _ _).trans (b5.mono (by simp))).mono (by simp))
          have B5 := Lib.hid BW5
          have hsz5 : W.heap.size + 1 < w5.heap.size := heap_lt Z5
          clear b5 Z5 BW5
          go_upto_region 18 with fail
          refine forget (fun W' => W'.cell? ⟨W.heap.size + 1, 0, none⟩ = some (.string ⟨p.1.toArray⟩) ∧ W'.cell? ⟨W.heap.size + 1, 1, none⟩ = some (.int .i64 3) ∧ W'.cell? ⟨W.heap.size + 1, 2, none⟩ = some (.int .u8 st.k) ∧ W'.cell? ⟨W.heap.size + 1, 3, none⟩ = some (.int .u64 st.a) ∧ W'.cell? ⟨W.heap.size + 1, 4, none⟩ = some (.int .u64 st.b) ∧ W'.cell? ⟨W.heap.size + 1, 5, none⟩ = some (.string ⟨st.c.toArray⟩) ∧ Tch [W.heap.size + 1] w5 W')
            ⟨by go_simp, World.cell?_setCell_same _ _ _ (u := .int .i64 4) (World.cell?_setCell_same _ _ _ (u := .int .i64 1) (by go_simp)), (by go_simp <;> rfl), (by go_simp <;> rfl), (by go_simp <;> rfl), (by go_simp <;> rfl), (by repeat (first | exact Tch.refl _ _ | refine Tch.drew ?_ | refine Tch.alloc ?_ _ | refine Tch.setCell ?_ _ (by simp)))⟩ ?_
          rintro V ⟨z0, z1, z2, z3, z4, z5, z6⟩
          have HX := Lib.hid (show OwnC 68 6 (fun _ => True) V w.heap.size u5 k (scs LS) ∧ Rf V a F (curM th ms (k + 1)) ∧ Tch F w V from
            ⟨((OW.out.tch (Tch.of_below [] B5.out) (by simp)).tch z6 (fun g hg => by have := (OW.out.lt g hg).2; simp; omega)),
             (RW.out.below B5.out).tch z6 (fun g hg => by have := RW.out.lts g hg; simp; omega),
             (TW.out.trans (Tch.of_below [] B5.out) (by simp)).trans z6 (fun j hj => by have := TW.out.size; simp at hj; right; omega)⟩)
          have hszV : w.heap.size ≤ V.heap.size := HX.out.2.2.size
          obtain ⟨i0, hi, hz0, hz1, hz2⟩ := info_parts Try.info_rstep
          clear z6 s0 s1 s2 s3 s4 s5 s6
          go_wp2_with (at_builtin; refine wpList_appC _ rfl _ _ _ rfl w.heap.size i0 _ 64 Try.underlying34 hi hz0 hz1 hz2 rfl (by decide) (fun _ _ => trivial) u5 k (scs LS) rfl (HX.out.1.alloc _) (some ⟨V.heap.size, 0, none⟩) 1 1 (sc (p.1, 3, st)) rfl ?rd ?hb ?h63 ?hbase ?_)
          case rd => exact rdc_box (sc (p.1, 3, st)) 1 6 rfl (sc_one _) (by decide)
          case hb => omega
          case h63 => omega
          case hbase => simp; omega
          intro v6 w6 o6 g6 _ _
          rw [← scs_snoc, ← HTAKE.out] at o6
          have O6 := Lib.hid o6
          have TT := Lib.hid (show Rf w6 a F (curM th ms (k + 1)) ∧ Tch F w w6 from by
            have hne : ∀ g, u5.ownBlock = some g → g ∉ F := fun g hg hF => by have := (HO.out.lt g hg).1; have := HM.out.lts g hF; omega
            have t6 : Tch u5.ownBlock.toList V w6 := ((Tch.refl _ V).alloc _).grown g6 (fun g hg => by simp [hg])
            exact ⟨HX.out.2.1.tch t6 (fun g hg hm => hne g (by simpa using hm) hg), HX.out.2.2.trans t6 (fun g hg => .inr (HO.out.lt g (by simpa using hg)).1)⟩)
          clear o6 g6 z0 z1 z2 z3 z4 z5
          go_wp2_with fail
          exact ⟨⟨k + 1, by omega, by go_num, O6.out, TT.out.1, TT.out.2⟩, by simp [intOf]; omega⟩
        · have HFIN := Lib.hid hfin
          clear hfin
          go_wp2_with fail
          refine (rfinal_calls own _).mono ?_
          rintro e w5 ⟨rfl, b5⟩
          rw [HFIN.out]
          have Z5 : w5.heap[W.heap.size + 1]? = some (.cells #[.string ⟨p.1.toArray⟩, .int .i64 1, .int .u8 0, .int .u64 0, .int .u64 0, .string ⟨#[]⟩] 68 (0, 0)) := by
            have h1 := heap_alloc_new (W.alloc (.cells #[.int .u8 own.k, .int .u64 own.a, .int .u64 own.b, .string ⟨own.c.toArray⟩] 33)) (.cells #[.string ⟨p.1.toArray⟩, .int .i64 1, .int .u8 0, .int .u64 0, .int .u64 0, .string ⟨#[]⟩] 68)
            simp only [World.size_alloc] at h1
            exact (b5.block _ (by simp)).trans h1
          obtain ⟨⟨s0, s1, s2, s3, s4, s5⟩, s6⟩ := HSTEP.out w5 _ Z5
          obtain ⟨q0, q1, q2, q3⟩ := ((OutAt.new W own 33).below (below_alloc _ (.cells #[.string ⟨p.1.toArray⟩, .int .i64 1, .int .u8 0, .int .u64 0, .int .u64 0, .string ⟨#[]⟩] 68))).below b5
          simp only [Nat.zero_add] at q0 q1 q2 q3
          have BW5 : Below W.heap.size W w5 := (below_alloc W _).trans (((below_alloc _ _).trans (b5.mono (by simp))).mono (by simp))
          have B5 := Lib.hid BW5
          have hsz5 : W.heap.size + 1 < w5.heap.size := heap_lt Z5
          clear b5 Z5 BW5
          go_upto_region 18 with fail
          refine forget (fun W' => W'.cell? ⟨W.heap.size + 1, 0, none⟩ = some (.string ⟨p.1.toArray⟩) ∧ W'.cell? ⟨W.heap.size + 1, 1, none⟩ = some (.int .i64 2) ∧ W'.cell? ⟨W.heap.size + 1, 2, none⟩ = some (.int .u8 oz.k) ∧ W'.cell? ⟨W.heap.size + 1, 3, none⟩ = some (.int .u64 oz.a) ∧ W'.cell? ⟨W.heap.size + 1, 4, none⟩ = some (.int .u64 oz.b) ∧ W'.cell? ⟨W.heap.size + 1, 5, none⟩ = some (.string ⟨oz.c.toArray⟩) ∧ Tch [W.heap.size + 1] w5 W')
            ⟨by go_simp, by go_simp, (by go_simp <;> rfl), (by go_simp <;> rfl), (by go_simp <;> rfl), (by go_simp <;> rfl), (by repeat (first | exact Tch.refl _ _ | refine Tch.drew ?_ | refine Tch.alloc ?_ _ | refine Tch.setCell ?_ _ (by simp)))⟩ ?_
          rintro V ⟨z0, z1, z2, z3, z4, z5, z6⟩
          have HX := Lib.hid (show OwnC 68 6 (fun _ => True) V w.heap.size u5 k (scs LS) ∧ Rf V a F (curM th ms (k + 1)) ∧ Tch F w V from
            ⟨((OW.out.tch (Tch.of_below [] B5.out) (by simp)).tch z6 (fun g hg => by have := (OW.out.lt g hg).2; simp; omega)),
             (RW.out.below B5.out).tch z6 (fun g hg => by have := RW.out.lts g hg; simp; omega),
             (TW.out.trans (Tch.of_below [] B5.out) (by simp)).trans z6 (fun j hj => by have := TW.out.size; simp at hj; right; omega)⟩)
          have hszV : w.heap.size ≤ V.heap.size := HX.out.2.2.size
          obtain ⟨i0, hi, hz0, hz1, hz2⟩ := info_parts Try.info_rstep
          clear z6 s0 s1 s2 s3 s4 s5 s6
          go_wp2_with (at_builtin; refine wpList_appC _ rfl _ _ _ rfl w.heap.size i0 _ 64 Try.underlying34 hi hz0 hz1 hz2 rfl (by decide) (fun _ _ => trivial) u5 k (scs LS) rfl (HX.out.1.alloc _) (some ⟨V.heap.size, 0, none⟩) 1 1 (sc (p.1, 2, oz)) rfl ?rd ?hb ?h63 ?hbase ?_)
          case rd => exact rdc_box (sc (p.1, 2, oz)) 1 6 rfl (sc_one _) (by decide)
          case hb => omega
          case h63 => omega
          case hbase => simp; omega
          intro v6 w6 o6 g6 _ _
          rw [← scs_snoc, ← HTAKE.out] at o6
          have O6 := Lib.hid o6
          have TT := Lib.hid (show Rf w6 a F (curM th ms (k + 1)) ∧ Tch F w w6 from by
            have hne : ∀ g, u5.ownBlock = some g → g ∉ F := fun g hg hF => by have := (HO.out.lt g hg).1; have := HM.out.lts g hF; omega
            have t6 : Tch u5.ownBlock.toList V w6 := ((Tch.refl _ V).alloc _).grown g6 (fun g hg => by simp [hg])
            exact ⟨HX.out.2.1.tch t6 (fun g hg hm => hne g (by simpa using hm) hg), HX.out.2.2.trans t6 (fun g hg => .inr (HO.out.lt g (by simpa using hg)).1)⟩)
          clear o6 g6 z0 z1 z2 z3 z4 z5
          go_wp2_with fail
          exact ⟨⟨k + 1, by omega, by go_num, O6.out, TT.out.1, TT.out.2⟩, by simp [intOf]; omega⟩
        · cases e1
        · cases e1
    · obtain rfl : k = N := by omega
      have hck : curM th ms k = (meetM th ms).1 := by rw [← cur_all, HN.out]
      have hst : (ms.take k).map (fun p => (stepM th p).2) = (meetM th ms).2 := by rw [← HN.out, List.take_length]; rfl
      rw [hck] at HMK
      rw [hst] at HO
      go_wp2_with fail
      go_ret
      exact ⟨_, rfl, by unfold OwnS; have := HO.out; rwa [show (meetM th ms).2.length = k by rw [← HN.out]; simp [meetM]], HMK.out, HTC.out⟩
end Go.Proofs.Ytgmoodcojpbbdaa

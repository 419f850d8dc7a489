import Derived.Test.YtafmhpcfjmannaaRk2
set_option linter.unusedVariables false
set_option linter.unusedSimpArgs false
namespace Go.Proofs.Ytafmhpcfjmannaa
open Go.RowKit

theorem curLs (es : Is) (h : Int) (k : Nat) (hk : k < es.length) : ((es.take (k + 1)).filter fun p => decide (p.2.h ≠ h)) = if es[k].2.h = h then ((es.take k).filter fun p => decide (p.2.h ≠ h)) else ((es.take k).filter fun p => decide (p.2.h ≠ h)) ++ [es[k]] := by
  rw [List.take_succ_eq_append_getElem hk, List.filter_append]
  by_cases e : es[k].2.h = h <;> simp [e]
theorem gonLs (es : Is) (h : Int) (k : Nat) (hk : k < es.length) : gonL es h (k + 1) = if es[k].2.h = h then gonL es h k ++ [es[k].2] else gonL es h k := by
  rw [gonL, gonL, List.take_succ_eq_append_getElem hk, List.filter_append, List.map_append]
  by_cases e : es[k].2.h = h <;> simp [e]
theorem Try.info_rky : (Try.prog.info? 63).map (fun i => (i.zero, i.size, i.bytes)) = some (some (.agg #[.int .i64 0, .string ⟨#[]⟩]), 2, 24) := by kernel_rfl
def RlP (a : Nat) (F : List Nat) (gl : List Ky) (es' : Is) (w : World) (e : Ending) (w' : World) : Prop :=
  ∃ v F', e = .returned v ∧ OwnC 63 2 (fun _ => True) w' w.heap.size v gl.length (kys gl) ∧ Rk w' a F' es' ∧ Tch F w w' ∧ ∀ k ∈ F', k ∈ F ∨ w.heap.size ≤ k
set_option maxRecDepth 100000 in
set_option maxHeartbeats 2000000 in
theorem rleaveI_calls (a : Nat) (F : List Nat) (es : Is) (x : Int) (w : World) (h : Rk w a F es) (hb : es.length ≤ 1000000) {gl : List Ky} {es' : Is} (hd : leaveI es x = (gl, es')) :
    Calls Try.prog 29 #[.pointer (some ⟨a, 0, none⟩), .int .i64 x] w (RlP a F gl es' w) := by
  have HM := Lib.hid h
  have HD := Lib.hid hd
  obtain ⟨A, c, h1, ho, hr, hc, hfz, hne⟩ := h.row
  have HR := Lib.hid hr
  have H1 := Lib.hid h1
  have hm1 := hr.2.1
  have hm2 := hr.2.2.1
  have hltW := h.lt
  obtain ⟨N, hN⟩ : ∃ N, es.length = N := ⟨_, rfl⟩
  rw [hN] at hc HR hm1 H1 hb
  have HN := Lib.hid hN
  have HC := Lib.hid hc
  obtain ⟨i0, hi, hz0, hz1', hz2'⟩ := info_parts Try.info_ent
  obtain ⟨j0, hj, hy0, hy1', hy2'⟩ := info_parts Try.info_rky
  clear h hr hN hc h1 ho hne hfz hd
  go_enter Try.func29, Try.ntmps29
  go_wp2_with fail
  go_loopw [5, 6, 7] (fun gv v u wr => ∃ (k m n : Nat), k ≤ N ∧ u = .int .i64 k ∧ m ≤ k ∧ m = ((es.take k).filter fun p => decide (p.2.h ≠ x)).length ∧ OwnC 77 3 (fun _ => True) wr w.heap.size v m (ents ((es.take k).filter fun p => decide (p.2.h ≠ x))) ∧
    n ≤ k ∧ n = (gonL es x k).length ∧ OwnC 63 2 (fun _ => True) wr w.heap.size gv n (kys (gonL es x k)) ∧ Below w.heap.size w wr ∧ Hid (∀ g, gv.ownBlock = some g → v.ownBlock ≠ some g)) (fun _ _ u _ => N - (intOf u).toNat)
  case atStart => exact ⟨0, 0, 0, by omega, rfl, by omega, by simp, OwnC.nil_, by omega, by simp [gonL], OwnC.nil_, Below.refl _ _, Lib.hid (by simp [Value.ownBlock])⟩
  case round =>
    obtain ⟨k, m, n, hk, rfl, hmk, hml, ho, hnk, hnl, hgo, hbl, HAP⟩ := hrel
    have HO := Lib.hid ho
    have HGO := Lib.hid hgo
    have HB := Lib.hid hbl
    have HML := Lib.hid hml
    have HNL := Lib.hid hnl
    have hc := stays_ hbl HC.out
    clear ho hbl hml hgo hnl
    by_cases hkN : k < N
    · have hkl : k < es.length := by rw [HN.out]; exact hkN
      have hkN' : (k : Int) < N := by omega
      obtain ⟨b0, o0, e, x0, x1, x2⟩ := ent_at (HR.out.below HB.out) k hkl
      subst e
      have hls := curLs es x k hkl
      have hgs := gonLs es x k hkl
      obtain ⟨⟨pi, ph, pt⟩, hp⟩ : ∃ p, es[k] = p := ⟨_, rfl⟩
      rw [hp] at x0 x1 x2 hls hgs
      simp only at x0 x1 x2 hls hgs
      have HLS := Lib.hid hls
      have HGS := Lib.hid hgs
      obtain ⟨L, hL⟩ : ∃ L, ((es.take k).filter fun p => decide (p.2.h ≠ x)) = L := ⟨_, rfl⟩
      obtain ⟨G, hG⟩ : ∃ G, gonL es x k = G := ⟨_, rfl⟩
      rw [hL] at HO HML HLS
      rw [hG] at HGO HNL HGS
      clear hp hL hG hls hgs
      by_cases hpx : ph = x
      · have eqi : (ph == x) = true := by rw [ibeq]; exact decide_eq_true hpx
        have HLS2 := Lib.hid (HLS.out.trans (if_pos hpx))
        have HGS2 := Lib.hid (HGS.out.trans (if_pos hpx))
        clear hpx
        go_wp2_with (at_builtin; refine wpList_appC _ rfl _ _ _ rfl w.heap.size j0 _ 24 Try.underlying68 hj hy0 hy1' hy2' rfl (by decide) (fun _ _ => trivial) u5 n (kys G) rfl ?own (some ⟨wr.heap.size, 0, none⟩) 1 1 (kcs ⟨ph, pt⟩) rfl ?rd ?hb ?h63 ?hbase ?_)
        case own => exact HGO.out.alloc _
        case rd => exact rdc_box (kcs ⟨ph, pt⟩) 1 2 rfl (kcs_one _) (by decide)
        case hb => omega
        case h63 => omega
        case hbase => have := HB.out.size; simp; omega
        intro v2 w2 o2 g2 _ y2
        have O2 := Lib.hid (show OwnC 63 2 (fun _ => True) w2 w.heap.size v2 (n + 1) (kys (gonL es x (k + 1))) by
          rw [HGS2.out, kys, List.flatMap_append]
          exact o2)
        have hm6 : Hid (n + 1 = (gonL es x (k + 1)).length) := Lib.hid (by rw [HGS2.out, List.length_append, HNL.out]; rfl)
        have B2 := Lib.hid (below_then HB.out HB.out.size (below_alloc wr _) |>.grown g2 (by have := HB.out.size; simp; omega) (fun k hk => (HGO.out.lt k hk).1))
        have HL2 := Lib.hid ((HO.out.alloc _).grown g2 (fun q hq e => HAP.out q e.symm hq))
        have AP2 := Lib.hid (show ∀ g, v2.ownBlock = some g → u6.ownBlock ≠ some g from fun g hg e => by
          rcases y2 with y | y
          · exact HAP.out g (by rw [← y]; exact hg) e
          · rw [y] at hg
            simp at hg
            have := (HO.out.lt g e).2
            omega)
        clear o2 g2 y2
        go_wp2_with fail
        exact ⟨⟨k + 1, m, n + 1, by omega, by go_num, by omega, by rw [HLS2.out]; exact HML.out, by rw [HLS2.out]; exact HL2.out, by omega, hm6.out, O2.out, B2.out, AP2⟩, by simp [intOf]; omega⟩
      · have eqi : (ph == x) = false := by rw [ibeq]; exact decide_eq_false hpx
        have HLS2 := Lib.hid (HLS.out.trans (if_neg hpx))
        have HGS2 := Lib.hid (HGS.out.trans (if_neg hpx))
        clear hpx
        go_wp2_with (at_builtin; refine wpList_appC _ rfl _ _ _ rfl w.heap.size i0 _ 32 Try.underlying60 hi hz0 hz1' hz2' rfl (by decide) (fun _ _ => trivial) u6 m (ents L) rfl ?own (some ⟨wr.heap.size, 0, none⟩) 1 1 (ec (pi, ⟨ph, pt⟩)) rfl ?rd ?hb ?h63 ?hbase ?_)
        case own => exact HO.out.alloc _
        case rd => exact rdc_box (ec (pi, ⟨ph, pt⟩)) 1 3 rfl (ec_one _) (by decide)
        case hb => omega
        case h63 => omega
        case hbase => have := HB.out.size; simp; omega
        intro v2 w2 o2 g2 _ y2
        have O2 := Lib.hid (show OwnC 77 3 (fun _ => True) w2 w.heap.size v2 (m + 1) (ents ((es.take (k + 1)).filter fun p => decide (p.2.h ≠ x))) by
          rw [HLS2.out, ents_snoc]
          exact o2)
        have hm6 : Hid (m + 1 = ((es.take (k + 1)).filter fun p => decide (p.2.h ≠ x)).length) := Lib.hid (by rw [HLS2.out, List.length_append, HML.out]; rfl)
        have B2 := Lib.hid (below_then HB.out HB.out.size (below_alloc wr _) |>.grown g2 (by have := HB.out.size; simp; omega) (fun k hk => (HO.out.lt k hk).1))
        have HG2 := Lib.hid ((HGO.out.alloc _).grown g2 (fun q hq e => HAP.out q hq e.symm))
        have AP2 := Lib.hid (show ∀ g, u5.ownBlock = some g → v2.ownBlock ≠ some g from fun g hg e => by
          rcases y2 with y | y
          · exact HAP.out g hg (by rw [← y]; exact e)
          · rw [y] at e
            simp at e
            have := (HGO.out.lt g hg).2
            omega)
        clear o2 g2 y2
        go_wp2_with fail
        exact ⟨⟨k + 1, m + 1, n, by omega, by go_num, by omega, hm6.out, O2.out, by omega, by rw [HGS2.out]; exact HNL.out, by rw [HGS2.out]; exact HG2.out, B2.out, AP2⟩, by simp [intOf]; omega⟩
    · obtain rfl : k = N := by omega
      have hgl : gonL es x k = gl := by rw [← HN.out, gonL_all, HD.out]
      have hes : ((es.take k).filter fun p => decide (p.2.h ≠ x)) = es' := by rw [← HN.out, List.take_length, show es' = (leaveI es x).2 by rw [HD.out]]; rfl
      rw [hgl] at HGO HNL
      rw [hes] at HO HML
      have HO2 := Lib.hid (show OwnC 77 3 (fun _ => True) wr w.heap.size u6 es'.length (ents es') by have := HO.out; rwa [HML.out] at this)
      have ha := (HB.out.block a hltW).trans H1.out
      have hfz := froz_of_heap ha 0
      have HFIN := Lib.hid (rk_close (F := F) (w := w) ha (HO2.out.base (Nat.zero_le _)) HM.out.mem (fun g hg => .inr (HO2.out.lt g hg).1) (Tch.of_below F HB.out) HM.out.lts)
      have HG2 := Lib.hid (show OwnC 63 2 (fun _ => True) (wr.setCell ⟨a, 0, none⟩ u6) w.heap.size u5 gl.length (kys gl) by
        have h3 := HGO.out
        rw [HNL.out] at h3
        exact h3.keep fun q hq => Below.heap_setCell _ _ _ _ (fun e => by have := (HGO.out.lt q hq).1; have e' : q = a := e; omega))
      clear ha HO hgl hes
      obtain ⟨A2, c2, rfl⟩ := HO2.out.slice
      go_wp2_with fail
      go_ret
      obtain ⟨F', f1, f2, f3⟩ := HFIN.out
      exact ⟨_, F', rfl, HG2.out, f1, f2, f3⟩
end Go.Proofs.Ytafmhpcfjmannaa

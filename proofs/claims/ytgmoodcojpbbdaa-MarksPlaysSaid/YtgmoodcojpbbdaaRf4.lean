import Derived.Test.YtgmoodcojpbbdaaRf3
import Derived.Test.YtgmoodcojpbbdaaGood
set_option linter.unusedVariables false
set_option linter.unusedSimpArgs false
namespace Go.Proofs.Ytgmoodcojpbbdaa
open Go.RowKit

def OwnG (w : World) (base : Nat) (v : Value) (l : List (List UInt8)) : Prop := OwnC 9 1 (fun _ => True) w base v l.length (l.map str)
set_option maxHeartbeats 800000 in
theorem rlist_calls (a : Nat) (F : List Nat) (ms : Ms) (w : World) (h : Rf w a F ms) (hb : ms.length ≤ 1000000) :
    Calls Try.prog 19 #[.pointer (some ⟨a, 0, none⟩)] w fun e w' => ∃ v, e = .returned v ∧ OwnC 47 5 (fun _ => True) w' w.heap.size v ms.length (mcs ms) ∧ Below w.heap.size w w' := by
  obtain ⟨A, c, h1, h2, h3, h4, h5, h6⟩ := h.row
  have HR := Lib.hid h3
  have hlt := h.lt
  have hmx := h3.2.2.1
  have hlc := h3.2.1
  obtain ⟨N, hN⟩ : ∃ N, ms.length = N := ⟨_, rfl⟩
  rw [hN] at h4 HR hb hlc ⊢
  obtain ⟨i0, hi, hz0, hz1, hz2⟩ := info_parts Try.info_mark
  clear h h1 h2 h3 h5 h6 hN
  go_enter Try.func19, Try.ntmps19
  go_wp2_with (at_builtin; refine wpList_appC _ rfl _ _ _ rfl w.heap.size i0 _ 56 Try.underlying39 hi hz0 hz1 hz2 rfl (by decide) (fun _ _ => trivial) (.slice (some ⟨w.heap.size, 0, none⟩) 0 0) 0 [] rfl ?own A N c (mcs ms) rfl ?rd ?hb ?h63 ?hbase ?_)
  case own =>
    refine OwnC.box0 ?_ ?_
    · simp
    · omega
  case rd => exact HR.out.below (below_alloc w _)
  case hb => omega
  case h63 => omega
  case hbase => simp
  intro v2 w2 o2 g2 _ _
  have hB := Lib.hid (show Below w.heap.size w w2 from Below.grown (below_alloc w _) g2 (by simp) (fun k hk => by simp [Value.ownBlock] at hk; omega))
  have O2 := Lib.hid (show OwnC 47 5 (fun _ => True) w2 w.heap.size v2 N (mcs ms) by simpa using o2)
  clear o2 g2
  go_wp2_with fail
  go_ret
  exact ⟨_, rfl, O2.out, hB.out⟩

def kpL (th : Ms) (ms : Ms) (k : Nat) : Ms := (ms.take k).filter fun p => (mat th p.1).isSome
def gnL (th : Ms) (ms : Ms) (k : Nat) : List (List UInt8) := ((ms.take k).filter fun p => (mat th p.1).isNone).map (·.1)
theorem kpL_succ (th ms : Ms) (k : Nat) (hk : k < ms.length) : (mat th ms[k].1 = none ∧ kpL th ms (k + 1) = kpL th ms k ∧ gnL th ms (k + 1) = gnL th ms k ++ [ms[k].1]) ∨ ((mat th ms[k].1).isSome = true ∧ kpL th ms (k + 1) = kpL th ms k ++ [ms[k]] ∧ gnL th ms (k + 1) = gnL th ms k) := by
  unfold kpL gnL
  rw [List.take_succ_eq_append_getElem hk, List.filter_append, List.filter_append]
  cases h : mat th ms[k].1 with
  | none => exact .inl ⟨rfl, by simp [h], by simp [h]⟩
  | some o => exact .inr ⟨rfl, by simp [h], by simp [h]⟩
theorem kpL_all (th ms : Ms) : kpL th ms ms.length = (keepM th ms).2 ∧ gnL th ms ms.length = (keepM th ms).1 := by simp [kpL, gnL, keepM]
def RkP (a : Nat) (F : List Nat) (gl : List (List UInt8)) (ms' : Ms) (w : World) (e : Ending) (w' : World) : Prop :=
  ∃ v F', e = .returned v ∧ OwnG w' w.heap.size v gl ∧ Rf w' a F' ms' ∧ Tch F w w' ∧ ∀ k ∈ F', k ∈ F ∨ w.heap.size ≤ k
set_option maxRecDepth 100000 in
set_option maxHeartbeats 2000000 in
theorem rkeep_calls (a : Nat) (F : List Nat) (ms th : Ms) (A' : Option Addr) (n' c' : Nat) (w : World) (h : Rf w a F ms) (hb : ms.length ≤ 1000000) (hth : RdC 5 w A' n' c' (mcs th)) {gl : List (List UInt8)} {ms' : Ms} (hd : keepM th ms = (gl, ms')) :
    Calls Try.prog 35 #[.pointer (some ⟨a, 0, none⟩), .slice A' n' c'] w (RkP a F gl ms' w) := by
  have HM := Lib.hid h
  have HD := Lib.hid hd
  have HTH := Lib.hid hth
  have hmt := hth.2.2.1
  have hlt' := hth.2.1
  obtain ⟨A, c, h1, ho, hr, hc, hfz, hne⟩ := h.row
  have HR := Lib.hid hr
  have H1 := Lib.hid h1
  have hm1 := hr.2.1
  have hm2 := hr.2.2.1
  have hltW := h.lt
  obtain ⟨N, hN⟩ : ∃ N, ms.length = N := ⟨_, rfl⟩
  rw [hN] at hc HR hm1 H1 hb
  have HN := Lib.hid hN
  have HC := Lib.hid hc
  obtain ⟨i0, hi, hz0, hz1', hz2'⟩ := info_parts Try.info_mark
  obtain ⟨j0, hj, hy0, hy1', hy2'⟩ := info_parts Try.info_string
  clear h hr hN hc h1 ho hne hfz hd hth
  go_enter Try.func35, Try.ntmps35
  go_wp2_with fail
  go_loopw [5, 6, 7] (fun gv v u wr => ∃ (k m n : Nat), k ≤ N ∧ u = .int .i64 k ∧ m ≤ k ∧ m = (kpL th ms k).length ∧ OwnC 47 5 (fun _ => True) wr w.heap.size v m (mcs (kpL th ms k)) ∧
    n ≤ k ∧ n = (gnL th ms k).length ∧ OwnC 9 1 (fun _ => True) wr w.heap.size gv n ((gnL th ms k).map str) ∧ Below w.heap.size w wr ∧ Hid (∀ g, gv.ownBlock = some g → v.ownBlock ≠ some g)) (fun _ _ u _ => N - (intOf u).toNat)
  case atStart => exact ⟨0, 0, 0, by omega, rfl, by omega, by simp [kpL], OwnC.nil_, by omega, by simp [gnL], OwnC.nil_, Below.refl _ _, Lib.hid (by simp [Value.ownBlock])⟩
  case round =>
    obtain ⟨k, m, n, hk, rfl, hmk, hml, ho, hnk, hnl, hgo, hbl, HAP⟩ := hrel
    have HO := Lib.hid ho
    have HGO := Lib.hid hgo
    have HB := Lib.hid hbl
    have HML := Lib.hid hml
    have HNL := Lib.hid hnl
    have hc := stays_ hbl HC.out
    clear ho hbl hml hgo hnl
    by_cases hkN : k < N
    · have hkl : k < ms.length := by rw [HN.out]; exact hkN
      have hkN' : (k : Int) < N := by omega
      obtain ⟨b0, o0, e, x0, x1, x2, x3, x4⟩ := mark_at (HR.out.below HB.out) k hkl
      subst e
      have hls := kpL_succ th ms k hkl
      obtain ⟨p, hp⟩ : ∃ p, ms[k] = p := ⟨_, rfl⟩
      rw [hp] at x0 x1 x2 x3 x4 hls
      have HLS := Lib.hid hls
      obtain ⟨L, hL⟩ : ∃ L, kpL th ms k = L := ⟨_, rfl⟩
      obtain ⟨G, hG⟩ : ∃ G, gnL th ms k = G := ⟨_, rfl⟩
      rw [hL, hG] at HLS
      rw [hL] at HO HML
      rw [hG] at HGO HNL
      clear hp hL hG hls
      rcases HLS.out with ⟨hmn, e1, e2⟩ | ⟨hms, e1, e2⟩
      · have HLS2 := Lib.hid e1
        have HGS2 := Lib.hid e2
        have HWH := Lib.hid (show whereT (th.map (·.1)) p.1 = -1 by
          rcases where_mat th p.1 with ⟨_, h⟩ | ⟨_, _, h, _⟩
          · exact h
          · rw [hmn] at h; cases h)
        clear hmn e1 e2 HLS
        go_wp2_with fail
        refine (at_any A' n' c' th p.1 (-1) _ (HTH.out.below HB.out) HWH.out).mono ?_
        rintro e w1 ⟨rfl, rfl⟩
        go_wp2_with (at_builtin; refine wpList_appC _ rfl _ _ _ rfl w.heap.size j0 _ 16 Try.underlying35 hj hy0 hy1' hy2' rfl (by decide) (fun _ _ => trivial) u5 n (G.map str) rfl ?own (some ⟨wr.heap.size, 0, none⟩) 1 1 [str p.1] rfl ?rd ?hb ?h63 ?hbase ?_)
        case own => exact HGO.out.alloc _
        case rd => exact rdc_box [str p.1] 1 1 rfl (by simp [str_one]) (by decide)
        case hb => omega
        case h63 => omega
        case hbase => have := HB.out.size; simp; omega
        intro v2 w2 o2 g2 _ y2
        have O2 := Lib.hid (show OwnC 9 1 (fun _ => True) w2 w.heap.size v2 (n + 1) ((gnL th ms (k + 1)).map str) by
          rw [HGS2.out, List.map_append]
          exact o2)
        have hm6 : Hid (n + 1 = (gnL th ms (k + 1)).length) := Lib.hid (by rw [HGS2.out, List.length_append, HNL.out]; rfl)
        have B2 := Lib.hid (below_then HB.out HB.out.size (below_alloc wr _) |>.grown g2 (by have := HB.out.size; simp; omega) (fun k hk => (HGO.out.lt k hk).1))
        have HL2 := Lib.hid ((HO.out.alloc _).grown g2 (fun q hq e => HAP.out q e.symm hq))
        have AP2 := Lib.hid (show ∀ g, v2.ownBlock = some g → u6.ownBlock ≠ some g from fun g hg e => by
          rcases y2 with y | y
          · exact HAP.out g (by rw [← y]; exact hg) e
          · rw [y] at hg
            simp at hg
            have := (HO.out.lt g e).2
            omega)
        clear o2 g2 y2
        go_wp2_with fail
        exact ⟨⟨k + 1, m, n + 1, by omega, by go_num, by omega, by rw [HLS2.out]; exact HML.out, by rw [HLS2.out]; exact HL2.out, by omega, hm6.out, O2.out, B2.out, AP2⟩, by simp [intOf]; omega⟩
      · have HLS2 := Lib.hid e1
        have HGS2 := Lib.hid e2
        obtain ⟨z, hz⟩ : ∃ z : Nat, whereT (th.map (·.1)) p.1 = z := by
          rcases where_mat th p.1 with ⟨h, _⟩ | ⟨z, _, _, h, _⟩
          · rw [h] at hms; cases hms
          · exact ⟨z, h⟩
        have HWH := Lib.hid hz
        clear hms e1 e2 HLS hz
        go_wp2_with fail
        refine (at_any A' n' c' th p.1 z _ (HTH.out.below HB.out) HWH.out).mono ?_
        rintro e w1 ⟨rfl, rfl⟩
        go_wp2_with (at_builtin; refine wpList_appC _ rfl _ _ _ rfl w.heap.size i0 _ 56 Try.underlying39 hi hz0 hz1' hz2' rfl (by decide) (fun _ _ => trivial) u6 m (mcs L) rfl ?own (some ⟨wr.heap.size, 0, none⟩) 1 1 (mc p) rfl ?rd ?hb ?h63 ?hbase ?_)
        case own => exact HO.out.alloc _
        case rd => exact rdc_box (mc p) 1 5 rfl (mc_one p) (by decide)
        case hb => omega
        case h63 => omega
        case hbase => have := HB.out.size; simp; omega
        intro v2 w2 o2 g2 _ y2
        have O2 := Lib.hid (show OwnC 47 5 (fun _ => True) w2 w.heap.size v2 (m + 1) (mcs (kpL th ms (k + 1))) by
          rw [HLS2.out, mcs_snoc]
          exact o2)
        have hm6 : Hid (m + 1 = (kpL th ms (k + 1)).length) := Lib.hid (by rw [HLS2.out, List.length_append, HML.out]; rfl)
        have B2 := Lib.hid (below_then HB.out HB.out.size (below_alloc wr _) |>.grown g2 (by have := HB.out.size; simp; omega) (fun k hk => (HO.out.lt k hk).1))
        have HG2 := Lib.hid ((HGO.out.alloc _).grown g2 (fun q hq e => HAP.out q hq e.symm))
        have AP2 := Lib.hid (show ∀ g, u5.ownBlock = some g → v2.ownBlock ≠ some g from fun g hg e => by
          rcases y2 with y | y
          · exact HAP.out g hg (by rw [← y]; exact e)
          · rw [y] at e
            simp at e
            have := (HGO.out.lt g hg).2
            omega)
        clear o2 g2 y2
        go_wp2_with fail
        exact ⟨⟨k + 1, m + 1, n, by omega, by go_num, by omega, hm6.out, O2.out, by omega, by rw [HGS2.out]; exact HNL.out, by rw [HGS2.out]; exact HG2.out, B2.out, AP2⟩, by simp [intOf]; omega⟩
    · obtain rfl : k = N := by omega
      have hgl : gnL th ms k = gl := by rw [← HN.out, (kpL_all th ms).2, HD.out]
      have hes : kpL th ms k = ms' := by rw [← HN.out, (kpL_all th ms).1, HD.out]
      rw [hgl] at HGO HNL
      rw [hes] at HO HML
      have HO2 := Lib.hid (show OwnC 47 5 (fun _ => True) wr w.heap.size u6 ms'.length (mcs ms') by have := HO.out; rwa [HML.out] at this)
      have ha := (HB.out.block a hltW).trans H1.out
      have hfz := froz_of_heap ha 0
      have HFIN := Lib.hid (rf_close (F := F) (w := w) ha (HO2.out.base (Nat.zero_le _)) HM.out.mem (fun g hg => .inr (HO2.out.lt g hg).1) (Tch.of_below F HB.out) HM.out.lts)
      have HG2 := Lib.hid (show OwnG (wr.setCell ⟨a, 0, none⟩ u6) w.heap.size u5 gl by
        have h3 := HGO.out
        rw [HNL.out] at h3
        exact h3.keep fun q hq => Below.heap_setCell _ _ _ _ (fun e => by have := (HGO.out.lt q hq).1; have e' : q = a := e; omega))
      clear ha HO hgl hes
      obtain ⟨A2, c2, rfl⟩ := HO2.out.slice
      go_wp2_with fail
      go_ret
      obtain ⟨F', f1, f2, f3⟩ := HFIN.out
      exact ⟨_, F', rfl, HG2.out, f1, f2, f3⟩
end Go.Proofs.Ytgmoodcojpbbdaa

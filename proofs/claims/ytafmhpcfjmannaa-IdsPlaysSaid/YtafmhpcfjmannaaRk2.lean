import Derived.Test.YtafmhpcfjmannaaRk
set_option linter.unusedVariables false
set_option linter.unusedSimpArgs false
namespace Go.Proofs.Ytafmhpcfjmannaa
open Go.RowKit

set_option maxRecDepth 100000 in
set_option maxHeartbeats 1000000 in
theorem rrangeI_calls (a : Nat) (F : List Nat) (es : Is) (f l : Nat) (w : World) (h : Rk w a F es) (hb : es.length ≤ 1000000) (hf : f < 4294967296) (hl : l < 4294967296) (hsm : Small es) :
    Calls Try.prog 25 #[.pointer (some ⟨a, 0, none⟩), .int .u32 f, .int .u32 l] w (NumPost (rangeI es f l) w) := by
  obtain ⟨A, c, _, _, hr, hc, _, _⟩ := h.row
  have hlt := h.lt
  have HR := Lib.hid hr
  have HSM := Lib.hid hsm
  have hm1 := hr.2.1
  have hm2 := hr.2.2.1
  obtain ⟨N, hN⟩ : ∃ N, es.length = N := ⟨_, rfl⟩
  rw [hN] at hc HR hm1 hb
  have HN := Lib.hid hN
  have HC := Lib.hid hc
  have est : ((l : Int) - (f : Int)) % 4294967296 = (stp f l : Nat) := by unfold stp; omega
  have hsl := stp_lt f l
  have HRG := Lib.hid (show rangeI es f l = if stp f l < 2147483648 then (es.filter fun p => inR f l p.1).map (·.1) else [] from rfl)
  have HQ := Lib.hid (show ∀ x, decide (stp f x ≤ stp f l) = inR f l x from fun x => rfl)
  obtain ⟨s, hs⟩ : ∃ s, stp f l = s := ⟨_, rfl⟩
  rw [hs] at est hsl HRG HQ
  clear h hr hN hc hsm hs
  by_cases hnear : s < 2147483648
  · have HV := Lib.hid (HRG.out.trans (if_pos hnear))
    obtain ⟨i0, hi, hz0, hz1', hz2'⟩ := info_parts Try.info_u32
    have hnear' : decide ((s : Int) < 2147483648) = true := decide_eq_true (by omega)
    clear HRG hnear
    go_enter Try.func25, Try.ntmps25
    go_wp2_with fail
    rw [est]
    clear est
    go_loopw [7, 9] (fun v i wr => ∃ (k : Nat), k ≤ N ∧ i = .int .i64 k ∧ OwnN wr w.heap.size v (((es.take k).filter fun p => inR f l p.1).map (·.1)) ∧ Below w.heap.size w wr) (fun _ i _ => N - (intOf i).toNat)
    case atStart => exact ⟨0, by omega, rfl, OwnC.nil_, Below.refl _ _⟩
    case round =>
      obtain ⟨k, hk, rfl, ho, hbl⟩ := hrel
      have HO := Lib.hid ho
      have HB := Lib.hid hbl
      have hc := stays_ hbl HC.out
      clear ho hbl
      by_cases hkN : k < N
      · have hkl : k < es.length := by rw [HN.out]; exact hkN
        obtain ⟨b0, o0, e, x0, x1, x2⟩ := ent_at (HR.out.below HB.out) k hkl
        subst e
        have hxs : es[k].1 < 4294967296 := HSM.out _ (List.getElem_mem hkl)
        have hfs := filt_snoc es (inR f l) k hkl
        obtain ⟨x, hx⟩ : ∃ x, es[k].1 = x := ⟨_, rfl⟩
        rw [hx] at x0 hxs hfs
        have HFS := Lib.hid hfs
        have hkN' : (k : Int) < N := by omega
        have hqx := HQ.out x
        have ex : decide (((x : Int) - (f : Int)) % 4294967296 ≤ (s : Int)) = inR f l x := by
          rw [← hqx, decide_eq_decide]
          unfold stp
          omega
        clear hx hfs hqx x1 x2
        cases hq : inR f l x with
        | true =>
          rw [hq] at ex
          have HFS2 := Lib.hid (HFS.out.trans (if_pos hq))
          obtain ⟨L, hL⟩ : ∃ L, ((es.take k).filter fun p => inR f l p.1).map (·.1) = L := ⟨_, rfl⟩
          rw [hL] at HO HFS2
          have HLL := Lib.hid (show L.length ≤ N by
            rw [← hL, List.length_map]
            exact Nat.le_trans (List.length_filter_le _ _) (by simp; omega))
          have hLN := HLL.out
          clear hq hL
          go_wp2_with (at_builtin; refine wpList_appC _ rfl _ _ _ rfl w.heap.size i0 (.int .u32 0) 4 Try.underlying31 hi hz0 hz1' hz2' rfl (by decide) (fun _ _ => trivial) u7 L.length (L.map uv) rfl ?own (some ⟨wr.heap.size, 0, none⟩) 1 1 [uv x] rfl ?rd ?hb ?h63 ?hbase ?_)
          case own => exact HO.out.alloc _
          case rd => exact rdc_box [uv x] 1 1 rfl (by simp [uv_one]) (by decide)
          case hb => omega
          case h63 => omega
          case hbase => have := HB.out.size; simp; omega
          intro v2 w2 o2 g2 _ _
          have O2 := Lib.hid (show OwnN w2 w.heap.size v2 (((es.take (k + 1)).filter fun p => inR f l p.1).map (·.1)) by
            rw [HFS2.out]
            unfold OwnN
            rw [List.length_append, List.map_append]
            exact o2)
          have B2 := Lib.hid (below_then HB.out HB.out.size (below_alloc wr _) |>.grown g2 (by have := HB.out.size; simp; omega) (fun k hk => (HO.out.lt k hk).1))
          clear o2 g2
          go_wp2_with fail
          exact ⟨⟨k + 1, by omega, by go_num, O2.out, B2.out⟩, by simp [intOf]; omega⟩
        | false =>
          rw [hq] at ex
          have HFS2 := Lib.hid (HFS.out.trans (if_neg (by rw [hq]; simp)))
          clear hq
          go_wp2_with fail
          exact ⟨⟨k + 1, by omega, by go_num, by rw [HFS2.out]; exact HO.out, HB.out⟩, by simp [intOf]; omega⟩
      · obtain rfl : k = N := by omega
        have HO2 := Lib.hid (show OwnN wr w.heap.size u7 (rangeI es f l) by
          have := HO.out
          rw [← HN.out, List.take_length] at this
          rw [HV.out]
          exact this)
        clear HO
        go_wp2_with fail
        go_ret
        exact ⟨_, rfl, HO2.out, HB.out⟩
  · have HV := Lib.hid (HRG.out.trans (if_neg hnear))
    have hnear' : decide ((s : Int) < 2147483648) = false := decide_eq_false (by omega)
    clear HRG hnear
    have hc := HC.out
    go_enter Try.func25, Try.ntmps25
    go_wp2_with fail
    refine wp_loop_rounds 1 ?_
    rw [rounds_succ]
    go_wp2_with fail
    go_ret
    exact ⟨_, rfl, by rw [HV.out]; exact OwnC.nil_, Below.refl _ _⟩

theorem rm_snoc (es : Is) (i k : Nat) (hk : k < es.length) : rmI (es.take (k + 1)) i = if es[k].1 = i then rmI (es.take k) i else rmI (es.take k) i ++ [es[k]] := by
  rw [rmI, rmI, List.take_succ_eq_append_getElem hk, List.filter_append]
  by_cases h : es[k].1 = i <;> simp [h]
set_option maxRecDepth 100000 in
set_option maxHeartbeats 1600000 in
theorem rdropI_calls (a : Nat) (F : List Nat) (es : Is) (i : Nat) (w : World) (h : Rk w a F es) (hb : es.length ≤ 1000000) {b : Bool} {es' : Is} (hd : dropI es i = (b, es')) :
    Calls Try.prog 28 #[.pointer (some ⟨a, 0, none⟩), .int .u32 i] w fun e w' => ∃ F', e = .returned (.bool b) ∧ Rk w' a F' es' ∧ Tch F w w' ∧ ∀ k ∈ F', k ∈ F ∨ w.heap.size ≤ k := by
  have HM := Lib.hid h
  have hlt := h.lt
  obtain ⟨⟨vh, vt⟩, gb, hg⟩ : ∃ v b, getA es i = (v, b) := ⟨_, _, rfl⟩
  have hgb : (geI es i).isSome = gb := congrArg (·.2) hg
  have HG := Lib.hid hg
  have HGB := Lib.hid hgb
  have HD := Lib.hid hd
  have HLB := Lib.hid hb
  clear h hg hgb hd hb
  go_enter Try.func28, Try.ntmps28
  go_wp2_with fail
  refine (rgetI_calls a F es i _ HM.out HG.out).mono ?_
  rintro e w1 ⟨rfl, b1⟩
  have B1 := Lib.hid b1
  simp only
  cases gb with
  | false =>
    have he : dropI es i = (false, es) := by unfold dropI; rw [HGB.out]; rfl
    rw [HD.out] at he
    cases he
    clear b1
    go_wp2_with fail
    go_ret
    have := B1.out.alloc B1.out.size (.cells #[.int .i64 vh, .string ⟨vt.toArray⟩] 63)
    exact ⟨F, rfl, HM.out.below this, Tch.of_below F this, fun k hk => .inl hk⟩
  | true =>
    have he : dropI es i = (true, rmI es i) := by unfold dropI; rw [HGB.out]; rfl
    rw [HD.out] at he
    cases he
    go_upto_region 4 with fail
    have b1' := B1.out.alloc B1.out.size (.cells #[.int .i64 vh, .string ⟨vt.toArray⟩] 63)
    refine forget (fun W => Rk W a F es ∧ Below w.heap.size w W) ⟨HM.out.below b1', b1'⟩ ?_
    rintro W ⟨hm, hbw⟩
    clear b1 b1'
    have HMW := Lib.hid hm
    have HBW := Lib.hid hbw
    obtain ⟨A, c, h1, ho, hr, hc, hfz, hne⟩ := hm.row
    have HR := Lib.hid hr
    have H1 := Lib.hid h1
    have hm1 := hr.2.1
    have hm2 := hr.2.2.1
    have hltW := hm.lt
    obtain ⟨N, hN⟩ : ∃ N, es.length = N := ⟨_, rfl⟩
    have hb' := HLB.out
    rw [hN] at hc HR hm1 H1 hb'
    have HN := Lib.hid hN
    have HC := Lib.hid hc
    obtain ⟨i0, hi, hz0, hz1', hz2'⟩ := info_parts Try.info_ent
    clear hm hbw hr hN hc h1 ho hne hfz
    go_wp2_with fail
    go_loopw [7, 8] (fun v u wr => ∃ (k m : Nat), k ≤ N ∧ u = .int .i64 k ∧ m ≤ k ∧ m = (rmI (es.take k) i).length ∧ OwnC 77 3 (fun _ => True) wr W.heap.size v m (ents (rmI (es.take k) i)) ∧ Below W.heap.size W wr) (fun _ u _ => N - (intOf u).toNat)
    case atStart => exact ⟨0, 0, by omega, rfl, by omega, by simp [rmI], OwnC.nil_, Below.refl _ _⟩
    case round =>
      obtain ⟨k, m, hk, rfl, hmk, hml, ho, hbl⟩ := hrel
      have HO := Lib.hid ho
      have HB := Lib.hid hbl
      have HML := Lib.hid hml
      have hc := stays_ hbl HC.out
      clear ho hbl hml
      by_cases hkN : k < N
      · have hkl : k < es.length := by rw [HN.out]; exact hkN
        have hkN' : (k : Int) < N := by omega
        obtain ⟨b0, o0, e, x0, x1, x2⟩ := ent_at (HR.out.below HB.out) k hkl
        subst e
        have hrs := rm_snoc es i k hkl
        obtain ⟨⟨pi, ph, pt⟩, hp⟩ : ∃ p, es[k] = p := ⟨_, rfl⟩
        rw [hp] at x0 x1 x2 hrs
        simp only at x0 x1 x2 hrs
        have HRS := Lib.hid hrs
        obtain ⟨L, hL⟩ : ∃ L, rmI (es.take k) i = L := ⟨_, rfl⟩
        rw [hL] at HO HML HRS
        clear hp hL hrs
        by_cases hpi : pi = i
        · have eqi : ((pi : Int) == (i : Int)) = true := by rw [ibeq]; exact decide_eq_true (by omega)
          have HRS2 := Lib.hid (HRS.out.trans (if_pos hpi))
          clear hpi
          go_wp2_with fail
          exact ⟨⟨k + 1, m, by omega, by go_num, by omega, by rw [HRS2.out]; exact HML.out, by rw [HRS2.out]; exact HO.out, HB.out⟩, by simp [intOf]; omega⟩
        · have eqi : ((pi : Int) == (i : Int)) = false := by rw [ibeq]; exact decide_eq_false (by omega)
          have HRS2 := Lib.hid (HRS.out.trans (if_neg hpi))
          clear hpi
          go_wp2_with (at_builtin; refine wpList_appC _ rfl _ _ _ rfl W.heap.size i0 _ 32 Try.underlying60 hi hz0 hz1' hz2' rfl (by decide) (fun _ _ => trivial) u7 m (ents L) rfl ?own (some ⟨wr.heap.size, 0, none⟩) 1 1 (ec (pi, ⟨ph, pt⟩)) rfl ?rd ?hb ?h63 ?hbase ?_)
          case own => exact HO.out.alloc _
          case rd => exact rdc_box (ec (pi, ⟨ph, pt⟩)) 1 3 rfl (ec_one _) (by decide)
          case hb => omega
          case h63 => omega
          case hbase => have := HB.out.size; simp; omega
          intro v2 w2 o2 g2 _ _
          have O2 := Lib.hid (show OwnC 77 3 (fun _ => True) w2 W.heap.size v2 (m + 1) (ents (rmI (es.take (k + 1)) i)) by
            rw [HRS2.out, ents_snoc]
            exact o2)
          have hm6 : Hid (m + 1 = (rmI (es.take (k + 1)) i).length) := Lib.hid (by rw [HRS2.out, List.length_append, HML.out]; rfl)
          have B2 := Lib.hid (below_then HB.out HB.out.size (below_alloc wr _) |>.grown g2 (by have := HB.out.size; simp; omega) (fun k hk => (HO.out.lt k hk).1))
          clear o2 g2
          go_wp2_with fail
          exact ⟨⟨k + 1, m + 1, by omega, by go_num, by omega, hm6.out, O2.out, B2.out⟩, by simp [intOf]; omega⟩
      · obtain rfl : k = N := by omega
        have HO2 := Lib.hid (show OwnC 77 3 (fun _ => True) wr W.heap.size u7 (rmI es i).length (ents (rmI es i)) by
          have := HO.out
          rw [HML.out] at this
          rw [← HN.out, List.take_length] at this
          exact this)
        have ha := (HB.out.block a hltW).trans H1.out
        have hfz := froz_of_heap ha 0
        have HFIN := Lib.hid (rk_close (F := F) (w := W) ha (HO2.out.base (Nat.zero_le _)) HM.out.mem (fun g hg => .inr (HO2.out.lt g hg).1) (Tch.of_below F HB.out) HMW.out.lts)
        clear ha HO
        obtain ⟨A2, c2, rfl⟩ := HO2.out.slice
        go_wp2_with fail
        go_ret
        obtain ⟨F', f1, f2, f3⟩ := HFIN.out
        refine ⟨F', rfl, f1, (Tch.of_below F HBW.out).trans_ f2, fun x hx => ?_⟩
        rcases f3 x hx with h | h
        · exact .inl h
        · right; have := HBW.out.size; omega
end Go.Proofs.Ytafmhpcfjmannaa

import Derived.Test.YtgmoodcojpbbdaaMeetLaw
set_option linter.unusedVariables false
set_option linter.unusedSimpArgs false
namespace Go.Proofs.Ytgmoodcojpbbdaa
open Go.RowKit

/-- The marks, when the first k of them have been looked at. -/
def curK (th ms : Ms) (k : Nat) : Ms := (ms.take k).filter (fun p => (mat th p.1).isSome) ++ ms.drop k
def goneK (th ms : Ms) (k : Nat) : List (List UInt8) := ((ms.take k).filter (fun p => (mat th p.1).isNone)).map (·.1)
theorem curK_zero (th ms : Ms) : curK th ms 0 = ms := by simp [curK]
theorem curK_all (th ms : Ms) : curK th ms ms.length = (keepM th ms).2 := by simp [curK, keepM]
theorem goneK_all (th ms : Ms) : goneK th ms ms.length = (keepM th ms).1 := by simp [goneK, keepM]
theorem curK_nodup (th ms : Ms) (hn : (ms.map (·.1)).Nodup) (k : Nat) : ((curK th ms k).map (·.1)).Nodup := by
  have h : List.Sublist (curK th ms k) ms := by
    conv => rhs; rw [← List.take_append_drop k ms]
    exact List.Sublist.append (List.filter_sublist) (List.Sublist.refl _)
  exact hn.sublist (h.map _)
theorem curK_at (th ms : Ms) (k : Nat) (hk : k < ms.length) : curK th ms k = (ms.take k).filter (fun p => (mat th p.1).isSome) ++ ms[k] :: ms.drop (k + 1) := by
  rw [curK, List.drop_eq_getElem_cons hk]
theorem curK_yes (th ms : Ms) (k : Nat) (hk : k < ms.length) (h : (mat th ms[k].1).isSome = true) : curK th ms (k + 1) = curK th ms k := by
  rw [curK_at th ms k hk, curK, List.take_succ_eq_append_getElem hk, List.filter_append]
  simp [h]
theorem goneK_yes (th ms : Ms) (k : Nat) (hk : k < ms.length) (h : (mat th ms[k].1).isSome = true) : goneK th ms (k + 1) = goneK th ms k := by
  rw [goneK, List.take_succ_eq_append_getElem hk, List.filter_append]
  cases hm : mat th ms[k].1 with
  | none => rw [hm] at h; cases h
  | some o => simp [hm, goneK]
theorem goneK_no (th ms : Ms) (k : Nat) (hk : k < ms.length) (h : mat th ms[k].1 = none) : goneK th ms (k + 1) = goneK th ms k ++ [ms[k].1] := by
  rw [goneK, List.take_succ_eq_append_getElem hk, List.filter_append]
  simp [h, goneK]
theorem curK_no (th ms : Ms) (hn : (ms.map (·.1)).Nodup) (k : Nat) (hk : k < ms.length) (h : mat th ms[k].1 = none) : settleM (curK th ms k) ms[k].1 = (ms[k].2, true, curK th ms (k + 1)) := by
  have hnk := curK_nodup th ms hn k
  have hmt : mat (curK th ms k) ms[k].1 = some ms[k].2 := by
    apply mat_of_mem hnk
    rw [curK_at th ms k hk]
    exact List.mem_append_right _ List.mem_cons_self
  have h2 : dropM (curK th ms k) ms[k].1 = curK th ms (k + 1) := by
    have h3 : curK th ms (k + 1) = (ms.take k).filter (fun p => (mat th p.1).isSome) ++ ms.drop (k + 1) := by
      rw [curK, List.take_succ_eq_append_getElem hk, List.filter_append]
      simp [h]
    rw [h3]
    have h4 := curK_at th ms k hk
    rw [h4] at hnk ⊢
    rw [List.map_append, List.map_cons] at hnk
    have hd := List.nodup_append.1 hnk
    have e : ∀ zs : Ms, (∀ q ∈ zs, q.1 ≠ ms[k].1) → zs.filter (fun p => decide (p.1 ≠ ms[k].1)) = zs := fun zs hz => by
      rw [List.filter_eq_self]
      intro q hq
      simpa using hz q hq
    rw [dropM, List.filter_append, List.filter_cons, e _ (fun q hq e => hd.2.2 q.1 (List.mem_map.2 ⟨q, hq, rfl⟩) ms[k].1 (by simp) e), e _ (fun q hq e => (List.nodup_cons.1 hd.2.1).1 (List.mem_map.2 ⟨q, hq, e⟩))]
    simp
  rw [settleM, hmt, h2]

theorem RdC.tchL {sz : Nat} {F : List Nat} {w w' : World} {A : Option Addr} {n c : Nat} {cs : List Value} (h : RdC sz w A n c cs) (ht : Tch F w w') (hne : ∀ ad, A = some ad → ad.block < w.heap.size → ad.block ∉ F) : RdC sz w' A n c cs := by
  obtain ⟨h1, h2, h3, h4, h5, h6⟩ := h
  refine ⟨h1, h2, h3, h4, h5, fun ad ha j u hj => ?_⟩
  have hc := h6 ad ha j u hj
  have hb : (ad.add j).block = ad.block := by unfold Addr.add; split <;> rfl
  have hl := World.block_lt_of_cell? _ _ hc
  rw [hb] at hl
  exact ht.cell hc (by rw [hb]; exact hne ad ha hl)
theorem curK_mat (th ms : Ms) (k : Nat) (hk : k < ms.length) : (getM th ms[k].1).2 = (mat th ms[k].1).isSome := rfl
def KeepPost (th ms : Ms) (a : Nat) (F : List Nat) (w : World) (e : Ending) (w' : World) : Prop :=
  ∃ v F', e = .returned v ∧ OwnC 9 1 (fun _ => True) w' w.heap.size v (keepM th ms).1.length ((keepM th ms).1.map str) ∧ Mk w' a F' (keepM th ms).2 ∧ Tch F w w' ∧ (∀ k ∈ F', k ∈ F ∨ w.heap.size ≤ k) ∧ ∀ g, v.ownBlock = some g → g ∉ F'

set_option maxHeartbeats 400000 in
theorem keep_nil (A : Option Addr) (n c : Nat) (w : World) :
    Calls Try.prog 26 #[.pointer none, .slice A n c] w fun e w' => e = .returned (.slice none 0 0) ∧ w = w' := by
  go_enter Try.func26, Try.ntmps26
  go_wp2_with fail
  refine (list_nil _).mono ?_
  rintro e w1 ⟨rfl, rfl⟩
  go_wp2_with fail
  refine wp_loop_rounds 1 ?_
  rw [rounds_succ]
  go_wp2_with fail
  go_ret
  exact ⟨rfl, rfl⟩

set_option maxRecDepth 100000 in
set_option maxHeartbeats 2000000 in
theorem keep_calls (a : Nat) (F : List Nat) (ms th : Ms) (A : Option Addr) (n c : Nat) (w : World) (h : Mk w a F ms) (hb : ms.length ≤ 1000000) (ht : RdC 5 w A n c (mcs th)) (hA : ∀ ad, A = some ad → ad.block ∉ F) :
    Calls Try.prog 26 #[.pointer (some ⟨a, 0, none⟩), .slice A n c] w (KeepPost th ms a F w) := by
  have HM := Lib.hid h
  have HT := Lib.hid ht
  have HA := Lib.hid hA
  obtain ⟨N, hN⟩ : ∃ N, ms.length = N := ⟨_, rfl⟩
  rw [hN] at hb
  have HN := Lib.hid hN
  have HND := Lib.hid h.nodup
  clear h ht hA hN
  go_enter Try.func26, Try.ntmps26
  go_wp2_with fail
  refine (list_calls a F ms _ HM.out (by rw [HN.out]; exact hb)).mono ?_
  rintro e w1 ⟨v1, rfl, o1, b1⟩
  obtain ⟨A1, c1, rfl, r1⟩ := o1.rd
  have R1 := Lib.hid r1
  have B1 := Lib.hid b1
  have hsz1 := b1.size
  have HF1 := Lib.hid (show ∀ ad, A1 = some ad → w.heap.size ≤ ad.block from fun ad had => (o1.lt ad.block (by rw [had]; rfl)).1)
  have hl1 := r1.2.1
  have hm1 := r1.2.2.1
  rw [HN.out] at hl1 ⊢
  clear o1 b1 r1
  go_wp2_with fail
  go_loopw [4, 6, 7, 8, 12] (fun l _ _ _ i wr => ∃ (k m : Nat) (F' : List Nat), k ≤ N ∧ i = .int .i64 k ∧ m ≤ k ∧ m = (goneK th ms k).length ∧ OwnC 9 1 (fun _ => True) wr w1.heap.size l m ((goneK th ms k).map str) ∧ Mk wr a F' (curK th ms k) ∧ Tch F w1 wr ∧ Hid (∀ j ∈ F', j ∈ F ∨ w1.heap.size ≤ j) ∧ Hid (∀ g, l.ownBlock = some g → g ∉ F')) (fun _ _ _ _ i _ => N - (intOf i).toNat)
  case atStart => exact ⟨0, 0, F, by omega, rfl, by omega, by simp [goneK], OwnC.nil_, by rw [curK_zero]; exact HM.out.below B1.out, Tch.refl _ _, Lib.hid (fun j hj => .inl hj), Lib.hid (by simp [Value.ownBlock])⟩
  case round =>
    obtain ⟨k, m, F', hk, rfl, hmk, hml, ho, hmk', htc, HFF, HOF⟩ := hrel
    have HO := Lib.hid ho
    have HMK := Lib.hid hmk'
    have HTC := Lib.hid htc
    have HML := Lib.hid hml
    have hszr := htc.size
    clear ho hmk' htc hml
    by_cases hkN : k < N
    · have hkl : k < ms.length := by rw [HN.out]; exact hkN
      obtain ⟨b0, o0, e, g0, g1, g2, g3, g4⟩ := mark_at (R1.out.tch HTC.out (fun ad had hF => by have := HF1.out ad had; have := HM.out.lts _ hF; omega)) k hkl
      subst e
      obtain ⟨p, hp⟩ : ∃ p, ms[k] = p := ⟨_, rfl⟩
      rw [hp] at g0 g1 g2 g3 g4
      have hkN' : (k : Int) < N := by omega
      have HTH := Lib.hid (show RdC 5 wr A n c (mcs th) from (HT.out.below B1.out).tchL HTC.out (fun ad had _ hF => HA.out ad had hF))
      have HLS := Lib.hid (show ((mat th p.1).isSome = true ∧ curK th ms (k + 1) = curK th ms k ∧ goneK th ms (k + 1) = goneK th ms k) ∨ (mat th p.1 = none ∧ settleM (curK th ms k) p.1 = (p.2, true, curK th ms (k + 1)) ∧ goneK th ms (k + 1) = goneK th ms k ++ [p.1]) by
        rw [← hp]
        cases hm : mat th ms[k].1 with
        | some o => exact .inl ⟨rfl, curK_yes th ms k hkl (by rw [hm]; rfl), goneK_yes th ms k hkl (by rw [hm]; rfl)⟩
        | none => exact .inr ⟨rfl, curK_no th ms HND.out k hkl hm, goneK_no th ms k hkl hm⟩)
      clear hp hkl
      go_wp2_with fail
      refine (first_calls A n c th p.1 _ (HTH.out.below (below_alloc _ _))).mono ?_
      rintro e w2 ⟨rfl, b2⟩
      obtain ⟨so, hso⟩ : ∃ so, (getM th p.1).1 = so := ⟨_, rfl⟩
      have hsb : (getM th p.1).2 = (mat th p.1).isSome := rfl
      rw [hso, hsb, ov_is]
      have B2 := Lib.hid (below_then (below_alloc wr _) (by simp) b2)
      have xc : w2.cell? ⟨wr.heap.size, 0, none⟩ = some (.string ⟨p.1.toArray⟩) := stays b2 (by go_simp) (by simp)
      have hsz2 := B2.out.size
      have hlw : wr.heap.size < w2.heap.size := World.block_lt_of_cell? _ _ xc
      have B3 := Lib.hid (B2.out.alloc B2.out.size (.cells #[.int .u8 so.k, .int .u64 so.a, .int .u64 so.b, .string ⟨so.c.toArray⟩] 33))
      clear b2 hso hsb
      rcases HLS.out with ⟨h1, h2, h3⟩ | ⟨h1, h2, h3⟩
      · rw [h1]
        have H2 := Lib.hid h2
        have H3 := Lib.hid h3
        clear h1 h2 h3
        go_wp2_with fail
        exact ⟨⟨k + 1, m, F', by omega, by go_num, by omega, by rw [H3.out]; exact HML.out, by rw [H3.out]; exact HO.out.below B3.out, by rw [H2.out]; exact HMK.out.below B3.out, HTC.out.trans (Tch.of_below [] B3.out) (by simp), HFF, HOF⟩, by simp [intOf]; omega⟩
      · rw [h1]
        have H2 := Lib.hid h2
        have H3 := Lib.hid h3
        clear h1 h2 h3
        go_wp2_with fail
        refine (settle_calls a F' (curK th ms k) p.1 _ (HMK.out.below B3.out)).mono ?_
        rintro e w3 ⟨F2, rfl, mk3, t3, f3⟩
        rw [H2.out] at mk3 ⊢
        simp only at mk3 ⊢
        rw [ov_is]
        have MK3 := Lib.hid mk3
        have xc2 := stays_ (below_alloc w2 (.cells #[.int .u8 so.k, .int .u64 so.a, .int .u64 so.b, .string ⟨so.c.toArray⟩] 33)) xc
        have xc3 := t3.cell xc2 (show wr.heap.size ∉ F' from fun hF => by have := HMK.out.lts _ hF; omega)
        have TW := Lib.hid ((Tch.of_below F' B3.out).trans_ t3)
        have HO3 := Lib.hid ((HO.out.below B3.out).tch t3 HOF.out)
        have hsz3 : w2.heap.size < w3.heap.size := by have := t3.size; simp at this; omega
        have F3 := Lib.hid (show ∀ j ∈ F2, j ∈ F' ∨ w2.heap.size ≤ j from fun j hj => by
          rcases f3 j hj with h | h
          · exact .inl h
          · right; simp at h; omega)
        clear mk3 t3 f3 xc xc2
        obtain ⟨i0, hi, hz0, hz1, hz2⟩ := info_parts Try.info_string
        obtain ⟨GL, hGL⟩ : ∃ GL, goneK th ms k = GL := ⟨_, rfl⟩
        rw [hGL] at HO3 H3 HML
        clear hGL
        go_wp2_with (at_builtin; refine wpList_appC _ rfl _ _ _ rfl w1.heap.size i0 _ 16 Try.underlying35 hi hz0 hz1 hz2 rfl (by decide) (fun _ _ => trivial) u4 m (GL.map str) rfl (HO3.out.alloc _) (some ⟨w3.heap.size, 0, none⟩) 1 1 [str p.1] rfl ?rd ?hb ?h63 ?hbase ?_)
        case rd => exact rdc_box [str p.1] 1 1 rfl (by simp [str_one]) (by decide)
        case hb => omega
        case h63 => omega
        case hbase => simp; omega
        intro v6 w6 o6 g6 _ q6
        have O6 := Lib.hid (show OwnC 9 1 (fun _ => True) w6 w1.heap.size v6 (m + 1) ((goneK th ms (k + 1)).map str) by
          rw [H3.out, List.map_append]
          exact o6)
        have hm6 : Hid (m + 1 = (goneK th ms (k + 1)).length) := Lib.hid (by rw [H3.out, List.length_append, HML.out]; rfl)
        have t6 : Tch u4.ownBlock.toList w3 w6 := ((Tch.refl _ w3).alloc _).grown g6 (fun g hg => by simp [hg])
        have hou : ∀ g, u4.ownBlock = some g → g ∉ F2 := fun g hg hm => by
          have h1 := (HO.out.lt g hg).2
          rcases F3.out g hm with h | h
          · exact HOF.out g hg h
          · omega
        have M6 := Lib.hid (MK3.out.tch t6 (fun g hg hm => hou g (by simpa using hm) hg))
        have T6 := Lib.hid (show Tch F w1 w6 from (HTC.out.trans TW.out (fun j hj => HFF.out j hj)).trans t6 (fun j hj => .inr (HO.out.lt j (by simpa using hj)).1))
        have F6 := Lib.hid (show ∀ j ∈ F2, j ∈ F ∨ w1.heap.size ≤ j from fun j hj => by
          rcases F3.out j hj with h | h
          · exact HFF.out j h
          · right; omega)
        have OF6 := Lib.hid (show ∀ g, v6.ownBlock = some g → g ∉ F2 from fun g hg hm => by
          rcases q6 with q | q
          · exact hou g (by rw [← q]; exact hg) hm
          · rw [q] at hg
            simp at hg
            have := MK3.out.lts g hm
            omega)
        clear o6 g6 t6 hou q6
        go_wp2_with fail
        exact ⟨⟨k + 1, m + 1, F2, by omega, by go_num, by omega, hm6.out, O6.out, M6.out, T6.out, F6, OF6⟩, by simp [intOf]; omega⟩
    · obtain rfl : k = N := by omega
      have hck : curK th ms k = (keepM th ms).2 := by rw [← curK_all, HN.out]
      have hst : goneK th ms k = (keepM th ms).1 := by rw [← HN.out]; exact goneK_all th ms
      rw [hck] at HMK
      rw [hst] at HO HML
      go_wp2_with fail
      go_ret
      refine ⟨_, F', rfl, by rw [← HML.out]; exact HO.out.base B1.out.size, HMK.out, (Tch.of_below F B1.out).trans_ HTC.out, fun j hj => ?_, HOF⟩
      rcases HFF.out j hj with h | h
      · exact .inl h
      · right; omega
end Go.Proofs.Ytgmoodcojpbbdaa

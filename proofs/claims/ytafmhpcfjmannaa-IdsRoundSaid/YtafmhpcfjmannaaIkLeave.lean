import Derived.Test.YtafmhpcfjmannaaIkRange
set_option linter.unusedVariables false
set_option linter.unusedSimpArgs false
namespace Go.Proofs.Ytafmhpcfjmannaa
open Go.RowKit

theorem OwnC.box0 {e : TypeId} {sz : Nat} {w : World} {base g : Nat} (hg : g = w.heap.size) (hb : base ≤ g) : OwnC e sz (fun _ => True) (w.alloc (.cells #[] e)) base (.slice (some ⟨g, 0, none⟩) 0 0) 0 [] := by
  subst hg
  exact ⟨by simp, by simp, .inr ⟨w.heap.size, 0, [], rfl, hb, heap_alloc_new w _, by simp, Nat.le_refl _, by decide, by simp⟩⟩
theorem eqlN_nil (A : Option Addr) (n c : Nat) (W : World) : (binOp .eql 31 (.slice A n c) (.slice none 0 0)).run Try.prog W = .ok (.bool A.isNone) W :=
  Lib.run_eql_slice_nil W _ _ _ _ _ _ _ Try.underlying31
set_option maxHeartbeats 400000 in
theorem cloneN_calls (A : Option Addr) (n c : Nat) (ns : List Nat) (w : World) (h : RdC 1 w A n c (ns.map uv)) (hb : n ≤ 1000000) :
    Calls Try.prog 34 #[.slice A n c] w (NumPost ns w) := by
  have hl : n = ns.length := by have := h.1; simp at this; omega
  subst hl
  have H := Lib.hid h
  have hmx := h.2.2.1
  have hlc := h.2.1
  cases A with
  | none =>
    have h0 := h.2.2.2.1 rfl
    have hn : ns = [] := List.eq_nil_of_length_eq_zero h0.1
    subst hn
    obtain ⟨_, rfl⟩ := h0
    clear h
    have hq := eqlN_nil none 0 0
    go_enter Try.func34, Try.ntmps34
    go_wp2_with fail
    go_ret
    exact ⟨_, rfl, OwnC.nil_, Below.refl _ _⟩
  | some ad =>
    obtain ⟨N, hN⟩ : ∃ N, ns.length = N := ⟨_, rfl⟩
    rw [hN] at hlc hb H ⊢
    have HN := Lib.hid hN
    obtain ⟨i0, hi, hz0, hz1', hz2'⟩ := info_parts Try.info_u32
    have hq := eqlN_nil (some ad) N c
    clear h hN
    go_enter Try.func34, Try.ntmps34
    go_wp2_with (at_builtin; refine wpList_appC _ rfl _ _ _ rfl w.heap.size i0 (.int .u32 0) 4 Try.underlying31 hi hz0 hz1' hz2' rfl (by decide) (fun _ _ => trivial) (.slice (some ⟨w.heap.size, 0, none⟩) 0 0) 0 [] rfl ?own (some ad) N c (ns.map uv) rfl ?rd ?hb ?h63 ?hbase ?_)
    case own =>
      refine OwnC.box0 ?_ ?_
      · simp
      · omega
    case rd => exact H.out.below (below_alloc w _)
    case hb => omega
    case h63 => omega
    case hbase => simp
    intro v2 w2 o2 g2 _ _
    have hB := Lib.hid (show Below w.heap.size w w2 from Below.grown (below_alloc w _) g2 (by simp) (fun k hk => by simp [Value.ownBlock] at hk; omega))
    have O2 := Lib.hid (show OwnN w2 w.heap.size v2 ns by
      unfold OwnN
      rw [HN.out]
      exact o2)
    clear o2 g2
    go_wp2_with fail
    go_ret
    exact ⟨_, rfl, O2.out, hB.out⟩

/-- The entries that are left, the keys that went, when the first k have been asked. -/
def curL (es : Is) (h : Int) (k : Nat) : Is := (es.take k).filter (fun p => decide (p.2.h ≠ h)) ++ es.drop k
def gonL (es : Is) (h : Int) (k : Nat) : List Ky := ((es.take k).filter fun p => decide (p.2.h = h)).map (·.2)
theorem curL_zero (es : Is) (h : Int) : curL es h 0 = es := by simp [curL]
theorem curL_all (es : Is) (h : Int) : curL es h es.length = (leaveI es h).2 := by simp [curL, leaveI]
theorem gonL_all (es : Is) (h : Int) : gonL es h es.length = (leaveI es h).1 := by simp [gonL, leaveI]
theorem curL_sub (es : Is) (h : Int) (k : Nat) : (curL es h k).Sublist es := by
  conv => rhs; rw [← List.take_append_drop k es]
  exact List.filter_sublist.append (List.Sublist.refl _)
theorem curL_at (es : Is) (h : Int) (k : Nat) (hk : k < es.length) : curL es h k = (es.take k).filter (fun p => decide (p.2.h ≠ h)) ++ es[k] :: es.drop (k + 1) := by
  rw [curL, List.drop_eq_getElem_cons hk]
theorem curL_get (es : Is) (hn : (es.map (·.1)).Nodup) (h : Int) (k : Nat) (hk : k < es.length) : getA (curL es h k) es[k].1 = (es[k].2, true) := by
  have := geI_of_mem (nodupI_sub hn (curL_sub es h k)) (show (es[k].1, es[k].2) ∈ curL es h k by rw [curL_at es h k hk]; exact List.mem_append_right _ List.mem_cons_self)
  simp [getA, this]
theorem curL_no (es : Is) (h : Int) (k : Nat) (hk : k < es.length) (hh : es[k].2.h ≠ h) : curL es h (k + 1) = curL es h k ∧ gonL es h (k + 1) = gonL es h k := by
  refine ⟨?_, ?_⟩
  · rw [curL_at es h k hk, curL, List.take_succ_eq_append_getElem hk, List.filter_append]
    simp [hh]
  · rw [gonL, gonL, List.take_succ_eq_append_getElem hk, List.filter_append]
    simp [hh]
theorem curL_yes (es : Is) (hn : (es.map (·.1)).Nodup) (h : Int) (k : Nat) (hk : k < es.length) (hh : es[k].2.h = h) : dropI (curL es h k) es[k].1 = (true, curL es h (k + 1)) ∧ gonL es h (k + 1) = gonL es h k ++ [es[k].2] := by
  have hg := curL_get es hn h k hk
  have hnk := nodupI_sub hn (curL_sub es h k)
  refine ⟨?_, ?_⟩
  · have h1 : (geI (curL es h k) es[k].1).isSome = true := congrArg (·.2) hg
    rw [dropI, if_pos h1]
    congr 1
    rw [curL_at es h k hk] at hnk ⊢
    rw [curL, List.take_succ_eq_append_getElem hk, List.filter_append]
    obtain ⟨p, hp⟩ : ∃ p, es[k] = p := ⟨_, rfl⟩
    rw [hp] at hnk hh ⊢
    have hf : ([p].filter fun p => decide (p.2.h ≠ h)) = [] := by simp [hh]
    rw [hf, List.append_nil, rmI, List.filter_append]
    rw [List.map_append, List.map_cons] at hnk
    have hd := List.nodup_append.1 hnk
    congr 1
    · rw [List.filter_eq_self]
      intro q hq
      simpa using fun e => hd.2.2 q.1 (List.mem_map.2 ⟨q, hq, rfl⟩) p.1 (by simp) e
    · rw [List.filter_cons_of_neg (by simp), List.filter_eq_self]
      intro q hq
      have := (List.nodup_cons.1 hd.2.1).1
      simpa using fun e => this (List.mem_map.2 ⟨q, hq, e⟩)
  · rw [gonL, gonL, List.take_succ_eq_append_getElem hk, List.filter_append, List.map_append]
    simp [hh]
def kys (l : List Ky) : List Value := l.flatMap kcs
theorem kys_length (l : List Ky) : (kys l).length = l.length * 2 := by
  induction l with
  | nil => rfl
  | cons p l ih =>
    have : kys (p :: l) = kcs p ++ kys l := rfl
    rw [this, List.length_append, ih, List.length_cons]
    simp [kcs]
    omega
theorem kcs_one (k : Ky) : ∀ u ∈ kcs k, u.oneCell' = true := by
  intro u hu
  simp only [kcs, List.mem_cons, List.not_mem_nil, or_false] at hu
  rcases hu with rfl | rfl <;> rfl
theorem Try.info_ky : (Try.prog.info? 38).map (fun i => (i.zero, i.size, i.bytes)) = some (some (.agg #[.int .i64 0, .string ⟨#[]⟩]), 2, 24) := by kernel_rfl
def OwnK (w : World) (base : Nat) (v : Value) (l : List Ky) : Prop := OwnC 38 2 (fun _ => True) w base v l.length (kys l)
def LeavePost (es : Is) (h : Int) (a : Nat) (F : List Nat) (w : World) (e : Ending) (w' : World) : Prop :=
  ∃ v F', e = .returned v ∧ OwnK w' w.heap.size v (leaveI es h).1 ∧ Ik w' a F' (leaveI es h).2 ∧ Tch F w w' ∧ (∀ k ∈ F', k ∈ F ∨ w.heap.size ≤ k) ∧ ∀ g, v.ownBlock = some g → g ∉ F'
set_option maxHeartbeats 400000 in
theorem leaveI_nil (h : Int) (w : World) :
    Calls Try.prog 21 #[.pointer none, .int .i64 h] w fun e w' => e = .returned (.slice none 0 0) ∧ w = w' := by
  go_enter Try.func21, Try.ntmps21
  go_wp2_with fail
  go_ret
  exact ⟨rfl, rfl⟩

set_option maxRecDepth 100000 in
set_option maxHeartbeats 2000000 in
theorem leaveI_calls (a : Nat) (F : List Nat) (es : Is) (h : Int) (w : World) (hi : Ik w a F es) (hb : es.length ≤ 1000000) :
    Calls Try.prog 21 #[.pointer (some ⟨a, 0, none⟩), .int .i64 h] w (LeavePost es h a F w) := by
  have HM := Lib.hid hi
  have hlt := hi.lt
  obtain ⟨r, A, c, hc0, hc1, hr, hlk⟩ := hi.look
  have HR := Lib.hid (show RdC 1 w A es.length c ((es.map (·.1)).map uv) by rw [List.map_map]; exact hr)
  obtain ⟨N, hN⟩ : ∃ N, es.length = N := ⟨_, rfl⟩
  rw [hN] at hb hc1 HR
  have HN := Lib.hid hN
  have HND := Lib.hid hi.nodup
  clear hi hN hlk hr
  go_enter Try.func21, Try.ntmps21
  go_wp2_with fail
  refine (cloneN_calls A N c (es.map (·.1)) _ HR.out hb).mono ?_
  rintro e w1 ⟨v1, rfl, o1, b1⟩
  unfold OwnN at o1
  obtain ⟨A1, c1, rfl, r1⟩ := o1.rd
  have R1 := Lib.hid r1
  have B1 := Lib.hid b1
  have hsz1 := b1.size
  have HF1 := Lib.hid (show ∀ ad, A1 = some ad → w.heap.size ≤ ad.block from fun ad had => (o1.lt ad.block (by rw [had]; rfl)).1)
  have hl1 := r1.2.1
  have hm1 := r1.2.2.1
  rw [List.length_map, HN.out] at hl1 ⊢
  clear o1 b1 r1 hc0 hc1
  go_wp2_with fail
  go_loopw [4, 6, 7, 16] (fun l _ _ i wr => ∃ (k m : Nat) (F' : List Nat), k ≤ N ∧ i = .int .i64 k ∧ m ≤ k ∧ m = (gonL es h k).length ∧ OwnC 38 2 (fun _ => True) wr w1.heap.size l m (kys (gonL es h k)) ∧ Ik wr a F' (curL es h k) ∧ Tch F w1 wr ∧ Hid (∀ j ∈ F', j ∈ F ∨ w1.heap.size ≤ j) ∧ Hid (∀ g, l.ownBlock = some g → g ∉ F')) (fun _ _ _ i _ => N - (intOf i).toNat)
  case atStart => exact ⟨0, 0, F, by omega, rfl, by omega, by simp [gonL], OwnC.nil_, by rw [curL_zero]; exact HM.out.below B1.out, Tch.refl _ _, Lib.hid (fun j hj => .inl hj), Lib.hid (by simp [Value.ownBlock])⟩
  case round =>
    obtain ⟨k, m, F', hk, rfl, hmk, hml, ho, hmk', htc, HFF, HOF⟩ := hrel
    have HO := Lib.hid ho
    have HMK := Lib.hid hmk'
    have HTC := Lib.hid htc
    have HML := Lib.hid hml
    have hszr := htc.size
    clear ho hmk' htc hml
    by_cases hkN : k < N
    · have hkl : k < es.length := by rw [HN.out]; exact hkN
      obtain ⟨b0, o0, e, g0⟩ := num_at (R1.out.tch HTC.out (fun ad had hF => by have := HF1.out ad had; have := HM.out.lts _ hF; omega)) k (by simpa using hkl)
      subst e
      rw [List.getElem_map] at g0
      have hget := curL_get es HND.out h k hkl
      have HLS := Lib.hid (show (es[k].2.h ≠ h ∧ curL es h (k + 1) = curL es h k ∧ gonL es h (k + 1) = gonL es h k) ∨ (es[k].2.h = h ∧ dropI (curL es h k) es[k].1 = (true, curL es h (k + 1)) ∧ gonL es h (k + 1) = gonL es h k ++ [es[k].2]) by
        by_cases hh : es[k].2.h = h
        · exact .inr ⟨hh, curL_yes es HND.out h k hkl hh⟩
        · exact .inl ⟨hh, curL_no es h k hkl hh⟩)
      obtain ⟨⟨x, kh, kt⟩, hp⟩ : ∃ p, es[k] = p := ⟨_, rfl⟩
      rw [hp] at g0 HLS hget
      simp only at g0 HLS hget
      obtain ⟨rr, A2, c2, hc0, _, _, hlk⟩ := HMK.out.look
      have hl := (hlk wr (Below.refl _ _) x).2
      rw [hget] at hl
      unfold kv str uv at hl
      simp only at hl
      have hkN' : (k : Int) < N := by omega
      have hlta := HMK.out.lt
      clear hp hkl hget hlk
      rcases HLS.out with ⟨h1, h2, h3⟩ | ⟨h1, h2, h3⟩
      · have hbq : (kh == h) = false := by rw [ibeq, decide_eq_false h1]
        have H2 := Lib.hid h2
        have H3 := Lib.hid h3
        clear h1 h2 h3
        go_wp2_with fail
        have B3 := below_alloc wr (.cells #[.int .i64 kh, .string ⟨kt.toArray⟩] 38)
        exact ⟨⟨k + 1, m, F', by omega, by go_num, by omega, by rw [H3.out]; exact HML.out, by rw [H3.out]; exact HO.out.below B3, by rw [H2.out]; exact HMK.out.below B3, HTC.out.trans (Tch.of_below [] B3) (by simp), HFF, HOF⟩, by simp [intOf]; omega⟩
      · subst h1
        have H2 := Lib.hid h2
        have H3 := Lib.hid h3
        clear h2 h3
        go_wp2_with fail
        have B3 := below_alloc wr (.cells #[.int .i64 kh, .string ⟨kt.toArray⟩] 38)
        refine (dropI_calls a F' _ x _ (HMK.out.below B3) H2.out).mono ?_
        rintro e w3 ⟨F2, rfl, mk3, t3, f3⟩
        have MK3 := Lib.hid mk3
        have hKB := (KyAt.new wr ⟨kh, kt⟩ 38).tch t3 (show wr.heap.size ∉ F' from fun hF => by have := HMK.out.lts _ hF; omega)
        obtain ⟨x0, x1⟩ := hKB
        have TW := Lib.hid ((Tch.of_below F' B3).trans_ t3)
        have HO3 := Lib.hid ((HO.out.below B3).tch t3 HOF.out)
        have hsz3 : wr.heap.size < w3.heap.size := by have := t3.size; simp at this; omega
        have F3 := Lib.hid (show ∀ j ∈ F2, j ∈ F' ∨ wr.heap.size ≤ j from fun j hj => by
          rcases f3 j hj with h | h
          · exact .inl h
          · right; simp at h; omega)
        clear mk3 t3 f3 B3
        obtain ⟨i0, hi, hz0, hz1, hz2⟩ := info_parts Try.info_ky
        obtain ⟨GL, hGL⟩ : ∃ GL, gonL es kh k = GL := ⟨_, rfl⟩
        rw [hGL] at HO3 H3 HML
        clear hGL
        go_wp2_with (at_builtin; refine wpList_appC _ rfl _ _ _ rfl w1.heap.size i0 _ 24 Try.underlying32 hi hz0 hz1 hz2 rfl (by decide) (fun _ _ => trivial) u4 m (kys GL) rfl (HO3.out.alloc _) (some ⟨w3.heap.size, 0, none⟩) 1 1 (kcs ⟨kh, kt⟩) rfl ?rd ?hb ?h63 ?hbase ?_)
        case rd => exact rdc_box (kcs ⟨kh, kt⟩) 1 2 rfl (kcs_one _) (by decide)
        case hb => omega
        case h63 => omega
        case hbase => simp; omega
        intro v6 w6 o6 g6 _ q6
        have O6 := Lib.hid (show OwnC 38 2 (fun _ => True) w6 w1.heap.size v6 (m + 1) (kys (gonL es kh (k + 1))) by
          rw [H3.out, kys, List.flatMap_append]
          exact o6)
        have hm6 : Hid (m + 1 = (gonL es kh (k + 1)).length) := Lib.hid (by rw [H3.out, List.length_append, HML.out]; rfl)
        have t6 : Tch u4.ownBlock.toList w3 w6 := ((Tch.refl _ w3).alloc _).grown g6 (fun g hg => by simp [hg])
        have hou : ∀ g, u4.ownBlock = some g → g ∉ F2 := fun g hg hm => by
          have h1 := (HO.out.lt g hg).2
          rcases F3.out g hm with h | h
          · exact HOF.out g hg h
          · omega
        have M6 := Lib.hid (MK3.out.tch t6 (fun g hg hm => hou g (by simpa using hm) hg))
        have T6 := Lib.hid (show Tch F w1 w6 from (HTC.out.trans TW.out (fun j hj => HFF.out j hj)).trans t6 (fun j hj => .inr (HO.out.lt j (by simpa using hj)).1))
        have F6 := Lib.hid (show ∀ j ∈ F2, j ∈ F ∨ w1.heap.size ≤ j from fun j hj => by
          rcases F3.out j hj with h | h
          · exact HFF.out j h
          · right; omega)
        have OF6 := Lib.hid (show ∀ g, v6.ownBlock = some g → g ∉ F2 from fun g hg hm => by
          rcases q6 with q | q
          · exact hou g (by rw [← q]; exact hg) hm
          · rw [q] at hg
            simp at hg
            have := MK3.out.lts g hm
            omega)
        clear o6 g6 t6 hou q6
        go_wp2_with fail
        exact ⟨⟨k + 1, m + 1, F2, by omega, by go_num, by omega, hm6.out, O6.out, M6.out, T6.out, F6, OF6⟩, by simp [intOf]; omega⟩
    · obtain rfl : k = N := by omega
      have hck : curL es h k = (leaveI es h).2 := by rw [← curL_all, HN.out]
      have hst : gonL es h k = (leaveI es h).1 := by rw [← HN.out]; exact gonL_all es h
      rw [hck] at HMK
      rw [hst] at HO HML
      go_wp2_with fail
      go_ret
      refine ⟨_, F', rfl, by unfold OwnK; rw [← HML.out]; exact HO.out.base B1.out.size, HMK.out, (Tch.of_below F B1.out).trans_ HTC.out, fun j hj => ?_, HOF⟩
      rcases HFF.out j hj with h | h
      · exact .inl h
      · right; omega
end Go.Proofs.Ytafmhpcfjmannaa

import Derived.Test.YtgmoodcojpbbdaaRf2
import Derived.StillTailTactics
set_option linter.unusedVariables false
set_option linter.unusedSimpArgs false
namespace Go.Proofs.Ytgmoodcojpbbdaa
open Go.RowKit

/-- Four cells of a row of marks are written. -/
def set4 (cs : List Value) (j : Nat) (o : Outc) : List Value := (((cs.set j (.int .u8 o.k)).set (j + 1) (.int .u64 o.a)).set (j + 2) (.int .u64 o.b)).set (j + 3) (str o.c)
theorem set4_right (xs ys : List Value) (j : Nat) (o : Outc) (h : xs.length ≤ j) : set4 (xs ++ ys) j o = xs ++ set4 ys (j - xs.length) o := by
  unfold set4
  rw [List.set_append_right _ _ h, List.set_append_right _ _ (by omega), List.set_append_right _ _ (by omega), List.set_append_right _ _ (by omega),
    show j + 1 - xs.length = j - xs.length + 1 by omega, show j + 2 - xs.length = j - xs.length + 2 by omega, show j + 3 - xs.length = j - xs.length + 3 by omega]
theorem mcs_set (ms : Ms) (k : Nat) (hk : k < ms.length) (o : Outc) : mcs (ms.set k (ms[k].1, o)) = set4 (mcs ms) (k * 5 + 1) o := by
  induction ms generalizing k with
  | nil => simp at hk
  | cons p ms ih =>
    have h0 : mcs (p :: ms) = mc p ++ mcs ms := rfl
    cases k with
    | zero =>
      simp only [List.set_cons_zero, List.getElem_cons_zero]
      show mc (p.1, o) ++ mcs ms = _
      rw [h0]
      simp [set4, mc, ocs]
    | succ k =>
      have hl : (mc p).length = 5 := by simp [mc, ocs]
      rw [h0, set4_right _ _ _ _ (by omega), hl, show (k + 1) * 5 + 1 - 5 = k * 5 + 1 by omega]
      rw [← ih k (by simpa using hk)]
      rfl
theorem setM_at (ms : Ms) (hn : (ms.map (·.1)).Nodup) (k : Nat) (hk : k < ms.length) (t : List UInt8) (ht : ms[k].1 = t) (o : Outc) : setM ms t o = ms.set k (ms[k].1, o) := by
  subst ht
  have h1 : ms = ms.take k ++ ms[k] :: ms.drop (k + 1) := by rw [← List.drop_eq_getElem_cons hk, List.take_append_drop]
  have hn' := hn
  rw [h1, List.map_append, List.map_cons] at hn'
  have hd := List.nodup_append.1 hn'
  have h2 := set_mid (ms.take k) (ms.drop (k + 1)) ms[k] o (fun q hq e => hd.2.2 q.1 (List.mem_map.2 ⟨q, hq, rfl⟩) ms[k].1 (by simp) e) (fun q hq e => (List.nodup_cons.1 hd.2.1).1 (List.mem_map.2 ⟨q, hq, e⟩))
  rw [← h1] at h2
  rw [h2]
  conv => rhs; rw [List.set_eq_take_append_cons_drop, if_pos hk]
theorem own_set4 {e : TypeId} {sz : Nat} {okc : Value → Prop} {w : World} {base g n cap : Nat} {cs : List Value} (h : OwnC e sz okc w base (.slice (some ⟨g, 0, none⟩) n cap) n cs) (j : Nat) (hj : j + 3 < n * sz) (o : Outc) :
    OwnC e sz okc ((((w.setCell ⟨g, j, none⟩ (.int .u8 o.k)).setCell ⟨g, j + 1, none⟩ (.int .u64 o.a)).setCell ⟨g, j + 2, none⟩ (.int .u64 o.b)).setCell ⟨g, j + 3, none⟩ (.string ⟨o.c.toArray⟩)) base (.slice (some ⟨g, 0, none⟩) n cap) n (set4 cs j o) :=
  (((h.set_cell j (by omega) (.int .u8 o.k) rfl).set_cell (j + 1) (by omega) (.int .u64 o.a) rfl).set_cell (j + 2) (by omega) (.int .u64 o.b) rfl).set_cell (j + 3) (by omega) (str o.c) rfl

theorem OwnC.froz {e : TypeId} {sz : Nat} {okc : Value → Prop} {w : World} {base g n cap : Nat} {cs : List Value} (h : OwnC e sz okc w base (.slice (some ⟨g, 0, none⟩) n cap) n cs) (j : Nat) : w.frozen? ⟨g, j, none⟩ = false := by
  obtain ⟨h1, h1c, h2⟩ := h
  rcases h2 with ⟨e1, e2⟩ | ⟨g', cap', sp, e1, hb, hh, hc, hn, hm, hs⟩
  · cases e1
  · simp only [Value.slice.injEq, Option.some.injEq, Addr.mk.injEq, true_and, and_true] at e1
    obtain ⟨rfl, rfl⟩ := e1
    exact froz_of_heap hh j
set_option maxHeartbeats 400000 in
theorem rtell_nil (t : List UInt8) (o : Outc) (w : World) :
    Calls Try.prog 31 #[.pointer none, str t, ov o] w fun e w' => e = .returned (.bool false) ∧ Below w.heap.size w w' := by
  unfold str
  rw [ov_is]
  go_enter Try.func31, Try.ntmps31
  go_wp2
  go_ret
  exact ⟨rfl, below_alloc w _⟩

theorem mem_where {ms : Ms} {t : List UInt8} {k : Nat} {o : Outc} (h : ms[k]? = some (t, o)) : ∃ hk : k < ms.length, ms[k].1 = t ∧ ms[k].2 = o := by
  obtain ⟨hk, e⟩ := List.getElem?_eq_some_iff.1 h
  exact ⟨hk, by rw [e], by rw [e]⟩

set_option maxHeartbeats 1000000 in
theorem rtell_calls (a : Nat) (F : List Nat) (ms : Ms) (t : List UInt8) (o : Outc) (w : World) (h : Rf w a F ms) (hn : (ms.map (·.1)).Nodup) :
    Calls Try.prog 31 #[.pointer (some ⟨a, 0, none⟩), str t, ov o] w fun e w' => e = .returned (.bool (tellM ms t o).1) ∧ Rf w' a F (tellM ms t o).2 ∧ Tch F w w' := by
  have HM := Lib.hid h
  have hlt := h.lt
  have HND := Lib.hid hn
  have HOB := Lib.hid (fun w1 (b : Below (w.heap.size + 1) (w.alloc (.cells #[.int .u8 o.k, .int .u64 o.a, .int .u64 o.b, .string ⟨o.c.toArray⟩] 33)) w1) => (OutAt.new w o 33).tch (Tch.of_below [] (b.mono (by simp))) (by simp))
  unfold str
  rw [ov_is]
  cases hfo : fin o with
  | false =>
    have HT := Lib.hid (show tellM ms t o = (false, ms) by unfold tellM; rw [hfo]; cases mat ms t <;> simp)
    have HF := Lib.hid hfo
    clear h hn hfo
    go_enter Try.func31, Try.ntmps31
    go_wp2_with fail
    refine (rfinal_calls o _).mono ?_
    rintro e w1 ⟨rfl, b1⟩
    rw [HF.out]
    have B1 := Lib.hid (below_then (below_alloc w _) (by simp) b1)
    clear b1
    go_wp2_with fail
    go_ret
    exact ⟨by rw [HT.out]; rfl, by rw [HT.out]; exact HM.out.below B1.out, Tch.of_below F B1.out⟩
  | true =>
    have HF := Lib.hid hfo
    rcases where_mat ms t with ⟨hm, hw⟩ | ⟨k, was, hm, hw, hk⟩
    · have HT := Lib.hid (show tellM ms t o = (false, ms) by unfold tellM; rw [hm])
      have HW := Lib.hid hw
      clear h hn hfo hm hw
      go_enter Try.func31, Try.ntmps31
      go_wp2_with fail
      refine (rfinal_calls o _).mono ?_
      rintro e w1 ⟨rfl, b1⟩
      rw [HF.out]
      have B1 := Lib.hid (below_then (below_alloc w _) (by simp) b1)
      obtain ⟨A, c, h1, h2, h3, h4, h5, h6⟩ := (HM.out.below B1.out).row
      have H3 := Lib.hid h3
      clear b1 h1 h2 h3 h5 h6
      go_wp2_with fail
      refine (at_any A _ c ms t (-1) _ H3.out HW.out).mono ?_
      rintro e w2 ⟨rfl, rfl⟩
      go_wp2_with fail
      go_ret
      exact ⟨by rw [HT.out]; rfl, by rw [HT.out]; exact HM.out.below B1.out, Tch.of_below F B1.out⟩
    · have HW := Lib.hid hw
      have HK := Lib.hid hk
      have HT := Lib.hid (show tellM ms t o = if fin was then (false, ms) else (true, setM ms t o) by unfold tellM; rw [hm, hfo]; simp)
      have e1 : decide ((k : Int) < 0) = false := by simp
      clear h hn hfo hm hw hk
      go_enter Try.func31, Try.ntmps31
      go_wp2_with fail
      refine (rfinal_calls o _).mono ?_
      rintro e w1 ⟨rfl, b1⟩
      rw [HF.out]
      have HO1 := Lib.hid ((OutAt.new w o 33).below b1)
      have B1 := Lib.hid (below_then (below_alloc w _) (by simp) b1)
      obtain ⟨A, c, h1, h2, h3, h4, h5, h6⟩ := (HM.out.below B1.out).row
      have H3 := Lib.hid h3
      obtain ⟨n, hnn⟩ : ∃ n, ms.length = n := ⟨_, rfl⟩
      have HN := Lib.hid hnn
      have hlc := h3.2.1
      have hmx := h3.2.2.1
      rw [hnn] at h4 H3 hlc
      obtain ⟨hkl, hk1, hk2⟩ := mem_where HK.out
      obtain ⟨b0, o0, e, g0, g1, g2, g3, g4⟩ := mark_at H3.out k hkl
      subst e
      rw [hk2] at g1 g2 g3 g4
      have hkn : (k : Int) < n := by omega
      clear b1 h1 h2 h3 h5 h6 hnn hk1 hk2 hkl g0
      go_wp2_with fail
      refine (at_any _ n c ms t k _ H3.out HW.out).mono ?_
      rintro e w2 ⟨rfl, rfl⟩
      go_wp2_with fail
      refine (rfinal_calls was _).mono ?_
      rintro e w2 ⟨rfl, b2⟩
      have B2 := Lib.hid (below_then B1.out B1.out.size b2)
      cases hfw : fin was with
      | true =>
        have HT2 := Lib.hid (show tellM ms t o = (false, ms) by rw [HT.out, hfw]; rfl)
        clear b2 hfw
        go_wp2_with fail
        go_ret
        exact ⟨by rw [HT2.out]; rfl, by rw [HT2.out]; exact HM.out.below B2.out, Tch.of_below F B2.out⟩
      | false =>
        have HT2 := Lib.hid (show tellM ms t o = (true, setM ms t o) by rw [HT.out, hfw]; rfl)
        have HO2 := Lib.hid (HO1.out.below b2)
        clear b2 hfw h4 g1 g2 g3 g4
        obtain ⟨A, c', h1, h2, h3, h4, h5, h6⟩ := (HM.out.below B2.out).row
        obtain ⟨hkl, hk1, hk2⟩ := mem_where HK.out
        rw [HN.out] at h1 h2 h3 h4 h6
        obtain ⟨g, cp, eg, hg0, hg1, hg2⟩ := h2.form (by omega)
        cases eg
        obtain ⟨hgF, hga⟩ := h6 g rfl
        have HFIN := Lib.hid (show Rf ((((w2.drew.setCell ⟨g, k * 5 + 1, none⟩ (.int .u8 o.k)).setCell ⟨g, k * 5 + 1 + 1, none⟩ (.int .u64 o.a)).setCell ⟨g, k * 5 + 1 + 2, none⟩ (.int .u64 o.b)).setCell ⟨g, k * 5 + 1 + 3, none⟩ (.string ⟨o.c.toArray⟩)) a F (setM ms t o) ∧ Tch F w ((((w2.drew.setCell ⟨g, k * 5 + 1, none⟩ (.int .u8 o.k)).setCell ⟨g, k * 5 + 1 + 1, none⟩ (.int .u64 o.a)).setCell ⟨g, k * 5 + 1 + 2, none⟩ (.int .u64 o.b)).setCell ⟨g, k * 5 + 1 + 3, none⟩ (.string ⟨o.c.toArray⟩)) from by
          refine ⟨⟨⟨.slice (some ⟨g, 0, none⟩) n c', ?_, ?_, fun g' hg' => (h6 g' hg').1⟩, HM.out.mem, fun j hj => ?_⟩, ((((Tch.of_below F B2.out.drew).setCell _ (.inl hgF)).setCell _ (.inl hgF)).setCell _ (.inl hgF)).setCell _ (.inl hgF)⟩
          · rw [Below.heap_setCell _ _ _ _ hga.symm, Below.heap_setCell _ _ _ _ hga.symm, Below.heap_setCell _ _ _ _ hga.symm, Below.heap_setCell _ _ _ _ hga.symm]
            exact h1
          · rw [setM_at ms HND.out k hkl t hk1 o, mcs_set ms k hkl o, List.length_set, HN.out]
            exact own_set4 h2.drew (k * 5 + 1) (by omega) o
          · simp only [World.size_setCell]
            exact Nat.lt_of_lt_of_le (HM.out.lts j hj) B2.out.size)
        have z1 := h2.froz (k * 5 + 1)
        have z2 := h2.froz (k * 5 + 2)
        have z3 := h2.froz (k * 5 + 3)
        have z4 := h2.froz (k * 5 + 4)
        obtain ⟨b0', o0', e, g0, g1, g2, g3, g4⟩ := mark_at h3 k hkl
        cases e
        rw [hk2] at g1 g2 g3 g4
        simp only [Nat.zero_add] at g1 g2 g3 g4
        clear h1 h2 h3 h5 h6 hkl hk1 hk2 g0
        obtain ⟨q1, q2, q3, q4⟩ := HO2.out
        have hgb : g ≠ w.heap.size := fun e => by have := HM.out.lts g hgF; omega
        go_wp2_with fail
        go_still_tail 8, (by kernel_rfl)
        change wpList _ _ _ _ _ w2.drew
        go_wp2
        go_ret
        exact ⟨by rw [HT2.out]; rfl, by rw [HT2.out]; exact HFIN.out.1, HFIN.out.2⟩
end Go.Proofs.Ytgmoodcojpbbdaa

import Derived.Test.YtgmoodcojpbbdaaDoM
set_option linter.unusedVariables false
set_option linter.unusedSimpArgs false
namespace Go.Proofs.Ytgmoodcojpbbdaa
open Go.RowKit

theorem below_dn {B : Nat} {w w' : World} (h : Below B w w') (n : Nat) : Below B w (w'.drewN n) := ⟨h.os, h.tape, h.output, h.size, h.block⟩
theorem st_at {w : World} {A : Option Addr} {n c : Nat} {l : List (List UInt8)} (h : RdC 1 w A n c (l.map str)) (j : Nat) (hj : j < l.length) : ∃ b o, A = some ⟨b, o, none⟩ ∧ w.cell? ⟨b, o + j, none⟩ = some (.string ⟨l[j].toArray⟩) := by
  obtain ⟨ad, rfl, h1⟩ := h.cell j (str l[j]) (by rw [List.getElem?_map, List.getElem?_eq_getElem hj]; rfl)
  obtain ⟨ad', e, h2⟩ := h.cell 0 (str (l[0]'(by omega))) (by rw [List.getElem?_map, List.getElem?_eq_getElem (by omega)]; rfl)
  cases e
  have hs : ad.spot = none := by
    cases hs : ad.spot with
    | none => rfl
    | some s =>
      exfalso
      rw [show ad.add 0 = ad from rfl] at h2
      unfold World.cell? at h2
      simp only [hs] at h2
      split at h2 <;> simp at h2
  obtain ⟨b, o, sp⟩ := ad
  cases hs
  rw [plain_add] at h1
  exact ⟨b, o, rfl, h1⟩

set_option maxRecDepth 100000 in
set_option maxHeartbeats 2000000 in
theorem sameM_calls (x : AnsM) (A B C D : Option Addr) (c d g h : Nat) (w : World) (h1 : RdC 6 w A x.l.length c (scs x.l)) (h2 : RdC 1 w B x.s.length d (x.s.map str)) (h3 : RdC 6 w C x.l.length g (scs x.l)) (h4 : RdC 1 w D x.s.length h (x.s.map str)) :
    Calls Try.prog 14 #[tvv x (.slice A x.l.length c) (.slice B x.s.length d), tvv x (.slice C x.l.length g) (.slice D x.s.length h)] w fun e w' => e = .returned (.bool true) ∧ Below w.heap.size w w' := by
  have H1 := Lib.hid h1
  have H2 := Lib.hid h2
  have H3 := Lib.hid h3
  have H4 := Lib.hid h4
  have a1 := h1.2.1
  have a2 := h1.2.2.1
  have a3 := h2.2.1
  have a4 := h2.2.2.1
  have a5 := h3.2.1
  have a6 := h3.2.2.1
  have a7 := h4.2.1
  have a8 := h4.2.2.1
  obtain ⟨xe, ⟨ok, oa, ob, oc⟩, xi, xl, xk⟩ := x
  unfold tvv
  simp only at H1 H2 H3 H4 a1 a2 a3 a4 a5 a6 a7 a8 ⊢
  obtain ⟨nl, hnl⟩ : ∃ nl, xl.length = nl := ⟨_, rfl⟩
  obtain ⟨nk, hnk⟩ : ∃ nk, xk.length = nk := ⟨_, rfl⟩
  rw [hnl] at H1 H3 a1 a5 ⊢
  rw [hnk] at H2 H4 a3 a7 ⊢
  have HNL := Lib.hid hnl
  have HNK := Lib.hid hnk
  have HW2 := Lib.hid (show ∀ o1 o2 : Obj, Below w.heap.size w ((w.alloc o1).alloc o2) from fun o1 o2 => (below_alloc w o1).trans ((below_alloc _ o2).mono (by simp)))
  obtain ⟨S, hS⟩ : ∃ S : ByteArray, (⟨oc.toArray⟩ : ByteArray) = S := ⟨_, rfl⟩
  rw [hS]
  clear h1 h2 h3 h4 hnl hnk hS
  go_enter Try.func14, Try.ntmps14
  go_wp2_with fail
  refine forget (fun W => BoxW W w.heap.size (.int .i64 xe) (.int .u8 ok) (.int .u64 oa) (.int .u64 ob) (.string S) (.bool xi) (.slice A nl c) (.slice B nk d) ∧ BoxW W (w.heap.size + 1) (.int .i64 xe) (.int .u8 ok) (.int .u64 oa) (.int .u64 ob) (.string S) (.bool xi) (.slice C nl g) (.slice D nk h) ∧ Below w.heap.size w W) ⟨BoxW.alloc (BoxW.new w _ _ _ _ _ _ _ _) _, ?_, HW2.out _ _⟩ ?_
  · have := BoxW.new (w.alloc (.cells #[.int .i64 xe, .int .u8 ok, .int .u64 oa, .int .u64 ob, .string S, .bool xi, .slice A nl c, .slice B nk d] 37)) (.int .i64 xe) (.int .u8 ok) (.int .u64 oa) (.int .u64 ob) (.string S) (.bool xi) (.slice C nl g) (.slice D nk h)
    rwa [World.size_alloc] at this
  rintro W ⟨hb1, hb2, hbw⟩
  have HB1 := Lib.hid hb1
  have HB2 := Lib.hid hb2
  have HBW := Lib.hid hbw
  clear hb1 hb2 hbw
  go_loopw [5] (fun i wr => ∃ q : Nat, q ≤ nl ∧ i = .int .i64 q ∧ Below W.heap.size W wr) (fun i _ => nl - (intOf i).toNat)
  case atStart => exact ⟨0, by omega, rfl, Below.refl _ _⟩
  case round =>
    obtain ⟨q, hq, rfl, hbl⟩ := hrel
    have HBL := Lib.hid hbl
    clear hbl
    obtain ⟨p0, p1, p2, p3, p4, p5, p6, p7, _⟩ := (HB1.out.below HBL.out).cells
    obtain ⟨q0, q1, q2, q3, q4, q5, q6, q7, _⟩ := (HB2.out.below HBL.out).cells
    by_cases hqn : q < nl
    · have hqn' : (q : Int) < nl := by omega
      obtain ⟨b1, o1, e, x0, x1, x2, x3, x4, x5⟩ := step_at ((H1.out.below HBW.out).below HBL.out) q (by rw [HNL.out]; exact hqn)
      subst e
      obtain ⟨b2, o2, e, y0, y1, y2, y3, y4, y5⟩ := step_at ((H3.out.below HBW.out).below HBL.out) q (by rw [HNL.out]; exact hqn)
      subst e
      obtain ⟨s, hs⟩ : ∃ s, xl[q]'(by rw [HNL.out]; exact hqn) = s := ⟨_, rfl⟩
      rw [hs] at x0 x1 x2 x3 x4 x5 y0 y1 y2 y3 y4 y5
      clear hs
      go_wp2_with fail
      go_quiet (fail)
      go_wp2_with fail
      exact ⟨⟨q + 1, by omega, by go_num, below_dn HBL.out _⟩, by simp [intOf]; omega⟩
    · obtain rfl : q = nl := by omega
      go_wp2_with fail
      go_loopw [6] (fun i wr2 => ∃ t : Nat, t ≤ nk ∧ i = .int .i64 t ∧ Below W.heap.size W wr2) (fun i _ => nk - (intOf i).toNat)
      case atStart => exact ⟨0, by omega, rfl, HBL.out⟩
      case round =>
        obtain ⟨t, ht, rfl, hbl2⟩ := hrel
        have HBL2 := Lib.hid hbl2
        clear hbl2 p0 p1 p2 p3 p4 p5 p6 p7 q0 q1 q2 q3 q4 q5 q6 q7
        obtain ⟨p0, p1, p2, p3, p4, p5, p6, p7, _⟩ := (HB1.out.below HBL2.out).cells
        obtain ⟨q0, q1, q2, q3, q4, q5, q6, q7, _⟩ := (HB2.out.below HBL2.out).cells
        by_cases htn : t < nk
        · have htn' : (t : Int) < nk := by omega
          obtain ⟨b1, o1, e, x1⟩ := st_at ((H2.out.below HBW.out).below HBL2.out) t (by rw [HNK.out]; exact htn)
          subst e
          obtain ⟨b2, o2, e, x3⟩ := st_at ((H4.out.below HBW.out).below HBL2.out) t (by rw [HNK.out]; exact htn)
          subst e
          go_wp2_with fail
          go_quiet (fail)
          go_wp2_with fail
          exact ⟨⟨t + 1, by omega, by go_num, below_dn HBL2.out _⟩, by simp [intOf]; omega⟩
        · obtain rfl : t = nk := by omega
          go_wp2_with fail
          go_ret
          exact ⟨rfl, below_then HBW.out HBW.out.size HBL2.out⟩

set_option maxRecDepth 100000 in
set_option maxHeartbeats 2000000 in
theorem smarks_calls (ms : Ms) (A B : Option Addr) (n c d : Nat) (w : World) (h1 : RdC 5 w A n c (mcs ms)) (h2 : RdC 5 w B n d (mcs ms)) :
    Calls Try.prog 17 #[.slice A n c, .slice B n d] w fun e w' => e = .returned (.bool true) ∧ Below w.heap.size w w' := by
  have H1 := Lib.hid h1
  have H2 := Lib.hid h2
  have a1 := h1.2.1
  have a2 := h1.2.2.1
  have a3 := h2.2.1
  have a4 := h2.2.2.1
  have HN := Lib.hid (show ms.length = n by have := h1.1; rw [mcs_length] at this; omega)
  clear h1 h2
  go_enter Try.func17, Try.ntmps17
  go_wp2_with fail
  go_loopw [5] (fun i wr => ∃ q : Nat, q ≤ n ∧ i = .int .i64 q ∧ Below w.heap.size w wr) (fun i _ => n - (intOf i).toNat)
  case atStart => exact ⟨0, by omega, rfl, Below.refl _ _⟩
  case round =>
    obtain ⟨q, hq, rfl, hbl⟩ := hrel
    have HBL := Lib.hid hbl
    clear hbl
    by_cases hqn : q < n
    · have hqn' : (q : Int) < n := by omega
      obtain ⟨b1, o1, e, x0, x1, x2, x3, x4⟩ := mark_at (H1.out.below HBL.out) q (by rw [HN.out]; exact hqn)
      subst e
      obtain ⟨b2, o2, e, y0, y1, y2, y3, y4⟩ := mark_at (H2.out.below HBL.out) q (by rw [HN.out]; exact hqn)
      subst e
      obtain ⟨s, hs⟩ : ∃ s, ms[q]'(by rw [HN.out]; exact hqn) = s := ⟨_, rfl⟩
      rw [hs] at x0 x1 x2 x3 x4 y0 y1 y2 y3 y4
      clear hs
      go_wp2_with fail
      go_quiet (fail)
      go_wp2_with fail
      exact ⟨⟨q + 1, by omega, by go_num, below_dn HBL.out _⟩, by simp [intOf]; omega⟩
    · obtain rfl : q = n := by omega
      go_wp2_with fail
      go_ret
      exact ⟨rfl, HBL.out⟩
end Go.Proofs.Ytgmoodcojpbbdaa

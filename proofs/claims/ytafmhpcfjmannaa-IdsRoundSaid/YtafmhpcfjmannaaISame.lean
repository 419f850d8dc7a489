import Derived.Test.YtafmhpcfjmannaaIBoth
set_option linter.unusedVariables false
set_option linter.unusedSimpArgs false
namespace Go.Proofs.Ytafmhpcfjmannaa
open Go.RowKit

theorem BoxV.cells {w : World} {b : Nat} {v0 v1 v2 v3 v4 : Value} (h : BoxV w b v0 v1 v2 v3 v4) : w.cell? ⟨b, 0, none⟩ = some v0 ∧ w.cell? ⟨b, 1, none⟩ = some v1 ∧ w.cell? ⟨b, 2, none⟩ = some v2 ∧ w.cell? ⟨b, 3, none⟩ = some v3 ∧ w.cell? ⟨b, 4, none⟩ = some v4 ∧ ∀ j, w.frozen? ⟨b, j, none⟩ = false :=
  ⟨cell_of_heap (l := [v0, v1, v2, v3, v4]) h 0 _ rfl, cell_of_heap (l := [v0, v1, v2, v3, v4]) h 1 _ rfl, cell_of_heap (l := [v0, v1, v2, v3, v4]) h 2 _ rfl, cell_of_heap (l := [v0, v1, v2, v3, v4]) h 3 _ rfl, cell_of_heap (l := [v0, v1, v2, v3, v4]) h 4 _ rfl, fun j => froz_of_heap h j⟩
theorem BoxV.new (w : World) (v0 v1 v2 v3 v4 : Value) : BoxV (w.alloc (.cells #[v0, v1, v2, v3, v4] 35)) w.heap.size v0 v1 v2 v3 v4 := heap_alloc_new w _
theorem BoxV.below {w w' : World} {b : Nat} {v0 v1 v2 v3 v4 : Value} (h : BoxV w b v0 v1 v2 v3 v4) (hb : Below w.heap.size w w') : BoxV w' b v0 v1 v2 v3 v4 := (hb.block b (heap_lt h)).trans h
theorem BoxV.tch {w w' : World} {F : List Nat} {b : Nat} {v0 v1 v2 v3 v4 : Value} (h : BoxV w b v0 v1 v2 v3 v4) (ht : Tch F w w') (hb : b ∉ F) : BoxV w' b v0 v1 v2 v3 v4 := (ht.block b (heap_lt h) hb).trans h
/-- What something answered, in memory. -/
structure Tells (w : World) (x : AnsI) (v : Value) (A B : Option Addr) (c d : Nat) : Prop where
  is : v = .agg #[.int .i64 x.e, .slice A x.l.length c, .slice B x.k.length d, .int .u32 x.n, .bool x.is]
  l : RdC 1 w A x.l.length c (x.l.map uv)
  k : RdC 2 w B x.k.length d (kys x.k)

set_option maxRecDepth 100000 in
set_option maxHeartbeats 2000000 in
theorem same_calls (x : AnsI) (A B C D : Option Addr) (c d g h : Nat) (w : World) (h1 : RdC 1 w A x.l.length c (x.l.map uv)) (h2 : RdC 2 w B x.k.length d (kys x.k)) (h3 : RdC 1 w C x.l.length g (x.l.map uv)) (h4 : RdC 2 w D x.k.length h (kys x.k)) :
    Calls Try.prog 13 #[.agg #[.int .i64 x.e, .slice A x.l.length c, .slice B x.k.length d, .int .u32 x.n, .bool x.is], .agg #[.int .i64 x.e, .slice C x.l.length g, .slice D x.k.length h, .int .u32 x.n, .bool x.is]] w fun e w' => e = .returned (.bool true) ∧ Below w.heap.size w w' := by
  have H1 := Lib.hid h1
  have H2 := Lib.hid h2
  have H3 := Lib.hid h3
  have H4 := Lib.hid h4
  have a1 := h1.2.1
  have a2 := h1.2.2.1
  have a3 := h2.2.1
  have a4 := h2.2.2.1
  have a5 := h3.2.1
  have a6 := h3.2.2.1
  have a7 := h4.2.1
  have a8 := h4.2.2.1
  obtain ⟨xe, xl, xk, xn, xi⟩ := x
  simp only at H1 H2 H3 H4 a1 a2 a3 a4 a5 a6 a7 a8 ⊢
  obtain ⟨nl, hnl⟩ : ∃ nl, xl.length = nl := ⟨_, rfl⟩
  obtain ⟨nk, hnk⟩ : ∃ nk, xk.length = nk := ⟨_, rfl⟩
  rw [hnl] at H1 H3 a1 a5 ⊢
  rw [hnk] at H2 H4 a3 a7 ⊢
  have HNL := Lib.hid hnl
  have HNK := Lib.hid hnk
  have HW2 := Lib.hid (show ∀ o1 o2 : Obj, Below w.heap.size w ((w.alloc o1).alloc o2) from fun o1 o2 => (below_alloc w o1).trans ((below_alloc _ o2).mono (by simp)))
  clear h1 h2 h3 h4 hnl hnk
  go_enter Try.func13, Try.ntmps13
  go_wp2_with fail
  refine forget (fun W => BoxV W w.heap.size (.int .i64 xe) (.slice A nl c) (.slice B nk d) (.int .u32 xn) (.bool xi) ∧ BoxV W (w.heap.size + 1) (.int .i64 xe) (.slice C nl g) (.slice D nk h) (.int .u32 xn) (.bool xi) ∧ Below w.heap.size w W) ⟨BoxV.alloc (BoxV.new w _ _ _ _ _) _, ?_, HW2.out _ _⟩ ?_
  · have := BoxV.new (w.alloc (.cells #[.int .i64 xe, .slice A nl c, .slice B nk d, .int .u32 xn, .bool xi] 35)) (.int .i64 xe) (.slice C nl g) (.slice D nk h) (.int .u32 xn) (.bool xi)
    rwa [World.size_alloc] at this
  rintro W ⟨hb1, hb2, hbw⟩
  have HB1 := Lib.hid hb1
  have HB2 := Lib.hid hb2
  have HBW := Lib.hid hbw
  clear hb1 hb2 hbw
  go_loopw [5] (fun i wr => ∃ q : Nat, q ≤ nl ∧ i = .int .i64 q ∧ Below W.heap.size W wr) (fun i _ => nl - (intOf i).toNat)
  case atStart => exact ⟨0, by omega, rfl, Below.refl _ _⟩
  case round =>
    obtain ⟨q, hq, rfl, hbl⟩ := hrel
    have HBL := Lib.hid hbl
    clear hbl
    obtain ⟨p0, p1, p2, p3, p4, _⟩ := (HB1.out.below HBL.out).cells
    obtain ⟨q0, q1, q2, q3, q4, _⟩ := (HB2.out.below HBL.out).cells
    by_cases hqn : q < nl
    · have hqn' : (q : Int) < nl := by omega
      obtain ⟨b1, o1, e, x1⟩ := num_at ((H1.out.below HBW.out).below HBL.out) q (by rw [HNL.out]; exact hqn)
      subst e
      obtain ⟨b2, o2, e, x2⟩ := num_at ((H3.out.below HBW.out).below HBL.out) q (by rw [HNL.out]; exact hqn)
      subst e
      go_wp2_with fail
      go_quiet (fail)
      go_wp2_with fail
      exact ⟨⟨q + 1, by omega, by go_num, bel_dn HBL.out _⟩, by simp [intOf]; omega⟩
    · obtain rfl : q = nl := by omega
      go_wp2_with fail
      go_loopw [6] (fun i wr2 => ∃ t : Nat, t ≤ nk ∧ i = .int .i64 t ∧ Below W.heap.size W wr2) (fun i _ => nk - (intOf i).toNat)
      case atStart => exact ⟨0, by omega, rfl, HBL.out⟩
      case round =>
        obtain ⟨t, ht, rfl, hbl2⟩ := hrel
        have HBL2 := Lib.hid hbl2
        clear hbl2 p0 p1 p2 p3 p4 q0 q1 q2 q3 q4
        obtain ⟨p0, p1, p2, p3, p4, _⟩ := (HB1.out.below HBL2.out).cells
        obtain ⟨q0, q1, q2, q3, q4, _⟩ := (HB2.out.below HBL2.out).cells
        by_cases htn : t < nk
        · have htn' : (t : Int) < nk := by omega
          obtain ⟨b1, o1, e, x1, x2⟩ := key_at ((H2.out.below HBW.out).below HBL2.out) t (by rw [HNK.out]; exact htn)
          subst e
          obtain ⟨b2, o2, e, x3, x4⟩ := key_at ((H4.out.below HBW.out).below HBL2.out) t (by rw [HNK.out]; exact htn)
          subst e
          go_wp2_with fail
          go_quiet (fail)
          go_wp2_with fail
          exact ⟨⟨t + 1, by omega, by go_num, bel_dn HBL2.out _⟩, by simp [intOf]; omega⟩
        · obtain rfl : t = nk := by omega
          go_wp2_with fail
          go_ret
          exact ⟨rfl, below_then HBW.out HBW.out.size HBL2.out⟩
end Go.Proofs.Ytafmhpcfjmannaa

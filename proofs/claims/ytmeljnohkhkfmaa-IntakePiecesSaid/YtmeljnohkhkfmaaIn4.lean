import Derived.Test.YtmeljnohkhkfmaaIn3
set_option linter.unusedVariables false
set_option linter.unusedSimpArgs false
namespace Go.Proofs.Ytmeljnohkhkfmaa
open Go.RowKit

theorem In.phase {w : World} {a : Nat} {F : List Nat} {most : Nat} {l : List UInt8} (h : In w a F most l 0) : In (w.setCell ⟨a, 3, none⟩ (fnv a 1)) a F most l 1 := by
  obtain ⟨A, c, h1, ho, hr, -, -, hne⟩ := h.row
  exact ⟨⟨.slice A l.length c, heap_setCell_same (l := [.int .u32 most, .slice A l.length c, .bool (decide (0 = 2)), fnv a 0]) h1 3 (fnv a 1), OwnC.keep ho fun k hk => Below.heap_setCell _ _ _ _ (hne k hk).2, fun g hg => (hne g hg).1⟩, h.mem, fun k hk => by have := h.lts k hk; simpa using this, ⟨h.ok.lo, h.ok.hi, h.ok.len, by omega, by omega⟩⟩
theorem fnv1 (a : Nat) : fnv a 1 = .func (.func 41) #[.pointer (some ⟨a, 0, none⟩)] #[] := rfl
theorem fnv0 (a : Nat) : fnv a 0 = .func (.func 28) #[.pointer (some ⟨a, 0, none⟩)] #[] := rfl
theorem fnv2 (a : Nat) : fnv a 2 = .func (.func 44) #[] #[] := rfl

set_option maxHeartbeats 4000000 in
theorem iheader_calls {w : World} {a : Nat} {F : List Nat} {most : Nat} {l : List UInt8} (h : In w a F most l 0) :
    Calls Try.prog 28 #[.pointer (some ⟨a, 0, none⟩)] w (NxP (nextI most l 0) w a F most) := by
  have H := Lib.hid h
  obtain ⟨N, hN⟩ : ∃ N, l.length = N := ⟨_, rfl⟩
  have HN := Lib.hid hN
  obtain ⟨T, hT⟩ : ∃ T, min l.length 8 = T := ⟨_, rfl⟩
  have hmf : ∀ (fn : Fn) (first cap : Array Value) (w : World), (Instr.makeFunc fn first cap).run Try.prog w = .ok (.func fn first cap) w := fun _ _ _ _ => rfl
  obtain ⟨q, hq⟩ : ∃ q, decide (l.take T = stB.take T) = q := ⟨_, rfl⟩
  have HQ := Lib.hid hq
  have HR := Lib.hid (show nextI most l 0 = if q = true then (if T < 8 then ⟨0, 0, [], l, 0⟩ else ⟨1, 0, [], l.drop 8, 1⟩) else ⟨3, 0, [], [], 2⟩ by
    unfold nextI
    rw [if_pos rfl, hT, ← hq]
    have : (l.length < 8) = (T < 8) := by rw [← hT]; apply propext; omega
    simp only [this, decide_eq_true_eq])
  obtain ⟨r, hr0⟩ : ∃ r, nextI most l 0 = r := ⟨_, rfl⟩
  rw [hr0] at HR ⊢
  rw [hN] at hT
  have HC := Lib.hid (show (N < 8 ∧ T = N) ∨ (N = 8 ∧ T = 8) ∨ (8 < N ∧ T = 8) by omega)
  have hlt := h.lt
  have hTN : T ≤ N := by omega
  have hT8 : T ≤ 8 := by omega
  have HTN := Lib.hid (And.intro hTN hT8)
  have hN4 : N ≤ 4104 := by have := h.ok.len; have := h.ok.hi; omega
  clear h hN hT hq hr0
  rcases HC.out with ⟨hc, rfl⟩ | ⟨rfl, rfl⟩ | ⟨hc, rfl⟩
  all_goals
    go_enter Try.func28, Try.ntmps28
    go_wp2_with fail
    refine (istart_calls _).mono ?_
    rintro e w1 ⟨rfl, o1, b1⟩
    have I1 := Lib.hid ((H.out.below (below_alloc w _)).below b1)
    have hfb : FrB w1 w.heap.size 0 (.slice none 0 0) := (b1.block _ (by simp)).trans (heap_alloc_new w _)
    have T1 := Lib.hid (show Below w.heap.size w w1 from below_then (below_alloc w _) (by simp) b1)
    have K1 := Lib.hid hfb
    have hz1 : w.heap.size + 1 < w1.heap.size := by have := (OwnB.lt o1 (w.heap.size + 1) (by simp [Value.ownBlock])).2; simpa using this
    obtain ⟨A, c, h1, ho, hr, ⟨c0, c1, c2, c3⟩, hfz, hne⟩ := I1.out.row
    rw [HN.out] at c1
    obtain ⟨A8, c8, e8, r8⟩ := o1.rd
    rw [show (w.alloc (.cells #[.int .u16 0, .slice none 0 0] 39)).heap.size = w.heap.size + 1 by simp] at e8 ⊢
    cases e8
    have hnc := hr.len.1
    rw [HN.out] at hnc
    have hcm : c ≤ 9223372036854775807 := hr.len.2
    have HEQ := Lib.hid (fun n => beq_calls (Rd.drewN n (hr.take0 (Nat.le_trans HTN.out.1 (Nat.le_of_eq HN.out.symm)))) (Rd.drewN n (r8.take0 (show _ ≤ stB.length from HTN.out.2))) (List.length_take_of_le (Nat.le_trans HTN.out.1 (Nat.le_of_eq HN.out.symm))) (List.length_take_of_le (show _ ≤ stB.length from HTN.out.2)))
    rw [HQ.out] at HEQ
    have hsl1 := fun n => slice_to A n c _ (Nat.le_trans HTN.out.1 hnc)
    have hsl2 := slice_to (some ⟨w.heap.size + 1, 0, none⟩) 8 8 _ HTN.out.2
    try simp only [show (((8 : Nat)) : Int) = 8 from rfl] at hsl1 hsl2
    clear h1 ho hr hne hfb o1 b1 r8
    go_wp2_with fail
    go_quiet ((go_at_call 38; exact Calls.quiet_of_same (HEQ.out _)))
    have AF := Lib.hid (show w.heap.size ∉ F from fun h => Nat.lt_irrefl _ (H.out.lts _ h))
    refine forgetX (fun W => In W a F most l 0 ∧ FrB W w.heap.size 0 (.slice none 0 0) ∧ Below w.heap.size w W) ⟨I1.out.below (below_drewN w1 _), K1.out.tch (Tch.of_below [] (below_drewN w1 _)) (by simp), T1.out.trans ((below_drewN w1 _).mono T1.out.size)⟩ ?_
    clear c0 c1 c2 c3 hfz I1 K1 T1 hz1 hsl1 hsl2 HEQ
    rintro W ⟨iw, kw, bw⟩
    have I1 := Lib.hid iw
    have K1 := Lib.hid kw
    have T1 := Lib.hid bw
    obtain ⟨q0, q1, q2⟩ := kw.cells
    have hzW : w.heap.size < W.heap.size := heap_lt kw
    clear iw kw bw
    cases q with
    | false =>
      go_wp2_with fail
      refine (ispoil_calls I1.out).mono ?_
      rintro e w2 ⟨F2, v, rfl, o2, i2, t2, f2, v2⟩
      obtain ⟨A5, c5, rfl⟩ := OwnC.slice o2
      have K2 := Lib.hid (K1.out.tch t2 AF.out)
      clear q0 q1 q2
      obtain ⟨q0, q1, q2⟩ := K2.out.cells
      have hz2 : w.heap.size < w2.heap.size := heap_lt K2.out
      have HX := Lib.hid (And.intro o2 (And.intro i2 (And.intro t2 (And.intro f2 v2))))
      clear o2 i2 t2 f2 v2
      simp only [List.length_nil]
      go_wp2_with fail
      refine forgetX (fun W => FrB W w.heap.size 0 (.slice A5 0 c5) ∧ Tch [w.heap.size] w2 W) ⟨?_, ?_⟩ ?_
      · exact K2.out.set2 (ch' := 0) (show (0 : Int) = ((0 : Nat) : Int) from rfl)
      · repeat (first | with_reducible exact Tch.refl _ _ | with_reducible refine Tch.setCell ?_ _ (by simp))
      rintro W3 ⟨hf, t3⟩
      obtain ⟨o2, i2, t2, f2, v2⟩ := HX.out
      have hs1 := T1.out.size
      refine bodyPost_ret (results_fr (k := .int .u8 3) (i := 2) (t := 3) rfl rfl rfl hf) rfl ?_
      rw [HR.out, if_neg (by decide)]
      refine nx_fin (r := ⟨3, 0, [], [], 2⟩) (base := w.heap.size) (F := F) i2 ((Tch.of_below F T1.out).trans_ t2) (fun k hk => (f2 k hk).imp id (fun h => by omega)) (o2.base (by omega)) (Nat.le_refl _) (Nat.le_refl _) (fun h => ?_) (fun g hg => ?_) v2 t3 rfl rfl
      · rcases f2 _ h with h | h
        · exact AF.out h
        · omega
      · have := (OwnB.lt o2 g hg).1
        omega
    | true =>
      go_wp2_with fail
      first
        | (refine forgetX (fun W' => FrB W' w.heap.size 0 (.slice none 0 0) ∧ Tch [w.heap.size] W W') ⟨?_, ?_⟩ ?_
           · exact K1.out.set2 (ch' := 0) (show (0 : Int) = ((0 : Nat) : Int) from rfl)
           · repeat (first | with_reducible exact Tch.refl _ _ | with_reducible refine Tch.setCell ?_ _ (by simp))
           rintro W3 ⟨hf, t3⟩
           have hs1 := T1.out.size
           refine bodyPost_ret (results_fr (k := .int .u8 0) (i := 2) (t := 3) rfl rfl rfl hf) rfl ?_
           rw [HR.out, if_pos trivial, if_pos (by omega)]
           exact nx_fin (r := ⟨0, 0, [], l, 0⟩) (base := w.heap.size) (F := F) I1.out (Tch.of_below F T1.out) (fun k hk => .inl hk) OwnB.nil_ (Nat.le_refl _) (Nat.le_refl _) AF.out (by simp [Value.ownBlock]) (by simp [Value.ownBlock]) t3 rfl rfl)
        | (refine (idrop_calls (z := 8) (n := 8) I1.out rfl (by rw [HN.out]; omega)).mono ?_
           rintro e w2 ⟨F2, rfl, i2, t2, f2, g2⟩
           clear q0 q1 q2
           have K2 := Lib.hid (K1.out.tch t2 AF.out)
           have hz2 : w.heap.size < w2.heap.size := heap_lt K2.out
           obtain ⟨A5, c5, -, -, -, ⟨-, -, -, d3⟩, dfz, -⟩ := i2.row
           have I2 := Lib.hid i2
           have T2 := Lib.hid (And.intro t2 f2)
           have AF2 := Lib.hid (show w.heap.size ∉ F2 from fun h => by
             rcases f2 _ h with h | h
             · exact AF.out h
             · omega)
           have hlt2 := i2.lt
           clear i2 t2 f2 g2
           go_upto_region 9 with fail
           refine forget (fun W' => In W' a F2 most (l.drop 8) 1 ∧ FrB W' w.heap.size 0 (.slice none 0 0) ∧ Tch [a] w2 W') ⟨I2.out.phase, K2.out.tch ((Tch.refl [a] w2).setCell _ (by simp)) (by simp; omega), (Tch.refl [a] w2).setCell _ (by simp)⟩ ?_
           clear d3 dfz
           rintro W3 ⟨i3, k3, t3⟩
           have I3 := Lib.hid i3
           have K3 := Lib.hid k3
           have T3 := Lib.hid t3
           obtain ⟨q0, q1, q2⟩ := k3.cells
           have hz3 : w.heap.size < W3.heap.size := heap_lt k3
           clear i3 k3 t3
           go_wp2_with fail
           refine forgetX (fun W' => FrB W' w.heap.size 0 (.slice none 0 0) ∧ Tch [w.heap.size] W3 W') ⟨?_, ?_⟩ ?_
           · exact K3.out.set2 (ch' := 0) (show (0 : Int) = ((0 : Nat) : Int) from rfl)
           · repeat (first | with_reducible exact Tch.refl _ _ | with_reducible refine Tch.setCell ?_ _ (by simp))
           rintro W4 ⟨hf, t4⟩
           have hs1 := T1.out.size
           refine bodyPost_ret (results_fr (k := .int .u8 1) (i := 2) (t := 3) rfl rfl rfl hf) rfl ?_
           rw [HR.out, if_pos trivial, if_neg (by omega)]
           exact nx_fin (r := ⟨1, 0, [], l.drop 8, 1⟩) (base := w.heap.size) (F := F) I3.out (((Tch.of_below F T1.out).trans_ T2.out.1).trans_ (T3.out.mono (by simpa using H.out.mem))) (fun k hk => (T2.out.2 k hk).imp id (fun h => by omega)) OwnB.nil_ (Nat.le_refl _) (Nat.le_refl _) AF2.out (by simp [Value.ownBlock]) (by simp [Value.ownBlock]) t4 rfl rfl)
end Go.Proofs.Ytmeljnohkhkfmaa

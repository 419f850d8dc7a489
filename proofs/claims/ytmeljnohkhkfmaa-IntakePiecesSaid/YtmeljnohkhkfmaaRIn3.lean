import Derived.Test.YtmeljnohkhkfmaaRIn2
set_option linter.unusedVariables false
set_option linter.unusedSimpArgs false
namespace Go.Proofs.Ytmeljnohkhkfmaa
open Go.RowKit

def RNxP (r : NxI) (w : World) (a : Nat) (F : List Nat) (most : Nat) (e : Ending) (w' : World) : Prop :=
  ∃ F' v, e = .returned (.tuple #[.int .u8 r.kind, .agg #[.int .u16 r.ch, v]]) ∧ OwnB w' w.heap.size v r.body ∧ RIn w' a F' most r.l r.ph ∧ Tch F w w' ∧ (∀ k ∈ F', k ∈ F ∨ w.heap.size ≤ k) ∧ ∀ g, v.ownBlock = some g → g ∉ F'
theorem rnx_fin {w w2 W : World} {a b base ch : Nat} {kv : Value} {F F' : List Nat} {most : Nat} {r : NxI} {v : Value} (h : RIn w2 a F' most r.l r.ph) (t : Tch F w w2) (f : ∀ k ∈ F', k ∈ F ∨ w.heap.size ≤ k) (o : OwnB w2 base v r.body) (hb : w.heap.size ≤ base) (hbw : w.heap.size ≤ b)
    (hbF : b ∉ F') (hbv : ∀ g, v.ownBlock = some g → g ≠ b) (hv : ∀ g, v.ownBlock = some g → g ∉ F') (t3 : Tch [b] w2 W) (hk : kv = .int .u8 r.kind) (hc : ch = r.ch) : RNxP r w a F most (.returned (.tuple #[kv, .agg #[.int .u16 ch, v]])) W :=
  ⟨F', v, by rw [hk, hc], (OwnC.tch o t3 (fun k hk hm => hbv k hk (by simpa using hm))).base hb, h.tch t3 (fun k hk hm => by simp at hm; rw [hm] at hk; exact hbF hk), t.trans t3 (fun j hj => by simp at hj; right; omega), f, hv⟩

theorem nx_none {most i : Nat} {l : List UInt8} (hi : i < 8) (hl : l.length = i) (h : l.take i = stB.take i) : nextI most l 0 = ⟨0, 0, [], l, 0⟩ := by
  unfold nextI
  rw [if_pos rfl, hl, show min i 8 = i by omega, if_pos h, if_pos hi]
theorem nx_bad {most i : Nat} {l : List UInt8} {x y : UInt8} (hi : i < 8) (hx : l[i]? = some x) (hy : stB[i]? = some y) (h : x ≠ y) : nextI most l 0 = ⟨3, 0, [], [], 2⟩ := by
  unfold nextI
  have hl := (List.getElem?_eq_some_iff.1 hx).1
  rw [if_pos rfl, if_neg]
  intro e
  have h1 := congrArg (fun l => l[i]?) e
  simp only [List.getElem?_take, show i < min l.length 8 by omega, if_true] at h1
  rw [hx, hy] at h1
  exact h (Option.some.inj h1)
theorem nx_head {most : Nat} {l : List UInt8} (hl : 8 ≤ l.length) (h : l.take 8 = stB.take 8) : nextI most l 0 = ⟨1, 0, [], l.drop 8, 1⟩ := by
  unfold nextI
  rw [if_pos rfl, show min l.length 8 = 8 by omega, if_pos h, if_neg (by omega)]
theorem take_eq_next {l : List UInt8} {i : Nat} {x : UInt8} (hx : l[i]? = some x) (hy : stB[i]? = some x) (h : l.take i = stB.take i) : l.take (i + 1) = stB.take (i + 1) := by
  obtain ⟨h1, rfl⟩ := List.getElem?_eq_some_iff.1 hx
  obtain ⟨h2, e⟩ := List.getElem?_eq_some_iff.1 hy
  rw [List.take_succ_eq_append_getElem h1, List.take_succ_eq_append_getElem h2, h, e]

set_option maxHeartbeats 800000 in
theorem rspoil_calls {w : World} {a : Nat} {F : List Nat} {most ph : Nat} {l : List UInt8} (h : RIn w a F most l ph) :
    Calls Try.prog 30 #[.pointer (some ⟨a, 0, none⟩)] w (RNxP ⟨3, 0, [], [], 2⟩ w a F most) := by
  obtain ⟨A, c, wt, h1, ho, hr, ⟨c0, c1, c2, c3⟩, hfz, hne, -, -⟩ := h.row
  have H := Lib.hid h
  have H1 := Lib.hid h1
  have hlt := h.lt
  have hnf : a ≠ w.heap.size := by omega
  obtain ⟨N, hN⟩ : ∃ N, l.length = N := ⟨_, rfl⟩
  rw [hN] at c1 H1
  obtain ⟨bv, hbv⟩ : ∃ bv, decide (ph = 2) = bv := ⟨_, rfl⟩
  rw [hbv] at c3 H1
  have f1 := hfz 1
  have f3 := hfz 3
  clear h h1 ho hr hne hN hbv hfz
  go_enter Try.func30, Try.ntmps30
  go_wp2_with fail
  refine forgetX (fun W => W.heap[a]? = some (.cells #[.int .u32 most, .slice none 0 0, .bool wt, .bool true] 45 (0, 0)) ∧ FrB W w.heap.size 0 (.slice none 0 0) ∧ Tch [a] w W ∧ w.heap.size < W.heap.size) ⟨?_, ?_, ?_, ?_⟩ ?_
  · rw [heap_alloc_old _ _ (by simp; omega)]
    exact heap_setCell_same (heap_setCell_same (l := [.int .u32 most, .slice A N c, .bool wt, .bool bv]) H1.out 3 (.bool true)) 1 (.slice none 0 0)
  · exact heap_last (by simp)
  · repeat (first | with_reducible exact Tch.refl _ _ | with_reducible refine Tch.setCell ?_ _ (by simp) | with_reducible refine Tch.alloc ?_ _)
  · simp
  rintro W ⟨g1, g2, g3, g4⟩
  have hIn : RIn W a [a] most [] 2 := ⟨⟨.slice none 0 0, wt, g1, OwnO.nil_, by simp [Value.ownBlock], by omega, by omega⟩, by simp, fun k hk => by simp at hk; omega, ⟨H.out.ok.lo, H.out.ok.hi, by simp, by omega, fun _ => rfl⟩⟩
  exact bodyPost_ret (results_fr (k := .int .u8 3) (i := 2) (t := 3) rfl rfl rfl g2) rfl ⟨[a], .slice none 0 0, rfl, OwnB.nil_, hIn, g3.mono (by simpa using H.out.mem), fun k hk => by simp at hk; rw [hk]; exact .inl H.out.mem, by simp [Value.ownBlock]⟩

set_option maxHeartbeats 4000000 in
theorem rnext_head {w : World} {a : Nat} {F : List Nat} {most : Nat} {l : List UInt8} (h : RIn w a F most l 0) :
    Calls Try.prog 18 #[.pointer (some ⟨a, 0, none⟩)] w (RNxP (nextI most l 0) w a F most) := by
  have H := Lib.hid h
  have HI := Lib.hid (h.below (below_alloc w (.cells #[.int .u16 0, .slice none 0 0] 39)))
  obtain ⟨A0, c0', wt0, -, -, -, ⟨-, -, k2, k3⟩, -, -, hw0, -⟩ := HI.out.row
  rw [hw0 rfl] at k2
  have hlt := h.lt
  have AF := Lib.hid (show w.heap.size ∉ F from fun h => Nat.lt_irrefl _ (H.out.lts _ h))
  obtain ⟨N, hN⟩ : ∃ N, l.length = N := ⟨_, rfl⟩
  have HN := Lib.hid hN
  have hN4 : N ≤ 4104 := by have := h.ok.len; have := h.ok.hi; omega
  obtain ⟨r, hr⟩ : ∃ r, nextI most l 0 = r := ⟨_, rfl⟩
  have HR := Lib.hid hr
  rw [hr]
  clear h hN hw0 hr
  go_enter Try.func18, Try.ntmps18
  go_wp2_with fail
  refine (rstart_calls _).mono ?_
  rintro e w1 ⟨rfl, o1, b1⟩
  have I1 := Lib.hid (HI.out.below b1)
  have K1 := Lib.hid (show FrB w1 w.heap.size 0 (.slice none 0 0) from (b1.block _ (by simp)).trans (heap_alloc_new w _))
  have T1 := Lib.hid (show Below w.heap.size w w1 from below_then (below_alloc w _) (by simp) b1)
  rw [show (w.alloc (.cells #[.int .u16 0, .slice none 0 0] 39)).heap.size = w.heap.size + 1 by simp] at o1 ⊢
  have O1 := Lib.hid o1
  have hz1 : w.heap.size < w1.heap.size := heap_lt K1.out
  clear o1 b1 k2 k3
  go_wp2_with fail
  go_loopw [5] (fun i wr => ∃ q : Nat, q ≤ 8 ∧ q ≤ N ∧ i = .int .i64 q ∧ RIn wr a F most l 0 ∧ FrB wr w.heap.size 0 (.slice none 0 0) ∧ OwnB wr (w.heap.size + 1) (.slice (some ⟨w.heap.size + 1, 0, none⟩) 8 8) stB ∧ Below w.heap.size w wr ∧ Hid (l.take q = stB.take q)) (fun i _ => 8 - (intOf i).toNat)
  case atStart => exact ⟨0, by omega, by omega, rfl, I1.out, K1.out, O1.out, T1.out, Lib.hid rfl⟩
  case round =>
    obtain ⟨q, hq, hqN, rfl, hi, hk, ho, hb, HT⟩ := hrel
    have I := Lib.hid hi
    have K := Lib.hid hk
    have O := Lib.hid ho
    have T := Lib.hid hb
    obtain ⟨q0, q1, q2⟩ := hk.cells
    have hzw : w.heap.size < wr.heap.size := heap_lt hk
    obtain ⟨A, c, wt, r1, r2, rd, ⟨c0, c1, c2, c3⟩, hfz, hne, -, -⟩ := hi.row
    have RD := Lib.hid rd
    rw [HN.out] at c1
    have hNc := rd.len
    rw [HN.out] at hNc
    obtain ⟨hNc1, hNc2⟩ := hNc
    clear hi hk ho hb I1 K1 O1 T1 hz1 r1 r2 rd hne
    by_cases hq8 : q < 8
    · have hq8' : (q : Int) < 8 := by omega
      by_cases hqn : q = N
      · subst hqn
        go_wp2_with fail
        refine forgetX (fun W => FrB W w.heap.size 0 (.slice none 0 0) ∧ Tch [w.heap.size] wr W) ⟨?_, ?_⟩ ?_
        · exact K.out.set2 (ch' := 0) (show (0 : Int) = ((0 : Nat) : Int) from rfl)
        · repeat (first | with_reducible exact Tch.refl _ _ | with_reducible refine Tch.setCell ?_ _ (by simp))
        rintro W3 ⟨hf, t3⟩
        refine bodyPost_ret (results_fr (k := .int .u8 0) (i := 2) (t := 3) rfl rfl rfl hf) rfl ?_
        rw [← HR.out, nx_none hq8 HN.out HT.out]
        exact rnx_fin (r := ⟨0, 0, [], l, 0⟩) (base := w.heap.size) (F := F) I.out (Tch.of_below F T.out) (fun k hk => .inl hk) OwnB.nil_ (Nat.le_refl _) (Nat.le_refl _) AF.out (by simp [Value.ownBlock]) (by simp [Value.ownBlock]) t3 rfl rfl
      · have hqN' : (q : Int) < N := by omega
        have hqn' : ¬ (q : Int) = N := by omega
        have hqn2 : ((q : Int) == (N : Int)) = false := by rw [beq_eq_false_iff_ne]; omega
        obtain ⟨b0, o0, rfl, hpl⟩ := RD.out.plain (by rw [HN.out]; omega)
        have e0 := hpl q (by rw [HN.out]; omega)
        obtain ⟨s0, -⟩ := O.out.cell_at q (show q < 8 from hq8)
        obtain ⟨x, hx⟩ : ∃ x, l[q]'(by rw [HN.out]; omega) = x := ⟨_, rfl⟩
        obtain ⟨y, hy⟩ : ∃ y, stB[q]'(show q < 8 from hq8) = y := ⟨_, rfl⟩
        rw [hx] at e0
        rw [hy] at s0
        have HX := Lib.hid (show l[q]? = some x by rw [← hx]; exact List.getElem?_eq_getElem _)
        have HY := Lib.hid (show stB[q]? = some y by rw [← hy]; exact List.getElem?_eq_getElem _)
        clear hpl hx hy hqn
        by_cases hxy : x = y
        · subst hxy
          go_wp2_with fail
          go_quiet (fail)
          go_wp2_with fail
          exact ⟨⟨q + 1, by omega, by omega, by go_num, I.out.below (below_drewN _ _), K.out.tch (Tch.of_below [] (below_drewN _ _)) (by simp), O.out.drewN _, T.out.trans ((below_drewN _ _).mono T.out.size), Lib.hid (take_eq_next HX.out HY.out HT.out)⟩, by simp [intOf]; omega⟩
        · have hn1 : ((x.toNat : Int) == (y.toNat : Int)) = false := by rw [beq_eq_false_iff_ne]; intro h; exact hxy (UInt8.toNat_inj.1 (by omega))
          have hn2 : ((x.toNat : Int) != (y.toNat : Int)) = true := by rw [bne, hn1]; rfl
          have HXY := Lib.hid hxy
          clear hxy
          go_wp2_with fail
          go_quiet (fail)
          refine forgetX (fun W => RIn W a F most l 0 ∧ FrB W w.heap.size 0 (.slice none 0 0) ∧ Below w.heap.size w W) ⟨I.out.below (below_drewN _ _), K.out.tch (Tch.of_below [] (below_drewN _ _)) (by simp), T.out.trans ((below_drewN _ _).mono T.out.size)⟩ ?_
          clear c0 c1 c2 c3 q0 q1 q2 e0 s0 hzw hfz
          rintro W ⟨iw, kw, bw⟩
          have I1 := Lib.hid iw
          have K1 := Lib.hid kw
          have T1 := Lib.hid bw
          obtain ⟨q0, q1, q2⟩ := kw.cells
          have hzW : w.heap.size < W.heap.size := heap_lt kw
          clear iw kw bw
          go_wp2_with fail
          refine (rspoil_calls I1.out).mono ?_
          rintro e w2 ⟨F2, v, rfl, o2, i2, t2, f2, v2⟩
          obtain ⟨A5, c5, rfl⟩ := OwnC.slice o2
          have K2 := Lib.hid (K1.out.tch t2 AF.out)
          clear q0 q1 q2
          obtain ⟨q0, q1, q2⟩ := K2.out.cells
          have hz2 : w.heap.size < w2.heap.size := heap_lt K2.out
          have HXX := Lib.hid (And.intro o2 (And.intro i2 (And.intro t2 (And.intro f2 v2))))
          clear o2 i2 t2 f2 v2
          simp only [List.length_nil]
          go_wp2_with fail
          refine forgetX (fun W => FrB W w.heap.size 0 (.slice A5 0 c5) ∧ Tch [w.heap.size] w2 W) ⟨?_, ?_⟩ ?_
          · exact K2.out.set2 (ch' := 0) (show (0 : Int) = ((0 : Nat) : Int) from rfl)
          · repeat (first | with_reducible exact Tch.refl _ _ | with_reducible refine Tch.setCell ?_ _ (by simp))
          rintro W3 ⟨hf, t3⟩
          obtain ⟨o2, i2, t2, f2, v2⟩ := HXX.out
          have hs1 := T1.out.size
          refine bodyPost_ret (results_fr (k := .int .u8 3) (i := 2) (t := 3) rfl rfl rfl hf) rfl ?_
          rw [← HR.out, nx_bad hq8 HX.out HY.out HXY.out]
          refine rnx_fin (r := ⟨3, 0, [], [], 2⟩) (base := w.heap.size) (F := F) i2 ((Tch.of_below F T1.out).trans_ t2) (fun k hk => (f2 k hk).imp id (fun h => by omega)) (o2.base (by omega)) (Nat.le_refl _) (Nat.le_refl _) (fun h => ?_) (fun g hg => ?_) v2 t3 rfl rfl
          · rcases f2 _ h with h | h
            · exact AF.out h
            · omega
          · have := (OwnB.lt o2 g hg).1
            omega
    · obtain rfl : q = 8 := by omega
      obtain ⟨m, hm⟩ : ∃ m, N - 8 = m := ⟨_, rfl⟩
      have HM := Lib.hid hm
      obtain ⟨cc, hcc⟩ : ∃ cc, c - 8 = cc := ⟨_, rfl⟩
      obtain ⟨A2, hA2⟩ : ∃ A2, cutA A c 8 1 = A2 := ⟨_, rfl⟩
      have hsl := fun W => slice_from' A N c 8 .i64 8 rfl hqN W
      rw [hm, hcc, hA2] at hsl
      have HC := Lib.hid (show OwnO wr 0 (.slice A2 m cc) (l.drop 8) ∧ ∀ g, (Value.slice A2 m cc).ownBlock = some g → g ∈ F ∧ g ≠ a by
        obtain ⟨A', c', wt', -, r2, -, ⟨-, c1', -, -⟩, -, hne, -, -⟩ := I.out.row
        rw [HN.out] at c1' r2 hne
        rw [c1] at c1'
        cases c1'
        have := r2.cut 8 (by rw [HN.out]; exact hqN)
        rw [hm, hcc, hA2] at this
        exact ⟨this.1, fun g hg => hne g (by rw [← this.2]; exact hg)⟩)
      have HH := Lib.hid (show wr.heap[a]? = some (.cells #[.int .u32 most, .slice A N c, .bool wt, .bool false] 45 (0, 0)) by
        obtain ⟨A', c', wt', r1, -, -, ⟨-, c1', c2', -⟩, -, -, -, -⟩ := I.out.row
        rw [HN.out] at c1' r1
        rw [c1] at c1'
        rw [c2] at c2'
        cases c1'
        cases c2'
        exact r1)
      have f1 := hfz 1
      have f2 := hfz 2
      have haz : a < wr.heap.size := I.out.lt
      have haw : a ≠ w.heap.size := by omega
      have hmN : m ≤ N := by omega
      clear hm hcc hA2 hfz
      go_upto_region 14 with fail
      refine forget (fun W => RIn W a F most (l.drop 8) 1 ∧ FrB W w.heap.size 0 (.slice none 0 0) ∧ Tch [a] wr W) ⟨?_, ?_, ?_⟩ ?_
      · obtain ⟨hO, hG⟩ := HC.out
        refine ⟨⟨.slice A2 m cc, true, ?_, (hO.keep fun k hk => Below.heap_setCell _ _ _ _ (hG k hk).2).keep fun k hk => Below.heap_setCell _ _ _ _ (hG k hk).2, hG, by omega, fun _ => rfl⟩, I.out.mem, fun k hk => by have := I.out.lts k hk; simpa using this, ⟨I.out.ok.lo, I.out.ok.hi, by rw [List.length_drop]; have := I.out.ok.len; omega, by omega, by omega⟩⟩
        exact heap_setCell_same (heap_setCell_same (l := [.int .u32 most, .slice A N c, .bool wt, .bool false]) HH.out 2 (.bool true)) 1 _
      · exact K.out.tch (((Tch.refl [a] wr).setCell _ (by simp)).setCell _ (by simp)) (by simp; omega)
      · exact ((Tch.refl [a] wr).setCell _ (by simp)).setCell _ (by simp)
      clear c0 c1 c2 c3 q0 q1 q2 hsl f1 f2
      rintro W3 ⟨i3, k3, t3⟩
      have I3 := Lib.hid i3
      have K3 := Lib.hid k3
      have T3 := Lib.hid t3
      obtain ⟨q0, q1, q2⟩ := k3.cells
      have hz3 : w.heap.size < W3.heap.size := heap_lt k3
      clear i3 k3 t3
      go_wp2_with fail
      refine forgetX (fun W' => FrB W' w.heap.size 0 (.slice none 0 0) ∧ Tch [w.heap.size] W3 W') ⟨?_, ?_⟩ ?_
      · exact K3.out.set2 (ch' := 0) (show (0 : Int) = ((0 : Nat) : Int) from rfl)
      · repeat (first | with_reducible exact Tch.refl _ _ | with_reducible refine Tch.setCell ?_ _ (by simp))
      rintro W4 ⟨hf, t4⟩
      refine bodyPost_ret (results_fr (k := .int .u8 1) (i := 2) (t := 3) rfl rfl rfl hf) rfl ?_
      rw [← HR.out, nx_head (by rw [HN.out]; exact hqN) HT.out]
      exact rnx_fin (r := ⟨1, 0, [], l.drop 8, 1⟩) (base := w.heap.size) (F := F) I3.out ((Tch.of_below F T.out).trans_ (T3.out.mono (by simpa using H.out.mem))) (fun k hk => .inl hk) OwnB.nil_ (Nat.le_refl _) (Nat.le_refl _) AF.out (by simp [Value.ownBlock]) (by simp [Value.ownBlock]) t4 rfl rfl
end Go.Proofs.Ytmeljnohkhkfmaa

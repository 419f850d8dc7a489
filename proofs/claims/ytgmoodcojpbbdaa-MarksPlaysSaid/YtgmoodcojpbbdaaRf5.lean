import Derived.Test.YtgmoodcojpbbdaaRf4
set_option linter.unusedVariables false
set_option linter.unusedSimpArgs false
namespace Go.Proofs.Ytgmoodcojpbbdaa
open Go.RowKit

theorem size_mk (W : World) : (sizeOf (Try.prog.elem 39)).run Try.prog W = .ok 5 W := by kernel_rfl
theorem marks_to (g n c m : Nat) (h : m ≤ c) (W : World) : (Instr.slice 39 (.slice (some ⟨g, 0, none⟩) n c) none (some (.int .i64 m)) none).run Try.prog W = .ok (.slice (some ⟨g, 0, none⟩) m c) W := by
  rw [run_slice_h W 39 _ n c Try.underlying39 .i64 m (by omega) (by omega), size_mk]
  simp [Result.andThen, sliced, plain_add]
theorem marks_from (g n c lo : Nat) (h : lo ≤ n) (hc : n ≤ c) : ∃ o, (lo < c → o = lo * 5) ∧ ∀ W : World, (Instr.slice 39 (.slice (some ⟨g, 0, none⟩) n c) (some (.int .i64 lo)) none none).run Try.prog W = .ok (.slice (some ⟨g, o, none⟩) (n - lo) (c - lo)) W := by
  by_cases h2 : lo < c
  · refine ⟨lo * 5, fun _ => rfl, fun W => ?_⟩
    rw [run_slice_l W 39 _ n c Try.underlying39 .i64 lo (by omega) (by omega), size_mk]
    simp [Result.andThen, sliced, plain_add]
    intro e
    omega
  · refine ⟨0, fun h => absurd h h2, fun W => ?_⟩
    obtain rfl : lo = c := by omega
    rw [run_slice_l W 39 _ n lo Try.underlying39 .i64 lo (by omega) (by omega), size_mk]
    simp [Result.andThen, sliced, plain_add]
theorem rdc_to {w : World} {g n c : Nat} {ms : Ms} (h : RdC 5 w (some ⟨g, 0, none⟩) n c (mcs ms)) (k : Nat) (hk : k ≤ n) : RdC 5 w (some ⟨g, 0, none⟩) k c (mcs (ms.take k)) := by
  obtain ⟨h1, h2, h3, h4, h5, h6⟩ := h
  rw [mcs_length] at h1
  have hn : ms.length = n := by omega
  have e : mcs ms = mcs (ms.take k) ++ mcs (ms.drop k) := by rw [mcs, mcs, mcs, ← List.flatMap_append, List.take_append_drop]
  refine ⟨by rw [mcs_length, List.length_take]; omega, by omega, h3, (fun hh => by cases hh), fun u hu => h5 u (by rw [e]; exact List.mem_append_left _ hu), fun ad ha j u hj => h6 ad ha j u ?_⟩
  rw [e, List.getElem?_append_left (List.getElem?_eq_some_iff.1 hj).1]
  exact hj
theorem rdc_from {w : World} {g n c o : Nat} {ms : Ms} (h : RdC 5 w (some ⟨g, 0, none⟩) n c (mcs ms)) (k : Nat) (hk : k ≤ n) (ho : k < c → o = k * 5) : RdC 5 w (some ⟨g, o, none⟩) (n - k) (c - k) (mcs (ms.drop k)) := by
  obtain ⟨h1, h2, h3, h4, h5, h6⟩ := h
  rw [mcs_length] at h1
  have hn : ms.length = n := by omega
  have e : mcs ms = mcs (ms.take k) ++ mcs (ms.drop k) := by rw [mcs, mcs, mcs, ← List.flatMap_append, List.take_append_drop]
  refine ⟨by rw [mcs_length, List.length_drop]; omega, by omega, by omega, (fun hh => by cases hh), fun u hu => h5 u (by rw [e]; exact List.mem_append_right _ hu), fun ad ha j u hj => ?_⟩
  cases ha
  have hl := (List.getElem?_eq_some_iff.1 hj).1
  rw [mcs_length, List.length_drop] at hl
  have hkc : k < c := by omega
  have := h6 _ rfl (k * 5 + j) u (by
    rw [e, List.getElem?_append_right (by rw [mcs_length, List.length_take]; omega), mcs_length, List.length_take, show min k ms.length = k by omega, show k * 5 + j - k * 5 = j by omega]
    exact hj)
  rw [plain_add] at this ⊢
  rw [ho hkc]
  simpa [Nat.zero_add] using this
theorem drop_at {ms : Ms} (hn : (ms.map (·.1)).Nodup) {k : Nat} (hk : k < ms.length) {t : List UInt8} (ht : ms[k].1 = t) : dropM ms t = ms.take k ++ ms.drop (k + 1) := by
  have e : ms = ms.take k ++ ms[k] :: ms.drop (k + 1) := by rw [← List.drop_eq_getElem_cons hk, List.take_append_drop]
  obtain ⟨p, hp⟩ : ∃ p, ms[k] = p := ⟨_, rfl⟩
  rw [hp] at e ht
  subst ht
  have hn2 := hn
  rw [e, List.map_append, List.map_cons] at hn2
  have hd := List.nodup_append.1 hn2
  conv => lhs; rw [e]
  rw [dropM, List.filter_append, List.filter_cons_of_neg (by simp)]
  congr 1
  · rw [List.filter_eq_self]
    intro q hq
    simpa using fun e => hd.2.2 q.1 (List.mem_map.2 ⟨q, hq, rfl⟩) p.1 (by simp) e
  · rw [List.filter_eq_self]
    intro q hq
    have := (List.nodup_cons.1 hd.2.1).1
    simpa using fun e => this (List.mem_map.2 ⟨q, hq, e⟩)

theorem rs_app1 {W X w2 : World} {a n : Nat} {tv v2 : Value} {cs : List Value} (h1 : W.heap[a]? = some (.cells #[tv] 67 (0, 0))) (ha : a < W.heap.size)
    (o2 : OwnC 47 5 (fun _ => True) w2 W.heap.size v2 n cs) (g2 : X.grownBy w2 (some W.heap.size)) (hX : Below W.heap.size W X) :
    Hid (OwnC 47 5 (fun _ => True) w2 W.heap.size v2 n cs) ∧ Hid (Below W.heap.size W w2) ∧ W.heap.size ≤ w2.heap.size ∧ w2.cell? ⟨a, 0, none⟩ = some tv ∧ w2.frozen? ⟨a, 0, none⟩ = false := by
  have B : Below W.heap.size W w2 := hX.grown g2 hX.size (fun k hk => by cases hk; exact Nat.le_refl _)
  have h := (B.block a ha).trans h1
  exact ⟨Lib.hid o2, Lib.hid B, B.size, cell_of_heap (l := [tv]) h 0 _ rfl, froz_of_heap h 0⟩
theorem rs_app2 {w w1 W w2 w3 : World} {a n : Nat} {tv v2 v3 : Value} {cs cs2 : List Value} {n2 : Nat} {F : List Nat} {ms' : Ms} {o : Outc} (h1 : W.heap[a]? = some (.cells #[tv] 67 (0, 0))) (ha : a ∈ F) (hF : ∀ k ∈ F, k < w.heap.size)
    (o2 : OwnC 47 5 (fun _ => True) w2 W.heap.size v2 n cs) (b2 : Below W.heap.size W w2) (g3 : w2.grownBy w3 v2.ownBlock) (o3 : OwnC 47 5 (fun _ => True) w3 W.heap.size v3 n2 cs2) (hn : n2 = ms'.length) (hc : cs2 = mcs ms')
    (hW : Below w.heap.size w W) (hbox : OutAt W w1.heap.size 0 o) (hb1 : w.heap.size < w1.heap.size) (hb2 : w1.heap.size < W.heap.size) {Z : Obj} (hz : W.heap[w.heap.size]? = some Z) :
    w3.cell? ⟨a, 0, none⟩ = some tv ∧ w3.frozen? ⟨a, 0, none⟩ = false ∧ Hid ((∃ F', Rf (w3.setCell ⟨a, 0, none⟩ v3) a F' ms' ∧ Tch F w (w3.setCell ⟨a, 0, none⟩ v3) ∧ (∀ k ∈ F', k ∈ F ∨ W.heap.size ≤ k)) ∧ OutAt (w3.setCell ⟨a, 0, none⟩ v3) w1.heap.size 0 o ∧ (w3.setCell ⟨a, 0, none⟩ v3).heap[w.heap.size]? = some Z ∧ W.heap.size ≤ (w3.setCell ⟨a, 0, none⟩ v3).heap.size) := by
  subst hn hc
  have haw := hF a ha
  have B : Below W.heap.size W w3 := b2.grown g3 b2.size (fun k hk => (o2.lt k hk).1)
  have h := (B.block a (by omega)).trans h1
  have hs : ∀ k ∈ F, k < W.heap.size := fun k hk => by have := hF k hk; omega
  obtain ⟨F', r1, r2, r3⟩ := rf_close (F := F) (w := W) h (o3.base (Nat.zero_le _)) ha (fun g hg => .inr (o3.lt g hg).1) (Tch.of_below F B) hs
  have t : Tch F w (w3.setCell ⟨a, 0, none⟩ v3) := (Tch.of_below F hW).trans r2 (fun j hj => .inl hj)
  have nw : ∀ b, w.heap.size ≤ b → b ∉ F := fun b hb hm => by have := hF b hm; omega
  exact ⟨cell_of_heap (l := [tv]) h 0 _ rfl, froz_of_heap h 0, Lib.hid ⟨⟨F', r1, t, r3⟩, hbox.tch r2 (nw _ (by omega)), (r2.block _ (by omega) (nw _ (Nat.le_refl _))).trans hz, r2.size⟩⟩
def RsP (a : Nat) (F : List Nat) (o : Outc) (b : Bool) (ms' : Ms) (w : World) (e : Ending) (w' : World) : Prop :=
  ∃ F', e = .returned (.tuple #[ov o, .bool b]) ∧ Rf w' a F' ms' ∧ Tch F w w' ∧ ∀ k ∈ F', k ∈ F ∨ w.heap.size ≤ k
set_option maxRecDepth 100000 in
set_option maxHeartbeats 2000000 in
theorem rsettle_calls (a : Nat) (F : List Nat) (ms : Ms) (t : List UInt8) (w : World) (h : Rf w a F ms) (hn : (ms.map (·.1)).Nodup) (hb : ms.length ≤ 1000000) {o : Outc} {b : Bool} {ms' : Ms} (hs : settleM ms t = (o, b, ms')) :
    Calls Try.prog 33 #[.pointer (some ⟨a, 0, none⟩), .string ⟨t.toArray⟩] w (RsP a F o b ms' w) := by
  have HM := Lib.hid h
  have HS := Lib.hid hs
  have HND := Lib.hid hn
  have HLB := Lib.hid hb
  have hlt := h.lt
  obtain ⟨go, gb, hg⟩ : ∃ go gb, getM ms t = (go, gb) := ⟨_, _, rfl⟩
  have HG := Lib.hid hg
  have HFZ := Lib.hid (show ∀ w1, Below (w.heap.size + 1) (w.alloc (.cells #[.int .u8 0, .int .u64 0, .int .u64 0, .string ⟨#[]⟩] 33)) w1 → w1.heap[w.heap.size]? = some (.cells #[.int .u8 0, .int .u64 0, .int .u64 0, .string ⟨#[]⟩] 33 (0, 0)) from fun w1 hb => (hb.block _ (by omega)).trans (heap_alloc_new w _))
  clear h hs hn hb hg
  go_enter Try.func33, Try.ntmps33
  go_wp2_with fail
  refine (rget_calls a F ms t _ (HM.out.below (below_alloc w _))).mono ?_
  rintro e w1 ⟨rfl, b1⟩
  rw [HG.out]
  have hz := HFZ.out w1 (by simpa using b1)
  have B1 := Lib.hid (below_then (below_alloc w _) (by simp) b1)
  have hz1 : w.heap.size < w1.heap.size := heap_lt hz
  have HZ := Lib.hid hz
  rw [ov_is]
  clear b1 hz
  cases gb with
  | false =>
    have he : settleM ms t = (go, false, ms) := by
      have h := HG.out
      unfold getM at h
      unfold settleM
      cases hm : mat ms t with
      | none => rw [hm] at h; cases h; rfl
      | some q => rw [hm] at h; cases h
    rw [HS.out] at he
    cases he
    obtain ⟨⟨q0, q1, q2, q3⟩, q4⟩ := out_froz (o := oz) HZ.out
    simp only [oz, Nat.zero_add] at q0 q1 q2 q3
    go_wp2_with fail
    refine forgetX (fun W => OutAt W w.heap.size 0 o ∧ Below w.heap.size w W) ⟨?_, ?_⟩ ?_
    · exact ((show OutAt w1 w.heap.size 0 oz from (out_froz (o := oz) HZ.out).1).set4 o).below (below_alloc _ _)
    · have B := B1.out
      exact ((((B.setCell (Nat.le_refl _) _).setCell (Nat.le_refl _) _).setCell (Nat.le_refl _) _).setCell (Nat.le_refl _) _).alloc (by simp; omega) _
    rintro W3 ⟨hf, bw⟩
    exact bodyPost_ret (results_out rfl rfl rfl hf) rfl ⟨F, rfl, HM.out.below bw, Tch.of_below F bw, fun k hk => .inl hk⟩
  | true =>
    have hmt : mat ms t = some go := by
      have h := HG.out
      unfold getM at h
      cases hm : mat ms t with
      | none => rw [hm] at h; cases h
      | some q => rw [hm] at h; cases h; rfl
    have he : settleM ms t = (go, true, dropM ms t) := by unfold settleM; rw [hmt]
    rw [HS.out] at he
    cases he
    obtain ⟨k, hwk, hkk⟩ : ∃ k : Nat, whereT (ms.map (·.1)) t = k ∧ ms[k]? = some (t, o) := by
      rcases where_mat ms t with ⟨h, _⟩ | ⟨k, o', hm, hw, hk⟩
      · rw [hmt] at h; cases h
      · rw [hmt] at hm
        cases hm
        exact ⟨k, hw, hk⟩
    obtain ⟨hkl, hke⟩ := List.getElem?_eq_some_iff.1 hkk
    have HDA := Lib.hid (drop_at HND.out hkl (by rw [hke]))
    have HWK := Lib.hid hwk
    go_upto_region 4 with fail
    refine forget (fun W => Below w1.heap.size w1 W ∧ OutAt W w1.heap.size 0 o ∧ w1.heap.size < W.heap.size) ⟨below_alloc w1 _, OutAt.new w1 o _, by simp⟩ ?_
    rintro W ⟨bW, hoW, hsW⟩
    have BW := Lib.hid (below_then B1.out B1.out.size bW)
    have HOW := Lib.hid hoW
    have HZW := Lib.hid ((bW.block _ hz1).trans HZ.out)
    obtain ⟨A, c, h1, ho, hr, hc, hfz, hne⟩ := (HM.out.below BW.out).row
    obtain ⟨g, cp, hform, _, hgl, hgc⟩ := ho.form (by omega)
    cases hform
    have HR := Lib.hid hr
    have H1 := Lib.hid h1
    obtain ⟨N, hN⟩ : ∃ N, ms.length = N := ⟨_, rfl⟩
    have HNN := Lib.hid hN
    have hb' := HLB.out
    rw [hN] at hc HR H1 hb' hkl hgc
    obtain ⟨oo, hoo, hsl2⟩ := marks_from g N c (k + 1) (by omega) hgc
    have hsl1 := marks_to g N c k (by omega)
    have HOO := Lib.hid hoo
    have hmx := HR.out.2.2.1
    have hltW : a < W.heap.size := by have := BW.out.size; omega
    obtain ⟨i0, hi, hz0, hz1', hz2'⟩ := info_parts Try.info_mark
    have hk1 : ((k : Int) + 1) = ((k + 1 : Nat) : Int) := by omega
    clear h1 ho hr hfz hne bW hoW hoo hwk hkk hke hN hmt
    go_wp2_with fail
    refine (at_any (some ⟨g, 0, none⟩) N c ms t k _ HR.out HWK.out).mono ?_
    rintro e w2 ⟨rfl, rfl⟩
    go_wp2_with (at_builtin; refine wpList_appC _ rfl _ _ _ rfl W.heap.size i0 _ 56 Try.underlying39 hi hz0 hz1' hz2' rfl (by decide) (fun _ _ => trivial) (.slice (some ⟨W.heap.size, 0, none⟩) 0 0) 0 [] rfl (OwnC.box0 rfl (Nat.le_refl _)) (some ⟨g, 0, none⟩) k c (mcs (ms.take k)) rfl (rdc_to (HR.out.below (below_alloc _ _)) k (by omega)) (by omega) (by omega) (by simp) ?_)
    intro v2 w2 o2 g2 _ y2
    obtain ⟨O2, B2, hsz2, hca, hfa⟩ := rs_app1 H1.out hltW o2 g2 (below_alloc _ _)
    obtain ⟨A2, c2, rfl⟩ := o2.slice
    have R2 := Lib.hid (rdc_from (HR.out.below B2.out) (k + 1) (by omega) HOO.out)
    clear o2 g2 y2 hk1
    have hk1 : ((k : Int) + 1) = ((k + 1 : Nat) : Int) := by omega
    have hk9 : (k : Int) < N := by omega
    clear hk1
    go_upto_region 6 with fail
    rw [show ((k + 1 : Nat) : Int) = (k : Int) + 1 from by omega] at hsl2
    go_wp2_with (at_builtin; refine wpList_appC _ rfl (.tmp 34) (.tmp 41) 39 rfl W.heap.size i0 _ 56 Try.underlying39 hi hz0 hz1' hz2' rfl (by decide) (fun _ _ => trivial) (.slice A2 k c2) k (mcs (ms.take k)) rfl ?_ (some ⟨g, oo, none⟩) (N - (k + 1)) (c - (k + 1)) (mcs (ms.drop (k + 1))) rfl R2.out (by omega) (by omega) (by omega) ?_; (· exact O2.out))
    intro v3 w3 o3 g3 _ y3
    obtain ⟨hca3, hfa3, HP3⟩ := rs_app2 (w := w) (w1 := w1) (F := F) (ms' := dropM ms t) (o := o) H1.out HM.out.mem HM.out.lts O2.out B2.out g3 o3 (by have := congrArg List.length HDA.out; have hNN := HNN.out; rw [this, List.length_append, List.length_take, List.length_drop]; omega) (by rw [HDA.out, mcs, mcs, mcs, List.flatMap_append]) BW.out HOW.out hz1 hsW HZW.out
    obtain ⟨A3, c3, rfl⟩ := o3.slice
    clear o3 g3 y3
    go_upto_region 7 with fail
    refine forget (fun W' => (∃ F', Rf W' a F' (dropM ms t) ∧ Tch F w W' ∧ (∀ k ∈ F', k ∈ F ∨ W.heap.size ≤ k)) ∧ OutAt W' w1.heap.size 0 o ∧ W'.heap[w.heap.size]? = some (.cells #[.int .u8 0, .int .u64 0, .int .u64 0, .string ⟨#[]⟩] 33 (0, 0)) ∧ W.heap.size ≤ W'.heap.size) HP3.out ?_
    rintro W4 ⟨⟨F', r1, r2, r3⟩, hb4, hz4, hs4⟩
    have R1 := Lib.hid r1
    have R2' := Lib.hid r2
    have R3 := Lib.hid r3
    have HZ4 := Lib.hid hz4
    have hc4 := hb4
    clear r1 r2 r3 hz4
    obtain ⟨⟨q0, q1, q2, q3⟩, q4⟩ := out_froz (o := oz) HZ4.out
    simp only [oz, Nat.zero_add] at q0 q1 q2 q3
    obtain ⟨p0, p1, p2, p3⟩ := hb4
    simp only [Nat.zero_add] at p0 p1 p2 p3
    go_wp2_with fail
    refine forgetX (fun W' => OutAt W' w.heap.size 0 o ∧ Tch [w.heap.size] W4 W') ⟨?_, ?_⟩ ?_
    · exact (show OutAt W4 w.heap.size 0 oz from (out_froz (o := oz) HZ4.out).1).set4 o
    · exact ((((Tch.refl _ _).setCell _ (by simp)).setCell _ (by simp)).setCell _ (by simp)).setCell _ (by simp)
    rintro W5 ⟨hf, t5⟩
    have hws : w.heap.size < W.heap.size := by omega
    exact bodyPost_ret (results_out rfl rfl rfl hf) rfl ⟨F', rfl, R1.out.tch t5 (fun k hk hm => by
      simp at hm
      rcases R3.out k hk with h | h
      · have := HM.out.lts k h; omega
      · omega), R2'.out.trans t5 (fun j hj => .inr (by simp at hj; omega)), fun k hk => (R3.out k hk).imp id (fun h => by omega)⟩
end Go.Proofs.Ytgmoodcojpbbdaa

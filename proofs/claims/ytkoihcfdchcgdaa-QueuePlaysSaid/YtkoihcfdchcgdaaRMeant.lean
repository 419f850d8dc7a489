import Derived.Test.YtkoihcfdchcgdaaRExp
import Derived.Test.YtkoihcfdchcgdaaRAcq
import Derived.Test.YtkoihcfdchcgdaaQStep
set_option linter.unusedVariables false
set_option linter.unusedSimpArgs false
namespace Go.Proofs.Ytkoihcfdchcgdaa
open Go.RowKit Go.Shelf

/-- The document's queue goes on: it owns new blocks too. -/
def RqN (w w' : World) (Z : List Nat) (r room limit last : Nat) (L : List En) : Prop := ∃ N, (∀ k ∈ N, w.heap.size ≤ k ∧ k < w'.heap.size) ∧ Rq w' (N ++ Z) r room limit last L ∧ RStep Z w w'
theorem RqN.of_below {w w' : World} {Z : List Nat} {r room limit last : Nat} {L : List En} (h : Rq w Z r room limit last L) (hz : ∀ k ∈ Z, k < w.heap.size) (hb : Below w.heap.size w w') : RqN w w' Z r room limit last L := ⟨[], by simp, h.below hz hb, .of_below hb⟩
theorem RqN.end_ {w w0 w5 W : World} {Z F : List Nat} {r room limit last : Nat} {L : List En} (h : RqN w0 w5 Z r room limit last L) (hz : ∀ k ∈ Z, k < w.heap.size) (hb : Below w.heap.size w w0) (t : Tch F w5 W) (hF : ∀ k ∈ F, w.heap.size ≤ k ∧ k < w0.heap.size) : RqN w W Z r room limit last L := by
  obtain ⟨N, h1, h2, h3⟩ := h
  refine ⟨N, fun k hk => ⟨Nat.le_trans hb.size (h1 k hk).1, Nat.lt_of_lt_of_le (h1 k hk).2 t.size⟩, h2.keep fun k hk => ?_, ((RStep.of_below hb).trans h3 fun k hk => .inl hk).then_new t fun k hk => (hF k hk).1⟩
  rcases List.mem_append.1 hk with hk | hk
  · exact t.block k (h1 k hk).2 fun hm => by have := (hF k hm).2; have := (h1 k hk).1; omega
  · exact t.block k (by have := hz k hk; have := hb.size; have := h3.tch.size; omega) fun hm => by have := (hF k hm).1; have := hz k hk; omega

set_option maxRecDepth 100000 in
set_option maxHeartbeats 4000000 in
theorem meant_put {w : World} {Z : List Nat} {r room limit last last' : Nat} {L L' : List En} (h : Rq w Z r room limit last L) (hz : ∀ k ∈ Z, k < w.heap.size) (d : OpD) (hk : OkD w d) (h0 : d.x.kind = 0) (N : Int) (E : Nat)
    (hp : ∀ W A c, (∀ k ∈ Z, k < W.heap.size) → Rq W Z r room limit last L → Rd W A c d.x.m.body → Calls Try.prog 32 #[.pointer (some ⟨r, 0, none⟩), mgv d.x.m (.slice A d.x.m.body.length c), .int .i64 d.x.now] W fun x w' => x = .returned (.tuple #[.int .i64 N, .int .i64 E]) ∧ RqN W w' Z r room limit last' L') :
    Calls Try.prog 19 #[.pointer (some ⟨r, 0, none⟩), .agg (opd d).toArray] w fun x w' => x = .returned (.agg (tdc N (.slice none 0 0) false E).toArray) ∧ RqN w w' Z r room limit last' L' := by
  have H := Lib.hid h
  have HZ := Lib.hid hz
  have HK := Lib.hid hk
  have HP := Lib.hid hp
  clear h hz hk hp
  obtain ⟨x, A, c⟩ := d
  obtain ⟨K, hK⟩ : ∃ K, x.kind = K := ⟨_, rfl⟩
  have hK0 : K = 0 := by rw [← hK]; exact h0
  clear h0
  obtain ⟨n, hn⟩ : ∃ n, x.m.body.length = n := ⟨_, rfl⟩
  unfold opd opc str
  simp only [] at HP
  rw [hn, hK]
  have HN := Lib.hid hn
  clear hn hK
  subst hK0
  obtain ⟨g, hg⟩ : ∃ g, w.heap.size = g := ⟨_, rfl⟩
  have hb3 : Below w.heap.size w (((w.alloc (.cells #[.int .i64 0, .int .i64 x.id, .int .u8 x.m.pr, .int .u32 x.m.ttl, .int .u32 x.m.cnt, .string ⟨x.m.ids.toArray⟩, .slice A n c, .int .u8 x.o.k, .int .u64 x.o.a, .int .u64 x.o.b, .string ⟨x.o.c.toArray⟩, .int .i64 x.now] 57)).alloc (.cells (tdc 0 (.slice none 0 0) false 0).toArray 54)).alloc (.cells (tdc 0 (.slice none 0 0) false 0).toArray 54)) := ((below_alloc w _).alloc (by simp) _).alloc (by simp; omega) _
  obtain ⟨W0, hW0⟩ : ∃ W0, (((w.alloc (.cells #[.int .i64 0, .int .i64 x.id, .int .u8 x.m.pr, .int .u32 x.m.ttl, .int .u32 x.m.cnt, .string ⟨x.m.ids.toArray⟩, .slice A n c, .int .u8 x.o.k, .int .u64 x.o.a, .int .u64 x.o.b, .string ⟨x.o.c.toArray⟩, .int .i64 x.now] 57)).alloc (.cells (tdc 0 (.slice none 0 0) false 0).toArray 54)).alloc (.cells (tdc 0 (.slice none 0 0) false 0).toArray 54)) = W0 := ⟨_, rfl⟩
  have hk1 : Bx W0 (g + 1) 54 (tdc 0 (.slice none 0 0) false 0) := by rw [← hW0, ← hg]; exact (Bx.new' (w.alloc _) (b := w.heap.size + 1) 54 (tdc 0 (.slice none 0 0) false 0) (by simp)).alloc _
  have hk2 : Bx W0 (g + 1 + 1) 54 (tdc 0 (.slice none 0 0) false 0) := by rw [← hW0, ← hg]; exact Bx.new' ((w.alloc _).alloc _) (b := w.heap.size + 1 + 1) 54 (tdc 0 (.slice none 0 0) false 0) (by simp)
  have hs0 : W0.heap.size = g + 1 + 1 + 1 := by rw [← hW0, ← hg]; simp
  have HW0 := Lib.hid hW0
  rw [hW0] at hb3
  have hp := HP.out W0 A c (fun k hk => Nat.lt_of_lt_of_le (HZ.out k hk) hb3.size) (H.out.below HZ.out hb3) (HK.out.rd.below hb3)
  have HB3 := Lib.hid hb3
  have HK1 := Lib.hid hk1
  have HK2 := Lib.hid hk2
  have HG := Lib.hid hg
  have HS0 := Lib.hid hs0
  have HPP := Lib.hid hp
  clear hb3 hW0 hk1 hk2 hg hs0 HP hp
  go_enter Try.func19, Try.ntmps19
  go_wp2_with fail
  refine Calls.mono (by have hh := HPP.out; rw [← HW0.out] at hh; rw [mgv_eq, HN.out] at hh; exact hh) ?_
  rintro y w5 ⟨rfl, hq⟩
  rw [HW0.out] at hq
  obtain ⟨N5, hN5, R5, S5⟩ := hq
  have HRQ := Lib.hid (show RqN W0 w5 Z r room limit last' L' from ⟨N5, hN5, R5, S5⟩)
  have k1 := HK1.out.tch S5.tch fun hm => by have := HZ.out _ hm; have := HG.out; omega
  have k2 := HK2.out.tch S5.tch fun hm => by have := HZ.out _ hm; have := HG.out; omega
  have hs5 : W0.heap.size ≤ w5.heap.size := S5.tch.size
  rw [HS0.out] at hs5
  have hl1 : g + 1 < w5.heap.size := by omega
  have hl2 : g + 1 + 1 < w5.heap.size := by omega
  have hl3 : g + 1 < w5.heap.size + 1 := by omega
  have hl4 : g + 1 + 1 < w5.heap.size + 1 := by omega
  rw [HG.out]
  have q0 := k2.cell 0 _ rfl
  have q1 := k2.cell 1 _ rfl
  have q2 := k2.cell 2 _ rfl
  have q3 := k2.cell 3 _ rfl
  have p0 := k2.froz 0
  have p1 := k2.froz 1
  have p2 := k2.froz 2
  have p3 := k2.froz 3
  have r0 := k1.cell 0 _ rfl
  have r1 := k1.cell 1 _ rfl
  have r2 := k1.cell 2 _ rfl
  have r3 := k1.cell 3 _ rfl
  have s0 := k1.froz 0
  have s1 := k1.froz 1
  have s2 := k1.froz 2
  have s3 := k1.froz 3
  have E1 := Lib.hid k1
  have E2 := Lib.hid k2
  clear k1 k2 hN5 R5 S5
  go_wp2_with fail
  refine forgetX (fun W => Bx W (g + 1) 54 (tdc N (.slice none 0 0) false E) ∧ Tch [g + 1 + 1, g + 1] w5 W) ⟨?_, ?_⟩ ?_
  · have hne : g + 1 ≠ g + 1 + 1 := by omega
    with_reducible refine Bx.to ((((((E1.out.off hne).off hne).set 0 _).set 1 _).set 2 _).set 3 _) ?_
    rfl
  · with_reducible repeat first | exact Tch.refl _ _ | refine Tch.setCell ?_ _ (.inl (by simp))
  rintro W ⟨kb, tb⟩
  exact bodyPost_ret (results_c rfl rfl (kb.loadAgg (by kernel_rfl) (by kernel_rfl))) rfl ⟨rfl, HRQ.out.end_ HZ.out HB3.out tb fun k hk => by have h1 := HG.out; have h2 := HS0.out; simp at hk; omega⟩

set_option maxRecDepth 100000 in
set_option maxHeartbeats 4000000 in
theorem meant_acq {w : World} {Z : List Nat} {r room limit last last' : Nat} {L L' : List En} (h : Rq w Z r room limit last L) (hz : ∀ k ∈ Z, k < w.heap.size) (d : OpD) (hk : OkD w d) (h0 : d.x.kind = 1) (e : En) (is : Bool)
    (hp : ∀ W, (∀ k ∈ Z, k < W.heap.size) → Rq W Z r room limit last L → Calls Try.prog 33 #[.pointer (some ⟨r, 0, none⟩), .int .i64 d.x.now] W fun x w' => ∃ v, x = .returned (.tuple #[.agg (ecs e v).toArray, .bool is]) ∧ Bdv w' v e.m.body ∧ RqN W w' Z r room limit last' L') :
    Calls Try.prog 19 #[.pointer (some ⟨r, 0, none⟩), .agg (opd d).toArray] w fun x w' => (∃ sv v, x = .returned (.agg (tdc e.id sv is 0).toArray) ∧ Msl w' w.heap.size sv [(e.m, v)]) ∧ RqN w w' Z r room limit last' L' := by
  have H := Lib.hid h
  have HZ := Lib.hid hz
  have HK := Lib.hid hk
  have HP := Lib.hid hp
  clear h hz hk hp
  obtain ⟨x, A, c⟩ := d
  obtain ⟨K, hK⟩ : ∃ K, x.kind = K := ⟨_, rfl⟩
  have hK0 : K = 1 := by rw [← hK]; exact h0
  clear h0
  obtain ⟨n, hn⟩ : ∃ n, x.m.body.length = n := ⟨_, rfl⟩
  unfold opd opc str
  simp only [] at HP
  rw [hn, hK]
  have HN := Lib.hid hn
  clear hn hK
  subst hK0
  obtain ⟨g, hg⟩ : ∃ g, w.heap.size = g := ⟨_, rfl⟩
  have hb3 : Below w.heap.size w (((w.alloc (.cells #[.int .i64 1, .int .i64 x.id, .int .u8 x.m.pr, .int .u32 x.m.ttl, .int .u32 x.m.cnt, .string ⟨x.m.ids.toArray⟩, .slice A n c, .int .u8 x.o.k, .int .u64 x.o.a, .int .u64 x.o.b, .string ⟨x.o.c.toArray⟩, .int .i64 x.now] 57)).alloc (.cells (tdc 0 (.slice none 0 0) false 0).toArray 54)).alloc (.cells (tdc 0 (.slice none 0 0) false 0).toArray 54)) := ((below_alloc w _).alloc (by simp) _).alloc (by simp; omega) _
  obtain ⟨W0, hW0⟩ : ∃ W0, (((w.alloc (.cells #[.int .i64 1, .int .i64 x.id, .int .u8 x.m.pr, .int .u32 x.m.ttl, .int .u32 x.m.cnt, .string ⟨x.m.ids.toArray⟩, .slice A n c, .int .u8 x.o.k, .int .u64 x.o.a, .int .u64 x.o.b, .string ⟨x.o.c.toArray⟩, .int .i64 x.now] 57)).alloc (.cells (tdc 0 (.slice none 0 0) false 0).toArray 54)).alloc (.cells (tdc 0 (.slice none 0 0) false 0).toArray 54)) = W0 := ⟨_, rfl⟩
  have hk1 : Bx W0 (g + 1) 54 (tdc 0 (.slice none 0 0) false 0) := by rw [← hW0, ← hg]; exact (Bx.new' (w.alloc _) (b := w.heap.size + 1) 54 (tdc 0 (.slice none 0 0) false 0) (by simp)).alloc _
  have hk2 : Bx W0 (g + 1 + 1) 54 (tdc 0 (.slice none 0 0) false 0) := by rw [← hW0, ← hg]; exact Bx.new' ((w.alloc _).alloc _) (b := w.heap.size + 1 + 1) 54 (tdc 0 (.slice none 0 0) false 0) (by simp)
  have hs0 : W0.heap.size = g + 1 + 1 + 1 := by rw [← hW0, ← hg]; simp
  have HW0 := Lib.hid hW0
  rw [hW0] at hb3
  have hp := HP.out W0 (fun k hk => Nat.lt_of_lt_of_le (HZ.out k hk) hb3.size) (H.out.below HZ.out hb3)
  have HB3 := Lib.hid hb3
  have HK1 := Lib.hid hk1
  have HK2 := Lib.hid hk2
  have HG := Lib.hid hg
  have HS0 := Lib.hid hs0
  have HPP := Lib.hid hp
  clear hb3 hW0 hk1 hk2 hg hs0 HP hp
  go_enter Try.func19, Try.ntmps19
  go_wp2_with fail
  refine Calls.mono (by have hh := HPP.out; rw [← HW0.out] at hh; exact hh) ?_
  rintro y w5 ⟨v, rfl, hbd, hq⟩
  obtain ⟨A5, c5, rfl, hbd2⟩ := hbd
  have HBD := Lib.hid (show Bdv w5 (.slice A5 e.m.body.length c5) e.m.body from ⟨A5, c5, rfl, hbd2⟩)
  clear hbd2
  obtain ⟨n5, hn5⟩ : ∃ n5, e.m.body.length = n5 := ⟨_, rfl⟩
  rw [hn5] at HBD ⊢
  have HN5 := Lib.hid hn5
  clear hn5
  unfold ecs str
  rw [HW0.out] at hq
  obtain ⟨N5, hN5, R5, S5⟩ := hq
  have HRQ := Lib.hid (show RqN W0 w5 Z r room limit last' L' from ⟨N5, hN5, R5, S5⟩)
  have k1 := HK1.out.tch S5.tch fun hm => by have := HZ.out _ hm; have := HG.out; omega
  have k2 := HK2.out.tch S5.tch fun hm => by have := HZ.out _ hm; have := HG.out; omega
  have hs5 : W0.heap.size ≤ w5.heap.size := S5.tch.size
  rw [HS0.out] at hs5
  have hl1 : g + 1 < w5.heap.size := by omega
  have hl2 : g + 1 + 1 < w5.heap.size := by omega
  have hl3 : g + 1 < w5.heap.size + 1 := by omega
  have hl4 : g + 1 + 1 < w5.heap.size + 1 := by omega
  rw [HG.out]
  have q0 := k2.cell 0 _ rfl
  have q1 := k2.cell 1 _ rfl
  have q2 := k2.cell 2 _ rfl
  have q3 := k2.cell 3 _ rfl
  have p0 := k2.froz 0
  have p1 := k2.froz 1
  have p2 := k2.froz 2
  have p3 := k2.froz 3
  have r0 := k1.cell 0 _ rfl
  have r1 := k1.cell 1 _ rfl
  have r2 := k1.cell 2 _ rfl
  have r3 := k1.cell 3 _ rfl
  have s0 := k1.froz 0
  have s1 := k1.froz 1
  have s2 := k1.froz 2
  have s3 := k1.froz 3
  have E1 := Lib.hid k1
  have E2 := Lib.hid k2
  clear k1 k2 hN5 R5 S5
  go_wp2_with fail
  refine forgetX (fun W => Bx W (g + 1) 54 (tdc e.id (.slice (some ⟨w5.heap.size + 1, 0, none⟩) 1 1) is 0) ∧ Bx W (w5.heap.size + 1) 32 [.int .u8 e.m.pr, .int .u32 e.m.ttl, .int .u32 e.m.cnt, .string ⟨e.m.ids.toArray⟩, .slice A5 n5 c5] ∧ Tch [g + 1 + 1, g + 1] w5 W) ⟨?_, ?_, ?_⟩ ?_
  · have hne : g + 1 ≠ g + 1 + 1 := by omega
    refine Bx.alloc (Bx.alloc ?_ _) _
    with_reducible refine Bx.to ((((((((E1.out.off hne).off hne).off hne).off hne).set 0 _).set 1 _).set 2 _).set 3 _) ?_
    rfl
  · exact Bx.new' _ 32 _ (by simp [World.setCell])
  · refine Tch.alloc (Tch.alloc ?_ _) _
    with_reducible repeat first | exact Tch.refl _ _ | refine Tch.setCell ?_ _ (.inl (by simp))
  rintro W ⟨kb, km, tb⟩
  have hb := HBD.out.tch tb fun k hk => (by
    simp only [List.mem_cons, List.not_mem_nil, or_false] at hk
    rcases hk with rfl | rfl
    · exact ⟨_, E2.out, by simp⟩
    · exact ⟨_, E1.out, by simp⟩)
  exact bodyPost_ret (results_c rfl rfl (kb.loadAgg (by kernel_rfl) (by kernel_rfl))) rfl ⟨⟨_, _, rfl, msl_one km (by have := HG.out; omega) hb⟩, HRQ.out.end_ HZ.out HB3.out tb fun k hk => by have h1 := HG.out; have h2 := HS0.out; simp at hk; omega⟩

set_option maxRecDepth 100000 in
set_option maxHeartbeats 4000000 in
theorem meant_set {w : World} {Z : List Nat} {r room limit last last' : Nat} {L L' : List En} (h : Rq w Z r room limit last L) (hz : ∀ k ∈ Z, k < w.heap.size) (d : OpD) (hk : OkD w d) (h0 : d.x.kind = 2) (M : Mg) (is : Bool) (E : Nat)
    (hp : ∀ W, (∀ k ∈ Z, k < W.heap.size) → Rq W Z r room limit last L → Calls Try.prog 34 #[.pointer (some ⟨r, 0, none⟩), .int .i64 d.x.id, .agg (occ d.x.o).toArray] W fun x w' => ∃ v, x = .returned (.tuple #[mgv M v, .bool is, .int .i64 E]) ∧ Bdv w' v M.body ∧ RqN W w' Z r room limit last' L') :
    Calls Try.prog 19 #[.pointer (some ⟨r, 0, none⟩), .agg (opd d).toArray] w fun x w' => (∃ sv v, x = .returned (.agg (tdc 0 sv is E).toArray) ∧ Msl w' w.heap.size sv [(M, v)]) ∧ RqN w w' Z r room limit last' L' := by
  have H := Lib.hid h
  have HZ := Lib.hid hz
  have HK := Lib.hid hk
  have HP := Lib.hid hp
  clear h hz hk hp
  obtain ⟨x, A, c⟩ := d
  obtain ⟨K, hK⟩ : ∃ K, x.kind = K := ⟨_, rfl⟩
  have hK0 : K = 2 := by rw [← hK]; exact h0
  clear h0
  obtain ⟨n, hn⟩ : ∃ n, x.m.body.length = n := ⟨_, rfl⟩
  unfold opd opc str
  simp only [] at HP
  rw [hn, hK]
  have HN := Lib.hid hn
  clear hn hK
  subst hK0
  obtain ⟨g, hg⟩ : ∃ g, w.heap.size = g := ⟨_, rfl⟩
  have hb3 : Below w.heap.size w (((w.alloc (.cells #[.int .i64 2, .int .i64 x.id, .int .u8 x.m.pr, .int .u32 x.m.ttl, .int .u32 x.m.cnt, .string ⟨x.m.ids.toArray⟩, .slice A n c, .int .u8 x.o.k, .int .u64 x.o.a, .int .u64 x.o.b, .string ⟨x.o.c.toArray⟩, .int .i64 x.now] 57)).alloc (.cells (tdc 0 (.slice none 0 0) false 0).toArray 54)).alloc (.cells (tdc 0 (.slice none 0 0) false 0).toArray 54)) := ((below_alloc w _).alloc (by simp) _).alloc (by simp; omega) _
  obtain ⟨W0, hW0⟩ : ∃ W0, (((w.alloc (.cells #[.int .i64 2, .int .i64 x.id, .int .u8 x.m.pr, .int .u32 x.m.ttl, .int .u32 x.m.cnt, .string ⟨x.m.ids.toArray⟩, .slice A n c, .int .u8 x.o.k, .int .u64 x.o.a, .int .u64 x.o.b, .string ⟨x.o.c.toArray⟩, .int .i64 x.now] 57)).alloc (.cells (tdc 0 (.slice none 0 0) false 0).toArray 54)).alloc (.cells (tdc 0 (.slice none 0 0) false 0).toArray 54)) = W0 := ⟨_, rfl⟩
  have hk1 : Bx W0 (g + 1) 54 (tdc 0 (.slice none 0 0) false 0) := by rw [← hW0, ← hg]; exact (Bx.new' (w.alloc _) (b := w.heap.size + 1) 54 (tdc 0 (.slice none 0 0) false 0) (by simp)).alloc _
  have hk2 : Bx W0 (g + 1 + 1) 54 (tdc 0 (.slice none 0 0) false 0) := by rw [← hW0, ← hg]; exact Bx.new' ((w.alloc _).alloc _) (b := w.heap.size + 1 + 1) 54 (tdc 0 (.slice none 0 0) false 0) (by simp)
  have hs0 : W0.heap.size = g + 1 + 1 + 1 := by rw [← hW0, ← hg]; simp
  have HW0 := Lib.hid hW0
  rw [hW0] at hb3
  have hp := HP.out W0 (fun k hk => Nat.lt_of_lt_of_le (HZ.out k hk) hb3.size) (H.out.below HZ.out hb3)
  have HB3 := Lib.hid hb3
  have HK1 := Lib.hid hk1
  have HK2 := Lib.hid hk2
  have HG := Lib.hid hg
  have HS0 := Lib.hid hs0
  have HPP := Lib.hid hp
  clear hb3 hW0 hk1 hk2 hg hs0 HP hp
  go_enter Try.func19, Try.ntmps19
  go_wp2_with fail
  refine Calls.mono (by have hh := HPP.out; rw [← HW0.out] at hh; unfold occ str at hh; exact hh) ?_
  rintro y w5 ⟨v, rfl, hbd, hq⟩
  obtain ⟨A5, c5, rfl, hbd2⟩ := hbd
  have HBD := Lib.hid (show Bdv w5 (.slice A5 M.body.length c5) M.body from ⟨A5, c5, rfl, hbd2⟩)
  clear hbd2
  obtain ⟨n5, hn5⟩ : ∃ n5, M.body.length = n5 := ⟨_, rfl⟩
  rw [hn5] at HBD ⊢
  have HN5 := Lib.hid hn5
  clear hn5
  rw [mgv_eq]
  rw [HW0.out] at hq
  obtain ⟨N5, hN5, R5, S5⟩ := hq
  have HRQ := Lib.hid (show RqN W0 w5 Z r room limit last' L' from ⟨N5, hN5, R5, S5⟩)
  have k1 := HK1.out.tch S5.tch fun hm => by have := HZ.out _ hm; have := HG.out; omega
  have k2 := HK2.out.tch S5.tch fun hm => by have := HZ.out _ hm; have := HG.out; omega
  have hs5 : W0.heap.size ≤ w5.heap.size := S5.tch.size
  rw [HS0.out] at hs5
  have hl1 : g + 1 < w5.heap.size := by omega
  have hl2 : g + 1 + 1 < w5.heap.size := by omega
  have hl3 : g + 1 < w5.heap.size + 1 := by omega
  have hl4 : g + 1 + 1 < w5.heap.size + 1 := by omega
  rw [HG.out]
  have q0 := k2.cell 0 _ rfl
  have q1 := k2.cell 1 _ rfl
  have q2 := k2.cell 2 _ rfl
  have q3 := k2.cell 3 _ rfl
  have p0 := k2.froz 0
  have p1 := k2.froz 1
  have p2 := k2.froz 2
  have p3 := k2.froz 3
  have r0 := k1.cell 0 _ rfl
  have r1 := k1.cell 1 _ rfl
  have r2 := k1.cell 2 _ rfl
  have r3 := k1.cell 3 _ rfl
  have s0 := k1.froz 0
  have s1 := k1.froz 1
  have s2 := k1.froz 2
  have s3 := k1.froz 3
  have E1 := Lib.hid k1
  have E2 := Lib.hid k2
  clear k1 k2 hN5 R5 S5
  go_wp2_with fail
  refine forgetX (fun W => Bx W (g + 1) 54 (tdc 0 (.slice (some ⟨w5.heap.size + 1, 0, none⟩) 1 1) is E) ∧ Bx W (w5.heap.size + 1) 32 [.int .u8 M.pr, .int .u32 M.ttl, .int .u32 M.cnt, .string ⟨M.ids.toArray⟩, .slice A5 n5 c5] ∧ Tch [g + 1 + 1, g + 1] w5 W) ⟨?_, ?_, ?_⟩ ?_
  · have hne : g + 1 ≠ g + 1 + 1 := by omega
    refine Bx.alloc (Bx.alloc ?_ _) _
    with_reducible refine Bx.to ((((((((E1.out.off hne).off hne).off hne).off hne).set 0 _).set 1 _).set 2 _).set 3 _) ?_
    rfl
  · exact Bx.new' _ 32 _ (by simp [World.setCell])
  · refine Tch.alloc (Tch.alloc ?_ _) _
    with_reducible repeat first | exact Tch.refl _ _ | refine Tch.setCell ?_ _ (.inl (by simp))
  rintro W ⟨kb, km, tb⟩
  have hb := HBD.out.tch tb fun k hk => (by
    simp only [List.mem_cons, List.not_mem_nil, or_false] at hk
    rcases hk with rfl | rfl
    · exact ⟨_, E2.out, by simp⟩
    · exact ⟨_, E1.out, by simp⟩)
  exact bodyPost_ret (results_c rfl rfl (kb.loadAgg (by kernel_rfl) (by kernel_rfl))) rfl ⟨⟨_, _, rfl, msl_one km (by have := HG.out; omega) hb⟩, HRQ.out.end_ HZ.out HB3.out tb fun k hk => by have h1 := HG.out; have h2 := HS0.out; simp at hk; omega⟩

set_option maxRecDepth 100000 in
set_option maxHeartbeats 4000000 in
theorem meant_exp {w : World} {Z : List Nat} {r room limit last last' : Nat} {L L' : List En} (h : Rq w Z r room limit last L) (hz : ∀ k ∈ Z, k < w.heap.size) (d : OpD) (hk : OkD w d) (h0 : d.x.kind = 3) (l : List Mg)
    (hp : ∀ W, (∀ k ∈ Z, k < W.heap.size) → Rq W Z r room limit last L → Calls Try.prog 35 #[.pointer (some ⟨r, 0, none⟩), .int .i64 d.x.now] W fun x w' => ∃ v ms, x = .returned v ∧ ms.map (·.1) = l ∧ Msl w' W.heap.size v ms ∧ RqN W w' Z r room limit last' L') :
    Calls Try.prog 19 #[.pointer (some ⟨r, 0, none⟩), .agg (opd d).toArray] w fun x w' => (∃ sv ms, x = .returned (.agg (tdc 0 sv false 0).toArray) ∧ ms.map (·.1) = l ∧ Msl w' w.heap.size sv ms) ∧ RqN w w' Z r room limit last' L' := by
  have H := Lib.hid h
  have HZ := Lib.hid hz
  have HK := Lib.hid hk
  have HP := Lib.hid hp
  clear h hz hk hp
  obtain ⟨x, A, c⟩ := d
  obtain ⟨K, hK⟩ : ∃ K, x.kind = K := ⟨_, rfl⟩
  have hK0 : K = 3 := by rw [← hK]; exact h0
  clear h0
  obtain ⟨n, hn⟩ : ∃ n, x.m.body.length = n := ⟨_, rfl⟩
  unfold opd opc str
  simp only [] at HP
  rw [hn, hK]
  have HN := Lib.hid hn
  clear hn hK
  subst hK0
  obtain ⟨g, hg⟩ : ∃ g, w.heap.size = g := ⟨_, rfl⟩
  have hb3 : Below w.heap.size w (((w.alloc (.cells #[.int .i64 3, .int .i64 x.id, .int .u8 x.m.pr, .int .u32 x.m.ttl, .int .u32 x.m.cnt, .string ⟨x.m.ids.toArray⟩, .slice A n c, .int .u8 x.o.k, .int .u64 x.o.a, .int .u64 x.o.b, .string ⟨x.o.c.toArray⟩, .int .i64 x.now] 57)).alloc (.cells (tdc 0 (.slice none 0 0) false 0).toArray 54)).alloc (.cells (tdc 0 (.slice none 0 0) false 0).toArray 54)) := ((below_alloc w _).alloc (by simp) _).alloc (by simp; omega) _
  obtain ⟨W0, hW0⟩ : ∃ W0, (((w.alloc (.cells #[.int .i64 3, .int .i64 x.id, .int .u8 x.m.pr, .int .u32 x.m.ttl, .int .u32 x.m.cnt, .string ⟨x.m.ids.toArray⟩, .slice A n c, .int .u8 x.o.k, .int .u64 x.o.a, .int .u64 x.o.b, .string ⟨x.o.c.toArray⟩, .int .i64 x.now] 57)).alloc (.cells (tdc 0 (.slice none 0 0) false 0).toArray 54)).alloc (.cells (tdc 0 (.slice none 0 0) false 0).toArray 54)) = W0 := ⟨_, rfl⟩
  have hk1 : Bx W0 (g + 1) 54 (tdc 0 (.slice none 0 0) false 0) := by rw [← hW0, ← hg]; exact (Bx.new' (w.alloc _) (b := w.heap.size + 1) 54 (tdc 0 (.slice none 0 0) false 0) (by simp)).alloc _
  have hk2 : Bx W0 (g + 1 + 1) 54 (tdc 0 (.slice none 0 0) false 0) := by rw [← hW0, ← hg]; exact Bx.new' ((w.alloc _).alloc _) (b := w.heap.size + 1 + 1) 54 (tdc 0 (.slice none 0 0) false 0) (by simp)
  have hs0 : W0.heap.size = g + 1 + 1 + 1 := by rw [← hW0, ← hg]; simp
  have HW0 := Lib.hid hW0
  rw [hW0] at hb3
  have hp := HP.out W0 (fun k hk => Nat.lt_of_lt_of_le (HZ.out k hk) hb3.size) (H.out.below HZ.out hb3)
  have HB3 := Lib.hid hb3
  have HK1 := Lib.hid hk1
  have HK2 := Lib.hid hk2
  have HG := Lib.hid hg
  have HS0 := Lib.hid hs0
  have HPP := Lib.hid hp
  clear hb3 hW0 hk1 hk2 hg hs0 HP hp
  go_enter Try.func19, Try.ntmps19
  go_wp2_with fail
  refine Calls.mono (by have hh := HPP.out; rw [← HW0.out] at hh; exact hh) ?_
  rintro y w5 ⟨v, ms, rfl, hl, hms, hq⟩
  rw [HW0.out] at hms
  obtain ⟨A5, c5, rfl⟩ := hms.1.slice
  have HMS := Lib.hid hms
  have HL := Lib.hid hl
  clear hms hl
  rw [HW0.out] at hq
  obtain ⟨N5, hN5, R5, S5⟩ := hq
  have HRQ := Lib.hid (show RqN W0 w5 Z r room limit last' L' from ⟨N5, hN5, R5, S5⟩)
  have k1 := HK1.out.tch S5.tch fun hm => by have := HZ.out _ hm; have := HG.out; omega
  have k2 := HK2.out.tch S5.tch fun hm => by have := HZ.out _ hm; have := HG.out; omega
  have hs5 : W0.heap.size ≤ w5.heap.size := S5.tch.size
  rw [HS0.out] at hs5
  have hl1 : g + 1 < w5.heap.size := by omega
  have hl2 : g + 1 + 1 < w5.heap.size := by omega
  have hl3 : g + 1 < w5.heap.size + 1 := by omega
  have hl4 : g + 1 + 1 < w5.heap.size + 1 := by omega
  rw [HG.out]
  have q0 := k2.cell 0 _ rfl
  have q1 := k2.cell 1 _ rfl
  have q2 := k2.cell 2 _ rfl
  have q3 := k2.cell 3 _ rfl
  have p0 := k2.froz 0
  have p1 := k2.froz 1
  have p2 := k2.froz 2
  have p3 := k2.froz 3
  have r0 := k1.cell 0 _ rfl
  have r1 := k1.cell 1 _ rfl
  have r2 := k1.cell 2 _ rfl
  have r3 := k1.cell 3 _ rfl
  have s0 := k1.froz 0
  have s1 := k1.froz 1
  have s2 := k1.froz 2
  have s3 := k1.froz 3
  have E1 := Lib.hid k1
  have E2 := Lib.hid k2
  clear k1 k2 hN5 R5 S5
  go_wp2_with fail
  refine forgetX (fun W => Bx W (g + 1) 54 (tdc 0 (.slice A5 ms.length c5) false 0) ∧ Tch [g + 1 + 1, g + 1] w5 W) ⟨?_, ?_⟩ ?_
  · have hne : g + 1 ≠ g + 1 + 1 := by omega
    with_reducible refine Bx.to (((((E1.out.off hne).set 0 _).set 1 _).set 2 _).set 3 _) ?_
    rfl
  · with_reducible repeat first | exact Tch.refl _ _ | refine Tch.setCell ?_ _ (.inl (by simp))
  rintro W ⟨kb, tb⟩
  refine bodyPost_ret (results_c rfl rfl (kb.loadAgg (by kernel_rfl) (by kernel_rfl))) rfl ⟨⟨_, ms, rfl, HL.out, (HMS.out.tch tb fun k hk => ?_).base (by have h1 := HS0.out; have h2 := HG.out; omega)⟩, HRQ.out.end_ HZ.out HB3.out tb fun k hk => by have h1 := HG.out; have h2 := HS0.out; simp at hk; omega⟩
  simp only [List.mem_cons, List.not_mem_nil, or_false] at hk
  refine ⟨fun he => ?_, ?_⟩
  · have h1 := (HMS.out.1.lt k he).1
    have h2 := HS0.out
    omega
  · rcases hk with rfl | rfl
    · exact ⟨_, E2.out, by simp⟩
    · exact ⟨_, E1.out, by simp⟩

set_option maxRecDepth 100000 in
set_option maxHeartbeats 4000000 in
theorem meant_other {w : World} {Z : List Nat} {r room limit last : Nat} {L : List En} (h : Rq w Z r room limit last L) (hz : ∀ k ∈ Z, k < w.heap.size) (d : OpD) (h0 : d.x.kind ≠ 0) (h1 : d.x.kind ≠ 1) (h2 : d.x.kind ≠ 2) (h3 : d.x.kind ≠ 3) :
    Calls Try.prog 19 #[.pointer (some ⟨r, 0, none⟩), .agg (opd d).toArray] w fun x w' => x = .returned (.agg (tdc 0 (.slice none 0 0) false 0).toArray) ∧ RqN w w' Z r room limit last L := by
  obtain ⟨x, A, c⟩ := d
  have k0 : (x.kind == 0) = false := by simpa using h0
  have k1 : (x.kind == 1) = false := by simpa using h1
  have k2 : (x.kind == 2) = false := by simpa using h2
  have k3 : (x.kind == 3) = false := by simpa using h3
  have H := Lib.hid h
  have HZ := Lib.hid hz
  clear h hz
  unfold opd opc str
  go_enter Try.func19, Try.ntmps19
  go_wp2_with fail
  refine bodyPost_ret (results_c rfl rfl (((Bx.new' (w.alloc _) (b := w.heap.size + 1) 54 (tdc 0 (.slice none 0 0) false 0) (by simp)).alloc _).loadAgg (by kernel_rfl) (by kernel_rfl))) rfl ?_
  exact ⟨rfl, RqN.of_below H.out HZ.out (((below_alloc w _).alloc (by simp) _).alloc (by simp; omega) _)⟩

theorem rq_meant {w : World} {Z : List Nat} {r room limit last : Nat} {L : List En} (h : Rq w Z r room limit last L) (hz : ∀ k ∈ Z, k < w.heap.size) (d : OpD) (hk : OkD w d) (hn : d.x.m.body.length ≤ 4096) (hl : last < 1000000) :
    Calls Try.prog 19 #[.pointer (some ⟨r, 0, none⟩), .agg (opd d).toArray] w fun x w' => ∃ v, x = .returned v ∧ TV w' w.heap.size v (stepQ room limit last L d.x).2.2 ∧ RqN w w' Z r room limit (stepQ room limit last L d.x).2.1 (stepQ room limit last L d.x).1 := by
  by_cases h0 : d.x.kind = 0
  · by_cases hb : okMg d.x.m = false
    · have hs : stepQ room limit last L d.x = (L, last, ⟨0, [], false, 1⟩) := by unfold stepQ; rw [if_pos h0, if_pos hb]
      rw [hs]
      refine (meant_put (last' := last) (L' := L) h hz d hk h0 0 1 fun W A c hW h hr => (rput_bad r d.x.m A c _ rfl hb d.x.now).mono fun y w' hx => ?_).mono ?_
      · exact ⟨hx.1, RqN.of_below h hW hx.2⟩
      · rintro y w' ⟨rfl, h1⟩
        exact ⟨_, rfl, ⟨_, [], rfl, msl_nil, rfl⟩, h1⟩
    · have hb : okMg d.x.m = true := by simpa using hb
      by_cases hr : L.length = room
      · have hs : stepQ room limit last L d.x = (L, last, ⟨0, [], false, 4⟩) := by unfold stepQ; rw [if_pos h0, if_neg (by simp [hb]), if_pos hr]
        rw [hs]
        refine (meant_put (last' := last) (L' := L) h hz d hk h0 0 4 fun W A c hW h _ => (rput_full h d.x.m A c _ rfl hb hr d.x.now).mono fun y w' hx => ?_).mono ?_
        · exact ⟨hx.1, RqN.of_below h hW hx.2⟩
        · rintro y w' ⟨rfl, h1⟩
          exact ⟨_, rfl, ⟨_, [], rfl, msl_nil, rfl⟩, h1⟩
      · have hs : stepQ room limit last L d.x = (L ++ [newE last d.x.m d.x.now], last + 1, ⟨last + 1, [], false, 0⟩) := by unfold stepQ; rw [if_pos h0, if_neg (by simp [hb]), if_neg hr]
        rw [hs]
        have hm : WfM d.x.m := by
          have h1 : d.x.m.pr ≤ 9 ∧ d.x.m.ids.length ≤ 64 ∧ d.x.m.body.length ≤ 2048 := of_decide_eq_true hb
          exact ⟨by omega, h1.2.2, h1.2.1, hk.ttl, hk.cnt⟩
        have hlt : L.length < room := by have := h.wf.len; omega
        refine (meant_put (last' := last + 1) (L' := L ++ [newE last d.x.m d.x.now]) h hz d hk h0 ((last + 1 : Nat) : Int) 0 fun W A c hW h hr => rput_ok h d.x.m A c _ rfl hr hm hlt hl d.x.now).mono ?_
        rintro y w' ⟨rfl, h1⟩
        exact ⟨_, rfl, ⟨_, [], rfl, msl_nil, rfl⟩, h1⟩
  by_cases h1 : d.x.kind = 1
  · cases hA : acqQ L d.x.now with
    | none =>
      have hs : stepQ room limit last L d.x = (L, last, ⟨0, [zMg], false, 0⟩) := by unfold stepQ; rw [if_neg h0, if_pos h1, hA]
      rw [hs]
      refine (meant_acq (last' := last) (L' := L) h hz d hk h1 zEn false fun W hW h => (racq_calls h hW d.x.now).mono fun y w' hx => ?_).mono ?_
      · rcases hx with ⟨-, e2, e3⟩ | ⟨e, v, e1, -⟩
        · exact ⟨.slice none 0 0, e2, Bdv.nil_, RqN.of_below h hW e3⟩
        · rw [hA] at e1; cases e1
      · rintro y w' ⟨⟨sv, v, rfl, h1⟩, h2⟩
        exact ⟨_, rfl, ⟨_, _, rfl, h1, rfl⟩, h2⟩
    | some e =>
      have hs : stepQ room limit last L d.x = (modL (holdE e) L, last, ⟨e.id, [e.m], true, 0⟩) := by unfold stepQ; rw [if_neg h0, if_pos h1, hA]
      rw [hs]
      refine (meant_acq (last' := last) (L' := modL (holdE e) L) h hz d hk h1 (holdE e) true fun W hW h => (racq_calls h hW d.x.now).mono fun y w' hx => ?_).mono ?_
      · rcases hx with ⟨e1, -⟩ | ⟨e', v, e1, e2, e3, e4⟩
        · rw [hA] at e1; cases e1
        · rw [hA] at e1
          cases e1
          exact ⟨v, e2, Bdv.of_own e3, e4⟩
      · rintro y w' ⟨⟨sv, v, rfl, h1⟩, h2⟩
        exact ⟨_, rfl, ⟨_, _, rfl, h1, rfl⟩, h2⟩
  by_cases h2 : d.x.kind = 2
  · have hs : stepQ room limit last L d.x = ((setQ limit L d.x.id d.x.o).1, last, ⟨0, [match (setQ limit L d.x.id d.x.o).2.2 with | none => zMg | some e => e.m], (setQ limit L d.x.id d.x.o).2.2.isSome, (setQ limit L d.x.id d.x.o).2.1⟩) := by unfold stepQ; rw [if_neg h0, if_neg h1, if_pos h2]; rfl
    rw [hs]
    refine (meant_set (last' := last) (L' := (setQ limit L d.x.id d.x.o).1) h hz d hk h2 (match (setQ limit L d.x.id d.x.o).2.2 with | none => zMg | some e => e.m) (setQ limit L d.x.id d.x.o).2.2.isSome (setQ limit L d.x.id d.x.o).2.1 fun W hW h => (rset_calls h hW d.x.id d.x.o).mono fun y w' hx => ?_).mono ?_
    · obtain ⟨v, e1, e2, e3⟩ := hx
      cases hd : (setQ limit L d.x.id d.x.o).2.2 with
      | none =>
        rw [hd] at e1
        exact ⟨.slice none 0 0, e1, Bdv.nil_, e3⟩
      | some e =>
        rw [hd] at e1
        exact ⟨v, e1, (e2 e hd).1, e3⟩
    · rintro y w' ⟨⟨sv, v, rfl, h1⟩, h2⟩
      exact ⟨_, rfl, ⟨_, _, rfl, h1, rfl⟩, h2⟩
  by_cases h3 : d.x.kind = 3
  · have hs : stepQ room limit last L d.x = (expQ L d.x.now, last, ⟨0, (expL L d.x.now).map (·.m), false, 0⟩) := by unfold stepQ; rw [if_neg h0, if_neg h1, if_neg h2, if_pos h3]
    rw [hs]
    refine (meant_exp (last' := last) (L' := expQ L d.x.now) h hz d hk h3 ((expL L d.x.now).map (·.m)) fun W hW h => (rexp_calls h hW d.x.now).mono fun y w' hx => ?_).mono ?_
    · obtain ⟨v, ms, e1, e2, e3, e4, e5⟩ := hx
      exact ⟨v, ms, e1, e2, ⟨e3, e4⟩, e5⟩
    · rintro y w' ⟨⟨sv, ms, rfl, h0, h1⟩, h2⟩
      exact ⟨_, rfl, ⟨_, _, rfl, h1, h0⟩, h2⟩
  · have hs : stepQ room limit last L d.x = (L, last, ⟨0, [], false, 0⟩) := by unfold stepQ; rw [if_neg h0, if_neg h1, if_neg h2, if_neg h3]
    rw [hs]
    refine (meant_other h hz d h0 h1 h2 h3).mono ?_
    rintro y w' ⟨rfl, h1⟩
    exact ⟨_, rfl, ⟨_, [], rfl, msl_nil, rfl⟩, h1⟩
end Go.Proofs.Ytkoihcfdchcgdaa

import Derived.Test.YtkoihcfdchcgdaaQRcopy
import Derived.Deep.RegionHeld3
set_option linter.unusedVariables false
set_option linter.unusedSimpArgs false
namespace Go.Proofs.Ytkoihcfdchcgdaa
open Go.RowKit Go.Shelf

/-- Something in memory, beside guests. -/
structure GI (w0 : World) (I : List Nat → World → Prop) : Prop where
  guest : ∀ Z N W W', I Z W → Below W.heap.size W W' → (∀ k ∈ N, W.heap.size ≤ k ∧ k < W'.heap.size) → I (N ++ Z) W'
  zset : ∀ Z W W', I Z W → Tch Z W W' → I Z W'
  less : ∀ Z Z' W, I Z W → (∀ k ∈ Z', k ∈ Z) → I Z' W
  old : ∀ Z W, I Z W → Below w0.heap.size w0 W ∧ ∀ k ∈ Z, w0.heap.size ≤ k ∧ k < W.heap.size
theorem gi_qf (w0 : World) (q room limit last : Nat) (L : List En) : GI w0 fun Z W => QF w0 W Z q room limit last L :=
  ⟨fun Z N W W' h hb hN => h.guest hb hN, fun Z W W' h t => h.zset t, fun Z Z' W h hs => h.less hs, fun Z W h => ⟨h.old, h.zs⟩⟩
/-- Where there is nothing but guests. -/
def NI (w0 : World) (Z : List Nat) (W : World) : Prop := Below w0.heap.size w0 W ∧ ∀ k ∈ Z, w0.heap.size ≤ k ∧ k < W.heap.size
theorem gi_ni (w0 : World) : GI w0 (NI w0) :=
  ⟨fun Z N W W' h hb hN => ⟨below_then h.1 h.1.size hb, fun k hk => by
      rcases List.mem_append.1 hk with e | e
      · exact ⟨Nat.le_trans h.1.size (hN k e).1, (hN k e).2⟩
      · exact ⟨(h.2 k e).1, Nat.lt_of_lt_of_le (h.2 k e).2 hb.size⟩⟩,
    fun Z W W' h t => ⟨h.1.trans (t.below h.1.size fun k hk => (h.2 k hk).1), fun k hk => ⟨(h.2 k hk).1, Nat.lt_of_lt_of_le (h.2 k hk).2 t.size⟩⟩,
    fun Z Z' W h hs => ⟨h.1, fun k hk => h.2 k (hs k hk)⟩, fun Z W h => h⟩
section
variable {w0 : World} {I : List Nat → World → Prop} (G : GI w0 I)
include G
theorem GI.alloc {Z : List Nat} {W : World} (h : I Z W) (o : Obj) : I (W.heap.size :: Z) (W.alloc o) :=
  G.guest Z [W.heap.size] W _ h (below_alloc W o) fun k hk => by simp at hk; simp; omega
theorem GI.below {Z : List Nat} {W W' : World} (h : I Z W) (hb : Below W.heap.size W W') : I Z W' := G.guest Z [] W W' h hb (by simp)
theorem GI.kz {Z : List Nat} {W W' : World} (h : I Z W) (hb : Below W.heap.size W W') : Kz Z w0 W W' :=
  ⟨hb.size, fun k hk => hb.block k (by
    have := G.old Z W h
    rcases hk with hk | hk
    · exact (this.2 k hk).2
    · exact Nat.lt_of_lt_of_le hk this.1.size)⟩
/-- Guests N turned, beside Z. -/
theorem GI.kzt {Z N : List Nat} {W W' : World} (h : I (N ++ Z) W) (t : Tch N W W') (hd : ∀ k ∈ N, k ∉ Z) : Kz Z w0 W W' :=
  ⟨t.size, fun k hk => t.block k (by
    have := G.old _ W h
    rcases hk with hk | hk
    · exact (this.2 k (List.mem_append_right _ hk)).2
    · exact Nat.lt_of_lt_of_le hk this.1.size) fun hm => by
    rcases hk with hk | hk
    · exact hd k hm hk
    · have := ((G.old _ W h).2 k (List.mem_append_left _ hm)).1; omega⟩
theorem GI.iset {L : List Nat} {W : World} {b j : Nat} {u : Value} (h : I L W) (hb : b ∈ L) : I L (W.setCell ⟨b, j, none⟩ u) := G.zset _ _ _ h ((Tch.refl _ _).setCell _ (.inl hb))
theorem GI.kset {L Z : List Nat} {W : World} {b j : Nat} {u : Value} (h : I L W) (hb : b ∈ L) (hn : b ∉ Z) : Kz Z w0 W (W.setCell ⟨b, j, none⟩ u) :=
  ⟨(tch_set W b j u).size, fun k hk => Below.heap_setCell W ⟨b, j, none⟩ u k (by
    intro he
    rw [he] at hk
    rcases hk with hk | hk
    · exact hn hk
    · have h1 := ((G.old _ W h).2 _ hb).1
      have h2 : b < w0.heap.size := hk
      omega)⟩
end
/-- An operation, its cells. -/
structure QOp where
  kind : Int
  id : Int
  m : Mg
  o : Oc
  now : Int
def opc (x : QOp) (bv : Value) : List Value := [.int .i64 x.kind, .int .i64 x.id, .int .u8 x.m.pr, .int .u32 x.m.ttl, .int .u32 x.m.cnt, str x.m.ids, bv, .int .u8 x.o.k, .int .u64 x.o.a, .int .u64 x.o.b, str x.o.c, .int .i64 x.now]
def tdc (n : Int) (mv : Value) (is : Bool) (e : Nat) : List Value := [.int .i64 n, mv, .bool is, .int .i64 e]

set_option maxRecDepth 100000 in
set_option maxHeartbeats 2000000 in
theorem does_other {w0 w : World} {I : List Nat → World → Prop} (G : GI w0 I) {Z : List Nat} (h : I Z w) (p0 : Option Addr) (x : QOp) (bv : Value) (hb : ∃ A n c, bv = .slice A n c) (h0 : x.kind ≠ 0) (h1 : x.kind ≠ 1) (h2 : x.kind ≠ 2) (h3 : x.kind ≠ 3) :
    Calls Try.prog 18 #[.pointer p0, .agg (opc x bv).toArray] w fun r w' => r = .returned (.agg (tdc 0 (.slice none 0 0) false 0).toArray) ∧ I Z w' ∧ Kz Z w0 w w' := by
  obtain ⟨A, n, c, rfl⟩ := hb
  have k0 : (x.kind == 0) = false := by simpa using h0
  have k1 : (x.kind == 1) = false := by simpa using h1
  have k2 : (x.kind == 2) = false := by simpa using h2
  have k3 : (x.kind == 3) = false := by simpa using h3
  have H := Lib.hid h
  clear h
  unfold opc str
  go_enter Try.func18, Try.ntmps18
  go_wp2_with fail
  have hb : Below w.heap.size w (((w.alloc (.cells #[.int .i64 x.kind, .int .i64 x.id, .int .u8 x.m.pr, .int .u32 x.m.ttl, .int .u32 x.m.cnt, .string ⟨x.m.ids.toArray⟩, .slice A n c, .int .u8 x.o.k, .int .u64 x.o.a, .int .u64 x.o.b, .string ⟨x.o.c.toArray⟩, .int .i64 x.now] 57)).alloc (.cells (tdc 0 (.slice none 0 0) false 0).toArray 54)).alloc (.cells (tdc 0 (.slice none 0 0) false 0).toArray 54)) := ((((Tch.refl [] w).alloc _).alloc _).alloc _).below0
  refine bodyPost_ret (results_c rfl rfl (((Bx.new' (w.alloc _) (b := w.heap.size + 1) 54 (tdc 0 (.slice none 0 0) false 0) (by simp)).alloc _).loadAgg (by kernel_rfl) (by kernel_rfl))) rfl ?_
  exact ⟨rfl, G.below H.out hb, G.kz H.out hb⟩

set_option maxRecDepth 100000 in
set_option maxHeartbeats 4000000 in
theorem does_put {w0 w : World} {I I' : List Nat → World → Prop} (G : GI w0 I) (G' : GI w0 I') {Z : List Nat} (h : I Z w) (p0 : Option Addr) (x : QOp) (A : Option Addr) (c n : Nat) (hn : x.m.body.length = n) (hrd : Rd w A c x.m.body) (hn2 : n ≤ 4096) (h0 : x.kind = 0) (N : Int) (E : Nat)
    (hp : ∀ Z W A c, I Z W → Rd W A c x.m.body → Calls Try.prog 11 #[.pointer p0, mgv x.m (.slice A n c), .int .i64 x.now] W fun r w' => r = .returned (.tuple #[.int .i64 N, .int .i64 E]) ∧ I' Z w' ∧ Kz Z w0 W w') :
    Calls Try.prog 18 #[.pointer p0, .agg (opc x (.slice A n c)).toArray] w fun r w' => r = .returned (.agg (tdc N (.slice none 0 0) false E).toArray) ∧ I' Z w' ∧ Kz Z w0 w w' := by
  have H := Lib.hid h
  have HR := Lib.hid hrd
  have HN := Lib.hid hn
  have HP := Lib.hid hp
  clear h hrd hn hp
  unfold opc
  obtain ⟨K, hK⟩ : ∃ K, x.kind = K := ⟨_, rfl⟩
  rw [hK] at h0 ⊢
  clear hK
  subst h0
  have hmg : ∀ v, mgv x.m v = .agg #[.int .u8 x.m.pr, .int .u32 x.m.ttl, .int .u32 x.m.cnt, .string ⟨x.m.ids.toArray⟩, v] := fun v => by unfold mgv str; rfl
  have HMg := Lib.hid hmg
  clear hmg
  unfold str
  go_enter Try.func18, Try.ntmps18
  go_wp2_with fail
  obtain ⟨g, hg⟩ : ∃ g, w.heap.size = g := ⟨_, rfl⟩
  have hcp := rcopy_calls (w := ((w.alloc (.cells #[.int .i64 0, .int .i64 x.id, .int .u8 x.m.pr, .int .u32 x.m.ttl, .int .u32 x.m.cnt, .string ⟨x.m.ids.toArray⟩, .slice A n c, .int .u8 x.o.k, .int .u64 x.o.a, .int .u64 x.o.b, .string ⟨x.o.c.toArray⟩, .int .i64 x.now] 57)).alloc (.cells (tdc 0 (.slice none 0 0) false 0).toArray 54)).alloc (.cells (tdc 0 (.slice none 0 0) false 0).toArray 54)) x.m A c n HN.out (HR.out.below ((((Tch.refl [] w).alloc _).alloc _).alloc _).below0) (by omega)
  rw [HMg.out] at hcp
  refine hcp.mono ?_
  rintro r w1 ⟨v, rfl, o1, b1⟩
  rw [HMg.out]
  obtain ⟨A1, c1, rfl, -⟩ := o1.rd
  rw [HN.out] at o1 ⊢
  simp only [World.size_alloc] at o1
  have hb1 : Below w.heap.size w w1 := below_then ((((Tch.refl [] w).alloc _).alloc _).alloc _).below0 (by simp; omega) b1
  have hN1 := fun k hk => o1.lt k hk
  have hz1 := hb1.size
  have hk0 := Lib.hid ((((Bx.new w 57 [.int .i64 0, .int .i64 x.id, .int .u8 x.m.pr, .int .u32 x.m.ttl, .int .u32 x.m.cnt, .string ⟨x.m.ids.toArray⟩, .slice A n c, .int .u8 x.o.k, .int .u64 x.o.a, .int .u64 x.o.b, .string ⟨x.o.c.toArray⟩, .int .i64 x.now]).alloc _).alloc _).below b1)
  have hk1 := Lib.hid (((Bx.new' (w.alloc _) (b := w.heap.size + 1) 54 (tdc 0 (.slice none 0 0) false 0) (by simp)).alloc _).below b1)
  have hk2 := Lib.hid ((Bx.new' ((w.alloc _).alloc _) (b := w.heap.size + 1 + 1) 54 (tdc 0 (.slice none 0 0) false 0) (by simp)).below b1)
  rw [hg] at hk0 hk1 hk2 hN1 o1 ⊢
  have hI1 := G.guest Z ((Value.slice A1 n c1).ownBlock.toList ++ [g + 1 + 1, g + 1, g]) w w1 H.out hb1 (fun k hk => by
    rw [hg]
    simp only [List.mem_append, Option.mem_toList, List.mem_cons, List.not_mem_nil, or_false] at hk
    have h2 := hk2.out.lt
    rcases hk with hk | rfl | rfl | rfl
    · have := hN1 k hk; omega
    · omega
    · omega
    · omega)
  obtain ⟨g3, hg3⟩ : ∃ g3, w1.heap.size = g3 := ⟨_, rfl⟩
  have hI2 := G.alloc hI1 (.cells #[.int .u8 x.m.pr, .int .u32 x.m.ttl, .int .u32 x.m.cnt, .string ⟨x.m.ids.toArray⟩, .slice A1 n c1] 32)
  have HI2 := Lib.hid hI2
  have O1 := Lib.hid (o1.alloc (.cells #[.int .u8 x.m.pr, .int .u32 x.m.ttl, .int .u32 x.m.cnt, .string ⟨x.m.ids.toArray⟩, .slice A1 n c1] 32))
  have HB1 := Lib.hid hb1
  have HG := Lib.hid hg
  have HG3 := Lib.hid hg3
  have HN1 := Lib.hid hN1
  have d11 := hk0.out.cell 11 _ rfl
  have dlt := hk0.out.lt
  have dlt2 := hk2.out.lt
  clear hI1 hI2 o1 b1 hb1 hg hg3 hcp hN1
  go_wp2_with fail
  rw [HG3.out]
  obtain ⟨A1', c1', he1, hr1⟩ := O1.out.rd
  simp only [Value.slice.injEq] at he1
  obtain ⟨rfl, -, rfl⟩ := he1
  have hp := HP.out _ _ A1 c1 HI2.out hr1
  rw [HMg.out] at hp
  refine hp.mono ?_
  rintro r w3 ⟨rfl, hI3, kz3⟩
  have hm2 : Bx (w1.alloc (.cells #[.int .u8 x.m.pr, .int .u32 x.m.ttl, .int .u32 x.m.cnt, .string ⟨x.m.ids.toArray⟩, .slice A1 n c1] 32)) g3 32 [.int .u8 x.m.pr, .int .u32 x.m.ttl, .int .u32 x.m.cnt, .string ⟨x.m.ids.toArray⟩, .slice A1 n c1] := by rw [← HG3.out]; exact Bx.new w1 _ [_, _, _, _, _]
  rw [HG3.out] at hI3 kz3
  have hm3 := kz3.bx hm2 (.inl (by simp))
  have hk13 := kz3.bx (hk1.out.alloc _) (.inl (by simp))
  have hk23 := kz3.bx (hk2.out.alloc _) (.inl (by simp))
  have ho3 := kz3.ownC (by have := O1.out; unfold OwnB at this; exact this) (fun k hk => by simp [hk])
  have hzz : Kz Z w0 w w3 := by
    have h1 := G.kz H.out HB1.out
    have h2 := G.kz (G.guest Z [] w w1 H.out HB1.out (by simp)) (below_alloc w1 (.cells #[.int .u8 x.m.pr, .int .u32 x.m.ttl, .int .u32 x.m.cnt, .string ⟨x.m.ids.toArray⟩, .slice A1 n c1] 32))
    exact (h1.trans h2).trans (kz3.mono fun k hk => by simp [hk])
  have m4 := hm3.cell 4 _ rfl
  have u0 := hk23.cell 0 _ rfl
  have u1 := hk23.cell 3 _ rfl
  have u2 := hk23.froz 0
  have u3 := hk23.froz 3
  have HI3 := Lib.hid hI3
  have HM3 := Lib.hid hm3
  have HK1 := Lib.hid hk13
  have HK2 := Lib.hid hk23
  have HO3 := Lib.hid ho3
  have HZZ := Lib.hid hzz
  have hne3 := HM3.out.ne HK2.out (by decide)
  clear hp hr1 hI3 kz3 hm2 hm3 hk13 hk23 ho3 hzz dlt dlt2 d11 hk0 hk1 hk2 O1 HI2 HB1
  go_wp2_with fail
  have hlm : x.m.body.length = n := HN.out
  have hZ : ∀ k ∈ Z, k < g := by have := (G.old Z w H.out).2; intro k hk; have h1 := (this k hk).2; rw [HG.out] at h1; exact h1
  have HZ := Lib.hid hZ
  clear hZ
  obtain ⟨v1, hv1⟩ : ∃ v, (Value.slice A1 n c1) = v := ⟨_, rfl⟩
  obtain ⟨L, hL⟩ : ∃ L, g3 :: ((Value.slice A1 n c1).ownBlock.toList ++ [g + 1 + 1, g + 1, g] ++ Z) = L := ⟨_, rfl⟩
  have HL := Lib.hid hL
  have hnb : ∀ k, (Value.slice A1 n c1).ownBlock = some k → k ∈ L ∧ k ∉ Z ∧ k ≠ g ∧ k ≠ g + 1 ∧ k ≠ g + 1 + 1 ∧ k ≠ g3 := fun k hk => by
    have h1 := HN1.out k hk
    refine ⟨by rw [← HL.out]; simp [hk], fun hz => ?_, ?_⟩
    · have := HZ.out k hz; omega
    · have := HG3.out; omega
  have HNB := Lib.hid hnb
  have h2L : g + 1 + 1 ∈ L ∧ g + 1 ∈ L := by rw [← hL]; simp
  rw [hL] at HI3
  obtain ⟨J, hJ⟩ : ∃ J : List UInt8 → World → Prop, J = fun l W => l.length = n ∧ I' L W ∧ Bx W g3 32 [.int .u8 x.m.pr, .int .u32 x.m.ttl, .int .u32 x.m.cnt, .string ⟨x.m.ids.toArray⟩, .slice A1 n c1] ∧ Bx W (g + 1) 54 (tdc 0 (.slice none 0 0) false 0) ∧ Bx W (g + 1 + 1) 54 (tdc N (.slice none 0 0) false E) ∧ OwnB W (g + 1 + 1 + 1) (.slice A1 n c1) l ∧ Kz Z w0 w W := ⟨_, rfl⟩
  refine forget (J x.m.body) ?_ ?_
  · rw [hJ]
    refine ⟨hlm, G'.iset (G'.iset HI3.out h2L.1) h2L.1, (HM3.out.off hne3).off hne3, (HK1.out.off (by omega)).off (by omega), (HK2.out.set 0 _).set 3 _, OwnB.set_other (OwnB.set_other ?_ (fun k hk => (HNB.out k hk).2.2.2.2.1) _) (fun k hk => (HNB.out k hk).2.2.2.2.1) _, (HZZ.out.trans (G'.kset HI3.out h2L.1 ?_)).trans (G'.kset (G'.iset HI3.out h2L.1) h2L.1 ?_)⟩
    · exact HO3.out
    · intro hm; have := HZ.out _ hm; omega
    · intro hm; have := HZ.out _ hm; omega
  have HJ := Lib.hid hJ
  clear hJ
  intro W4 h4
  have H4 := Lib.hid h4
  clear h4 m4 u0 u1 u2 u3 hne3 hv1 hL hnb hlm
  go_loopw [7] (fun p wr => ∃ (k : Nat) (l : List UInt8), k ≤ n ∧ p = .int .i64 k ∧ J l wr) (fun p _ => n - (intOf p).toNat)
  case atStart => exact ⟨0, x.m.body, by omega, rfl, H4.out⟩
  case round =>
    obtain ⟨k, l, hk, rfl, h5⟩ := hrel
    have H5 := Lib.hid h5
    rw [HJ.out] at h5
    obtain ⟨e1, e2, e3, e4, e5, e6, e7⟩ := h5
    have d4 := e3.cell 4 _ rfl
    have E1 := Lib.hid e1
    have E6 := Lib.hid e6
    clear e1 e2 e3 e4 e5 e6 e7
    by_cases hkn : k < n
    · obtain ⟨b, cap, hA, hb0, hb1, hb2⟩ := E6.out.form (by rw [E1.out]; omega)
      simp only [Value.slice.injEq] at hA
      obtain ⟨rfl, -, rfl⟩ := hA
      have hca := E6.out.cell_at k (by rw [E1.out]; exact hkn)
      obtain ⟨ca, cb⟩ := hca
      go_wp2_with fail
      go_roundw
      case rel =>
        have h5 := H5.out
        rw [HJ.out] at h5
        obtain ⟨e1, e2, e3, e4, e5, e6, e7⟩ := h5
        have hb := HNB.out b rfl
        refine ⟨k + 1, l.set k 85, by omega, by go_num, ?_⟩
        rw [HJ.out]
        exact ⟨by simp [e1], G'.iset e2 hb.1, e3.off (Ne.symm hb.2.2.2.2.2), e4.off (Ne.symm hb.2.2.2.1), e5.off (Ne.symm hb.2.2.2.2.1), OwnB.set e6 k (by omega) 85 _ rfl, e7.trans (G'.kset e2 hb.1 hb.2.1)⟩
      case measure => simp [intOf]; omega
    · obtain rfl : k = n := by omega
      have h5 := H5.out
      rw [HJ.out] at h5
      obtain ⟨-, e2, e3, e4, e5, e6, e7⟩ := h5
      have q0 := e5.cell 0 _ rfl
      have q1 := e5.cell 1 _ rfl
      have q2 := e5.cell 2 _ rfl
      have q3 := e5.cell 3 _ rfl
      have r0 := e4.cell 0 _ rfl
      have r1 := e4.cell 1 _ rfl
      have r2 := e4.cell 2 _ rfl
      have r3 := e4.cell 3 _ rfl
      have s0 := e4.froz 0
      have s1 := e4.froz 1
      have s2 := e4.froz 2
      have s3 := e4.froz 3
      have E4 := Lib.hid e4
      clear e2 e3 e4 e5 e6 e7
      go_wp2_with fail
      refine bodyPost_ret (results_c rfl rfl (((((E4.out.set 0 _).set 1 _).set 2 _).set 3 _).loadAgg (by kernel_rfl) (by kernel_rfl))) rfl ?_
      have h5 := H5.out
      rw [HJ.out] at h5
      obtain ⟨-, e2, e3, e4, e5, e6, e7⟩ := h5
      have hz1 : g + 1 ∉ Z := fun hm => by have := HZ.out _ hm; omega
      have j1 := G'.iset (j := 0) (u := .int .i64 N) e2 h2L.2
      have j2 := G'.iset (j := 1) (u := .slice none 0 0) j1 h2L.2
      have j3 := G'.iset (j := 2) (u := .bool false) j2 h2L.2
      have j4 := G'.iset (j := 3) (u := .int .i64 E) j3 h2L.2
      exact ⟨rfl, G'.less _ _ _ j4 (fun k hk => by rw [← HL.out]; simp [hk]), (((e7.trans (G'.kset e2 h2L.2 hz1)).trans (G'.kset j1 h2L.2 hz1)).trans (G'.kset j2 h2L.2 hz1)).trans (G'.kset j3 h2L.2 hz1)⟩

/-- Messages handed out. -/
def Msl (W : World) (base : Nat) (v : Value) (ms : List (Mg × Value)) : Prop := OwnC 32 5 (fun _ => True) W base v ms.length (mgL ms) ∧ ∀ x ∈ ms, Bdv W x.2 x.1.body
theorem mgv_eq (m : Mg) (v : Value) : mgv m v = .agg #[.int .u8 m.pr, .int .u32 m.ttl, .int .u32 m.cnt, .string ⟨m.ids.toArray⟩, v] := by unfold mgv str; rfl

theorem msl_one {W : World} {base g : Nat} {M : Mg} {A : Option Addr} {n c : Nat} (h : Bx W g 32 [.int .u8 M.pr, .int .u32 M.ttl, .int .u32 M.cnt, .string ⟨M.ids.toArray⟩, .slice A n c]) (hg : base ≤ g) (hb : Bdv W (.slice A n c) M.body) : Msl W base (.slice (some ⟨g, 0, none⟩) 1 1) [(M, .slice A n c)] := by
  refine ⟨⟨rfl, ?_, .inr ⟨g, 1, [], rfl, hg, ?_, rfl, by simp, by simp, by simp⟩⟩, by simpa using hb⟩
  · intro u hu
    simp only [mgL, mcs, str, List.flatMap_cons, List.flatMap_nil, List.append_nil, List.mem_cons, List.not_mem_nil, or_false] at hu
    rcases hu with rfl | rfl | rfl | rfl | rfl <;> rfl
  · rw [List.append_nil]; exact h
theorem does_out {w0 w w3 W : World} {I' : List Nat → World → Prop} (G' : GI w0 I') {Z : List Nat} {g : Nat} (h : I' ([g + 1 + 1, g + 1, g] ++ Z) w3) (t : Tch [g + 1 + 1, g + 1] w3 W) (hZ : ∀ k ∈ Z, k < g) (hz : Kz Z w0 w w3) : I' Z W ∧ Kz Z w0 w W :=
  ⟨G'.less _ _ _ (G'.zset _ _ _ h (t.mono fun k hk => by simp at hk ⊢; rcases hk with rfl | rfl <;> simp)) (fun k hk => by simp [hk]),
    hz.trans (G'.kzt (N := [g + 1 + 1, g + 1]) (G'.less _ _ _ h fun k hk => by simp at hk ⊢; rcases hk with rfl | rfl | h <;> simp [*]) t fun k hk hm => by
      have := hZ k hm
      simp at hk
      omega)⟩

set_option maxRecDepth 100000 in
set_option maxHeartbeats 4000000 in
theorem does_set {w0 w : World} {I I' : List Nat → World → Prop} (G : GI w0 I) (G' : GI w0 I') {Z : List Nat} (h : I Z w) (p0 : Option Addr) (x : QOp) (bv : Value) (hb : ∃ A n c, bv = .slice A n c) (h0 : x.kind = 2) (M : Mg) (is : Bool) (E : Nat)
    (hp : ∀ Z W, I Z W → Calls Try.prog 13 #[.pointer p0, .int .i64 x.id, .agg (occ x.o).toArray] W fun r w' => ∃ v, r = .returned (.tuple #[mgv M v, .bool is, .int .i64 E]) ∧ Bdv w' v M.body ∧ I' Z w' ∧ Kz Z w0 W w') :
    Calls Try.prog 18 #[.pointer p0, .agg (opc x bv).toArray] w fun r w' => ∃ sv v, r = .returned (.agg (tdc 0 sv is E).toArray) ∧ Msl w' w.heap.size sv [(M, v)] ∧ I' Z w' ∧ Kz Z w0 w w' := by
  obtain ⟨A, n, c, rfl⟩ := hb
  have H := Lib.hid h
  have HP := Lib.hid hp
  clear h hp
  unfold opc
  obtain ⟨K, hK⟩ : ∃ K, x.kind = K := ⟨_, rfl⟩
  rw [hK] at h0 ⊢
  clear hK
  subst h0
  have HMg := Lib.hid (mgv_eq M)
  have hoc : (occ x.o).toArray = #[.int .u8 x.o.k, .int .u64 x.o.a, .int .u64 x.o.b, .string ⟨x.o.c.toArray⟩] := by unfold occ str; rfl
  have HOc := Lib.hid hoc
  clear hoc
  unfold str
  go_enter Try.func18, Try.ntmps18
  go_wp2_with fail
  rename_i _ _ ka _ kb _ kc
  have HKa := Lib.hid ka
  have HKb := Lib.hid kb
  clear ka kb
  obtain ⟨g, hg⟩ : ∃ g, w.heap.size = g := ⟨_, rfl⟩
  have hb3 : Below w.heap.size w (((w.alloc (.cells #[.int .i64 2, .int .i64 x.id, .int .u8 x.m.pr, .int .u32 x.m.ttl, .int .u32 x.m.cnt, .string ⟨x.m.ids.toArray⟩, .slice A n c, .int .u8 x.o.k, .int .u64 x.o.a, .int .u64 x.o.b, .string ⟨x.o.c.toArray⟩, .int .i64 x.now] 57)).alloc (.cells (tdc 0 (.slice none 0 0) false 0).toArray 54)).alloc (.cells (tdc 0 (.slice none 0 0) false 0).toArray 54)) := ((((Tch.refl [] w).alloc _).alloc _).alloc _).below0
  have hI1 := G.guest Z [g + 1 + 1, g + 1, g] w _ H.out hb3 (fun k hk => by simp at hk; simp; omega)
  have hp := HP.out _ _ hI1
  rw [HOc.out] at hp
  refine hp.mono ?_
  rintro r w3 ⟨v, rfl, hbd, hI3, kz3⟩
  rw [HMg.out]
  obtain ⟨A1, c1, hv1, -⟩ := id hbd
  obtain ⟨n1, hn1⟩ : ∃ n1, M.body.length = n1 := ⟨_, rfl⟩
  rw [hn1] at hv1
  subst hv1
  have hk1 := kz3.bx ((Bx.new' (w.alloc _) (b := w.heap.size + 1) 54 (tdc 0 (.slice none 0 0) false 0) (by simp)).alloc _) (.inl (by simp [hg]))
  have hk2 := kz3.bx (Bx.new' ((w.alloc _).alloc _) (b := w.heap.size + 1 + 1) 54 (tdc 0 (.slice none 0 0) false 0) (by simp)) (.inl (by simp [hg]))
  obtain ⟨g3, hg3⟩ : ∃ g3, w3.heap.size = g3 := ⟨_, rfl⟩
  have hzz : Kz Z w0 w w3 := (G.kz H.out hb3).trans (kz3.mono fun k hk => by simp [hk])
  rw [hg] at hk1 hk2 ⊢
  have dlt2 := hk2.lt
  have dlt1 := hk1.lt
  have HK1 := Lib.hid hk1
  have HK2 := Lib.hid hk2
  have HI3 := Lib.hid hI3
  have HZZ := Lib.hid hzz
  have HBD := Lib.hid hbd
  have HG := Lib.hid hg
  have HG3 := Lib.hid hg3
  have HN1 := Lib.hid hn1
  clear hb3 hI1 hp hI3 kz3 hk1 hk2 hzz hbd hg hn1
  go_wp2_with fail
  refine HKb.out _ _ ?_
  refine forget (fun W => Bx W (g + 1) 54 (tdc 0 (.slice none 0 0) false 0) ∧ Bx W (g + 1 + 1) 54 (tdc 0 (.slice none 0 0) false 0) ∧ Bx W g3 32 [.int .u8 M.pr, .int .u32 M.ttl, .int .u32 M.cnt, .string ⟨M.ids.toArray⟩, .slice A1 n1 c1] ∧ Below w3.heap.size w3 W) ⟨HK1.out.alloc _, HK2.out.alloc _, by rw [← hg3]; exact Bx.new w3 _ [_, _, _, _, _], below_alloc _ _⟩ ?_
  rintro W4 ⟨k1, k2, k3, b4⟩
  have t0 := k3.cell 0 _ rfl
  have t1 := k3.cell 1 _ rfl
  have t2 := k3.cell 2 _ rfl
  have t3 := k3.cell 3 _ rfl
  have t4 := k3.cell 4 _ rfl
  have u0 := k2.froz 0
  have u1 := k2.froz 1
  have u2 := k2.froz 2
  have u3 := k2.froz 3
  have v0 := k2.cell 0 _ rfl
  have v1 := k2.cell 1 _ rfl
  have v2 := k2.cell 2 _ rfl
  have v3 := k2.cell 3 _ rfl
  have dl2 := k2.lt
  have HG3 := Lib.hid hg3
  have B4 := Lib.hid b4
  have J1 := Lib.hid k1
  have J2 := Lib.hid k2
  clear k1 k2 k3 b4 dlt1 dlt2 hg3
  go_wp2_with fail
  refine HKa.out _ _ ?_
  obtain ⟨g4, hg4⟩ : ∃ g4, W4.heap.size = g4 := ⟨_, rfl⟩
  rw [hg4]
  refine forget (fun W => Bx W (g + 1) 54 (tdc 0 (.slice none 0 0) false 0) ∧ Bx W (g + 1 + 1) 54 (tdc 0 (.slice (some ⟨g4, 0, none⟩) 1 1) is E) ∧ Bx W g4 32 [.int .u8 M.pr, .int .u32 M.ttl, .int .u32 M.cnt, .string ⟨M.ids.toArray⟩, .slice A1 n1 c1] ∧ Tch [g + 1 + 1] W4 W) ⟨((((J1.out.off (by omega)).off (by omega)).off (by omega)).off (by omega)).alloc _, ((((J2.out.set 0 _).set 1 _).set 2 _).set 3 _).alloc _, Bx.new' _ _ [_, _, _, _, _] (by simp [hg4]), ?_⟩ ?_
  · refine Tch.alloc ?_ _
    with_reducible repeat first | exact Tch.refl _ _ | refine Tch.setCell ?_ _ (.inl (by simp))
  rintro W5 ⟨k1, k2, k3, b5⟩
  have q0 := k2.cell 0 _ rfl
  have q1 := k2.cell 1 _ rfl
  have q2 := k2.cell 2 _ rfl
  have q3 := k2.cell 3 _ rfl
  have r0 := k1.cell 0 _ rfl
  have r1 := k1.cell 1 _ rfl
  have r2 := k1.cell 2 _ rfl
  have r3 := k1.cell 3 _ rfl
  have s0 := k1.froz 0
  have s1 := k1.froz 1
  have s2 := k1.froz 2
  have s3 := k1.froz 3
  have E1 := Lib.hid k1
  have E3 := Lib.hid k3
  have E5 := Lib.hid b5
  have HG4 := Lib.hid hg4
  clear k1 k2 k3 b5 t0 t1 t2 t3 t4 u0 u1 u2 u3 v0 v1 v2 v3 dl2 hg4
  go_wp2_with fail
  refine bodyPost_ret (results_c rfl rfl (((((E1.out.set 0 _).set 1 _).set 2 _).set 3 _).loadAgg (by kernel_rfl) (by kernel_rfl))) rfl ?_
  refine ⟨.slice (some ⟨g4, 0, none⟩) 1 1, .slice A1 n1 c1, rfl, ?_⟩
  have hZ : ∀ k ∈ Z, k < g := by have := (G.old Z w H.out).2; intro k hk; have h1 := (this k hk).2; rw [HG.out] at h1; exact h1
  have t1 : Tch [g + 1 + 1, g + 1] w3 W5 := ((Tch.of_below _ B4.out).trans E5.out (by simp))
  have t2 := (((t1.setCell (g := g + 1) (j := 0) (.int .i64 0) (.inl (by simp))).setCell (g := g + 1) (j := 1) (.slice (some ⟨g4, 0, none⟩) 1 1) (.inl (by simp))).setCell (g := g + 1) (j := 2) (.bool is) (.inl (by simp))).setCell (g := g + 1) (j := 3) (.int .i64 E) (.inl (by simp))
  have hg43 : g3 ≤ g4 := by have := B4.out.size; rw [HG3.out, HG4.out] at this; exact this
  have hg13 : g + 1 < g3 := by have := HK1.out.lt; rw [HG3.out] at this; exact this
  refine ⟨msl_one ?_ (by rw [HG.out]; omega) ?_, does_out G' HI3.out t2 hZ HZZ.out⟩
  · exact (((E3.out.off (by omega)).off (by omega)).off (by omega)).off (by omega)
  · refine HBD.out.tch t2 fun k hk => ?_
    simp only [List.mem_cons, List.not_mem_nil, or_false] at hk
    rcases hk with rfl | rfl
    · exact ⟨_, HK2.out, by simp⟩
    · exact ⟨_, HK1.out, by simp⟩
end Go.Proofs.Ytkoihcfdchcgdaa
import Derived.Test.YtklgndmndnmdpaaHWorks
import Derived.Test.YtklgndmndnmdpaaQRcopy
import Derived.Test.YtklgndmndnmdpaaHeld
set_option linter.unusedVariables false
set_option linter.unusedSimpArgs false
namespace Go.Proofs.Ytklgndmndnmdpaa
open Go.RowKit Go.Shelf

/-- Something in memory, beside guests. -/
structure GI (w0 : World) (I : List Nat → World → Prop) : Prop where
  guest : ∀ Z N W W', I Z W → Below W.heap.size W W' → (∀ k ∈ N, W.heap.size ≤ k ∧ k < W'.heap.size) → I (N ++ Z) W'
  zset : ∀ Z W W', I Z W → Tch Z W W' → I Z W'
  less : ∀ Z Z' W, I Z W → (∀ k ∈ Z', k ∈ Z) → I Z' W
  old : ∀ Z W, I Z W → Below w0.heap.size w0 W ∧ ∀ k ∈ Z, w0.heap.size ≤ k ∧ k < W.heap.size
theorem HF.zs {w0 w : World} {G : List Nat} {h lost : Nat} {C : List Cf} {Qs : List Qu} (hf : HF w0 w G h C Qs lost) : ∀ k ∈ G, w0.heap.size ≤ k ∧ k < w.heap.size := by
  obtain ⟨⟨cv, r, D, h1, h2, h3, h4, h5⟩, -, -, -⟩ := hf
  exact fun k hk => h5.1.1.2 k (List.mem_append_right _ hk)
theorem gi_hf (w0 : World) (h : Nat) (C : List Cf) (Qs : List Qu) (lost : Nat) : GI w0 fun Z W => HF w0 W Z h C Qs lost :=
  ⟨fun Z N W W' h hb hN => h.guest hb hN, fun Z W W' h t => h.zset t, fun Z Z' W h hs => h.less hs, fun Z W h => ⟨h.blw, h.zs⟩⟩
/-- Where there is nothing but guests. -/
def NI (w0 : World) (Z : List Nat) (W : World) : Prop := Below w0.heap.size w0 W ∧ ∀ k ∈ Z, w0.heap.size ≤ k ∧ k < W.heap.size
theorem gi_ni (w0 : World) : GI w0 (NI w0) :=
  ⟨fun Z N W W' h hb hN => ⟨below_then h.1 h.1.size hb, fun k hk => by
      rcases List.mem_append.1 hk with e | e
      · exact ⟨Nat.le_trans h.1.size (hN k e).1, (hN k e).2⟩
      · exact ⟨(h.2 k e).1, Nat.lt_of_lt_of_le (h.2 k e).2 hb.size⟩⟩,
    fun Z W W' h t => ⟨h.1.trans (t.below h.1.size fun k hk => (h.2 k hk).1), fun k hk => ⟨(h.2 k hk).1, Nat.lt_of_lt_of_le (h.2 k hk).2 t.size⟩⟩,
    fun Z Z' W h hs => ⟨h.1, fun k hk => h.2 k (hs k hk)⟩, fun Z W h => h⟩
section
variable {w0 : World} {I : List Nat → World → Prop} (G : GI w0 I)
include G
theorem GI.below {Z : List Nat} {W W' : World} (h : I Z W) (hb : Below W.heap.size W W') : I Z W' := G.guest Z [] W W' h hb (by simp)
theorem GI.kz {Z : List Nat} {W W' : World} (h : I Z W) (hb : Below W.heap.size W W') : Kz Z w0 W W' := Kz.of_below hb (G.old Z W h).1.size fun k hk => ((G.old Z W h).2 k hk).2
end
theorem Kz.tch_new {Z N : List Nat} {w0 w w1 w' : World} (h : Kz Z w0 w w1) (t : Tch N w1 w') (hN : ∀ k ∈ N, w.heap.size ≤ k) (hZ : ∀ k ∈ Z, k < w.heap.size) (h0 : w0.heap.size ≤ w.heap.size) : Kz Z w0 w w' :=
  ⟨Nat.le_trans h.size t.size, fun k hk => by
    have hl : k < w.heap.size := by rcases hk with hk | hk; exact hZ k hk; omega
    exact (t.block k (Nat.lt_of_lt_of_le hl h.size) fun hm => by have := hN k hm; omega).trans (h.block k hk), fun k cs ty fr hty hk => by
    have hl := heap_lt hk
    exact (t.block k (Nat.lt_of_lt_of_le hl h.size) fun hm => by have := hN k hm; omega).trans (h.sty k cs ty fr hty hk)⟩
/-- What is to be done. -/
structure HOp where
  kind : Int
  id : Int
  name : List UInt8
  m : Mg
  o : Oc
  now : Int
def hoc (x : HOp) (bv : Value) : List Value := [.int .i64 x.kind, .int .i64 x.id, str x.name, .int .u8 x.m.pr, .int .u32 x.m.ttl, .int .u32 x.m.cnt, str x.m.ids, bv, .int .u8 x.o.k, .int .u64 x.o.a, .int .u64 x.o.b, str x.o.c, .int .i64 x.now]
/-- What is told. -/
structure Td where
  name : List UInt8
  id : Nat
  m : Mg
  is : Bool
  e : Nat
def zTd : Td := ⟨[], 0, zMg, false, 0⟩
def tcs (t : Td) (v : Value) : List Value := [str t.name, .int .i64 t.id, .int .u8 t.m.pr, .int .u32 t.m.ttl, .int .u32 t.m.cnt, str t.m.ids, v, .bool t.is, .int .i64 t.e]
set_option maxRecDepth 100000 in
set_option maxHeartbeats 2000000 in
theorem does_other {w0 w : World} {I : List Nat → World → Prop} (G : GI w0 I) {Z : List Nat} (h : I Z w) (p0 : Option Addr) (x : HOp) (bv : Value) (hb : ∃ A n c, bv = .slice A n c) (h0 : x.kind ≠ 0) (h1 : x.kind ≠ 1) (h2 : x.kind ≠ 2) (h3 : x.kind ≠ 3) :
    Calls Try.prog 13 #[.pointer p0, .agg (hoc x bv).toArray] w fun r w' => r = .returned (.agg (tcs zTd (.slice none 0 0)).toArray) ∧ I Z w' ∧ Kz Z w0 w w' := by
  obtain ⟨A, n, c, rfl⟩ := hb
  have k0 : (x.kind == 0) = false := by simpa using h0
  have k1 : (x.kind == 1) = false := by simpa using h1
  have k2 : (x.kind == 2) = false := by simpa using h2
  have k3 : (x.kind == 3) = false := by simpa using h3
  have H := Lib.hid h
  clear h
  unfold hoc str
  go_enter Try.func13, Try.ntmps13
  go_wp2_with fail
  refine forgetX (fun W => Bx W (w.heap.size + 1) 43 (tcs zTd (.slice none 0 0)) ∧ Below w.heap.size w W) ⟨?_, ?_⟩ ?_
  · exact (Bx.new' (w.alloc _) (b := w.heap.size + 1) 43 (tcs zTd (.slice none 0 0)) (by simp)).alloc _
  · exact (below2 w _ _).alloc (by simp; omega) _
  rintro W ⟨hB, hb⟩
  exact bodyPost_ret (results_c rfl rfl (hB.loadAgg (by kernel_rfl) (by kernel_rfl))) rfl ⟨rfl, G.below H.out hb, G.kz H.out hb⟩
/-- What stands behind the three boxes of does. -/
structure D3 (W : World) (g : Nat) (x : HOp) (bv : Value) : Prop where
  op : Bx W g 49 (hoc x bv)
  t1 : Bx W (g + 1) 43 (tcs zTd (.slice none 0 0))
  t2 : Bx W (g + 1 + 1) 43 (tcs zTd (.slice none 0 0))
theorem D3.new (w : World) {g : Nat} (hg : w.heap.size = g) (x : HOp) (bv : Value) : D3 (((w.alloc (.cells (hoc x bv).toArray 49)).alloc (.cells (tcs zTd (.slice none 0 0)).toArray 43)).alloc (.cells (tcs zTd (.slice none 0 0)).toArray 43)) g x bv :=
  ⟨((Bx.new' w 49 (hoc x bv) hg.symm).alloc _).alloc _, (Bx.new' (w.alloc _) (b := g + 1) 43 (tcs zTd (.slice none 0 0)) (by simp; omega)).alloc _, Bx.new' ((w.alloc _).alloc _) (b := g + 1 + 1) 43 (tcs zTd (.slice none 0 0)) (by simp; omega)⟩
theorem D3.kz {W W' : World} {g : Nat} {x : HOp} {bv : Value} {Z : List Nat} {w0 : World} (h : D3 W g x bv) (k : Kz Z w0 W W') (h0 : g ∈ Z) (h1 : g + 1 ∈ Z) (h2 : g + 1 + 1 ∈ Z) : D3 W' g x bv := ⟨k.bx h.op (.inl h0), k.bx h.t1 (.inl h1), k.bx h.t2 (.inl h2)⟩
theorem D3.below {W W' : World} {g : Nat} {x : HOp} {bv : Value} (h : D3 W g x bv) (k : Below W.heap.size W W') : D3 W' g x bv := ⟨h.op.below k, h.t1.below k, h.t2.below k⟩
theorem below3 (w : World) (o1 o2 o3 : Obj) : Below w.heap.size w (((w.alloc o1).alloc o2).alloc o3) := (below2 w o1 o2).alloc (by simp; omega) o3
set_option maxRecDepth 100000 in
set_option maxHeartbeats 4000000 in
theorem does_tick {w0 w : World} {I I' : List Nat → World → Prop} (G : GI w0 I) (G' : GI w0 I') {Z : List Nat} (h : I Z w) (p0 : Option Addr) (x : HOp) (bv : Value) (hb : ∃ A n c, bv = .slice A n c) (h3 : x.kind = 3)
    (hp : ∀ Z W, I Z W → Calls Try.prog 22 #[.pointer p0, .int .i64 x.now] W fun r w' => (∃ u, r = .returned u) ∧ I' Z w' ∧ Kz Z w0 W w') :
    Calls Try.prog 13 #[.pointer p0, .agg (hoc x bv).toArray] w fun r w' => r = .returned (.agg (tcs zTd (.slice none 0 0)).toArray) ∧ I' Z w' ∧ Kz Z w0 w w' := by
  obtain ⟨A, n, c, rfl⟩ := hb
  obtain ⟨K, hK⟩ : ∃ K, x.kind = K := ⟨_, rfl⟩
  rw [hK] at h3
  subst h3
  obtain ⟨g, hg⟩ : ∃ g, w.heap.size = g := ⟨_, rfl⟩
  have hd := D3.new w hg x (.slice A n c)
  unfold hoc str at hd
  rw [hK] at hd
  have hbb := below3 w (.cells #[.int .i64 3, .int .i64 x.id, .string ⟨x.name.toArray⟩, .int .u8 x.m.pr, .int .u32 x.m.ttl, .int .u32 x.m.cnt, .string ⟨x.m.ids.toArray⟩, .slice A n c, .int .u8 x.o.k, .int .u64 x.o.a, .int .u64 x.o.b, .string ⟨x.o.c.toArray⟩, .int .i64 x.now] 49) (.cells (tcs zTd (.slice none 0 0)).toArray 43) (.cells (tcs zTd (.slice none 0 0)).toArray 43)
  have hI := G.guest Z [g, g + 1, g + 1 + 1] w _ h hbb (fun k hk => by simp at hk; simp; omega)
  have hkz := G.kz h hbb
  have HZ := Lib.hid (show ∀ k ∈ Z, k < w.heap.size from fun k hk => ((G.old Z w h).2 k hk).2)
  have H0 := Lib.hid (show w0.heap.size ≤ w.heap.size from (G.old Z w h).1.size)
  have HD := Lib.hid hd
  have HI := Lib.hid hI
  have HKZ := Lib.hid hkz
  have HBB := Lib.hid hbb
  have HP := Lib.hid hp
  have HG := Lib.hid hg
  clear h hp hd hI hkz hg hbb
  unfold hoc str
  rw [hK]
  clear hK
  go_enter Try.func13, Try.ntmps13
  go_wp2_with fail
  rw [HG.out]
  refine (HP.out _ _ HI.out).mono ?_
  rintro e V ⟨⟨u, rfl⟩, iV, kV⟩
  have dV := HD.out.kz kV (by simp) (by simp) (by simp)
  have HV := Lib.hid dV.t1
  have HT := Lib.hid dV.t2
  have HIV := Lib.hid iV
  have HKV := Lib.hid (HKZ.out.trans (kV.mono fun k hk => List.mem_append_right _ hk))
  clear iV kV dV HD HI HP HKZ
  have q0 := HT.out.cell 0 (.string ⟨#[]⟩) rfl
  have q1 := HT.out.cell 1 (.int .i64 0) rfl
  have q2 := HT.out.cell 2 (.int .u8 0) rfl
  have q3 := HT.out.cell 3 (.int .u32 0) rfl
  have q4 := HT.out.cell 4 (.int .u32 0) rfl
  have q5 := HT.out.cell 5 (.string ⟨#[]⟩) rfl
  have q6 := HT.out.cell 6 (.slice none 0 0) rfl
  have q7 := HT.out.cell 7 (.bool false) rfl
  have q8 := HT.out.cell 8 (.int .i64 0) rfl
  have r0 := HV.out.cell 0 (.string ⟨#[]⟩) rfl
  have r1 := HV.out.cell 1 (.int .i64 0) rfl
  have r2 := HV.out.cell 2 (.int .u8 0) rfl
  have r3 := HV.out.cell 3 (.int .u32 0) rfl
  have r4 := HV.out.cell 4 (.int .u32 0) rfl
  have r5 := HV.out.cell 5 (.string ⟨#[]⟩) rfl
  have r6 := HV.out.cell 6 (.slice none 0 0) rfl
  have r7 := HV.out.cell 7 (.bool false) rfl
  have r8 := HV.out.cell 8 (.int .i64 0) rfl
  have s0 := HV.out.froz 0
  have s1 := HV.out.froz 1
  have s2 := HV.out.froz 2
  have s3 := HV.out.froz 3
  have s4 := HV.out.froz 4
  have s5 := HV.out.froz 5
  have s6 := HV.out.froz 6
  have s7 := HV.out.froz 7
  have s8 := HV.out.froz 8
  go_wp2_with fail
  have hne : g + 1 ≠ g + 1 + 1 := by omega
  refine forgetX (fun U => Bx U (g + 1) 43 (tcs zTd (.slice none 0 0)) ∧ Tch [g + 1, g + 1 + 1] V U) ⟨?_, ?_⟩ ?_
  · (with_reducible refine Bx.to ((((((((((HV.out.set 0 _).set 1 _).set 2 _).set 3 _).set 4 _).set 5 _).set 6 _).set 7 _).set 8 _)) ?_) ; rfl
  · with_reducible repeat first | exact Tch.refl _ _ | refine Tch.setCell ?_ _ (.inl (by simp))
  rintro U ⟨ka, kt⟩
  have hIU := G'.zset _ _ U HIV.out (kt.mono fun k hk => by simp at hk; rcases hk with rfl | rfl <;> simp)
  have hKU : Kz Z w0 w U := HKV.out.tch_new kt (fun k hk => by have := HG.out; simp at hk; omega) HZ.out H0.out
  exact bodyPost_ret (results_c rfl rfl (ka.loadAgg (by kernel_rfl) (by kernel_rfl))) rfl ⟨rfl, G'.less _ _ _ hIU (fun k hk => List.mem_append_right _ hk), hKU⟩
set_option maxRecDepth 100000 in
set_option maxHeartbeats 4000000 in
theorem does_set {w0 w : World} {I I' : List Nat → World → Prop} (G : GI w0 I) (G' : GI w0 I') {Z : List Nat} (h : I Z w) (p0 : Option Addr) (x : HOp) (bv : Value) (hb : ∃ A n c, bv = .slice A n c) (h3 : x.kind = 2) (E : Nat)
    (hp : ∀ Z W, I Z W → Calls Try.prog 24 #[.pointer p0, .agg (kci x.name x.id).toArray, .agg (occ x.o).toArray, .int .i64 x.now] W fun r w' => r = .returned (.int .i64 E) ∧ I' Z w' ∧ Kz Z w0 W w') :
    Calls Try.prog 13 #[.pointer p0, .agg (hoc x bv).toArray] w fun r w' => r = .returned (.agg (tcs { zTd with e := E } (.slice none 0 0)).toArray) ∧ I' Z w' ∧ Kz Z w0 w w' := by
  obtain ⟨A, n, c, rfl⟩ := hb
  unfold kci occ str at hp
  obtain ⟨K, hK⟩ : ∃ K, x.kind = K := ⟨_, rfl⟩
  rw [hK] at h3
  subst h3
  obtain ⟨g, hg⟩ : ∃ g, w.heap.size = g := ⟨_, rfl⟩
  have hd := D3.new w hg x (.slice A n c)
  unfold hoc str at hd
  rw [hK] at hd
  have hbb := below3 w (.cells #[.int .i64 2, .int .i64 x.id, .string ⟨x.name.toArray⟩, .int .u8 x.m.pr, .int .u32 x.m.ttl, .int .u32 x.m.cnt, .string ⟨x.m.ids.toArray⟩, .slice A n c, .int .u8 x.o.k, .int .u64 x.o.a, .int .u64 x.o.b, .string ⟨x.o.c.toArray⟩, .int .i64 x.now] 49) (.cells (tcs zTd (.slice none 0 0)).toArray 43) (.cells (tcs zTd (.slice none 0 0)).toArray 43)
  have hI := G.guest Z [g, g + 1, g + 1 + 1] w _ h hbb (fun k hk => by simp at hk; simp; omega)
  have hkz := G.kz h hbb
  have HZ := Lib.hid (show ∀ k ∈ Z, k < w.heap.size from fun k hk => ((G.old Z w h).2 k hk).2)
  have H0 := Lib.hid (show w0.heap.size ≤ w.heap.size from (G.old Z w h).1.size)
  have HD := Lib.hid hd
  have HI := Lib.hid hI
  have HKZ := Lib.hid hkz
  have HBB := Lib.hid hbb
  have HP := Lib.hid hp
  have HG := Lib.hid hg
  clear h hp hd hI hkz hg hbb
  unfold hoc str
  rw [hK]
  clear hK
  go_enter Try.func13, Try.ntmps13
  go_wp2_with fail
  rw [HG.out]
  refine (HP.out _ _ HI.out).mono ?_
  rintro e V ⟨rfl, iV, kV⟩
  have dV := HD.out.kz kV (by simp) (by simp) (by simp)
  have HV := Lib.hid dV.t1
  have HT := Lib.hid dV.t2
  have HIV := Lib.hid iV
  have HKV := Lib.hid (HKZ.out.trans (kV.mono fun k hk => List.mem_append_right _ hk))
  clear iV kV dV HD HI HP HKZ HBB
  have q0 := HT.out.cell 0 (.string ⟨#[]⟩) rfl
  have q1 := HT.out.cell 1 (.int .i64 0) rfl
  have q2 := HT.out.cell 2 (.int .u8 0) rfl
  have q3 := HT.out.cell 3 (.int .u32 0) rfl
  have q4 := HT.out.cell 4 (.int .u32 0) rfl
  have q5 := HT.out.cell 5 (.string ⟨#[]⟩) rfl
  have q6 := HT.out.cell 6 (.slice none 0 0) rfl
  have q7 := HT.out.cell 7 (.bool false) rfl
  have q8 := HT.out.cell 8 (.int .i64 0) rfl
  have r0 := HV.out.cell 0 (.string ⟨#[]⟩) rfl
  have r1 := HV.out.cell 1 (.int .i64 0) rfl
  have r2 := HV.out.cell 2 (.int .u8 0) rfl
  have r3 := HV.out.cell 3 (.int .u32 0) rfl
  have r4 := HV.out.cell 4 (.int .u32 0) rfl
  have r5 := HV.out.cell 5 (.string ⟨#[]⟩) rfl
  have r6 := HV.out.cell 6 (.slice none 0 0) rfl
  have r7 := HV.out.cell 7 (.bool false) rfl
  have r8 := HV.out.cell 8 (.int .i64 0) rfl
  have s0 := HV.out.froz 0
  have s1 := HV.out.froz 1
  have s2 := HV.out.froz 2
  have s3 := HV.out.froz 3
  have s4 := HV.out.froz 4
  have s5 := HV.out.froz 5
  have s6 := HV.out.froz 6
  have s7 := HV.out.froz 7
  have s8 := HV.out.froz 8
  have t8 := HT.out.froz 8
  go_wp2_with fail
  have hne : g + 1 ≠ g + 1 + 1 := by omega
  refine forgetX (fun U => Bx U (g + 1) 43 (tcs { zTd with e := E } (.slice none 0 0)) ∧ Tch [g + 1, g + 1 + 1] V U) ⟨?_, ?_⟩ ?_
  · (with_reducible refine Bx.to (((((((((((HV.out.off hne).set 0 _).set 1 _).set 2 _).set 3 _).set 4 _).set 5 _).set 6 _).set 7 _).set 8 _)) ?_) ; rfl
  · with_reducible repeat first | exact Tch.refl _ _ | refine Tch.setCell ?_ _ (.inl (by simp))
  rintro U ⟨ka, kt⟩
  have hIU := G'.zset _ _ U HIV.out (kt.mono fun k hk => by simp at hk; rcases hk with rfl | rfl <;> simp)
  have hKU : Kz Z w0 w U := HKV.out.tch_new kt (fun k hk => by have := HG.out; simp at hk; omega) HZ.out H0.out
  exact bodyPost_ret (results_c rfl rfl (ka.loadAgg (by kernel_rfl) (by kernel_rfl))) rfl ⟨rfl, G'.less _ _ _ hIU (fun k hk => List.mem_append_right _ hk), hKU⟩
set_option maxRecDepth 100000 in
set_option maxHeartbeats 4000000 in
theorem does_acq {w0 w : World} {I I' : List Nat → World → Prop} (G : GI w0 I) (G' : GI w0 I') {Z : List Nat} (h : I Z w) (p0 : Option Addr) (x : HOp) (bv : Value) (hb : ∃ A n c, bv = .slice A n c) (h3 : x.kind = 1) (t : Td) (ht : t.e = 0)
    (hp : ∀ Z W, I Z W → Calls Try.prog 23 #[.pointer p0, str x.name, .int .i64 x.now] W fun r w' => ∃ v, r = .returned (.tuple #[.agg (kcs t.name t.id).toArray, mgv t.m v, .bool t.is]) ∧ Bdv w' v t.m.body ∧ I' Z w' ∧ Kz Z w0 W w') :
    Calls Try.prog 13 #[.pointer p0, .agg (hoc x bv).toArray] w fun r w' => ∃ v, r = .returned (.agg (tcs t v).toArray) ∧ Bdv w' v t.m.body ∧ I' Z w' ∧ Kz Z w0 w w' := by
  obtain ⟨A, n, c, rfl⟩ := hb
  unfold str at hp
  obtain ⟨K, hK⟩ : ∃ K, x.kind = K := ⟨_, rfl⟩
  rw [hK] at h3
  subst h3
  obtain ⟨g, hg⟩ : ∃ g, w.heap.size = g := ⟨_, rfl⟩
  have hd := D3.new w hg x (.slice A n c)
  unfold hoc str at hd
  rw [hK] at hd
  have hbb := below3 w (.cells #[.int .i64 1, .int .i64 x.id, .string ⟨x.name.toArray⟩, .int .u8 x.m.pr, .int .u32 x.m.ttl, .int .u32 x.m.cnt, .string ⟨x.m.ids.toArray⟩, .slice A n c, .int .u8 x.o.k, .int .u64 x.o.a, .int .u64 x.o.b, .string ⟨x.o.c.toArray⟩, .int .i64 x.now] 49) (.cells (tcs zTd (.slice none 0 0)).toArray 43) (.cells (tcs zTd (.slice none 0 0)).toArray 43)
  have hI := G.guest Z [g, g + 1, g + 1 + 1] w _ h hbb (fun k hk => by simp at hk; simp; omega)
  have hkz := G.kz h hbb
  have HZ := Lib.hid (show ∀ k ∈ Z, k < w.heap.size from fun k hk => ((G.old Z w h).2 k hk).2)
  have H0 := Lib.hid (show w0.heap.size ≤ w.heap.size from (G.old Z w h).1.size)
  have HD := Lib.hid hd
  have HI := Lib.hid hI
  have HKZ := Lib.hid hkz
  have HBB := Lib.hid hbb
  have HP := Lib.hid hp
  have HG := Lib.hid hg
  clear h hp hd hI hkz hg hbb
  unfold hoc str
  rw [hK]
  clear hK
  go_enter Try.func13, Try.ntmps13
  go_wp2_with fail
  rw [HG.out]
  refine (HP.out _ _ HI.out).mono ?_
  rintro e V ⟨v, rfl, bV, iV, kV⟩
  obtain ⟨A4, c4, rfl, bV'⟩ := id bV
  obtain ⟨n4, hn4⟩ : ∃ n4, t.m.body.length = n4 := ⟨_, rfl⟩
  rw [hn4] at bV ⊢
  obtain ⟨e4, he4⟩ : ∃ e4, t.e = e4 := ⟨_, rfl⟩
  rw [he4] at ht
  subst ht
  have dV := HD.out.kz kV (by simp) (by simp) (by simp)
  have HV := Lib.hid dV.t1
  have HT := Lib.hid dV.t2
  have HIV := Lib.hid iV
  have HBV := Lib.hid bV
  have HE4 := Lib.hid he4
  have HKV := Lib.hid (HKZ.out.trans (kV.mono fun k hk => List.mem_append_right _ hk))
  rw [mgv_eq']
  unfold kcs str
  clear iV kV dV HD HI HP HKZ HBB bV bV' he4 hn4
  have q0 := HT.out.cell 0 (.string ⟨#[]⟩) rfl
  have q1 := HT.out.cell 1 (.int .i64 0) rfl
  have q2 := HT.out.cell 2 (.int .u8 0) rfl
  have q3 := HT.out.cell 3 (.int .u32 0) rfl
  have q4 := HT.out.cell 4 (.int .u32 0) rfl
  have q5 := HT.out.cell 5 (.string ⟨#[]⟩) rfl
  have q6 := HT.out.cell 6 (.slice none 0 0) rfl
  have q7 := HT.out.cell 7 (.bool false) rfl
  have q8 := HT.out.cell 8 (.int .i64 0) rfl
  have r0 := HV.out.cell 0 (.string ⟨#[]⟩) rfl
  have r1 := HV.out.cell 1 (.int .i64 0) rfl
  have r2 := HV.out.cell 2 (.int .u8 0) rfl
  have r3 := HV.out.cell 3 (.int .u32 0) rfl
  have r4 := HV.out.cell 4 (.int .u32 0) rfl
  have r5 := HV.out.cell 5 (.string ⟨#[]⟩) rfl
  have r6 := HV.out.cell 6 (.slice none 0 0) rfl
  have r7 := HV.out.cell 7 (.bool false) rfl
  have r8 := HV.out.cell 8 (.int .i64 0) rfl
  have s0 := HV.out.froz 0
  have s1 := HV.out.froz 1
  have s2 := HV.out.froz 2
  have s3 := HV.out.froz 3
  have s4 := HV.out.froz 4
  have s5 := HV.out.froz 5
  have s6 := HV.out.froz 6
  have s7 := HV.out.froz 7
  have s8 := HV.out.froz 8
  have t0 := HT.out.froz 0
  have t1 := HT.out.froz 1
  have t2 := HT.out.froz 2
  have t3 := HT.out.froz 3
  have t4 := HT.out.froz 4
  have t5 := HT.out.froz 5
  have t6 := HT.out.froz 6
  have t7 := HT.out.froz 7
  go_wp2_with fail
  have hne : g + 1 ≠ g + 1 + 1 := by omega
  refine forgetX (fun U => Bx U (g + 1) 43 ([str t.name, .int .i64 t.id, .int .u8 t.m.pr, .int .u32 t.m.ttl, .int .u32 t.m.cnt, str t.m.ids, .slice A4 n4 c4, .bool t.is, .int .i64 0]) ∧ Tch [g + 1, g + 1 + 1] V U) ⟨?_, ?_⟩ ?_
  · (with_reducible refine Bx.to ((((((((((((((((((HV.out.off hne).off hne).off hne).off hne).off hne).off hne).off hne).off hne).set 0 _).set 1 _).set 2 _).set 3 _).set 4 _).set 5 _).set 6 _).set 7 _).set 8 _)) ?_) ; rfl
  · with_reducible repeat first | exact Tch.refl _ _ | refine Tch.setCell ?_ _ (.inl (by simp))
  rintro U ⟨ka, kt⟩
  have hIU := G'.zset _ _ U HIV.out (kt.mono fun k hk => by simp at hk; rcases hk with rfl | rfl <;> simp)
  have hKU : Kz Z w0 w U := HKV.out.tch_new kt (fun k hk => by have := HG.out; simp at hk; omega) HZ.out H0.out
  have hnos : ∀ k ∈ [g + 1, g + 1 + 1], ∃ o, V.heap[k]? = some o ∧ ∀ (cs : Array Value) (fr : Nat × Nat), o ≠ Obj.cells cs 5 fr := fun k hk => by
    simp only [List.mem_cons, List.not_mem_nil, or_false] at hk
    rcases hk with rfl | rfl
    · exact ⟨_, HV.out, fun cs fr he => by cases he⟩
    · exact ⟨_, HT.out, fun cs fr he => by cases he⟩
  refine bodyPost_ret (results_c rfl rfl (ka.loadAgg (by kernel_rfl) (by kernel_rfl))) rfl ⟨.slice A4 n4 c4, ?_, HBV.out.tch kt hnos, G'.less _ _ _ hIU (fun k hk => List.mem_append_right _ hk), hKU⟩
  unfold tcs
  rw [HE4.out]
  rfl
set_option maxRecDepth 100000 in
set_option maxHeartbeats 4000000 in
theorem does_put {w0 w : World} {I I' : List Nat → World → Prop} (G : GI w0 I) (G' : GI w0 I') {Z : List Nat} (h : I Z w) (p0 : Option Addr) (x : HOp) (A : Option Addr) (c n : Nat) (hn : x.m.body.length = n) (hrd : Rd w A c x.m.body) (hn2 : n ≤ 4096) (h3 : x.kind = 0) (E : Nat)
    (hp : ∀ Z W v, I Z W → Bdv W v x.m.body → Calls Try.prog 21 #[.pointer p0, str x.name, mgv x.m v, .int .i64 x.now] W fun r w' => r = .returned (.int .i64 E) ∧ I' Z w' ∧ Kz Z w0 W w') :
    Calls Try.prog 13 #[.pointer p0, .agg (hoc x (.slice A n c)).toArray] w fun r w' => r = .returned (.agg (tcs { zTd with e := E } (.slice none 0 0)).toArray) ∧ I' Z w' ∧ Kz Z w0 w w' := by
  have HRD := Lib.hid hrd
  have HN := Lib.hid hn
  clear hrd hn
  unfold str at hp
  obtain ⟨K, hK⟩ : ∃ K, x.kind = K := ⟨_, rfl⟩
  rw [hK] at h3
  subst h3
  obtain ⟨g, hg⟩ : ∃ g, w.heap.size = g := ⟨_, rfl⟩
  have hd := D3.new w hg x (.slice A n c)
  unfold hoc str at hd
  rw [hK] at hd
  have hbb := below3 w (.cells #[.int .i64 0, .int .i64 x.id, .string ⟨x.name.toArray⟩, .int .u8 x.m.pr, .int .u32 x.m.ttl, .int .u32 x.m.cnt, .string ⟨x.m.ids.toArray⟩, .slice A n c, .int .u8 x.o.k, .int .u64 x.o.a, .int .u64 x.o.b, .string ⟨x.o.c.toArray⟩, .int .i64 x.now] 49) (.cells (tcs zTd (.slice none 0 0)).toArray 43) (.cells (tcs zTd (.slice none 0 0)).toArray 43)
  have hI := G.guest Z [g, g + 1, g + 1 + 1] w _ h hbb (fun k hk => by simp at hk; simp; omega)
  have hkz := G.kz h hbb
  have HZ := Lib.hid (show ∀ k ∈ Z, k < w.heap.size from fun k hk => ((G.old Z w h).2 k hk).2)
  have H0 := Lib.hid (show w0.heap.size ≤ w.heap.size from (G.old Z w h).1.size)
  have HD := Lib.hid hd
  have HI := Lib.hid hI
  have HKZ := Lib.hid hkz
  have HBB := Lib.hid hbb
  have HP := Lib.hid hp
  have HG := Lib.hid hg
  clear h hp hd hI hkz hg hbb
  unfold hoc str
  rw [hK]
  clear hK
  go_enter Try.func13, Try.ntmps13
  go_wp2_with fail
  rw [HG.out]
  refine forget (fun W => I ([g, g + 1, g + 1 + 1] ++ Z) W ∧ D3 W g x (.slice A n c) ∧ Kz Z w0 w W ∧ Rd W A c x.m.body) ⟨HI.out, HD.out, HKZ.out, HRD.out.below HBB.out⟩ ?_
  rintro wa ⟨iA, dA, kA, rA⟩
  obtain ⟨S, hSd⟩ : ∃ S : World → Prop, S = fun W' : World => W'.cell? ⟨g, 2, none⟩ = some (.string ⟨x.name.toArray⟩) ∧ W'.cell? ⟨g, 3, none⟩ = some (.int .u8 x.m.pr) ∧ W'.cell? ⟨g, 4, none⟩ = some (.int .u32 x.m.ttl) ∧ W'.cell? ⟨g, 5, none⟩ = some (.int .u32 x.m.cnt) ∧ W'.cell? ⟨g, 6, none⟩ = some (.string ⟨x.m.ids.toArray⟩) ∧ W'.cell? ⟨g, 7, none⟩ = some (.slice A n c) ∧ W'.cell? ⟨g, 12, none⟩ = some (.int .i64 x.now) := ⟨_, rfl⟩
  have hSb : ∀ W, Bx W g 49 (hoc x (.slice A n c)) → S W := fun W hb => by rw [hSd]; exact ⟨hb.cell 2 _ rfl, hb.cell 3 _ rfl, hb.cell 4 _ rfl, hb.cell 5 _ rfl, hb.cell 6 _ rfl, hb.cell 7 _ rfl, hb.cell 12 _ rfl⟩
  have hS : S wa.drew := hSb _ dA.op.drew
  have HSd := Lib.hid hSd
  have HSB := Lib.hid hSb
  have IA := Lib.hid (G.below iA (below_drew wa))
  have DA := Lib.hid (dA.below (below_drew wa))
  have KA := Lib.hid (kA.trans ((G.kz iA (below_drew wa)).mono fun k hk => List.mem_append_right _ hk))
  have RA := Lib.hid (rA.below (below_drew wa))
  clear iA dA kA rA hSd hSb HI HD HKZ HRD HBB
  refine (wpIn_wide (n := 0)).1 ?_
  refine s_region [] S (by kernel_rfl) ?_
  refine s_take (fun _ => trivial) (by kernel_rfl) 0 rfl (by kernel_rfl) (by kernel_rfl) (by kernel_rfl) (by kernel_rfl) (fun _ _ _ h => h) (by rfl) (by intro w' hw; rw [HSd.out] at hw; obtain ⟨h0, h1, h2, h3, h4, h5, h6⟩ := hw; go_simp; try (with_reducible rfl)) hS ?_
  simp only [List.getElem_toArray, List.getElem_cons_succ, List.getElem_cons_zero, Act.put, List.setIfInBounds_toArray, List.set_cons_zero, List.set_cons_succ]
  refine s_take (fun _ => trivial) (by kernel_rfl) 1 rfl (by kernel_rfl) (by kernel_rfl) (by kernel_rfl) (by kernel_rfl) (fun _ _ _ h => h) (by rfl) (by intro w' hw; rw [HSd.out] at hw; obtain ⟨h0, h1, h2, h3, h4, h5, h6⟩ := hw; go_simp; try (with_reducible rfl)) hS ?_
  simp only [List.getElem_toArray, List.getElem_cons_succ, List.getElem_cons_zero, Act.put, List.setIfInBounds_toArray, List.set_cons_zero, List.set_cons_succ]
  refine s_take (fun _ => trivial) (by kernel_rfl) 2 rfl (by kernel_rfl) (by kernel_rfl) (by kernel_rfl) (by kernel_rfl) (fun _ _ _ h => h) (by rfl) (by intro w' hw; rw [HSd.out] at hw; obtain ⟨h0, h1, h2, h3, h4, h5, h6⟩ := hw; go_simp; try (with_reducible rfl)) hS ?_
  simp only [List.getElem_toArray, List.getElem_cons_succ, List.getElem_cons_zero, Act.put, List.setIfInBounds_toArray, List.set_cons_zero, List.set_cons_succ]
  refine s_take (fun _ => trivial) (by kernel_rfl) 3 rfl (by kernel_rfl) (by kernel_rfl) (by kernel_rfl) (by kernel_rfl) (fun _ _ _ h => h) (by rfl) (by intro w' hw; rw [HSd.out] at hw; obtain ⟨h0, h1, h2, h3, h4, h5, h6⟩ := hw; go_simp; try (with_reducible rfl)) hS ?_
  simp only [List.getElem_toArray, List.getElem_cons_succ, List.getElem_cons_zero, Act.put, List.setIfInBounds_toArray, List.set_cons_zero, List.set_cons_succ]
  refine s_take (fun _ => trivial) (by kernel_rfl) 4 rfl (by kernel_rfl) (by kernel_rfl) (by kernel_rfl) (by kernel_rfl) (fun _ _ _ h => h) (by rfl) (by intro w' hw; rw [HSd.out] at hw; obtain ⟨h0, h1, h2, h3, h4, h5, h6⟩ := hw; go_simp; try (with_reducible rfl)) hS ?_
  simp only [List.getElem_toArray, List.getElem_cons_succ, List.getElem_cons_zero, Act.put, List.setIfInBounds_toArray, List.set_cons_zero, List.set_cons_succ]
  refine s_take (fun _ => trivial) (by kernel_rfl) 6 rfl (by kernel_rfl) (by kernel_rfl) (by kernel_rfl) (by kernel_rfl) (fun _ _ _ h => h) (by rfl) (by intro w' hw; rw [HSd.out] at hw; obtain ⟨h0, h1, h2, h3, h4, h5, h6⟩ := hw; go_simp; try (with_reducible rfl)) hS ?_
  simp only [List.getElem_toArray, List.getElem_cons_succ, List.getElem_cons_zero, Act.put, List.setIfInBounds_toArray, List.set_cons_zero, List.set_cons_succ]
  refine s_take (fun _ => trivial) (by kernel_rfl) 7 rfl (by kernel_rfl) (by kernel_rfl) (by kernel_rfl) (by kernel_rfl) (fun _ _ _ h => h) (by rfl) (by intro w' hw; rw [HSd.out] at hw; obtain ⟨h0, h1, h2, h3, h4, h5, h6⟩ := hw; go_simp; try (with_reducible rfl)) hS ?_
  simp only [List.getElem_toArray, List.getElem_cons_succ, List.getElem_cons_zero, Act.put, List.setIfInBounds_toArray, List.set_cons_zero, List.set_cons_succ]
  refine s_one 5 (by kernel_rfl) rfl (by rfl) (fun K hK => ?_)
  go_simp
  have hcp := rcopy_calls x.m A c n HN.out RA.out (by omega)
  rw [mgv_eq'] at hcp
  refine ⟨trivial, rfl, (callsIn_wide.2 hcp).mono ?_⟩
  rintro e w1 ⟨v, rfl, o1, b1⟩
  have d1 := DA.out.below b1
  have hS1 : S w1 := HSB.out _ d1.op
  have D1 := Lib.hid d1
  have I1 := Lib.hid (G.below IA.out b1)
  have K1 := Lib.hid (KA.out.trans ((G.kz IA.out b1).mono fun k hk => List.mem_append_right _ hk))
  have O1 := Lib.hid (Bdv.of_own o1)
  refine hK.out _ _ (fun _ => hS1) ?_
  rw [mgv_eq']
  clear hK K hS hcp o1 b1 d1 IA DA KA RA
  have hS := hS1
  clear hS1
  refine s_one 8 (by kernel_rfl) rfl (by rfl) (fun K hK => ?_)
  go_simp
  have hpc := HP.out _ _ v I1.out O1.out
  rw [mgv_eq'] at hpc
  refine ⟨trivial, rfl, (callsIn_wide.2 hpc).mono ?_⟩
  rintro e V ⟨rfl, iV, kV⟩
  have dV := D1.out.kz kV (by simp) (by simp) (by simp)
  have hS1 : S V := HSB.out _ dV.op
  have HV := Lib.hid dV.t1
  have HT := Lib.hid dV.t2
  have HO := Lib.hid dV.op
  have HIV := Lib.hid iV
  have HKV := Lib.hid (K1.out.trans (kV.mono fun k hk => List.mem_append_right _ hk))
  refine hK.out _ _ (fun _ => hS1) ?_
  have e8 := dV.t2.cell 8 (.int .i64 0) rfl
  have f8 := dV.t2.froz 8
  clear hK K hS hpc iV kV dV D1 I1 K1 O1 HP
  have hS := hS1
  clear hS1
  refine s_take (fun _ => trivial) (by kernel_rfl) 9 rfl (by kernel_rfl) (by kernel_rfl) (by kernel_rfl) (by kernel_rfl) (fun _ _ _ h => h) (by rfl) (by intro w' hw; rw [HSd.out] at hw; obtain ⟨h0, h1, h2, h3, h4, h5, h6⟩ := hw; go_simp; try (with_reducible rfl)) hS ?_
  simp only [List.getElem_toArray, List.getElem_cons_succ, List.getElem_cons_zero, Act.put, List.setIfInBounds_toArray, List.set_cons_zero, List.set_cons_succ]
  refine s_one 10 (by kernel_rfl) rfl (by rfl) (fun K hK => ?_)
  go_simp
  have hgne : g ≠ g + 1 + 1 := by omega
  refine hK.out _ _ (fun _ => HSB.out _ (HO.out.off hgne)) ?_
  clear hK K hS e8 f8
  refine s_done (by kernel_rfl) ?_ _
  have hgn1 : g + 1 ≠ g + 1 + 1 := by omega
  refine forgetX (fun W => I' ([g, g + 1, g + 1 + 1] ++ Z) W ∧ Kz Z w0 w W ∧ Bx W (g + 1) 43 (tcs zTd (.slice none 0 0)) ∧ Bx W (g + 1 + 1) 43 (tcs { zTd with e := E } (.slice none 0 0))) ⟨?_, ?_, HV.out.off hgn1, (HT.out.set 8 _).to rfl⟩ ?_
  · exact G'.zset _ _ _ HIV.out ((Tch.refl _ _).setCell _ (.inl (by simp)))
  · exact HKV.out.tch_new (tch_set V (g + 1 + 1) 8 (.int .i64 E)) (fun k hk => by have := HG.out; simp at hk; omega) HZ.out H0.out
  clear HV HT HO HIV HKV
  rintro V2 ⟨iV, kV, v1, v2⟩
  have HIV := Lib.hid iV
  have HKV := Lib.hid kV
  have HV := Lib.hid v1
  have HT := Lib.hid v2
  clear iV kV v1 v2
  obtain ⟨V, hV⟩ : ∃ V, V2 = V := ⟨_, rfl⟩
  rw [hV] at HIV HKV HV HT ⊢
  clear hV V2
  have q0 := HT.out.cell 0 (.string ⟨#[]⟩) rfl
  have q1 := HT.out.cell 1 (.int .i64 0) rfl
  have q2 := HT.out.cell 2 (.int .u8 0) rfl
  have q3 := HT.out.cell 3 (.int .u32 0) rfl
  have q4 := HT.out.cell 4 (.int .u32 0) rfl
  have q5 := HT.out.cell 5 (.string ⟨#[]⟩) rfl
  have q6 := HT.out.cell 6 (.slice none 0 0) rfl
  have q7 := HT.out.cell 7 (.bool false) rfl
  have q8 := HT.out.cell 8 (.int .i64 E) rfl
  have r0 := HV.out.cell 0 (.string ⟨#[]⟩) rfl
  have r1 := HV.out.cell 1 (.int .i64 0) rfl
  have r2 := HV.out.cell 2 (.int .u8 0) rfl
  have r3 := HV.out.cell 3 (.int .u32 0) rfl
  have r4 := HV.out.cell 4 (.int .u32 0) rfl
  have r5 := HV.out.cell 5 (.string ⟨#[]⟩) rfl
  have r6 := HV.out.cell 6 (.slice none 0 0) rfl
  have r7 := HV.out.cell 7 (.bool false) rfl
  have r8 := HV.out.cell 8 (.int .i64 0) rfl
  have s0 := HV.out.froz 0
  have s1 := HV.out.froz 1
  have s2 := HV.out.froz 2
  have s3 := HV.out.froz 3
  have s4 := HV.out.froz 4
  have s5 := HV.out.froz 5
  have s6 := HV.out.froz 6
  have s7 := HV.out.froz 7
  have s8 := HV.out.froz 8
  go_wp2_with fail
  have hne : g + 1 ≠ g + 1 + 1 := by omega
  refine forgetX (fun U => Bx U (g + 1) 43 (tcs { zTd with e := E } (.slice none 0 0)) ∧ Tch [g + 1, g + 1 + 1] V U) ⟨?_, ?_⟩ ?_
  · (with_reducible refine Bx.to ((((((((((HV.out.set 0 _).set 1 _).set 2 _).set 3 _).set 4 _).set 5 _).set 6 _).set 7 _).set 8 _)) ?_) ; rfl
  · with_reducible repeat first | exact Tch.refl _ _ | refine Tch.setCell ?_ _ (.inl (by simp))
  rintro U ⟨ka, kt⟩
  have hIU := G'.zset _ _ U HIV.out (kt.mono fun k hk => by simp at hk; rcases hk with rfl | rfl <;> simp)
  have hKU : Kz Z w0 w U := HKV.out.tch_new kt (fun k hk => by have := HG.out; simp at hk; omega) HZ.out H0.out
  exact bodyPost_ret (results_c rfl rfl (ka.loadAgg (by kernel_rfl) (by kernel_rfl))) rfl ⟨rfl, G'.less _ _ _ hIU (fun k hk => List.mem_append_right _ hk), hKU⟩

/-- What is done with a hall, and what is told. -/
def hdoR (C : List Cf) (r : List Qu × Nat) (x : HOp) : (List Qu × Nat) × Td :=
  if x.kind = 0 then (((hputR C r.1 x.name x.m x.now).1, r.2), { zTd with e := (hputR C r.1 x.name x.m x.now).2 })
  else if x.kind = 1 then (((hacqR C r.1 x.name x.now).1, r.2), match (hacqR C r.1 x.name x.now).2 with | none => zTd | some e => ⟨x.name, e.id, e.m, true, 0⟩)
  else if x.kind = 2 then ((hsetR C r.1 r.2 x.name x.id x.o x.now).1, { zTd with e := (hsetR C r.1 r.2 x.name x.id x.o x.now).2 })
  else if x.kind = 3 then (htickL C r x.now C.length, zTd)
  else (r, zTd)
structure OkX (w : World) (x : HOp) (A : Option Addr) (c : Nat) : Prop where
  rd : Rd w A c x.m.body
  len : x.m.body.length ≤ 4096
  ttl : x.m.ttl ≤ 4294967295
  cnt : x.m.cnt ≤ 4294967295
theorem OkX.below {w w' : World} {x : HOp} {A : Option Addr} {c : Nat} (h : OkX w x A c) (hb : Below w.heap.size w w') : OkX w' x A c := ⟨h.rd.below hb, h.len, h.ttl, h.cnt⟩
/-- A hall, and a fact. -/
theorem gi_tk (w0 : World) (h : Nat) (C : List Cf) (Qs : List Qu) (lost : Nat) (P : Prop) : GI w0 fun Z W => HF w0 W Z h C Qs lost ∧ P :=
  ⟨fun Z N W W' h hb hN => ⟨h.1.guest hb hN, h.2⟩, fun Z W W' h t => ⟨h.1.zset t, h.2⟩, fun Z Z' W h hs => ⟨h.1.less hs, h.2⟩, fun Z W h => ⟨h.1.blw, h.1.zs⟩⟩
theorem hset_last {Qs : List Qu} {i B : Nat} {x : Qu} (h : ∀ y ∈ Qs, y.last ≤ B) (hx : x.last ≤ B) : ∀ y ∈ Qs.set i x, y.last ≤ B := fun y hy => by
  rcases List.mem_or_eq_of_mem_set hy with hy | rfl
  · exact h y hy
  · exact hx
theorem bnd_mem {C : List Cf} {Qs : List Qu} {name : List UInt8} {i : Nat} {x : Qu} (h : ((atC C name).bind fun i => (Qs[i]?).map fun x => (i, x)) = some (i, x)) : x ∈ Qs := by
  cases hA : atC C name with
  | none => simp [hA] at h
  | some j =>
    simp only [hA, Option.bind_some, Option.map_eq_some_iff, Prod.mk.injEq] at h
    obtain ⟨z, h1, rfl, rfl⟩ := h
    exact List.mem_of_getElem? h1
theorem hacqR_last {C : List Cf} {Qs : List Qu} {name : List UInt8} {now : Int} {B : Nat} (h : ∀ x ∈ Qs, x.last ≤ B) : ∀ x ∈ (hacqR C Qs name now).1, x.last ≤ B := by
  unfold hacqR
  split
  · exact h
  · rename_i i x hb
    split
    · exact h
    · exact hset_last h (h x (bnd_mem hb))
theorem hsetR_last {C : List Cf} {Qs : List Qu} {lost : Nat} {name : List UInt8} {id : Int} {o : Oc} {now : Int} {B : Nat} (h : ∀ x ∈ Qs, x.last ≤ B) (hl : lost ≤ B) : (∀ x ∈ (hsetR C Qs lost name id o now).1.1, x.last ≤ B + 1) ∧ (hsetR C Qs lost name id o now).1.2 ≤ B + 1 := by
  unfold hsetR
  split
  · exact ⟨fun x hx => Nat.le_succ_of_le (h x hx), Nat.le_succ_of_le hl⟩
  · rename_i i x hb
    have h1 : ∀ L, ∀ y ∈ Qs.set i { x with L := L }, y.last ≤ B := fun L => hset_last h (h x (bnd_mem hb))
    split
    · exact ⟨fun x hx => Nat.le_succ_of_le (h1 _ x hx), Nat.le_succ_of_le hl⟩
    · exact hburyR_last (h1 _) hl
theorem hdoes_calls {w0 w : World} {Z : List Nat} {h : Nat} {C : List Cf} {r : List Qu × Nat} (hf : HF w0 w Z h C r.1 r.2) (hnd : (C.map (·.name)).Nodup) {B : Nat} (hB : B < 800000) (hl : ∀ x ∈ r.1, x.last ≤ B) (hlo : r.2 ≤ B) (x : HOp) (A : Option Addr) (c : Nat) (ok : OkX w x A c) :
    Calls Try.prog 13 #[.pointer (some ⟨h, 0, none⟩), .agg (hoc x (.slice A x.m.body.length c)).toArray] w fun e w' => ∃ v, e = .returned (.agg (tcs (hdoR C r x).2 v).toArray) ∧ Bdv w' v (hdoR C r x).2.m.body ∧ HF w0 w' Z h C (hdoR C r x).1.1 (hdoR C r x).1.2 ∧ Kz Z w0 w w' ∧ (∀ y ∈ (hdoR C r x).1.1, y.last ≤ B + 512) ∧ (hdoR C r x).1.2 ≤ B + 512 := by
  obtain ⟨Qs, lost⟩ := r
  simp only at hf hl hlo ⊢
  have hl1 : ∀ x ∈ Qs, x.last < 1000000 := fun x hx => by have := hl x hx; omega
  by_cases h0 : x.kind = 0
  · have hR : hdoR C (Qs, lost) x = (((hputR C Qs x.name x.m x.now).1, lost), { zTd with e := (hputR C Qs x.name x.m x.now).2 }) := by unfold hdoR; rw [if_pos h0]
    rw [hR]
    refine (does_put (gi_hf w0 h C Qs lost) (gi_hf w0 h C (hputR C Qs x.name x.m x.now).1 lost) hf (some ⟨h, 0, none⟩) x A c _ rfl ok.rd ok.len h0 (hputR C Qs x.name x.m x.now).2 fun Z W v hW hv => ?_).mono ?_
    · obtain ⟨A', c', rfl, hr, -⟩ := hv
      exact hput_calls hW x.name x.m A' c' _ rfl hr ok.ttl ok.cnt hl1 x.now
    · rintro e w' ⟨rfl, h1, h2⟩
      exact ⟨_, rfl, bdv_nil w', h1, h2, fun y hy => by have := hputR_last hl y hy; omega, by simp only; omega⟩
  by_cases h1 : x.kind = 1
  · obtain ⟨t, ht⟩ : ∃ t : Td, t = (match (hacqR C Qs x.name x.now).2 with | none => zTd | some e => ⟨x.name, e.id, e.m, true, 0⟩) := ⟨_, rfl⟩
    have hR : hdoR C (Qs, lost) x = (((hacqR C Qs x.name x.now).1, lost), t) := by unfold hdoR; rw [if_neg h0, if_pos h1, ht]
    rw [hR]
    refine (does_acq (gi_hf w0 h C Qs lost) (gi_hf w0 h C (hacqR C Qs x.name x.now).1 lost) hf (some ⟨h, 0, none⟩) x _ ⟨_, _, _, rfl⟩ h1 t (by rw [ht]; split <;> rfl) fun Z W hW => ?_).mono ?_
    · refine (hacq_calls hW x.name x.now).mono ?_
      rintro e w' ⟨hor, hf', hk'⟩
      rcases hor with ⟨h2, rfl⟩ | ⟨e2, v, h2, rfl, hv⟩
      · rw [h2] at ht
        subst ht
        exact ⟨.slice none 0 0, rfl, bdv_nil w', hf', hk'⟩
      · rw [h2] at ht
        subst ht
        exact ⟨v, rfl, hv, hf', hk'⟩
    · rintro e w' ⟨v, rfl, h2, h3, h4⟩
      exact ⟨v, rfl, h2, h3, h4, fun y hy => by have := hacqR_last hl y hy; omega, by simp only; omega⟩
  by_cases h2 : x.kind = 2
  · have hR : hdoR C (Qs, lost) x = ((hsetR C Qs lost x.name x.id x.o x.now).1, { zTd with e := (hsetR C Qs lost x.name x.id x.o x.now).2 }) := by unfold hdoR; rw [if_neg h0, if_neg h1, if_pos h2]
    rw [hR]
    refine (does_set (gi_hf w0 h C Qs lost) (gi_hf w0 h C (hsetR C Qs lost x.name x.id x.o x.now).1.1 (hsetR C Qs lost x.name x.id x.o x.now).1.2) hf (some ⟨h, 0, none⟩) x _ ⟨_, _, _, rfl⟩ h2 (hsetR C Qs lost x.name x.id x.o x.now).2 fun Z W hW => hset_calls hW x.name x.id x.o x.now hl1 (by omega)).mono ?_
    rintro e w' ⟨rfl, h3, h4⟩
    have hla := hsetR_last (name := x.name) (id := x.id) (o := x.o) (now := x.now) (C := C) hl hlo
    exact ⟨_, rfl, bdv_nil w', h3, h4, fun y hy => by have := hla.1 y hy; omega, by have := hla.2; simp only at this ⊢; omega⟩
  by_cases h3 : x.kind = 3
  · have hR : hdoR C (Qs, lost) x = (htickL C (Qs, lost) x.now C.length, zTd) := by unfold hdoR; rw [if_neg h0, if_neg h1, if_neg h2, if_pos h3]
    rw [hR]
    refine (does_tick (gi_hf w0 h C Qs lost) (gi_tk w0 h C (htickL C (Qs, lost) x.now C.length).1 (htickL C (Qs, lost) x.now C.length).2 ((∀ x_1 ∈ (htickL C (Qs, lost) x.now C.length).1, x_1.last ≤ B + 512) ∧ (htickL C (Qs, lost) x.now C.length).2 ≤ B + 512)) hf (some ⟨h, 0, none⟩) x _ ⟨_, _, _, rfl⟩ h3 fun Z W hW => (htick_calls hW hnd x.now hB hl hlo).mono fun e w' ⟨a1, a2, a3, a4⟩ => ⟨a1, ⟨a2, a4⟩, a3⟩).mono ?_
    rintro e w' ⟨rfl, ⟨h4, h6⟩, h5⟩
    exact ⟨_, rfl, bdv_nil w', h4, h5, h6⟩
  · have hR : hdoR C (Qs, lost) x = ((Qs, lost), zTd) := by unfold hdoR; rw [if_neg h0, if_neg h1, if_neg h2, if_neg h3]
    rw [hR]
    refine (does_other (gi_hf w0 h C Qs lost) hf (some ⟨h, 0, none⟩) x _ ⟨_, _, _, rfl⟩ h0 h1 h2 h3).mono ?_
    rintro e w' ⟨rfl, h4, h5⟩
    exact ⟨_, rfl, bdv_nil w', h4, h5, fun y hy => by have := hl y hy; omega, by simp only; omega⟩
/-- What is done with none. -/
theorem hdoes_nil {w : World} (x : HOp) (A : Option Addr) (c : Nat) (ok : OkX w x A c) :
    Calls Try.prog 13 #[.pointer none, .agg (hoc x (.slice A x.m.body.length c)).toArray] w fun e w' => ∃ A n c, e = .returned (.agg (tcs { zTd with e := if x.kind = 0 ∨ x.kind = 2 then 2 else 0 } (.slice A n c)).toArray) ∧ Below w.heap.size w w' := by
  have hI : NI w [] w := ⟨Below.refl _ _, by simp⟩
  have hni : ∀ {Z : List Nat} {W W' : World}, NI w Z W → Below W.heap.size W W' → NI w Z W' ∧ Kz Z w W W' := fun h hb => ⟨(gi_ni w).below h hb, (gi_ni w).kz h hb⟩
  by_cases h0 : x.kind = 0
  · rw [if_pos (.inl h0)]
    refine (does_put (gi_ni w) (gi_ni w) hI none x A c _ rfl ok.rd ok.len h0 2 fun Z W v hW hv => ?_).mono ?_
    · obtain ⟨A', c', rfl, hr, -⟩ := hv
      refine (hput_nil x.name x.m A' c' _ x.now W).mono ?_
      rintro r w' ⟨rfl, hb⟩
      exact ⟨rfl, hni hW hb⟩
    · rintro r w' ⟨rfl, h1, -⟩
      exact ⟨none, 0, 0, rfl, h1.1⟩
  by_cases h2 : x.kind = 2
  · rw [if_pos (.inr h2)]
    refine (does_set (gi_ni w) (gi_ni w) hI none x _ ⟨_, _, _, rfl⟩ h2 2 fun Z W hW => ?_).mono ?_
    · refine (hset_nil x.name x.id x.o x.now W).mono ?_
      rintro r w' ⟨rfl, hb⟩
      exact ⟨rfl, hni hW hb⟩
    · rintro r w' ⟨rfl, h1, -⟩
      exact ⟨none, 0, 0, rfl, h1.1⟩
  rw [if_neg (by rintro (h | h); exact h0 h; exact h2 h)]
  by_cases h1 : x.kind = 1
  · refine (does_acq (gi_ni w) (gi_ni w) hI none x _ ⟨_, _, _, rfl⟩ h1 zTd rfl fun Z W hW => ?_).mono ?_
    · refine (hacq_nil x.name x.now W).mono ?_
      rintro r w' ⟨rfl, hb⟩
      exact ⟨.slice none 0 0, rfl, bdv_nil w', hni hW hb⟩
    · rintro r w' ⟨v, rfl, hv, h3, -⟩
      obtain ⟨A', c', rfl, hr, -⟩ := hv
      exact ⟨A', _, c', rfl, h3.1⟩
  by_cases h3 : x.kind = 3
  · refine (does_tick (gi_ni w) (gi_ni w) hI none x _ ⟨_, _, _, rfl⟩ h3 fun Z W hW => ?_).mono ?_
    · refine (htick_nil x.now W).mono ?_
      rintro r w' ⟨hu, rfl⟩
      exact ⟨hu, hni hW (Below.refl _ _)⟩
    · rintro r w' ⟨rfl, h1, -⟩
      exact ⟨none, 0, 0, rfl, h1.1⟩
  · refine (does_other (gi_ni w) hI none x _ ⟨_, _, _, rfl⟩ h0 h1 h2 h3).mono ?_
    rintro e w' ⟨rfl, h4, -⟩
    exact ⟨none, 0, 0, rfl, h4.1⟩

/-- What is to be done, and where its body lies. -/
structure OpD where
  x : HOp
  A : Option Addr
  c : Nat
def opd (d : OpD) : List Value := hoc d.x (.slice d.A d.x.m.body.length d.c)
def opds (l : List OpD) : List Value := l.flatMap opd
theorem opd_length (d : OpD) : (opd d).length = 13 := rfl
def vastD (d : OpD) : Bool := decide (4096 < d.x.m.body.length) || decide (1024 < d.x.m.ids.length)
def vastL (q : Nat) (l : List OpD) : Bool := decide (20 < q) || decide (150 < l.length) || l.any vastD
theorem vast_take {l : List OpD} {k : Nat} (hk : k < l.length) (h : (l.take k).any vastD = false) (h2 : vastD l[k] = false) : (l.take (k + 1)).any vastD = false := by
  rw [List.take_succ_eq_append_getElem hk, List.any_append, h]
  simp [h2]

set_option maxHeartbeats 1000000 in
theorem vast_calls (B : Option Addr) (q e : Nat) (A : Option Addr) (n c : Nat) (l : List OpD) (w : World) (h : RdC 13 w A n c (opds l)) (hq : q ≤ 9223372036854775807) :
    Calls Try.prog 11 #[.slice B q e, .slice A n c] w fun e w' => e = .returned (.bool (vastL q l)) ∧ w = w' := by
  have hl : n = l.length := by have := h.1; rw [opds, flat_length opd 13 opd_length] at this; omega
  subst hl
  have H := Lib.hid h
  have hmx := h.2.2.1
  have hlc := h.2.1
  obtain ⟨N, hN⟩ : ∃ N, l.length = N := ⟨_, rfl⟩
  rw [hN] at hlc ⊢
  have HN := Lib.hid hN
  clear h hN
  by_cases hq20 : 20 < q
  · have HV := Lib.hid (show vastL q l = true by unfold vastL; rw [decide_eq_true hq20]; rfl)
    have hq20' : (20 : Int) < q := by omega
    go_enter Try.func11, Try.ntmps11
    go_wp2
    go_ret
    exact ⟨by rw [HV.out]; rfl, rfl⟩
  have hq20' : ¬ (20 : Int) < q := by omega
  have HQ20 := Lib.hid hq20
  clear hq20
  by_cases hbig : 150 < N
  · have HV := Lib.hid (show vastL q l = true by unfold vastL; rw [HN.out, decide_eq_true hbig]; simp)
    go_enter Try.func11, Try.ntmps11
    go_wp2
    go_ret
    exact ⟨by rw [HV.out]; rfl, rfl⟩
  · have hb' : ¬ (150 : Int) < N := by omega
    have HB := Lib.hid hbig
    clear hbig
    go_enter Try.func11, Try.ntmps11
    go_wp2_with fail
    go_loopw [5] (fun i wr => ∃ k : Nat, k ≤ N ∧ i = .int .i64 k ∧ w = wr ∧ Hid ((l.take k).any vastD = false)) (fun i _ => N - (intOf i).toNat)
    case atStart => exact ⟨0, by omega, rfl, rfl, Lib.hid rfl⟩
    case round =>
      obtain ⟨k, hk, rfl, rfl, HT⟩ := hrel
      by_cases hkN : k < N
      · have hkl : k < l.length := by rw [HN.out]; exact hkN
        obtain ⟨b0, o0, e, hcell⟩ := flat_cells opd 13 (by decide) opd_length H.out k hkl
        subst e
        have g7 := hcell 7 _ rfl
        have g6 := hcell 6 _ rfl
        simp only [← Nat.add_assoc] at g7 g6
        have hkN' : (k : Int) < N := by omega
        cases hv : vastD l[k] with
        | true =>
          have HV := Lib.hid (show vastL q l = true by
            unfold vastL
            rw [List.any_eq_true.2 ⟨l[k], List.getElem_mem _, hv⟩]
            simp)
          unfold vastD at hv
          obtain ⟨d, hd⟩ : ∃ d, l[k] = d := ⟨_, rfl⟩
          rw [hd] at g7 g6 hv
          clear hd hcell
          unfold str at g6
          by_cases hq : 4096 < d.x.m.body.length
          · have e1 : decide ((4096 : Int) < d.x.m.body.length) = true := decide_eq_true (by omega)
            clear hv
            go_wp2_with fail
            go_ret
            exact ⟨by rw [HV.out]; rfl, rfl⟩
          · have e1 : decide ((4096 : Int) < d.x.m.body.length) = false := decide_eq_false (by omega)
            have hq2 : 1024 < d.x.m.ids.length := by
              rw [decide_eq_false hq] at hv
              simpa using hv
            have e2 : decide ((1024 : Int) < d.x.m.ids.length) = true := decide_eq_true (by omega)
            clear hv
            go_wp2_with fail
            go_ret
            exact ⟨by rw [HV.out]; rfl, rfl⟩
        | false =>
          have HT2 := Lib.hid (vast_take hkl HT.out hv)
          unfold vastD at hv
          obtain ⟨d, hd⟩ : ∃ d, l[k] = d := ⟨_, rfl⟩
          rw [hd] at g7 g6 hv
          clear hd hcell
          unfold str at g6
          rw [Bool.or_eq_false_iff] at hv
          have e1 : decide ((4096 : Int) < d.x.m.body.length) = false := decide_eq_false (by have := of_decide_eq_false hv.1; omega)
          have e2 : decide ((1024 : Int) < d.x.m.ids.length) = false := decide_eq_false (by have := of_decide_eq_false hv.2; omega)
          clear hv
          go_wp2_with fail
          go_roundw
          case rel => exact ⟨k + 1, by omega, by go_num, trivial, HT2⟩
          case measure => simp [intOf]; omega
      · obtain rfl : k = N := by omega
        have HV := Lib.hid (show vastL q l = false by
          have := HT.out
          rw [← HN.out, List.take_length] at this
          unfold vastL
          rw [HN.out, decide_eq_false HB.out, decide_eq_false HQ20.out, this]
          rfl)
        go_wp2_with fail
        go_ret
        exact ⟨by rw [HV.out]; rfl, rfl⟩
theorem vastL_false {q : Nat} {l : List OpD} (h : vastL q l = false) : q ≤ 20 ∧ l.length ≤ 150 ∧ ∀ d ∈ l, d.x.m.body.length ≤ 4096 := by
  unfold vastL at h
  simp only [Bool.or_eq_false_iff, decide_eq_false_iff_not] at h
  refine ⟨by omega, by omega, fun d hd => ?_⟩
  have := List.any_eq_false.1 h.2 d hd
  unfold vastD at this
  simp only [Bool.or_eq_true, decide_eq_true_eq, not_or] at this
  omega
end Go.Proofs.Ytklgndmndnmdpaa

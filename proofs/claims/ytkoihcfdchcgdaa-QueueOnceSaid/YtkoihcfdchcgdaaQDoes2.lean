import Derived.Test.YtkoihcfdchcgdaaQDoes
import Derived.Test.YtkoihcfdchcgdaaHeld
set_option linter.unusedVariables false
set_option linter.unusedSimpArgs false
namespace Go.Proofs.Ytkoihcfdchcgdaa
open Go.RowKit Go.Shelf

theorem Msl.tch {W W' : World} {base : Nat} {v : Value} {ms : List (Mg × Value)} {F : List Nat} (h : Msl W base v ms) (t : Tch F W W') (hF : ∀ k ∈ F, (v.ownBlock ≠ some k) ∧ ∃ o, W.heap[k]? = some o ∧ ∀ (cs : Array Value) (fr : Nat × Nat), o ≠ Obj.cells cs 5 fr) : Msl W' base v ms :=
  ⟨h.1.tch t fun k hk hm => (hF k hm).1 hk, fun x hx => (h.2 x hx).tch t fun k hk => (hF k hk).2⟩
theorem forgetS {F : Fence} {n : Nat} {P : Program} {md : Region.Mode} {ops : Array Oper} {Q : Exit → Act → World → Prop} {X : List Nat} {S : World → Prop} {fuel : Nat} {listed : Array Bool} {a : Act} {W : World} (G : World → Prop) (hG : G W) (h : ∀ W, G W → AnyS F n P md ops Q X S fuel listed a W) : AnyS F n P md ops Q X S fuel listed a W := h W hG
theorem Msl.base {W : World} {base base' : Nat} {v : Value} {ms : List (Mg × Value)} (h : Msl W base v ms) (hb : base' ≤ base) : Msl W base' v ms := ⟨h.1.base hb, h.2⟩

set_option maxRecDepth 100000 in
set_option maxHeartbeats 4000000 in
theorem does_exp {w0 w : World} {I I' : List Nat → World → Prop} (G : GI w0 I) (G' : GI w0 I') {Z : List Nat} (h : I Z w) (p0 : Option Addr) (x : QOp) (bv : Value) (hb : ∃ A n c, bv = .slice A n c) (h0 : x.kind = 3) (l : List Mg)
    (hp : ∀ Z W, I Z W → Calls Try.prog 25 #[.pointer p0, .int .i64 x.now] W fun r w' => ∃ v ms, r = .returned v ∧ ms.map (·.1) = l ∧ Msl w' W.heap.size v ms ∧ I' Z w' ∧ Kz Z w0 W w') :
    Calls Try.prog 18 #[.pointer p0, .agg (opc x bv).toArray] w fun r w' => ∃ sv ms, r = .returned (.agg (tdc 0 sv false 0).toArray) ∧ ms.map (·.1) = l ∧ Msl w' w.heap.size sv ms ∧ I' Z w' ∧ Kz Z w0 w w' := by
  obtain ⟨A, n, c, rfl⟩ := hb
  have H := Lib.hid h
  have HP := Lib.hid hp
  clear h hp
  unfold opc
  obtain ⟨K, hK⟩ : ∃ K, x.kind = K := ⟨_, rfl⟩
  rw [hK] at h0 ⊢
  clear hK
  subst h0
  unfold str
  go_enter Try.func18, Try.ntmps18
  go_wp2_with fail
  rename_i _ _ ka _ kb
  have HKa := Lib.hid ka
  clear ka
  obtain ⟨g, hg⟩ : ∃ g, w.heap.size = g := ⟨_, rfl⟩
  have hb3 : Below w.heap.size w (((w.alloc (.cells #[.int .i64 3, .int .i64 x.id, .int .u8 x.m.pr, .int .u32 x.m.ttl, .int .u32 x.m.cnt, .string ⟨x.m.ids.toArray⟩, .slice A n c, .int .u8 x.o.k, .int .u64 x.o.a, .int .u64 x.o.b, .string ⟨x.o.c.toArray⟩, .int .i64 x.now] 57)).alloc (.cells (tdc 0 (.slice none 0 0) false 0).toArray 54)).alloc (.cells (tdc 0 (.slice none 0 0) false 0).toArray 54)) := ((((Tch.refl [] w).alloc _).alloc _).alloc _).below0
  have hI1 := G.guest Z [g + 1 + 1, g + 1, g] w _ H.out hb3 (fun k hk => by simp at hk; simp; omega)
  have hp := HP.out _ _ hI1
  refine hp.mono ?_
  rintro r w3 ⟨v, ms, rfl, hl, hms, hI3, kz3⟩
  obtain ⟨A1, c1, rfl, -⟩ := hms.1.rd
  have hk1 := kz3.bx ((Bx.new' (w.alloc _) (b := w.heap.size + 1) 54 (tdc 0 (.slice none 0 0) false 0) (by simp)).alloc _) (.inl (by simp [hg]))
  have hk2 := kz3.bx (Bx.new' ((w.alloc _).alloc _) (b := w.heap.size + 1 + 1) 54 (tdc 0 (.slice none 0 0) false 0) (by simp)) (.inl (by simp [hg]))
  have hzz : Kz Z w0 w w3 := (G.kz H.out hb3).trans (kz3.mono fun k hk => by simp [hk])
  simp only [World.size_alloc] at hms
  rw [hg] at hk1 hk2 hms ⊢
  have u0 := hk2.cell 1 _ rfl
  have u1 := hk2.froz 1
  have HK1 := Lib.hid hk1
  have HK2 := Lib.hid hk2
  have HI3 := Lib.hid hI3
  have HZZ := Lib.hid hzz
  have HM := Lib.hid hms
  have HL := Lib.hid hl
  have HG := Lib.hid hg
  clear hb3 hI1 hp hI3 kz3 hk1 hk2 hzz hms hl hg
  go_wp2_with fail
  refine HKa.out _ _ ?_
  refine forget (fun W => Bx W (g + 1) 54 (tdc 0 (.slice none 0 0) false 0) ∧ Bx W (g + 1 + 1) 54 (tdc 0 (.slice A1 ms.length c1) false 0) ∧ Tch [g + 1 + 1] w3 W) ⟨HK1.out.off (by omega), HK2.out.set 1 _, tch_set _ _ _ _⟩ ?_
  rintro W5 ⟨k1, k2, b5⟩
  have q0 := k2.cell 0 _ rfl
  have q1 := k2.cell 1 _ rfl
  have q2 := k2.cell 2 _ rfl
  have q3 := k2.cell 3 _ rfl
  have r0 := k1.cell 0 _ rfl
  have r1 := k1.cell 1 _ rfl
  have r2 := k1.cell 2 _ rfl
  have r3 := k1.cell 3 _ rfl
  have s0 := k1.froz 0
  have s1 := k1.froz 1
  have s2 := k1.froz 2
  have s3 := k1.froz 3
  have E1 := Lib.hid k1
  have E5 := Lib.hid b5
  clear k1 k2 b5 u0 u1
  go_wp2_with fail
  refine bodyPost_ret (results_c rfl rfl (((((E1.out.set 0 _).set 1 _).set 2 _).set 3 _).loadAgg (by kernel_rfl) (by kernel_rfl))) rfl ?_
  have hZ : ∀ k ∈ Z, k < g := by have := (G.old Z w H.out).2; intro k hk; have h1 := (this k hk).2; rw [HG.out] at h1; exact h1
  have t1 : Tch [g + 1 + 1, g + 1] w3 W5 := E5.out.mono (by simp)
  have t2 := (((t1.setCell (g := g + 1) (j := 0) (.int .i64 0) (.inl (by simp))).setCell (g := g + 1) (j := 1) (.slice A1 ms.length c1) (.inl (by simp))).setCell (g := g + 1) (j := 2) (.bool false) (.inl (by simp))).setCell (g := g + 1) (j := 3) (.int .i64 0) (.inl (by simp))
  refine ⟨_, ms, rfl, HL.out, (HM.out.tch t2 fun k hk => ?_).base (by rw [HG.out]; omega), does_out G' HI3.out t2 hZ HZZ.out⟩
  simp only [List.mem_cons, List.not_mem_nil, or_false] at hk
  refine ⟨fun he => ?_, ?_⟩
  · have := (HM.out.1.lt k he).1
    omega
  · rcases hk with rfl | rfl
    · exact ⟨_, HK2.out, by simp⟩
    · exact ⟨_, HK1.out, by simp⟩

set_option maxRecDepth 100000 in
set_option maxHeartbeats 4000000 in
theorem does_acq {w0 w : World} {I I' : List Nat → World → Prop} (G : GI w0 I) (G' : GI w0 I') {Z : List Nat} (h : I Z w) (p0 : Option Addr) (x : QOp) (bv : Value) (hb : ∃ A n c, bv = .slice A n c) (h0 : x.kind = 1) (e : En) (is : Bool) (he : e.m.body.length ≤ 4096)
    (hp : ∀ Z W, I Z W → Calls Try.prog 12 #[.pointer p0, .int .i64 x.now] W fun r w' => ∃ v, r = .returned (.tuple #[.agg (itc (e, v)).toArray, .bool is]) ∧ OwnB w' W.heap.size v e.m.body ∧ I' (v.ownBlock.toList ++ Z) w' ∧ Kz Z w0 W w') :
    Calls Try.prog 18 #[.pointer p0, .agg (opc x bv).toArray] w fun r w' => ∃ sv v, r = .returned (.agg (tdc e.id sv is 0).toArray) ∧ Msl w' w.heap.size sv [(e.m, v)] ∧ I' Z w' ∧ Kz Z w0 w w' := by
  obtain ⟨A, n, c, rfl⟩ := hb
  have H := Lib.hid h
  have HP := Lib.hid hp
  have HE := Lib.hid he
  clear h hp he
  unfold opc
  obtain ⟨K, hK⟩ : ∃ K, x.kind = K := ⟨_, rfl⟩
  rw [hK] at h0 ⊢
  clear hK
  subst h0
  have hit : ∀ v, (itc (e, v)).toArray = #[.int .i64 e.id, .int .u8 e.m.pr, .int .u32 e.m.ttl, .int .u32 e.m.cnt, .string ⟨e.m.ids.toArray⟩, v] := fun v => by unfold itc str; rfl
  have HIt := Lib.hid hit
  have HMg := Lib.hid (mgv_eq e.m)
  clear hit
  unfold str
  go_enter Try.func18, Try.ntmps18
  go_wp2_with fail
  rename_i _ _ ka _ kb _ kc
  have HKa := Lib.hid ka
  have HKb := Lib.hid kb
  clear ka kb
  obtain ⟨g, hg⟩ : ∃ g, w.heap.size = g := ⟨_, rfl⟩
  have hb3 : Below w.heap.size w (((w.alloc (.cells #[.int .i64 1, .int .i64 x.id, .int .u8 x.m.pr, .int .u32 x.m.ttl, .int .u32 x.m.cnt, .string ⟨x.m.ids.toArray⟩, .slice A n c, .int .u8 x.o.k, .int .u64 x.o.a, .int .u64 x.o.b, .string ⟨x.o.c.toArray⟩, .int .i64 x.now] 57)).alloc (.cells (tdc 0 (.slice none 0 0) false 0).toArray 54)).alloc (.cells (tdc 0 (.slice none 0 0) false 0).toArray 54)) := ((((Tch.refl [] w).alloc _).alloc _).alloc _).below0
  have hI1 := G.guest Z [g + 1 + 1, g + 1, g] w _ H.out hb3 (fun k hk => by simp at hk; simp; omega)
  have hp := HP.out _ _ hI1
  refine hp.mono ?_
  rintro r w3 ⟨v, rfl, ho3, hI3, kz3⟩
  rw [HIt.out]
  obtain ⟨A1, c1, hv1, -⟩ := ho3.rd
  obtain ⟨n1, hn1⟩ : ∃ n1, e.m.body.length = n1 := ⟨_, rfl⟩
  rw [hn1] at hv1
  subst hv1
  have hk1 := kz3.bx ((Bx.new' (w.alloc _) (b := w.heap.size + 1) 54 (tdc 0 (.slice none 0 0) false 0) (by simp)).alloc _) (.inl (by simp [hg]))
  have hk2 := kz3.bx (Bx.new' ((w.alloc _).alloc _) (b := w.heap.size + 1 + 1) 54 (tdc 0 (.slice none 0 0) false 0) (by simp)) (.inl (by simp [hg]))
  have hzz : Kz Z w0 w w3 := (G.kz H.out hb3).trans (kz3.mono fun k hk => by simp [hk])
  simp only [World.size_alloc] at ho3
  rw [hg] at hk1 hk2 ho3 ⊢
  obtain ⟨g3, hg3⟩ : ∃ g3, w3.heap.size = g3 := ⟨_, rfl⟩
  have HK1 := Lib.hid hk1
  have HK2 := Lib.hid hk2
  have HI3 := Lib.hid hI3
  have HZZ := Lib.hid hzz
  have HO3 := Lib.hid ho3
  have HN1 := Lib.hid hn1
  have HG := Lib.hid hg
  clear hb3 hI1 hp hI3 kz3 hk1 hk2 hzz ho3 hn1 hg
  go_wp2_with fail
  refine HKb.out _ _ ?_
  refine forget (fun W => Bx W (g + 1) 54 (tdc 0 (.slice none 0 0) false 0) ∧ Bx W (g + 1 + 1) 54 (tdc 0 (.slice none 0 0) false 0) ∧ Bx W g3 34 [.int .i64 e.id, .int .u8 e.m.pr, .int .u32 e.m.ttl, .int .u32 e.m.cnt, .string ⟨e.m.ids.toArray⟩, .slice A1 n1 c1] ∧ OwnB W (g + 1 + 1 + 1) (.slice A1 n1 c1) e.m.body ∧ I' (g3 :: ((Value.slice A1 n1 c1).ownBlock.toList ++ ([g + 1 + 1, g + 1, g] ++ Z))) W ∧ Kz Z w0 w W) ⟨HK1.out.alloc _, HK2.out.alloc _, by rw [← hg3]; exact Bx.new w3 _ [_, _, _, _, _, _], HO3.out.alloc _, by rw [← hg3]; exact G'.alloc HI3.out _, HZZ.out.trans (G'.kz (G'.less _ _ _ HI3.out fun k hk => by simp [hk]) (below_alloc _ _))⟩ ?_
  rintro W4 ⟨k1, k2, k3, o4, i4, z4⟩
  have d0 := k3.cell 0 _ rfl
  have d1 := k3.cell 1 _ rfl
  have d2 := k3.cell 2 _ rfl
  have d3 := k3.cell 3 _ rfl
  have d4 := k3.cell 4 _ rfl
  have d5 := k3.cell 5 _ rfl
  have J1 := Lib.hid k1
  have J2 := Lib.hid k2
  have J3 := Lib.hid k3
  have O4 := Lib.hid o4
  have I4 := Lib.hid i4
  have Z4 := Lib.hid z4
  clear k1 k2 k3 o4 i4 z4
  go_wp2_with fail
  rename_i _ kd
  have HKd := Lib.hid kd
  clear kd
  obtain ⟨S, hSd⟩ : ∃ S : World → Prop, S = fun W' : World => W'.cell? ⟨g3, 0, none⟩ = some (.int .i64 e.id) ∧ W'.cell? ⟨g3, 1, none⟩ = some (.int .u8 e.m.pr) ∧ W'.cell? ⟨g3, 2, none⟩ = some (.int .u32 e.m.ttl) ∧ W'.cell? ⟨g3, 3, none⟩ = some (.int .u32 e.m.cnt) ∧ W'.cell? ⟨g3, 4, none⟩ = some (.string ⟨e.m.ids.toArray⟩) ∧ W'.cell? ⟨g3, 5, none⟩ = some (.slice A1 n1 c1) := ⟨_, rfl⟩
  have hSk : ∀ A' W' : World, S A' → (∀ o v, A'.cell? ⟨g3, o, none⟩ = some v → W'.cell? ⟨g3, o, none⟩ = some v) → S W' := fun A' W' h hk => by
    rw [hSd] at h ⊢
    exact ⟨hk _ _ h.1, hk _ _ h.2.1, hk _ _ h.2.2.1, hk _ _ h.2.2.2.1, hk _ _ h.2.2.2.2.1, hk _ _ h.2.2.2.2.2⟩
  have hS : S W4.drew := by rw [hSd]; exact ⟨d0, d1, d2, d3, d4, d5⟩
  have HSd := Lib.hid hSd
  have HSk := Lib.hid hSk
  have HG3 := Lib.hid hg3
  clear hSd hSk d0 d1 d2 d3 d4 d5 hg3
  refine (wpIn_wide (n := 0)).1 ?_
  refine s_region [8] S (by kernel_rfl) ?_
  refine s_take (fun _ => trivial) (by kernel_rfl) 0 rfl (by kernel_rfl) (by kernel_rfl) (by kernel_rfl) (by kernel_rfl) (fun _ _ _ h => h) (by rfl) (by intro w' hw; rw [HSd.out] at hw; obtain ⟨h0, h1, h2, h3, h4, h5⟩ := hw; go_simp; try (with_reducible rfl)) hS ?_
  simp only [List.getElem_toArray, List.getElem_cons_succ, List.getElem_cons_zero, Act.put, List.setIfInBounds_toArray, List.set_cons_zero, List.set_cons_succ]
  refine s_take (fun _ => trivial) (by kernel_rfl) 1 rfl (by kernel_rfl) (by kernel_rfl) (by kernel_rfl) (by kernel_rfl) (fun _ _ _ h => h) (by rfl) (by intro w' hw; rw [HSd.out] at hw; obtain ⟨h0, h1, h2, h3, h4, h5⟩ := hw; go_simp; try (with_reducible rfl)) hS ?_
  simp only [List.getElem_toArray, List.getElem_cons_succ, List.getElem_cons_zero, Act.put, List.setIfInBounds_toArray, List.set_cons_zero, List.set_cons_succ]
  refine s_take (fun _ => trivial) (by kernel_rfl) 2 rfl (by kernel_rfl) (by kernel_rfl) (by kernel_rfl) (by kernel_rfl) (fun _ _ _ h => h) (by rfl) (by intro w' hw; rw [HSd.out] at hw; obtain ⟨h0, h1, h2, h3, h4, h5⟩ := hw; go_simp; try (with_reducible rfl)) hS ?_
  simp only [List.getElem_toArray, List.getElem_cons_succ, List.getElem_cons_zero, Act.put, List.setIfInBounds_toArray, List.set_cons_zero, List.set_cons_succ]
  refine s_take (fun _ => trivial) (by kernel_rfl) 3 rfl (by kernel_rfl) (by kernel_rfl) (by kernel_rfl) (by kernel_rfl) (fun _ _ _ h => h) (by rfl) (by intro w' hw; rw [HSd.out] at hw; obtain ⟨h0, h1, h2, h3, h4, h5⟩ := hw; go_simp; try (with_reducible rfl)) hS ?_
  simp only [List.getElem_toArray, List.getElem_cons_succ, List.getElem_cons_zero, Act.put, List.setIfInBounds_toArray, List.set_cons_zero, List.set_cons_succ]
  refine s_take (fun _ => trivial) (by kernel_rfl) 6 rfl (by kernel_rfl) (by kernel_rfl) (by kernel_rfl) (by kernel_rfl) (fun _ _ _ h => h) (by rfl) (by intro w' hw; rw [HSd.out] at hw; obtain ⟨h0, h1, h2, h3, h4, h5⟩ := hw; go_simp; try (with_reducible rfl)) hS ?_
  simp only [List.getElem_toArray, List.getElem_cons_succ, List.getElem_cons_zero, Act.put, List.setIfInBounds_toArray, List.set_cons_zero, List.set_cons_succ]
  refine s_one 4 (by kernel_rfl) rfl (by rfl) (fun K hK => ?_)
  go_simp
  obtain ⟨A1', c1', he1, hr1⟩ := O4.out.rd
  simp only [Value.slice.injEq] at he1
  obtain ⟨rfl, -, rfl⟩ := he1
  have hcl := rcopy_calls (w := W4.drew) e.m A1 c1 n1 HN1.out hr1 (by have h1 := HE.out; have h2 := HN1.out; omega)
  rw [HMg.out] at hcl
  refine ⟨trivial, rfl, (callsIn_wide.2 hcl).mono ?_⟩
  rintro r w5 ⟨v2, rfl, o5, b5⟩
  rw [HMg.out]
  obtain ⟨A2, c2, rfl, -⟩ := o5.rd
  rw [HN1.out] at o5 ⊢
  have hS1 := HSk.out _ _ hS fun o v h => stays_ b5 h
  refine hK.out _ _ (fun _ => hS1) ?_
  clear hK K hS hcl hr1
  have hS := hS1
  clear hS1
  refine s_one 5 (by kernel_rfl) rfl (by rfl) (fun K hK => ?_)
  go_simp
  obtain ⟨g5, hg5⟩ : ∃ g5, w5.heap.size = g5 := ⟨_, rfl⟩
  have hS2 := HSk.out _ _ hS fun o v h => keeps_alloc h (.cells #[.int .u8 e.m.pr, .int .u32 e.m.ttl, .int .u32 e.m.cnt, .string ⟨e.m.ids.toArray⟩, .slice A2 n1 c2] 32)
  refine hK.out _ _ (fun _ => hS2) ?_
  clear hK K hS
  have hS := hS2
  clear hS2
  refine s_take (fun _ => trivial) (by kernel_rfl) 7 rfl (by kernel_rfl) (by kernel_rfl) (by kernel_rfl) (by kernel_rfl) (fun _ _ _ h => h) (by rfl) (by intro w' hw; rw [HSd.out] at hw; obtain ⟨h0, h1, h2, h3, h4, h5⟩ := hw; go_simp; try (with_reducible rfl)) hS ?_
  simp only [List.getElem_toArray, List.getElem_cons_succ, List.getElem_cons_zero, Act.put, List.setIfInBounds_toArray, List.set_cons_zero, List.set_cons_succ]
  rw [hg5]
  have hb4 : Below W4.heap.size W4 w5 := below_of_drew b5
  have hz5 := hb4.size
  rw [hg5] at hz5
  have hl3 := J3.out.lt
  have hl2 := J2.out.lt
  refine forgetS (fun W => Bx W (g + 1) 54 (tdc 0 (.slice none 0 0) false 0) ∧ Bx W (g + 1 + 1) 54 (tdc 0 (.slice none 0 0) false 0) ∧ Bx W g3 34 [.int .i64 e.id, .int .u8 e.m.pr, .int .u32 e.m.ttl, .int .u32 e.m.cnt, .string ⟨e.m.ids.toArray⟩, .slice A1 n1 c1] ∧ OwnB W (g + 1 + 1 + 1) (.slice A1 n1 c1) e.m.body ∧ I' (g3 :: ((Value.slice A1 n1 c1).ownBlock.toList ++ ([g + 1 + 1, g + 1, g] ++ Z))) W ∧ Kz Z w0 w W ∧ Bx W g5 32 [.int .u8 e.m.pr, .int .u32 e.m.ttl, .int .u32 e.m.cnt, .string ⟨e.m.ids.toArray⟩, .slice A2 n1 c2] ∧ OwnB W W4.heap.size (.slice A2 n1 c2) e.m.body ∧ S W) ?_ ?_
  · refine ⟨((J1.out.below hb4).alloc _), ((J2.out.below hb4).alloc _), ((J3.out.below hb4).alloc _), ((O4.out.below hb4).alloc _), G'.below (G'.below I4.out hb4) (below_alloc _ _), (Z4.out.trans (G'.kz (G'.less _ _ _ I4.out fun k hk => by simp [hk]) hb4)).trans (G'.kz (G'.less _ _ _ (G'.below I4.out hb4) fun k hk => by simp [hk]) (below_alloc _ _)), Bx.new' _ _ [_, _, _, _, _] hg5.symm, o5.alloc _, hS⟩
  have hgg5 : g ≤ g5 := by omega
  have hn4 : n1 ≤ 4096 := by have h1 := HE.out; have h2 := HN1.out; omega
  clear b5 o5 hb4 hS hz5 hl3 hl2
  rintro W6 ⟨k1, k2, k3, o6, i6, z6, k5, o7, hS⟩
  have u0 := k2.froz 0
  have u1 := k2.froz 1
  have u2 := k2.froz 2
  have u3 := k2.froz 3
  have v0 := k2.cell 0 _ rfl
  have v1 := k2.cell 1 _ rfl
  have v2 := k2.cell 2 _ rfl
  have v3 := k2.cell 3 _ rfl
  refine s_one 8 (by kernel_rfl) rfl (by rfl) (fun K hK => ?_)
  go_simp
  refine hK.out _ _ (fun h => absurd (by simp) h) ?_
  clear hK K
  refine s_done (by kernel_rfl) ?_ _
  refine HKd.out _ _ ?_
  have hl3 : g3 < W4.heap.size := J3.out.lt
  have hsz : ∀ k, (Value.slice A1 n1 c1).ownBlock = some k → g + 1 + 1 + 1 ≤ k ∧ k < W4.heap.size := fun k hk => O4.out.lt k hk
  have hZ : ∀ k ∈ Z, k < g := by have := (G.old Z w H.out).2; intro k hk; have h1 := (this k hk).2; rw [HG.out] at h1; exact h1
  obtain ⟨L, hL⟩ : ∃ L, g3 :: ((Value.slice A1 n1 c1).ownBlock.toList ++ ([g + 1 + 1, g + 1, g] ++ Z)) = L := ⟨_, rfl⟩
  have hnb : ∀ k, (Value.slice A1 n1 c1).ownBlock = some k → k ∈ L ∧ k ∉ Z ∧ k ≠ g + 1 ∧ k ≠ g + 1 + 1 ∧ k ≠ g3 ∧ k ≠ g5 ∧ ∀ j, (Value.slice A2 n1 c2).ownBlock = some j → j ≠ k := fun k hk => by
    have h1 := hsz k hk
    refine ⟨by rw [← hL]; simp [hk], fun hz => by have := hZ k hz; omega, by omega, by omega, fun he => o6.ne_bx k3 (by decide) (he ▸ hk), fun he => o6.ne_bx k5 (by decide) (he ▸ hk), fun j hj => ?_⟩
    have := (o7.lt j hj).1
    omega
  have h2L : g + 1 + 1 ∈ L ∧ g + 1 ∈ L := by rw [← hL]; simp
  rw [hL] at i6
  have hne3 := k3.ne k2 (by decide)
  have hne5 := k5.ne k2 (by decide)
  have hne2 : ∀ k, (Value.slice A2 n1 c2).ownBlock = some k → k ≠ g + 1 + 1 ∧ k ≠ g + 1 := fun k hk => ⟨fun he => o7.ne_bx k2 (by decide) (he ▸ hk), fun he => o7.ne_bx k1 (by decide) (he ▸ hk)⟩
  have hz2 : g + 1 + 1 ∉ Z := fun hm => by have := hZ _ hm; omega
  have hz1 : g + 1 ∉ Z := fun hm => by have := hZ _ hm; omega
  obtain ⟨J, hJ⟩ : ∃ J : List UInt8 → World → Prop, J = fun l W => l.length = n1 ∧ I' L W ∧ Bx W g3 34 [.int .i64 e.id, .int .u8 e.m.pr, .int .u32 e.m.ttl, .int .u32 e.m.cnt, .string ⟨e.m.ids.toArray⟩, .slice A1 n1 c1] ∧ Bx W (g + 1) 54 (tdc 0 (.slice none 0 0) false 0) ∧ Bx W (g + 1 + 1) 54 (tdc e.id (.slice (some ⟨g5, 0, none⟩) 1 1) is 0) ∧ OwnB W (g + 1 + 1 + 1) (.slice A1 n1 c1) l ∧ Kz Z w0 w W ∧ Bx W g5 32 [.int .u8 e.m.pr, .int .u32 e.m.ttl, .int .u32 e.m.cnt, .string ⟨e.m.ids.toArray⟩, .slice A2 n1 c2] ∧ OwnB W W4.heap.size (.slice A2 n1 c2) e.m.body := ⟨_, rfl⟩
  refine forget (J e.m.body) ?_ ?_
  · rw [hJ]
    have j1 := G'.iset (j := 0) (u := .int .i64 e.id) i6 h2L.1
    have j2 := G'.iset (j := 1) (u := .slice (some ⟨g5, 0, none⟩) 1 1) j1 h2L.1
    have j3 := G'.iset (j := 2) (u := .bool is) j2 h2L.1
    have j4 := G'.iset (j := 3) (u := .int .i64 0) j3 h2L.1
    refine ⟨HN1.out, j4, (((k3.off hne3).off hne3).off hne3).off hne3, (((k1.off (by omega)).off (by omega)).off (by omega)).off (by omega), (((k2.set 0 _).set 1 _).set 2 _).set 3 _, ?_, (((z6.trans (G'.kset i6 h2L.1 hz2)).trans (G'.kset j1 h2L.1 hz2)).trans (G'.kset j2 h2L.1 hz2)).trans (G'.kset j3 h2L.1 hz2), (((k5.off hne5).off hne5).off hne5).off hne5, ?_⟩
    · exact (((o6.set_other (fun k hk => (hnb k hk).2.2.2.1) _).set_other (fun k hk => (hnb k hk).2.2.2.1) _).set_other (fun k hk => (hnb k hk).2.2.2.1) _).set_other (fun k hk => (hnb k hk).2.2.2.1) _
    · exact (((o7.set_other (fun k hk => (hne2 k hk).1) _).set_other (fun k hk => (hne2 k hk).1) _).set_other (fun k hk => (hne2 k hk).1) _).set_other (fun k hk => (hne2 k hk).1) _
  have HJ := Lib.hid hJ
  have HNB := Lib.hid hnb
  have HZ := Lib.hid hZ
  have HNE := Lib.hid hne2
  have HLL := Lib.hid hL
  have HZ1 := Lib.hid hz1
  have HL3 := Lib.hid hl3
  clear hJ hnb hsz u0 u1 u2 u3 v0 v1 v2 v3 k1 k2 k3 o6 i6 z6 k5 o7 hS hne3 hne5 hne2 hz1 hz2 hZ hL hg5 hl3
  intro W7 h7
  have H7 := Lib.hid h7
  clear h7
  go_wp2_with fail
  go_loopw [10] (fun p wr => ∃ (k : Nat) (l : List UInt8), k ≤ n1 ∧ p = .int .i64 k ∧ J l wr) (fun p _ => n1 - (intOf p).toNat)
  case atStart => exact ⟨0, e.m.body, by omega, rfl, H7.out⟩
  case round =>
    obtain ⟨k, l, hk, rfl, h5⟩ := hrel
    have H5 := Lib.hid h5
    rw [HJ.out] at h5
    obtain ⟨e1, e2, e3, e4, e5, e6, e7, e8, e9⟩ := h5
    have d5 := e3.cell 5 _ rfl
    have E1 := Lib.hid e1
    have E6 := Lib.hid e6
    clear e1 e2 e3 e4 e5 e6 e7 e8 e9
    by_cases hkn : k < n1
    · obtain ⟨b, cap, hA, hb0, hb1, hb2⟩ := E6.out.form (by rw [E1.out]; omega)
      simp only [Value.slice.injEq] at hA
      obtain ⟨rfl, -, rfl⟩ := hA
      have hca := E6.out.cell_at k (by rw [E1.out]; exact hkn)
      obtain ⟨ca, cb⟩ := hca
      go_wp2_with fail
      go_roundw
      case rel =>
        have h5 := H5.out
        rw [HJ.out] at h5
        obtain ⟨e1, e2, e3, e4, e5, e6, e7, e8, e9⟩ := h5
        have hb := HNB.out b rfl
        refine ⟨k + 1, l.set k 85, by omega, by go_num, ?_⟩
        rw [HJ.out]
        exact ⟨by simp [e1], G'.iset e2 hb.1, e3.off (Ne.symm hb.2.2.2.2.1), e4.off (Ne.symm hb.2.2.1), e5.off (Ne.symm hb.2.2.2.1), OwnB.set e6 k (by omega) 85 _ rfl, e7.trans (G'.kset e2 hb.1 hb.2.1), e8.off (Ne.symm hb.2.2.2.2.2.1), e9.set_other hb.2.2.2.2.2.2 _⟩
      case measure => simp [intOf]; omega
    · obtain rfl : k = n1 := by omega
      go_wp2_with fail
      refine HKa.out _ _ ?_
      have h5 := H5.out
      rw [HJ.out] at h5
      obtain ⟨-, e2, e3, e4, e5, e6, e7, e8, e9⟩ := h5
      have q0 := e5.cell 0 _ rfl
      have q1 := e5.cell 1 _ rfl
      have q2 := e5.cell 2 _ rfl
      have q3 := e5.cell 3 _ rfl
      have r0 := e4.cell 0 _ rfl
      have r1 := e4.cell 1 _ rfl
      have r2 := e4.cell 2 _ rfl
      have r3 := e4.cell 3 _ rfl
      have s0 := e4.froz 0
      have s1 := e4.froz 1
      have s2 := e4.froz 2
      have s3 := e4.froz 3
      have E4 := Lib.hid e4
      clear e2 e3 e4 e5 e6 e7 e8 e9
      go_wp2_with fail
      refine bodyPost_ret (results_c rfl rfl (((((E4.out.set 0 _).set 1 _).set 2 _).set 3 _).loadAgg (by kernel_rfl) (by kernel_rfl))) rfl ?_
      have h5 := H5.out
      rw [HJ.out] at h5
      obtain ⟨-, e2, e3, e4, e5, e6, e7, e8, e9⟩ := h5
      have j1 := G'.iset (j := 0) (u := .int .i64 e.id) e2 h2L.2
      have j2 := G'.iset (j := 1) (u := .slice (some ⟨g5, 0, none⟩) 1 1) j1 h2L.2
      have j3 := G'.iset (j := 2) (u := .bool is) j2 h2L.2
      have j4 := G'.iset (j := 3) (u := .int .i64 0) j3 h2L.2
      refine ⟨_, .slice A2 k c2, rfl, msl_one ?_ ?_ ?_, G'.less _ _ _ j4 (fun k hk => by rw [← HLL.out]; simp [hk]), (((e7.trans (G'.kset e2 h2L.2 HZ1.out)).trans (G'.kset j1 h2L.2 HZ1.out)).trans (G'.kset j2 h2L.2 HZ1.out)).trans (G'.kset j3 h2L.2 HZ1.out)⟩
      · have hn := e8.ne e4 (by decide)
        exact (((e8.off hn).off hn).off hn).off hn
      · rw [HG.out]; exact hgg5
      · exact Bdv.of_own ((((e9.set_other (fun k hk => (HNE.out k hk).2) _).set_other (fun k hk => (HNE.out k hk).2) _).set_other (fun k hk => (HNE.out k hk).2) _).set_other (fun k hk => (HNE.out k hk).2) _)
end Go.Proofs.Ytkoihcfdchcgdaa

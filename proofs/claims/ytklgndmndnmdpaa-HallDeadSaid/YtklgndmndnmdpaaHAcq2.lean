import Derived.Test.YtklgndmndnmdpaaHAcq
import Derived.Test.YtklgndmndnmdpaaHeld
set_option linter.unusedVariables false
set_option linter.unusedSimpArgs false
namespace Go.Proofs.Ytklgndmndnmdpaa
open Go.RowKit Go.Shelf

set_option maxRecDepth 100000 in
set_option maxHeartbeats 1000000 in
/-- An item is acquired. -/
theorem hacq_some {w : World} (ph P : Option Addr) (name : List UInt8) (now : Int) (e : En) (R : Value → World → Prop)
    (hq : ∀ W, Below w.heap.size w W → Calls Try.prog 47 #[.pointer ph, str name] W fun e w' => e = .returned (.pointer P) ∧ W = w')
    (ha : ∀ W, Below w.heap.size w W → Bx W w.heap.size 37 (kcs [] 0) → Bx W (w.heap.size + 1) 41 zMsg → Calls Try.prog 53 #[.pointer P, .int .i64 now] W fun r w2 => ∃ (A2 : Option Addr) (n2 c2 : Nat), r = .returned (.tuple #[.agg (itc (e, .slice A2 n2 c2)).toArray, .bool true]) ∧ Bx w2 w.heap.size 37 (kcs [] 0) ∧ Bx w2 (w.heap.size + 1) 41 zMsg ∧ R (.slice A2 n2 c2) w2) :
    Calls Try.prog 23 #[.pointer ph, str name, .int .i64 now] w fun x w' => ∃ (v : Value) (w2 : World), x = .returned (.tuple #[.agg (kcs name e.id).toArray, mgv e.m v, .bool true]) ∧ R v w2 ∧ Tch [w.heap.size, w.heap.size + 1] w2 w' := by
  have hb : ∀ o o', Below w.heap.size w ((w.alloc o).alloc o') := fun o o' => (below_alloc w o).alloc (by simp) o'
  have HB := Lib.hid hb
  have HQ := Lib.hid hq
  have HA := Lib.hid ha
  clear hb hq ha
  unfold str at HQ ⊢
  go_enter Try.func23, Try.ntmps23
  go_wp2_with fail
  refine (HQ.out _ (HB.out _ _)).mono ?_
  rintro x w1 ⟨rfl, rfl⟩
  go_wp2_with fail
  refine (HA.out _ (HB.out _ _) ((Bx.new w 37 (kcs [] 0)).alloc (.cells zMsg.toArray 41)) (Bx.new' (w.alloc (.cells (kcs [] 0).toArray 37)) (b := w.heap.size + 1) 41 zMsg (by simp))).mono ?_
  rintro x w3 ⟨A2, n2, c2, rfl, hk1, hk2, hR⟩
  have HR := Lib.hid hR
  clear hR
  have K1 := Lib.hid hk1
  have K2 := Lib.hid hk2
  unfold itc str
  clear hk1 hk2
  go_wp2_with fail
  obtain ⟨g, hg⟩ : ∃ g, w3.heap.size = g := ⟨_, rfl⟩
  rw [hg]
  refine forget (fun W => Bx W g 104 (itc (e, .slice A2 n2 c2)) ∧ Below w3.heap.size w3 W) ⟨Bx.new' w3 104 _ hg.symm, below_alloc w3 _⟩ ?_
  rintro W ⟨kg, bg⟩
  have hgl : w.heap.size + 1 < g := by have := K2.out.lt; omega
  obtain ⟨S, hSd⟩ : ∃ S : World → Prop, S = fun W' : World => W'.cell? ⟨g, 0, none⟩ = some (.int .i64 e.id) ∧ W'.cell? ⟨g, 1, none⟩ = some (.int .u8 e.m.pr) ∧ W'.cell? ⟨g, 2, none⟩ = some (.int .u32 e.m.ttl) ∧ W'.cell? ⟨g, 3, none⟩ = some (.int .u32 e.m.cnt) ∧ W'.cell? ⟨g, 4, none⟩ = some (.string ⟨e.m.ids.toArray⟩) ∧ W'.cell? ⟨g, 5, none⟩ = some (.slice A2 n2 c2) := ⟨_, rfl⟩
  have hS : S W.drew := by rw [hSd]; exact ⟨kg.cell 0 _ rfl, kg.cell 1 _ rfl, kg.cell 2 _ rfl, kg.cell 3 _ rfl, kg.cell 4 _ rfl, kg.cell 5 _ rfl⟩
  have HSd := Lib.hid hSd
  have KA := Lib.hid (K1.out.below bg)
  have KB := Lib.hid (K2.out.below bg)
  have BG := Lib.hid bg
  have KG := Lib.hid kg
  clear hSd kg bg
  refine (wpIn_wide (n := 0)).1 ?_
  refine s_region [] S (by kernel_rfl) ?_
  refine s_take (fun _ => trivial) (by kernel_rfl) 0 rfl (by kernel_rfl) (by kernel_rfl) (by kernel_rfl) (by kernel_rfl) (fun _ _ _ h => h) (by rfl) (by intro w' hw; rw [HSd.out] at hw; obtain ⟨h0, h1, h2, h3, h4, h5⟩ := hw; go_simp; try (with_reducible rfl)) hS ?_
  simp only [List.getElem_toArray, List.getElem_cons_succ, List.getElem_cons_zero, Act.put, List.setIfInBounds_toArray, List.set_cons_zero, List.set_cons_succ]
  refine s_take (fun _ => trivial) (by kernel_rfl) 1 rfl (by kernel_rfl) (by kernel_rfl) (by kernel_rfl) (by kernel_rfl) (fun _ _ _ h => h) (by rfl) (by intro w' hw; rw [HSd.out] at hw; obtain ⟨h0, h1, h2, h3, h4, h5⟩ := hw; go_simp; try (with_reducible rfl)) hS ?_
  simp only [List.getElem_toArray, List.getElem_cons_succ, List.getElem_cons_zero, Act.put, List.setIfInBounds_toArray, List.set_cons_zero, List.set_cons_succ]
  refine s_take (fun _ => trivial) (by kernel_rfl) 2 rfl (by kernel_rfl) (by kernel_rfl) (by kernel_rfl) (by kernel_rfl) (fun _ _ _ h => h) (by rfl) (by intro w' hw; rw [HSd.out] at hw; obtain ⟨h0, h1, h2, h3, h4, h5⟩ := hw; go_simp; try (with_reducible rfl)) hS ?_
  simp only [List.getElem_toArray, List.getElem_cons_succ, List.getElem_cons_zero, Act.put, List.setIfInBounds_toArray, List.set_cons_zero, List.set_cons_succ]
  refine s_take (fun _ => trivial) (by kernel_rfl) 3 rfl (by kernel_rfl) (by kernel_rfl) (by kernel_rfl) (by kernel_rfl) (fun _ _ _ h => h) (by rfl) (by intro w' hw; rw [HSd.out] at hw; obtain ⟨h0, h1, h2, h3, h4, h5⟩ := hw; go_simp; try (with_reducible rfl)) hS ?_
  simp only [List.getElem_toArray, List.getElem_cons_succ, List.getElem_cons_zero, Act.put, List.setIfInBounds_toArray, List.set_cons_zero, List.set_cons_succ]
  refine s_take (fun _ => trivial) (by kernel_rfl) 4 rfl (by kernel_rfl) (by kernel_rfl) (by kernel_rfl) (by kernel_rfl) (fun _ _ _ h => h) (by rfl) (by intro w' hw; rw [HSd.out] at hw; obtain ⟨h0, h1, h2, h3, h4, h5⟩ := hw; go_simp; try (with_reducible rfl)) hS ?_
  simp only [List.getElem_toArray, List.getElem_cons_succ, List.getElem_cons_zero, Act.put, List.setIfInBounds_toArray, List.set_cons_zero, List.set_cons_succ]
  refine s_take (fun _ => trivial) (by kernel_rfl) 5 rfl (by kernel_rfl) (by kernel_rfl) (by kernel_rfl) (by kernel_rfl) (fun _ _ _ h => h) (by rfl) (by intro w' hw; rw [HSd.out] at hw; obtain ⟨h0, h1, h2, h3, h4, h5⟩ := hw; go_simp; try (with_reducible rfl)) hS ?_
  simp only [List.getElem_toArray, List.getElem_cons_succ, List.getElem_cons_zero, Act.put, List.setIfInBounds_toArray, List.set_cons_zero, List.set_cons_succ]
  have a0 := KA.out.cell 0 _ rfl
  have a1 := KA.out.cell 1 _ rfl
  have a2 := KA.out.froz 0
  have a3 := KA.out.froz 1
  have c0 := KB.out.cell 0 _ rfl
  have c1 := KB.out.cell 1 _ rfl
  have cc2 := KB.out.cell 2 _ rfl
  have c3 := KB.out.cell 3 _ rfl
  have c4 := KB.out.cell 4 _ rfl
  have d0 := KB.out.froz 0
  have d1 := KB.out.froz 1
  have d2 := KB.out.froz 2
  have d3 := KB.out.froz 3
  have d4 := KB.out.froz 4
  refine s_one 6 (by kernel_rfl) rfl (by rfl) (fun K hK => ?_)
  go_simp
  have hne1 : g ≠ w.heap.size := by omega
  have hne2 : g ≠ w.heap.size + 1 := by omega
  have kg1 := ((KG.out.off (j := 0) (u := .string ⟨name.toArray⟩) hne1).off (j := 1) (u := .int .i64 e.id) hne1).drew
  have hS6 : S ((W.setCell ⟨w.heap.size, 0, none⟩ (.string ⟨name.toArray⟩)).setCell ⟨w.heap.size, 1, none⟩ (.int .i64 e.id)).drew := by rw [HSd.out]; exact ⟨kg1.cell 0 _ rfl, kg1.cell 1 _ rfl, kg1.cell 2 _ rfl, kg1.cell 3 _ rfl, kg1.cell 4 _ rfl, kg1.cell 5 _ rfl⟩
  refine hK.out _ _ (fun _ => hS6) ?_
  clear hK K hS
  refine s_one 7 (by kernel_rfl) rfl (by rfl) (fun K hK => ?_)
  go_simp
  have kg2 : Bx (((((((W.setCell ⟨w.heap.size, 0, none⟩ (.string ⟨name.toArray⟩)).setCell ⟨w.heap.size, 1, none⟩ (.int .i64 e.id)).setCell ⟨w.heap.size + 1, 0, none⟩ (.int .u8 e.m.pr)).setCell ⟨w.heap.size + 1, 1, none⟩ (.int .u32 e.m.ttl)).setCell ⟨w.heap.size + 1, 2, none⟩ (.int .u32 e.m.cnt)).setCell ⟨w.heap.size + 1, 3, none⟩ (.string ⟨e.m.ids.toArray⟩)).setCell ⟨w.heap.size + 1, 4, none⟩ (.slice A2 n2 c2)).drew g 104 (itc (e, .slice A2 n2 c2)) := Bx.drew (Bx.off (Bx.off (Bx.off (Bx.off (Bx.off (Bx.off (Bx.off KG.out hne1) hne1) hne2) hne2) hne2) hne2) hne2)
  have hS7 : S (((((((W.setCell ⟨w.heap.size, 0, none⟩ (.string ⟨name.toArray⟩)).setCell ⟨w.heap.size, 1, none⟩ (.int .i64 e.id)).setCell ⟨w.heap.size + 1, 0, none⟩ (.int .u8 e.m.pr)).setCell ⟨w.heap.size + 1, 1, none⟩ (.int .u32 e.m.ttl)).setCell ⟨w.heap.size + 1, 2, none⟩ (.int .u32 e.m.cnt)).setCell ⟨w.heap.size + 1, 3, none⟩ (.string ⟨e.m.ids.toArray⟩)).setCell ⟨w.heap.size + 1, 4, none⟩ (.slice A2 n2 c2)).drew := by rw [HSd.out]; exact ⟨kg2.cell 0 _ rfl, kg2.cell 1 _ rfl, kg2.cell 2 _ rfl, kg2.cell 3 _ rfl, kg2.cell 4 _ rfl, kg2.cell 5 _ rfl⟩
  refine hK.out _ _ (fun _ => hS7) ?_
  clear hK K hS6
  have hS := hS7
  refine s_take (fun _ => trivial) (by kernel_rfl) 8 rfl (by kernel_rfl) (by kernel_rfl) (by kernel_rfl) (by kernel_rfl) (fun _ _ _ h => h) (by rfl) (by intro w' hw; rw [HSd.out] at hw; obtain ⟨h0, h1, h2, h3, h4, h5⟩ := hw; go_simp; try (with_reducible rfl)) hS ?_
  simp only [List.getElem_toArray, List.getElem_cons_succ, List.getElem_cons_zero, Act.put, List.setIfInBounds_toArray, List.set_cons_zero, List.set_cons_succ]
  refine s_done (by kernel_rfl) ?_ _
  refine forgetX (fun V => Bx V w.heap.size 37 (kcs name e.id) ∧ Bx V (w.heap.size + 1) 41 (mcs e.m (.slice A2 n2 c2)) ∧ Tch [w.heap.size, w.heap.size + 1] w3 V) ⟨?_, ?_, ?_⟩ ?_
  · refine Bx.drew ?_
    have hne : w.heap.size ≠ w.heap.size + 1 := by omega
    with_reducible refine Bx.to (((((((KA.out.set 0 _).set 1 _).off hne).off hne).off hne).off hne).off hne) ?_
    rfl
  · refine Bx.drew ?_
    have hne : w.heap.size + 1 ≠ w.heap.size := by omega
    with_reducible refine Bx.to (((((((KB.out.off hne).off hne).set 0 _).set 1 _).set 2 _).set 3 _).set 4 _) ?_
    rfl
  · refine Tch.drew ?_
    with_reducible repeat first | exact Tch.of_below _ BG.out | refine Tch.setCell ?_ _ (.inl (by simp))
  rintro V ⟨ka, kb, tb⟩
  go_wp2_with fail
  exact bodyPost_ret (results_cct rfl rfl rfl rfl (ka.loadAgg (by kernel_rfl) (by kernel_rfl)) (kb.loadAgg (by kernel_rfl) (by kernel_rfl))) rfl ⟨_, w3, rfl, HR.out, tb⟩


theorem acqQ_nil (now : Int) : acqQ [] now = none := rfl
/-- What becomes of a hall's queues when one acquires from a queue. -/
def hacqR (C : List Cf) (Qs : List Qu) (name : List UInt8) (now : Int) : List Qu × Option En :=
  match (atC C name).bind fun i => (Qs[i]?).map fun x => (i, x) with
  | none => (Qs, none)
  | some (i, x) =>
    match acqQ x.L now with
    | none => (Qs, none)
    | some e => (Qs.set i { x with L := modL (holdE e) x.L }, some e)
section
variable {w0 w : World} {G : List Nat} {h lost : Nat} {C : List Cf} {Qs : List Qu}
theorem below2 (w : World) (o o' : Obj) : Below w.heap.size w ((w.alloc o).alloc o') := (below_alloc w o).alloc (by simp) o'
theorem hacq_yes (hf : HF w0 w G h C Qs lost) (name : List UInt8) (now : Int) (i : Nat) (hi : i < Qs.length) (hA : atC C name = some i) (e : En) (hE : acqQ (Qs[i]).L now = some e) :
    Calls Try.prog 23 #[.pointer (some ⟨h, 0, none⟩), str name, .int .i64 now] w fun x w' => ∃ v, x = .returned (.tuple #[.agg (kcs name e.id).toArray, mgv e.m v, .bool true]) ∧ Bdv w' v e.m.body ∧ HF w0 w' G h C (Qs.set i { Qs[i] with L := modL (holdE e) (Qs[i]).L }) lost ∧ Kz G w0 w w' := by
  have hqe : qAt C Qs name = some ⟨(Qs[i]).q, 0, none⟩ := by unfold qAt; rw [hA]; simp [List.getElem?_eq_getElem hi]
  have hne8 : ∀ (W : World) (k : Nat), (Bx W k 37 (kcs [] 0) ∨ Bx W k 41 zMsg) → ∃ o, W.heap[k]? = some o ∧ ∀ (cs : Array Value) (fr : Nat × Nat), o ≠ Obj.cells cs 5 fr := fun W k hb => by
    rcases hb with hb | hb
    · exact ⟨_, hb, fun cs fr he => by cases he⟩
    · exact ⟨_, hb, fun cs fr he => by cases he⟩
  have hacq := hacq_some (w := w) (some ⟨h, 0, none⟩) (qAt C Qs name) name now e (fun v w2 => Bdv w2 v e.m.body ∧ HF w0 w2 ([w.heap.size, w.heap.size + 1] ++ G) h C (Qs.set i { Qs[i] with L := modL (holdE e) (Qs[i]).L }) lost ∧ Kz G w0 w w2 ∧ ∀ k ∈ [w.heap.size, w.heap.size + 1], ∃ o, w2.heap[k]? = some o ∧ ∀ (cs : Array Value) (fr : Nat × Nat), o ≠ Obj.cells cs 5 fr)
    (fun W hb => hqueue_calls (hf.below hb) name) ?_
  · refine hacq.mono ?_
    rintro x w' ⟨v, w2, rfl, ⟨h1, h2, h3, hk2⟩, ht⟩
    have hsz : w.heap.size + 1 < w2.heap.size := h2.glt _ (by simp)
    refine ⟨v, rfl, h1.tch ht hk2, (h2.zset (ht.mono fun k hk => List.mem_append_left _ hk)).less fun k hk => List.mem_append_right _ hk, ⟨Nat.le_trans h3.size ht.size, fun k hk => (ht.block k ?_ fun hm => ?_).trans (h3.block k hk), fun k cs t fr hty hk => (ht.block k (Nat.lt_of_lt_of_le (heap_lt hk) h3.size) fun hm => ?_).trans (h3.sty k cs t fr hty hk)⟩⟩
    · rcases hk with hk | hk
      · exact h2.glt k (List.mem_append_right _ hk)
      · have := h2.old; omega
    · rcases hk with hk | hk
      · have := hf.glt k hk; simp at hm; omega
      · have := hf.old; simp at hm; omega
    · have := heap_lt hk; simp at hm; omega
  · intro W hb k1 k2
    have hl2 : w.heap.size + 1 < W.heap.size := k2.lt
    have hf2 := hf.guest (N := [w.heap.size, w.heap.size + 1]) hb (fun k hk => by simp at hk; omega)
    obtain ⟨Z, g1, g2, g3⟩ := hf2.step i hi
    rw [hqe]
    refine (qf_acq g1 now).mono ?_
    rintro r w2 (⟨r1, -⟩ | ⟨e', v, r1, rfl, r3, r4, r5⟩)
    · rw [hE] at r1; cases r1
    · rw [hE] at r1
      cases r1
      obtain ⟨A2, c2, rfl, -⟩ := r3.rd
      obtain ⟨f1, f2⟩ := g3 _ _ w2 (r4.less fun k hk => List.mem_append_right _ hk) r5
      have z1 : w.heap.size ∈ Z := g2 _ (by simp)
      have z2 : w.heap.size + 1 ∈ Z := g2 _ (by simp)
      have m1 := r5.bx k1 (.inl z1)
      have m2 := r5.bx k2 (.inl z2)
      refine ⟨A2, _, c2, rfl, m1, m2, Bdv.of_own r3, f1, (hf.kz_of hb).trans (f2.mono fun k hk => List.mem_append_right _ hk), fun k hk => ?_⟩
      simp only [List.mem_cons, List.not_mem_nil, or_false] at hk
      rcases hk with rfl | rfl
      · exact hne8 _ _ (.inl m1)
      · exact hne8 _ _ (.inr m2)
theorem hacq_calls (hf : HF w0 w G h C Qs lost) (name : List UInt8) (now : Int) :
    Calls Try.prog 23 #[.pointer (some ⟨h, 0, none⟩), str name, .int .i64 now] w fun x w' =>
      ((hacqR C Qs name now).2 = none ∧ x = .returned (.tuple #[.agg (kcs [] 0).toArray, mgv zMg (.slice none 0 0), .bool false]) ∨ ∃ e v, (hacqR C Qs name now).2 = some e ∧ x = .returned (.tuple #[.agg (kcs name e.id).toArray, mgv e.m v, .bool true]) ∧ Bdv w' v e.m.body) ∧ HF w0 w' G h C (hacqR C Qs name now).1 lost ∧ Kz G w0 w w' := by
  cases hq : qAt C Qs name with
  | none =>
    have hR : hacqR C Qs name now = (Qs, none) := by unfold hacqR; rw [qAt_none hq]
    rw [hR]
    refine (hacq_no hf name now (by rw [qLs_none hq]; rfl)).mono ?_
    rintro x w' ⟨rfl, hb⟩
    exact ⟨.inl ⟨rfl, rfl⟩, hf.below hb, hf.kz_of hb⟩
  | some a =>
    obtain ⟨i, hi, hA, rfl, hbd⟩ := qAt_some hq
    cases hE : acqQ (Qs[i]).L now with
    | none =>
      have hR : hacqR C Qs name now = (Qs, none) := by unfold hacqR; rw [hbd]; simp only [hE]
      rw [hR]
      refine (hacq_no hf name now (by rw [qLs_some hi hA]; exact hE)).mono ?_
      rintro x w' ⟨rfl, hb⟩
      exact ⟨.inl ⟨rfl, rfl⟩, hf.below hb, hf.kz_of hb⟩
    | some e =>
      have hR : hacqR C Qs name now = (Qs.set i { Qs[i] with L := modL (holdE e) (Qs[i]).L }, some e) := by unfold hacqR; rw [hbd]; simp only [hE]
      rw [hR]
      refine (hacq_yes hf name now i hi hA e hE).mono ?_
      rintro x w' ⟨v, rfl, h1, h2, h3⟩
      exact ⟨.inr ⟨e, v, rfl, rfl, h1⟩, h2, h3⟩
end
end Go.Proofs.Ytklgndmndnmdpaa

import Derived.Test.YtkoihcfdchcgdaaRPut
import Derived.Test.YtkoihcfdchcgdaaHeld
set_option linter.unusedVariables false
set_option linter.unusedSimpArgs false
namespace Go.Proofs.Ytkoihcfdchcgdaa
open Go.RowKit Go.Shelf

theorem results_ct {fn : Func} {t u : Tmp} {ty : TypeId} (h : fn.results = #[.cell t ty, .tmp u]) {tmps : Array Value} {W : World} {a : Addr} {v v' : Value} (ht : tmps.getD t undef = .pointer (some a)) (hu : tmps.getD u undef = v')
    (hl : (loadVar ty a).run Try.prog W = .ok v W) : (results fn tmps).run Try.prog W = .ok (.tuple #[v, v']) W := by
  simp only [Array.getD_eq_getD_getElem?] at ht hu
  simp [results, h, ht, hu, asAddr, Sem.run_bind, Sem.run, hl, Result.andThen]

set_option maxRecDepth 100000 in
set_option maxHeartbeats 4000000 in
theorem racq_calls {w : World} {Z : List Nat} {r room limit last : Nat} {L : List En} (h : Rq w Z r room limit last L) (hz : ∀ k ∈ Z, k < w.heap.size) (now : Int) :
    Calls Try.prog 33 #[.pointer (some ⟨r, 0, none⟩), .int .i64 now] w fun x w' =>
      (acqQ L now = none ∧ x = .returned (.tuple #[.agg (ecs zEn (.slice none 0 0)).toArray, .bool false]) ∧ Below w.heap.size w w') ∨
      ∃ e v, acqQ L now = some e ∧ x = .returned (.tuple #[.agg (ecs (holdE e) v).toArray, .bool true]) ∧ OwnB w' w.heap.size v e.m.body ∧ ∃ N, (∀ k ∈ N, w.heap.size ≤ k ∧ k < w'.heap.size) ∧ Rq w' (N ++ Z) r room limit last (modL (holdE e) L) ∧ RStep Z w w' := by
  have HW := Lib.hid (fun o => rwait (h.keep (w' := w.alloc o) fun k hk => heap_alloc_old w o (hz k hk)))
  obtain ⟨⟨lv, bv, h1, h2, h3, h4⟩, h5, h6⟩ := h
  obtain ⟨A, c, rfl, hr⟩ := h2.rd
  obtain ⟨n, hn⟩ : ∃ n, L.length = n := ⟨_, rfl⟩
  rw [hn] at h1 hr
  have hn64 : n ≤ 64 := by have := h6.len; have := h6.room2; omega
  obtain ⟨I, hI⟩ : ∃ I, idxs L = I := ⟨_, rfl⟩
  rw [hI] at HW
  have hIlt : ∀ i ∈ I, i < n := fun i hi => by rw [← hI] at hi; rw [← hn]; exact idx_lt hi
  have hIlen : I.length ≤ 64 := by rw [← hI, idx_len]; exact ord_len h6
  obtain ⟨m, hm⟩ : ∃ m, I.length = m := ⟨_, rfl⟩
  rw [hm] at HW hIlen
  have H1 := Lib.hid h1
  rw [hn] at h2
  have H2 := Lib.hid h2
  have HR := Lib.hid hr
  have HN := Lib.hid hn
  have HM := Lib.hid hm
  have HI := Lib.hid hI
  have HIL := Lib.hid hIlt
  have H3 := Lib.hid h3
  have H5 := Lib.hid h5
  have H4 := Lib.hid h4
  have H6 := Lib.hid h6
  have hlc := hr.2.1
  have hmx := hr.2.2.1
  clear h1 h2 h3 h4 h5 h6 hr hn hI hIlt hm
  go_enter Try.func33, Try.ntmps33
  go_wp2_with fail
  refine (HW.out _).mono ?_
  rintro e w1 ⟨v, rfl, o1, b1⟩
  obtain ⟨A1, c1, rfl, -⟩ := o1.rd
  have HO1 := Lib.hid o1
  have HB1 := Lib.hid (below_then (below_alloc w (.cells (ecs zEn (.slice none 0 0)).toArray 64)) (by simp) b1)
  have HG := Lib.hid ((Bx.new w 64 (ecs zEn (.slice none 0 0))).below b1)
  clear o1 b1
  go_wp2_with fail
  go_loopw [7] (fun i wr => ∃ (k : Nat), k ≤ m ∧ i = .int .i64 k ∧ Below w1.heap.size w1 wr ∧ Hid (∀ i ∈ I.take k, oldE (L.getD i zEn) now = true)) (fun i _ => m - (intOf i).toNat)
  case atStart => exact ⟨0, by omega, rfl, Below.refl _ _, Lib.hid (by simp)⟩
  case round =>
    obtain ⟨k, hk, rfl, hb, HOLD⟩ := hrel
    have HB := Lib.hid hb
    have HBB := Lib.hid (below_then HB1.out HB1.out.size hb)
    clear hb
    by_cases hkm : k < m
    · have hkm' : (k : Int) < m := by omega
      obtain ⟨gi, ci, hgi, -⟩ := HO1.out.form (by omega)
      simp only [Value.slice.injEq] at hgi
      obtain ⟨rfl, -, rfl⟩ := hgi
      have hkI : k < I.length := by rw [HM.out]; exact hkm
      obtain ⟨j, hj⟩ : ∃ j, I[k] = j := ⟨_, rfl⟩
      have hjn : j < n := HIL.out j (by rw [← hj]; exact List.getElem_mem _)
      have d1 : wr.cell? ⟨gi, k, none⟩ = some (.int .i64 j) := ((HO1.out.below HB.out).cell_at k (iv j) (by rw [List.getElem?_map, List.getElem?_eq_getElem hkI, hj]; rfl)).1
      have d0 : wr.cell? ⟨r, 2, none⟩ = some (.slice A n c) := (H1.out.below HBB.out).cell 2 _ rfl
      have hjL : j < L.length := by rw [HN.out]; exact hjn
      obtain ⟨b0, o0, hA, hcw⟩ := flat_cells eit 8 (by decide) eit_length HR.out j (by rw [List.length_map]; exact hjL)
      subst hA
      rw [List.getElem_map] at hcw
      have hb0 : b0 < w.heap.size := World.block_lt_of_cell? _ _ (hcw 0 _ rfl)
      have hcell := fun j u hj => stays HBB.out (hcw j u hj) hb0
      clear hcw
      obtain ⟨e, he⟩ : ∃ e, L[j] = e := ⟨_, rfl⟩
      rw [he] at hcell
      have hmem : e ∈ L := by rw [← he]; exact List.getElem_mem _
      obtain ⟨Ab, cb, hbv, -⟩ := (H4.out e hmem).1
      have hgj : L.getD j zEn = e := by rw [List.getD_eq_getElem?_getD, List.getElem?_eq_getElem hjL, he]; rfl
      have HGJ := Lib.hid hgj
      have HJ := Lib.hid hj
      have HKI := Lib.hid hkI
      have HMEM := Lib.hid hmem
      have HE := Lib.hid (And.intro hjL he)
      have HBV := Lib.hid hbv
      have d2 := hcell 0 (.int .i64 e.id) rfl
      have d3 := hcell 1 (.int .u8 e.m.pr) rfl
      have d4 := hcell 2 (.int .u32 e.m.ttl) rfl
      have d5 := hcell 3 (.int .u32 e.m.cnt) rfl
      have d6 := hcell 4 (.string ⟨e.m.ids.toArray⟩) rfl
      have d7 := hcell 5 (.slice Ab e.m.body.length cb) (by show some (bv e.id) = _; rw [hbv])
      have d8 := hcell 6 (.int .i64 e.tm) rfl
      have d9 := hcell 7 (.bool e.held) rfl
      simp only [← Nat.add_assoc, Nat.add_zero] at d2 d3 d4 d5 d6 d7 d8 d9
      clear hcell hbv hmem hgj
      go_wp2_with fail
      obtain ⟨S, hSd⟩ : ∃ S : World → Prop, S = fun W' : World => W'.cell? ⟨r, 2, none⟩ = some (.slice (some ⟨b0, o0, none⟩) n c) ∧ W'.cell? ⟨gi, k, none⟩ = some (.int .i64 j) ∧ W'.cell? ⟨b0, o0 + j * 8, none⟩ = some (.int .i64 e.id) ∧ W'.cell? ⟨b0, o0 + j * 8 + 1, none⟩ = some (.int .u8 e.m.pr) ∧ W'.cell? ⟨b0, o0 + j * 8 + 2, none⟩ = some (.int .u32 e.m.ttl) ∧ W'.cell? ⟨b0, o0 + j * 8 + 3, none⟩ = some (.int .u32 e.m.cnt) ∧ W'.cell? ⟨b0, o0 + j * 8 + 4, none⟩ = some (.string ⟨e.m.ids.toArray⟩) ∧ W'.cell? ⟨b0, o0 + j * 8 + 5, none⟩ = some (.slice Ab e.m.body.length cb) ∧ W'.cell? ⟨b0, o0 + j * 8 + 6, none⟩ = some (.int .i64 e.tm) ∧ W'.cell? ⟨b0, o0 + j * 8 + 7, none⟩ = some (.bool e.held) := ⟨_, rfl⟩
      have hSk : ∀ A' W' : World, S A' → (∀ b o v, b = r ∨ b = gi ∨ b = b0 → A'.cell? ⟨b, o, none⟩ = some v → W'.cell? ⟨b, o, none⟩ = some v) → S W' := fun A' W' h hk => by
        rw [hSd] at h ⊢
        obtain ⟨e0, e1, e2, e3, e4, e5, e6, e7, e8, e9⟩ := h
        exact ⟨hk _ _ _ (.inl rfl) e0, hk _ _ _ (.inr (.inl rfl)) e1, hk _ _ _ (.inr (.inr rfl)) e2, hk _ _ _ (.inr (.inr rfl)) e3, hk _ _ _ (.inr (.inr rfl)) e4, hk _ _ _ (.inr (.inr rfl)) e5, hk _ _ _ (.inr (.inr rfl)) e6, hk _ _ _ (.inr (.inr rfl)) e7, hk _ _ _ (.inr (.inr rfl)) e8, hk _ _ _ (.inr (.inr rfl)) e9⟩
      have hS : S wr.drew := by rw [hSd]; exact ⟨d0, d1, d2, d3, d4, d5, d6, d7, d8, d9⟩
      have HSd := Lib.hid hSd
      have HSk := Lib.hid hSk
      have hgi : gi < w1.heap.size := (HO1.out.lt gi rfl).2
      have hw1 : w.heap.size ≤ w1.heap.size := HB1.out.size
      have hrl : r < w.heap.size := H1.out.lt
      clear hSd hSk d0 d1 d2 d3 d4 d5 d6 d7 d8 d9
      refine (wpIn_wide (n := 0)).1 ?_
      refine s_region [] S (by kernel_rfl) ?_
      refine s_take (fun _ => trivial) (by kernel_rfl) 0 rfl (by kernel_rfl) (by kernel_rfl) (by kernel_rfl) (by kernel_rfl) (fun _ _ _ h => h) (by rfl) (by intro w' hw; rw [HSd.out] at hw; obtain ⟨h0, h1, h2, h3, h4, h5, h6, h7, h8, h9⟩ := hw; go_simp; try (with_reducible rfl)) hS ?_
      simp only [List.getElem_toArray, List.getElem_cons_succ, List.getElem_cons_zero, Act.put, List.setIfInBounds_toArray, List.set_cons_zero, List.set_cons_succ]
      refine s_take (fun _ => trivial) (by kernel_rfl) 1 rfl (by kernel_rfl) (by kernel_rfl) (by kernel_rfl) (by kernel_rfl) (fun _ _ _ h => h) (by rfl) (by intro w' hw; rw [HSd.out] at hw; obtain ⟨h0, h1, h2, h3, h4, h5, h6, h7, h8, h9⟩ := hw; go_simp; try (with_reducible rfl)) hS ?_
      simp only [List.getElem_toArray, List.getElem_cons_succ, List.getElem_cons_zero, Act.put, List.setIfInBounds_toArray, List.set_cons_zero, List.set_cons_succ]
      refine s_take (fun _ => trivial) (by kernel_rfl) 2 rfl (by kernel_rfl) (by kernel_rfl) (by kernel_rfl) (by kernel_rfl) (fun _ _ _ h => h) (by rfl) (by intro w' hw; rw [HSd.out] at hw; obtain ⟨h0, h1, h2, h3, h4, h5, h6, h7, h8, h9⟩ := hw; go_simp; try (with_reducible rfl)) hS ?_
      simp only [List.getElem_toArray, List.getElem_cons_succ, List.getElem_cons_zero, Act.put, List.setIfInBounds_toArray, List.set_cons_zero, List.set_cons_succ]
      refine s_take (fun _ => trivial) (by kernel_rfl) 3 rfl (by kernel_rfl) (by kernel_rfl) (by kernel_rfl) (by kernel_rfl) (fun _ _ _ h => h) (by rfl) (by intro w' hw; rw [HSd.out] at hw; obtain ⟨h0, h1, h2, h3, h4, h5, h6, h7, h8, h9⟩ := hw; go_simp; try (with_reducible rfl)) hS ?_
      simp only [List.getElem_toArray, List.getElem_cons_succ, List.getElem_cons_zero, Act.put, List.setIfInBounds_toArray, List.set_cons_zero, List.set_cons_succ]
      refine s_take (fun _ => trivial) (by kernel_rfl) 4 rfl (by kernel_rfl) (by kernel_rfl) (by kernel_rfl) (by kernel_rfl) (fun _ _ _ h => h) (by rfl) (by intro w' hw; rw [HSd.out] at hw; obtain ⟨h0, h1, h2, h3, h4, h5, h6, h7, h8, h9⟩ := hw; go_simp; try (with_reducible rfl)) hS ?_
      simp only [List.getElem_toArray, List.getElem_cons_succ, List.getElem_cons_zero, Act.put, List.setIfInBounds_toArray, List.set_cons_zero, List.set_cons_succ]
      refine s_take (fun _ => trivial) (by kernel_rfl) 5 rfl (by kernel_rfl) (by kernel_rfl) (by kernel_rfl) (by kernel_rfl) (fun _ _ _ h => h) (by rfl) (by intro w' hw; rw [HSd.out] at hw; obtain ⟨h0, h1, h2, h3, h4, h5, h6, h7, h8, h9⟩ := hw; go_simp; try (with_reducible rfl)) hS ?_
      simp only [List.getElem_toArray, List.getElem_cons_succ, List.getElem_cons_zero, Act.put, List.setIfInBounds_toArray, List.set_cons_zero, List.set_cons_succ]
      refine s_take (fun _ => trivial) (by kernel_rfl) 6 rfl (by kernel_rfl) (by kernel_rfl) (by kernel_rfl) (by kernel_rfl) (fun _ _ _ h => h) (by rfl) (by intro w' hw; rw [HSd.out] at hw; obtain ⟨h0, h1, h2, h3, h4, h5, h6, h7, h8, h9⟩ := hw; go_simp; try (with_reducible rfl)) hS ?_
      simp only [List.getElem_toArray, List.getElem_cons_succ, List.getElem_cons_zero, Act.put, List.setIfInBounds_toArray, List.set_cons_zero, List.set_cons_succ]
      refine s_take (fun _ => trivial) (by kernel_rfl) 7 rfl (by kernel_rfl) (by kernel_rfl) (by kernel_rfl) (by kernel_rfl) (fun _ _ _ h => h) (by rfl) (by intro w' hw; rw [HSd.out] at hw; obtain ⟨h0, h1, h2, h3, h4, h5, h6, h7, h8, h9⟩ := hw; go_simp; try (with_reducible rfl)) hS ?_
      simp only [List.getElem_toArray, List.getElem_cons_succ, List.getElem_cons_zero, Act.put, List.setIfInBounds_toArray, List.set_cons_zero, List.set_cons_succ]
      refine s_take (fun _ => trivial) (by kernel_rfl) 8 rfl (by kernel_rfl) (by kernel_rfl) (by kernel_rfl) (by kernel_rfl) (fun _ _ _ h => h) (by rfl) (by intro w' hw; rw [HSd.out] at hw; obtain ⟨h0, h1, h2, h3, h4, h5, h6, h7, h8, h9⟩ := hw; go_simp; try (with_reducible rfl)) hS ?_
      simp only [List.getElem_toArray, List.getElem_cons_succ, List.getElem_cons_zero, Act.put, List.setIfInBounds_toArray, List.set_cons_zero, List.set_cons_succ]
      refine s_take (fun _ => trivial) (by kernel_rfl) 9 rfl (by kernel_rfl) (by kernel_rfl) (by kernel_rfl) (by kernel_rfl) (fun _ _ _ h => h) (by rfl) (by intro w' hw; rw [HSd.out] at hw; obtain ⟨h0, h1, h2, h3, h4, h5, h6, h7, h8, h9⟩ := hw; go_simp; try (with_reducible rfl)) hS ?_
      simp only [List.getElem_toArray, List.getElem_cons_succ, List.getElem_cons_zero, Act.put, List.setIfInBounds_toArray, List.set_cons_zero, List.set_cons_succ]
      refine s_take (fun _ => trivial) (by kernel_rfl) 10 rfl (by kernel_rfl) (by kernel_rfl) (by kernel_rfl) (by kernel_rfl) (fun _ _ _ h => h) (by rfl) (by intro w' hw; rw [HSd.out] at hw; obtain ⟨h0, h1, h2, h3, h4, h5, h6, h7, h8, h9⟩ := hw; go_simp; try (with_reducible rfl)) hS ?_
      simp only [List.getElem_toArray, List.getElem_cons_succ, List.getElem_cons_zero, Act.put, List.setIfInBounds_toArray, List.set_cons_zero, List.set_cons_succ]
      refine s_one 11 (by kernel_rfl) rfl (by rfl) (fun K hK => ?_)
      go_simp
      have hcs : (ecs e (bv e.id)).toArray = #[.int .i64 e.id, .int .u8 e.m.pr, .int .u32 e.m.ttl, .int .u32 e.m.cnt, .string ⟨e.m.ids.toArray⟩, .slice Ab e.m.body.length cb, .int .i64 e.tm, .bool e.held] := by unfold ecs str; rw [HBV.out]
      have hcl := rold_calls (w := wr.drew) (e := e) (bv := bv e.id) (by rw [HBV.out]; rfl) (H6.out.ok e HMEM.out).ttl (H6.out.tm e HMEM.out) now
      rw [hcs] at hcl
      refine ⟨trivial, rfl, (callsIn_wide.2 hcl).mono ?_⟩
      rintro x w2 ⟨rfl, b2⟩
      have hS1 := HSk.out _ _ hS fun b o v _ h => stays_ b2 h
      refine hK.out _ _ (fun _ => hS1) ?_
      clear hK K hS hcl hcs
      have hS := hS1
      clear hS1
      have B2 := Lib.hid (below_then HB.out HB.out.size (below_of_drew b2))
      clear b2
      refine s_take (fun _ => trivial) (by kernel_rfl) 12 rfl (by kernel_rfl) (by kernel_rfl) (by kernel_rfl) (by kernel_rfl) (fun _ _ _ h => h) (by rfl) (by intro w' hw; rw [HSd.out] at hw; obtain ⟨h0, h1, h2, h3, h4, h5, h6, h7, h8, h9⟩ := hw; go_simp; try (with_reducible rfl)) hS ?_
      simp only [List.getElem_toArray, List.getElem_cons_succ, List.getElem_cons_zero, Act.put, List.setIfInBounds_toArray, List.set_cons_zero, List.set_cons_succ]
      refine s_done (by kernel_rfl) ?_ _
      cases hO : oldE e now with
      | true =>
        go_wp2_with fail
        refine ⟨⟨k + 1, by omega, by go_num, B2.out, Lib.hid fun i hi => ?_⟩, by simp [intOf]; omega⟩
        rw [List.take_succ_eq_append_getElem HKI.out, List.mem_append, List.mem_singleton, HJ.out] at hi
        rcases hi with hi | rfl
        · exact HOLD.out i hi
        · rw [HGJ.out]; exact hO
      | false =>
        go_wp2_with fail
        obtain ⟨gl, cl, hgl, -⟩ := H2.out.form (by omega)
        simp only [Value.slice.injEq, Option.some.injEq, Addr.mk.injEq, and_true] at hgl
        obtain ⟨⟨rfl, rfl⟩, -, rfl⟩ := hgl
        have HS := Lib.hid hS
        have hS8 : S w2.drew := HSk.out _ _ hS fun b o v _ h => h
        clear hS
        have hS := hS8
        clear hS8
        refine (wpIn_wide (n := 0)).1 ?_
        refine s_region [10] S (by kernel_rfl) ?_
        refine s_take (fun _ => trivial) (by kernel_rfl) 0 rfl (by kernel_rfl) (by kernel_rfl) (by kernel_rfl) (by kernel_rfl) (fun _ _ _ h => h) (by rfl) (by intro w' hw; rw [HSd.out] at hw; obtain ⟨h0, h1, h2, h3, h4, h5, h6, h7, h8, h9⟩ := hw; go_simp; try (with_reducible rfl)) hS ?_
        simp only [List.getElem_toArray, List.getElem_cons_succ, List.getElem_cons_zero, Act.put, List.setIfInBounds_toArray, List.set_cons_zero, List.set_cons_succ]
        refine s_take (fun _ => trivial) (by kernel_rfl) 1 rfl (by kernel_rfl) (by kernel_rfl) (by kernel_rfl) (by kernel_rfl) (fun _ _ _ h => h) (by rfl) (by intro w' hw; rw [HSd.out] at hw; obtain ⟨h0, h1, h2, h3, h4, h5, h6, h7, h8, h9⟩ := hw; go_simp; try (with_reducible rfl)) hS ?_
        simp only [List.getElem_toArray, List.getElem_cons_succ, List.getElem_cons_zero, Act.put, List.setIfInBounds_toArray, List.set_cons_zero, List.set_cons_succ]
        refine s_take (fun _ => trivial) (by kernel_rfl) 2 rfl (by kernel_rfl) (by kernel_rfl) (by kernel_rfl) (by kernel_rfl) (fun _ _ _ h => h) (by rfl) (by intro w' hw; rw [HSd.out] at hw; obtain ⟨h0, h1, h2, h3, h4, h5, h6, h7, h8, h9⟩ := hw; go_simp; try (with_reducible rfl)) hS ?_
        simp only [List.getElem_toArray, List.getElem_cons_succ, List.getElem_cons_zero, Act.put, List.setIfInBounds_toArray, List.set_cons_zero, List.set_cons_succ]
        refine s_take (fun _ => trivial) (by kernel_rfl) 3 rfl (by kernel_rfl) (by kernel_rfl) (by kernel_rfl) (by kernel_rfl) (fun _ _ _ h => h) (by rfl) (by intro w' hw; rw [HSd.out] at hw; obtain ⟨h0, h1, h2, h3, h4, h5, h6, h7, h8, h9⟩ := hw; go_simp; try (with_reducible rfl)) hS ?_
        simp only [List.getElem_toArray, List.getElem_cons_succ, List.getElem_cons_zero, Act.put, List.setIfInBounds_toArray, List.set_cons_zero, List.set_cons_succ]
        refine s_take (fun _ => trivial) (by kernel_rfl) 4 rfl (by kernel_rfl) (by kernel_rfl) (by kernel_rfl) (by kernel_rfl) (fun _ _ _ h => h) (by rfl) (by intro w' hw; rw [HSd.out] at hw; obtain ⟨h0, h1, h2, h3, h4, h5, h6, h7, h8, h9⟩ := hw; go_simp; try (with_reducible rfl)) hS ?_
        simp only [List.getElem_toArray, List.getElem_cons_succ, List.getElem_cons_zero, Act.put, List.setIfInBounds_toArray, List.set_cons_zero, List.set_cons_succ]
        refine s_take (fun _ => trivial) (by kernel_rfl) 5 rfl (by kernel_rfl) (by kernel_rfl) (by kernel_rfl) (by kernel_rfl) (fun _ _ _ h => h) (by rfl) (by intro w' hw; rw [HSd.out] at hw; obtain ⟨h0, h1, h2, h3, h4, h5, h6, h7, h8, h9⟩ := hw; go_simp; try (with_reducible rfl)) hS ?_
        simp only [List.getElem_toArray, List.getElem_cons_succ, List.getElem_cons_zero, Act.put, List.setIfInBounds_toArray, List.set_cons_zero, List.set_cons_succ]
        refine s_take (fun _ => trivial) (by kernel_rfl) 6 rfl (by kernel_rfl) (by kernel_rfl) (by kernel_rfl) (by kernel_rfl) (fun _ _ _ h => h) (by rfl) (by intro w' hw; rw [HSd.out] at hw; obtain ⟨h0, h1, h2, h3, h4, h5, h6, h7, h8, h9⟩ := hw; go_simp; try (with_reducible rfl)) hS ?_
        simp only [List.getElem_toArray, List.getElem_cons_succ, List.getElem_cons_zero, Act.put, List.setIfInBounds_toArray, List.set_cons_zero, List.set_cons_succ]
        refine s_take (fun _ => trivial) (by kernel_rfl) 7 rfl (by kernel_rfl) (by kernel_rfl) (by kernel_rfl) (by kernel_rfl) (fun _ _ _ h => h) (by rfl) (by intro w' hw; rw [HSd.out] at hw; obtain ⟨h0, h1, h2, h3, h4, h5, h6, h7, h8, h9⟩ := hw; go_simp; try (with_reducible rfl)) hS ?_
        simp only [List.getElem_toArray, List.getElem_cons_succ, List.getElem_cons_zero, Act.put, List.setIfInBounds_toArray, List.set_cons_zero, List.set_cons_succ]
        refine s_one 8 (by kernel_rfl) rfl (by rfl) (fun K hK => ?_)
        go_simp
        refine hK.out _ _ (fun _ => hS) ?_
        clear hK K
        refine s_one 9 (by kernel_rfl) rfl (by rfl) (fun K hK => ?_)
        go_simp
        refine hK.out _ _ (fun _ => hS) ?_
        clear hK K
        have hv2 := H2.out.below (below_then HB1.out HB1.out.size B2.out)
        have hj7 : (eits (L.map fun e => (e, bv e.id)))[j * 8 + 7]? = some (.bool e.held) := by
          have h1 := flat_at eit 8 (L.map fun e => (e, bv e.id)) (fun x _ => eit_length x) j (by rw [List.length_map]; exact HE.out.1) 7 (by decide)
          rw [List.getElem_map, HE.out.2] at h1
          exact h1
        obtain ⟨x7, y7⟩ := hv2.cell_at (j * 8 + 7) _ hj7
        try rw [show (0 : Nat) + j * 8 + 7 = j * 8 + 7 by omega]
        have X7 : w2.drew.cell? ⟨b0, j * 8 + 7, none⟩ = some (.bool e.held) := x7
        have Y7 : w2.drew.frozen? ⟨b0, j * 8 + 7, none⟩ = false := y7
        refine s_one 10 (by kernel_rfl) rfl (by rfl) (fun K hK => ?_)
        go_simp
        refine hK.out _ _ (fun h => absurd (by simp) h) ?_
        clear hK K
        refine s_done (by kernel_rfl) ?_ _
        have hr2 := H1.out.below (below_then HB1.out HB1.out.size B2.out)
        have hrb : r ≠ b0 := fun hh => hv2.ne_bx hr2 (by decide) (by rw [hh]; rfl)
        refine forgetX (fun W => Bx W r 90 (rcs room limit last (.slice (some ⟨b0, 0, none⟩) n c)) ∧ OwnC 64 8 (fun _ => True) W 0 (.slice (some ⟨b0, 0, none⟩) n c) n (eits ((L.set j (holdE e)).map fun e => (e, bv e.id))) ∧ Tch [b0] w2 W) ⟨?_, ?_, ?_⟩ ?_
        · exact (hr2.off hrb).drew
        · have h1 := (hv2.set_cell (j * 8 + 7) (by omega) (.bool true) rfl).drew
          have hjm : j < (L.map fun e => (e, bv e.id)).length := by rw [List.length_map]; exact HE.out.1
          rw [eits_set hjm (by decide) (.bool true) (holdE e, bv e.id) (by rw [List.getElem_map, HE.out.2]; rfl)] at h1
          have h2 : (L.map fun e => (e, bv e.id)).set j (holdE e, bv e.id) = (L.set j (holdE e)).map fun e => (e, bv e.id) := by rw [List.map_set]; rfl
          rw [h2] at h1
          exact h1
        · exact ((Tch.refl _ _).setCell _ (.inl (by simp))).drew
        rintro W3 ⟨k1, k2, t3⟩
        have hjs : j < ((L.set j (holdE e)).map fun e => (e, bv e.id)).length := by rw [List.length_map, List.length_set]; exact HE.out.1
        have hcs : ∀ (t : Nat) (u : Value), (ecs (holdE e) (bv e.id))[t]? = some u → t < 8 → W3.cell? ⟨b0, j * 8 + t, none⟩ = some u := fun t u hu ht => by
          refine (k2.cell_at (j * 8 + t) u ?_).1
          have h1 := flat_at eit 8 ((L.set j (holdE e)).map fun e => (e, bv e.id)) (fun x _ => eit_length x) j hjs t ht
          rw [List.getElem_map, List.getElem_set_self] at h1
          exact h1.trans hu
        have c0 := k1.cell 2 _ rfl
        have c1 := ((HO1.out.below B2.out).cell_at k (iv j) (by rw [List.getElem?_map, List.getElem?_eq_getElem HKI.out, HJ.out]; rfl)).1
        have hgi2 := (HO1.out.lt gi rfl).1
        simp only [World.size_alloc] at hgi2
        have hgb : gi ≠ b0 := by omega
        have c1' : W3.cell? ⟨gi, k, none⟩ = some (.int .i64 j) := t3.cell c1 (by simpa using hgb)
        have c2 := hcs 0 (.int .i64 e.id) rfl (by decide)
        have c3 := hcs 1 (.int .u8 e.m.pr) rfl (by decide)
        have c4 := hcs 2 (.int .u32 e.m.ttl) rfl (by decide)
        have c5 := hcs 3 (.int .u32 e.m.cnt) rfl (by decide)
        have c6 := hcs 4 (.string ⟨e.m.ids.toArray⟩) rfl (by decide)
        have c7 := hcs 5 (.slice Ab e.m.body.length cb) (by show some (bv e.id) = _; rw [HBV.out]) (by decide)
        have c8 := hcs 6 (.int .i64 e.tm) rfl (by decide)
        have c9 := hcs 7 (.bool true) rfl (by decide)
        clear hcs c1
        have K1 := Lib.hid k1
        have K2 := Lib.hid k2
        have T3 := Lib.hid t3
        clear k1 k2 t3
        clear HSk HSd HS hS S
        obtain ⟨S, hSd⟩ : ∃ S : World → Prop, S = fun W' : World => W'.cell? ⟨r, 2, none⟩ = some (.slice (some ⟨b0, 0, none⟩) n c) ∧ W'.cell? ⟨gi, k, none⟩ = some (.int .i64 j) ∧ W'.cell? ⟨b0, j * 8, none⟩ = some (.int .i64 e.id) ∧ W'.cell? ⟨b0, j * 8 + 1, none⟩ = some (.int .u8 e.m.pr) ∧ W'.cell? ⟨b0, j * 8 + 2, none⟩ = some (.int .u32 e.m.ttl) ∧ W'.cell? ⟨b0, j * 8 + 3, none⟩ = some (.int .u32 e.m.cnt) ∧ W'.cell? ⟨b0, j * 8 + 4, none⟩ = some (.string ⟨e.m.ids.toArray⟩) ∧ W'.cell? ⟨b0, j * 8 + 5, none⟩ = some (.slice Ab e.m.body.length cb) ∧ W'.cell? ⟨b0, j * 8 + 6, none⟩ = some (.int .i64 e.tm) ∧ W'.cell? ⟨b0, j * 8 + 7, none⟩ = some (.bool true) := ⟨_, rfl⟩
        have hS : S W3.drew := by rw [hSd]; exact ⟨c0, c1', c2, c3, c4, c5, c6, c7, c8, c9⟩
        have hSk : ∀ A' W' : World, S A' → (∀ b o v, A'.cell? ⟨b, o, none⟩ = some v → W'.cell? ⟨b, o, none⟩ = some v) → S W' := fun A' W' h hk => by
          rw [hSd] at h ⊢
          obtain ⟨e0, e1, e2, e3, e4, e5, e6, e7, e8, e9⟩ := h
          exact ⟨hk _ _ _ e0, hk _ _ _ e1, hk _ _ _ e2, hk _ _ _ e3, hk _ _ _ e4, hk _ _ _ e5, hk _ _ _ e6, hk _ _ _ e7, hk _ _ _ e8, hk _ _ _ e9⟩
        have HSd := Lib.hid hSd
        have HSk := Lib.hid hSk
        clear hSd hSk c0 c1' c2 c3 c4 c5 c6 c7 c8 c9
        go_wp2_with fail
        refine (wpIn_wide (n := 0)).1 ?_
        refine s_region [11] S (by kernel_rfl) ?_
        refine s_take (fun _ => trivial) (by kernel_rfl) 0 rfl (by kernel_rfl) (by kernel_rfl) (by kernel_rfl) (by kernel_rfl) (fun _ _ _ h => h) (by rfl) (by intro w' hw; rw [HSd.out] at hw; obtain ⟨h0, h1, h2, h3, h4, h5, h6, h7, h8, h9⟩ := hw; go_simp; try (with_reducible rfl)) hS ?_
        simp only [List.getElem_toArray, List.getElem_cons_succ, List.getElem_cons_zero, Act.put, List.setIfInBounds_toArray, List.set_cons_zero, List.set_cons_succ]
        refine s_take (fun _ => trivial) (by kernel_rfl) 1 rfl (by kernel_rfl) (by kernel_rfl) (by kernel_rfl) (by kernel_rfl) (fun _ _ _ h => h) (by rfl) (by intro w' hw; rw [HSd.out] at hw; obtain ⟨h0, h1, h2, h3, h4, h5, h6, h7, h8, h9⟩ := hw; go_simp; try (with_reducible rfl)) hS ?_
        simp only [List.getElem_toArray, List.getElem_cons_succ, List.getElem_cons_zero, Act.put, List.setIfInBounds_toArray, List.set_cons_zero, List.set_cons_succ]
        refine s_take (fun _ => trivial) (by kernel_rfl) 2 rfl (by kernel_rfl) (by kernel_rfl) (by kernel_rfl) (by kernel_rfl) (fun _ _ _ h => h) (by rfl) (by intro w' hw; rw [HSd.out] at hw; obtain ⟨h0, h1, h2, h3, h4, h5, h6, h7, h8, h9⟩ := hw; go_simp; try (with_reducible rfl)) hS ?_
        simp only [List.getElem_toArray, List.getElem_cons_succ, List.getElem_cons_zero, Act.put, List.setIfInBounds_toArray, List.set_cons_zero, List.set_cons_succ]
        refine s_take (fun _ => trivial) (by kernel_rfl) 3 rfl (by kernel_rfl) (by kernel_rfl) (by kernel_rfl) (by kernel_rfl) (fun _ _ _ h => h) (by rfl) (by intro w' hw; rw [HSd.out] at hw; obtain ⟨h0, h1, h2, h3, h4, h5, h6, h7, h8, h9⟩ := hw; go_simp; try (with_reducible rfl)) hS ?_
        simp only [List.getElem_toArray, List.getElem_cons_succ, List.getElem_cons_zero, Act.put, List.setIfInBounds_toArray, List.set_cons_zero, List.set_cons_succ]
        refine s_take (fun _ => trivial) (by kernel_rfl) 4 rfl (by kernel_rfl) (by kernel_rfl) (by kernel_rfl) (by kernel_rfl) (fun _ _ _ h => h) (by rfl) (by intro w' hw; rw [HSd.out] at hw; obtain ⟨h0, h1, h2, h3, h4, h5, h6, h7, h8, h9⟩ := hw; go_simp; try (with_reducible rfl)) hS ?_
        simp only [List.getElem_toArray, List.getElem_cons_succ, List.getElem_cons_zero, Act.put, List.setIfInBounds_toArray, List.set_cons_zero, List.set_cons_succ]
        refine s_take (fun _ => trivial) (by kernel_rfl) 5 rfl (by kernel_rfl) (by kernel_rfl) (by kernel_rfl) (by kernel_rfl) (fun _ _ _ h => h) (by rfl) (by intro w' hw; rw [HSd.out] at hw; obtain ⟨h0, h1, h2, h3, h4, h5, h6, h7, h8, h9⟩ := hw; go_simp; try (with_reducible rfl)) hS ?_
        simp only [List.getElem_toArray, List.getElem_cons_succ, List.getElem_cons_zero, Act.put, List.setIfInBounds_toArray, List.set_cons_zero, List.set_cons_succ]
        refine s_take (fun _ => trivial) (by kernel_rfl) 6 rfl (by kernel_rfl) (by kernel_rfl) (by kernel_rfl) (by kernel_rfl) (fun _ _ _ h => h) (by rfl) (by intro w' hw; rw [HSd.out] at hw; obtain ⟨h0, h1, h2, h3, h4, h5, h6, h7, h8, h9⟩ := hw; go_simp; try (with_reducible rfl)) hS ?_
        simp only [List.getElem_toArray, List.getElem_cons_succ, List.getElem_cons_zero, Act.put, List.setIfInBounds_toArray, List.set_cons_zero, List.set_cons_succ]
        refine s_take (fun _ => trivial) (by kernel_rfl) 7 rfl (by kernel_rfl) (by kernel_rfl) (by kernel_rfl) (by kernel_rfl) (fun _ _ _ h => h) (by rfl) (by intro w' hw; rw [HSd.out] at hw; obtain ⟨h0, h1, h2, h3, h4, h5, h6, h7, h8, h9⟩ := hw; go_simp; try (with_reducible rfl)) hS ?_
        simp only [List.getElem_toArray, List.getElem_cons_succ, List.getElem_cons_zero, Act.put, List.setIfInBounds_toArray, List.set_cons_zero, List.set_cons_succ]
        refine s_take (fun _ => trivial) (by kernel_rfl) 8 rfl (by kernel_rfl) (by kernel_rfl) (by kernel_rfl) (by kernel_rfl) (fun _ _ _ h => h) (by rfl) (by intro w' hw; rw [HSd.out] at hw; obtain ⟨h0, h1, h2, h3, h4, h5, h6, h7, h8, h9⟩ := hw; go_simp; try (with_reducible rfl)) hS ?_
        simp only [List.getElem_toArray, List.getElem_cons_succ, List.getElem_cons_zero, Act.put, List.setIfInBounds_toArray, List.set_cons_zero, List.set_cons_succ]
        refine s_take (fun _ => trivial) (by kernel_rfl) 9 rfl (by kernel_rfl) (by kernel_rfl) (by kernel_rfl) (by kernel_rfl) (fun _ _ _ h => h) (by rfl) (by intro w' hw; rw [HSd.out] at hw; obtain ⟨h0, h1, h2, h3, h4, h5, h6, h7, h8, h9⟩ := hw; go_simp; try (with_reducible rfl)) hS ?_
        simp only [List.getElem_toArray, List.getElem_cons_succ, List.getElem_cons_zero, Act.put, List.setIfInBounds_toArray, List.set_cons_zero, List.set_cons_succ]
        refine s_one 10 (by kernel_rfl) rfl (by rfl) (fun K hK => ?_)
        go_simp
        refine hK.out _ _ (fun _ => HSk.out _ _ hS fun b o v h => keeps_alloc h _) ?_
        clear hK K hS
        refine s_one 11 (by kernel_rfl) rfl (by rfl) (fun K hK => ?_)
        go_simp
        refine hK.out _ _ (fun h => absurd (by simp) h) ?_
        clear hK K
        refine s_done (by kernel_rfl) ?_ _
        obtain ⟨gx, hgx⟩ : ∃ gx, W3.heap.size = gx := ⟨_, rfl⟩
        have hw3 : w.heap.size < gx := by
          have h1 := (HO1.out.lt gi rfl)
          simp only [World.size_alloc] at h1
          have h2 := B2.out.size
          have h3 := T3.out.size
          omega
        rw [hgx]
        refine forgetX (fun W => Bx W gx 64 [.int .i64 e.id, .int .u8 e.m.pr, .int .u32 e.m.ttl, .int .u32 e.m.cnt, .string ⟨e.m.ids.toArray⟩, .slice Ab e.m.body.length cb, .int .i64 e.tm, .bool true] ∧ Below W3.heap.size W3 W) ⟨?_, ?_⟩ ?_
        · exact (Bx.new' W3 64 _ hgx.symm).drew
        · exact (below_alloc W3 _).trans ((below_drew _).mono (by simp))
        rintro W4 ⟨k5, b4⟩
        have T4 : Tch [b0] w W4 := ((Tch.of_below [b0] (below_then HB1.out HB1.out.size B2.out)).trans_ T3.out).trans (Tch.of_below [] b4) (by simp)
        have hb0Z : b0 ∈ Z ∧ ∃ o, w.heap[b0]? = some o ∧ ∀ (cs : Array Value) (fr : Nat × Nat), o ≠ Obj.cells cs 5 fr := by
          refine ⟨H3.out b0 rfl, ?_⟩
          rcases H2.out.2.2 with ⟨e, _⟩ | ⟨g', cap, sp, e, _, hh, _⟩
          · simp at e
          · simp only [Value.slice.injEq, Option.some.injEq, Addr.mk.injEq, and_true] at e
            obtain ⟨rfl, -, rfl⟩ := e
            exact ⟨_, hh, by simp⟩
        have hbd4 : Bdv W4 (bv e.id) e.m.body := (H4.out e HMEM.out).1.tch T4 fun k hk => by
          simp only [List.mem_singleton] at hk
          subst hk
          exact hb0Z.2
        have hr4 : Rd W4 Ab cb e.m.body := by
          obtain ⟨A', c', hA, hr, -⟩ := hbd4
          rw [HBV.out] at hA
          simp only [Value.slice.injEq] at hA
          obtain ⟨rfl, -, rfl⟩ := hA
          exact hr
        have m1 := k5.cell 1 _ rfl
        have m2 := k5.cell 2 _ rfl
        have m3 := k5.cell 3 _ rfl
        have m4 := k5.cell 4 _ rfl
        have m5 := k5.cell 5 _ rfl
        have hcl := rcopy_calls (w := W4) e.m Ab cb e.m.body.length rfl hr4 (by have := (H6.out.ok e HMEM.out).body; omega)
        rw [mgv_eq] at hcl
        have HCL := Lib.hid hcl
        have K5 := Lib.hid k5
        have B4 := Lib.hid b4
        have HT4 := Lib.hid T4
        have HZB := Lib.hid hb0Z
        have HW3 := Lib.hid hgx
        clear k5 b4 T4 hb0Z hbd4 hr4 hcl hgx
        go_wp2_with fail
        refine HCL.out.mono ?_
        rintro x w5 ⟨v2, rfl, o5, b5⟩
        obtain ⟨A2, c2, rfl, -⟩ := o5.rd
        rw [mgv_eq]
        have k6 := K5.out.below b5
        have k7 := (((HG.out.below B2.out).tch T3.out (by simp; omega)).below B4.out).below b5
        have K6 := Lib.hid k6
        have K7 := Lib.hid k7
        have B5 := Lib.hid b5
        have O5 := Lib.hid o5
        have q0 := k6.cell 0 _ rfl
        have q1 := k6.cell 1 _ rfl
        have q2 := k6.cell 2 _ rfl
        have q3 := k6.cell 3 _ rfl
        have q4 := k6.cell 4 _ rfl
        have q5 := k6.cell 5 _ rfl
        have q6 := k6.cell 6 _ rfl
        have q7 := k6.cell 7 _ rfl
        have f1 := k6.froz 1
        have f2 := k6.froz 2
        have f3 := k6.froz 3
        have f4 := k6.froz 4
        have f5 := k6.froz 5
        have g0 := k7.cell 0 _ rfl
        have g1 := k7.cell 1 _ rfl
        have g2 := k7.cell 2 _ rfl
        have g3 := k7.cell 3 _ rfl
        have g4 := k7.cell 4 _ rfl
        have g5 := k7.cell 5 _ rfl
        have g6 := k7.cell 6 _ rfl
        have g7 := k7.cell 7 _ rfl
        have e0 := k7.froz 0
        have e1 := k7.froz 1
        have e2 := k7.froz 2
        have e3 := k7.froz 3
        have e4 := k7.froz 4
        have e5 := k7.froz 5
        have e6 := k7.froz 6
        have e7 := k7.froz 7
        have hne : gx ≠ w.heap.size := by omega
        have hne' : w.heap.size ≠ gx := by omega
        clear k6 k7 b5 o5 m1 m2 m3 m4 m5
        go_wp2_with fail
        refine forgetX (fun W => Bx W w.heap.size 64 (ecs (holdE e) (.slice A2 e.m.body.length c2)) ∧ Tch [gx, w.heap.size] w5 W) ⟨?_, ?_⟩ ?_
        · with_reducible refine Bx.to (((((((((((((K7.out.off hne').off hne').off hne').off hne').off hne').set 0 _).set 1 _).set 2 _).set 3 _).set 4 _).set 5 _).set 6 _).set 7 _) ?_
          rfl
        · with_reducible repeat first | exact Tch.refl _ _ | refine Tch.setCell ?_ _ (.inl (by simp))
        rintro W ⟨kb, tb⟩
        refine bodyPost_ret (results_ct rfl rfl rfl (kb.loadAgg (by kernel_rfl) (by kernel_rfl))) rfl (.inr ⟨e, .slice A2 e.m.body.length c2, ?_, rfl, ?_, [], by simp, ?_, ?_⟩)
        · have hI := HI.out
          subst hI
          have h1 := acq_at HKI.out HOLD.out (by rw [HJ.out, HGJ.out]; exact hO)
          rw [HJ.out, HGJ.out] at h1
          exact h1
        · have h1 := K5.out.lt
          exact OwnC.base (OwnC.tch O5.out tb fun q hq hm => by have := (O5.out.lt q hq).1; simp at hm; omega) (by omega)
        · have t1 : Tch [gx, w.heap.size] W3 W := ((Tch.of_below [gx, w.heap.size] B4.out).trans_ (Tch.of_below _ B5.out)).trans_ tb
          have tW : Tch [b0] w W := (HT4.out.trans_ (Tch.of_below _ B5.out)).trans tb (by intro q hq; simp at hq; omega)
          rw [modL_set HE.out.1 (holdE e) (by rw [HE.out.2]; rfl) H6.out.sorted]
          refine ⟨⟨.slice (some ⟨b0, 0, none⟩) n c, bv, K1.out.tch t1 (by simp; omega), ?_, H3.out, fun x hx => ?_⟩, H5.out, ?_⟩
          · rw [List.length_set, HN.out]
            refine K2.out.tch t1 fun q hq hm => ?_
            simp only [Value.ownBlock, Option.some.injEq] at hq
            subst hq
            simp at hm
            omega
          · have hb : ∃ y ∈ L, y.id = x.id ∧ y.m.body = x.m.body := by
              rcases List.mem_or_eq_of_mem_set hx with h | rfl
              · exact ⟨x, h, rfl, rfl⟩
              · exact ⟨e, HMEM.out, rfl, rfl⟩
            obtain ⟨y, hy, h1, h2⟩ := hb
            rw [← h1, ← h2]
            exact ⟨(H4.out y hy).1.tch tW fun k hk => (by simp only [List.mem_singleton] at hk; subst hk; exact HZB.out.2), (H4.out y hy).2⟩
          · rw [← modL_set HE.out.1 (holdE e) (by rw [HE.out.2]; rfl) H6.out.sorted]
            exact H6.out.mod HMEM.out rfl (H6.out.ok e HMEM.out) (H6.out.tm e HMEM.out)
        · have tW : Tch [b0] w W := (HT4.out.trans_ (Tch.of_below _ B5.out)).trans tb (by intro q hq; simp at hq; omega)
          exact ⟨[b0], tW, fun q hq => by simp only [List.mem_singleton] at hq; subst hq; exact HZB.out⟩
    · obtain rfl : k = m := by omega
      have k7 := HG.out.below HB.out
      have g0 := k7.cell 0 _ rfl
      have g1 := k7.cell 1 _ rfl
      have g2 := k7.cell 2 _ rfl
      have g3 := k7.cell 3 _ rfl
      have g4 := k7.cell 4 _ rfl
      have g5 := k7.cell 5 _ rfl
      have g6 := k7.cell 6 _ rfl
      have g7 := k7.cell 7 _ rfl
      have e0 := k7.froz 0
      have e1 := k7.froz 1
      have e2 := k7.froz 2
      have e3 := k7.froz 3
      have e4 := k7.froz 4
      have e5 := k7.froz 5
      have e6 := k7.froz 6
      have e7 := k7.froz 7
      have K7 := Lib.hid k7
      clear k7
      go_wp2_with fail
      refine forgetX (fun W => Bx W w.heap.size 64 (ecs zEn (.slice none 0 0)) ∧ Tch [w.heap.size] wr W) ⟨?_, ?_⟩ ?_
      · with_reducible refine Bx.to ((((((((K7.out.set 0 _).set 1 _).set 2 _).set 3 _).set 4 _).set 5 _).set 6 _).set 7 _) ?_
        rfl
      · with_reducible repeat first | exact Tch.refl _ _ | refine Tch.setCell ?_ _ (.inl (by simp))
      rintro W ⟨kb, tb⟩
      refine bodyPost_ret (results_ct rfl rfl rfl (kb.loadAgg (by kernel_rfl) (by kernel_rfl))) rfl (.inl ⟨?_, rfl, ?_⟩)
      · have h1 := HOLD.out
        rw [← HM.out, List.take_length] at h1
        have hI := HI.out
        subst hI
        exact acq_no h1
      · exact Tch.below0 (((Tch.of_below [] HBB.out)).trans tb (by simp))
end Go.Proofs.Ytkoihcfdchcgdaa

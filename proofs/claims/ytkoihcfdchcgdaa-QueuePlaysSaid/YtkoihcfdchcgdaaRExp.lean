import Derived.Test.YtkoihcfdchcgdaaRSet
set_option linter.unusedVariables false
set_option linter.unusedSimpArgs false
namespace Go.Proofs.Ytkoihcfdchcgdaa
open Go.RowKit Go.Shelf

theorem own_ne {e e' : TypeId} {sz sz' : Nat} {okc okc' : Value → Prop} {w : World} {base base' : Nat} {v v' : Value} {n n' : Nat} {cs cs' : List Value} (h : OwnC e sz okc w base v n cs) (h' : OwnC e' sz' okc' w base' v' n' cs') (hne : e ≠ e') {k : Nat} (hk : v.ownBlock = some k) : some k ≠ v'.ownBlock := by
  intro hk'
  rcases h.2.2 with ⟨e1, _⟩ | ⟨g, cap, sp, e1, _, hh, _⟩
  · rw [e1] at hk; simp [Value.ownBlock] at hk
  · rcases h'.2.2 with ⟨e2, _⟩ | ⟨g2, cap2, sp2, e2, _, hh2, _⟩
    · rw [e2] at hk'; simp [Value.ownBlock] at hk'
    · rw [e1] at hk
      rw [e2] at hk'
      simp only [Value.ownBlock, Option.some.injEq] at hk hk'
      rw [hk, hk', hh2] at hh
      simp only [Option.some.injEq, Obj.cells.injEq] at hh
      exact hne hh.2.1.symm
theorem less_snoc (D : List Nat) (a : Nat) (L : List En) : less [a] (less D L) = less (D ++ [a]) L := by
  rw [less_less]
  exact less_congr (fun d => by simp [or_comm]) L
/-- Those of the first k places that are old. -/
def oldD (L : List En) (now : Int) (k : Nat) : List En := (((idxs L).take k).map fun i => L.getD i zEn).filter fun e => oldE e now
theorem oldD_len (L : List En) (now : Int) (k : Nat) : (oldD L now k).length ≤ k := by
  unfold oldD
  refine Nat.le_trans (List.length_filter_le _ _) ?_
  rw [List.length_map, List.length_take]
  omega
theorem oldD_all (L : List En) (now : Int) : oldD L now (idxs L).length = expL L now := by
  unfold oldD expL
  rw [List.take_length, idx_map]
theorem oldD_succ {L : List En} {now : Int} {k j : Nat} {e : En} (hk : k < (idxs L).length) (hj : (idxs L)[k] = j) (he : L.getD j zEn = e) : oldD L now (k + 1) = oldD L now k ++ if oldE e now then [e] else [] := by
  unfold oldD
  rw [List.take_succ_eq_append_getElem hk, List.map_append, List.filter_append, hj]
  congr 1
  simp only [List.map_cons, List.map_nil, he, List.filter_cons, List.filter_nil]

set_option maxRecDepth 100000 in
set_option maxHeartbeats 4000000 in
theorem rexp_calls {w : World} {Z : List Nat} {r room limit last : Nat} {L : List En} (h : Rq w Z r room limit last L) (hz : ∀ k ∈ Z, k < w.heap.size) (now : Int) :
    Calls Try.prog 35 #[.pointer (some ⟨r, 0, none⟩), .int .i64 now] w fun x w' =>
      ∃ (v : Value) (ms : List (Mg × Value)), x = .returned v ∧ ms.map (·.1) = (expL L now).map (·.m) ∧ OwnC 32 5 (fun _ => True) w' w.heap.size v ms.length (mgL ms) ∧ (∀ x ∈ ms, Bdv w' x.2 x.1.body) ∧ ∃ N, (∀ k ∈ N, w.heap.size ≤ k ∧ k < w'.heap.size) ∧ Rq w' (N ++ Z) r room limit last (expQ L now) ∧ RStep Z w w' := by
  have HQ := Lib.hid h
  have HZ := Lib.hid hz
  have HW := Lib.hid (rwait h)
  obtain ⟨⟨lv, bv, h1, h2, h3, h4⟩, h5, h6⟩ := h
  obtain ⟨A, c, rfl, hr⟩ := h2.rd
  obtain ⟨n, hn⟩ : ∃ n, L.length = n := ⟨_, rfl⟩
  rw [hn] at h1 hr
  have hn64 : n ≤ 64 := by have := h6.len; have := h6.room2; omega
  obtain ⟨I, hI⟩ : ∃ I, idxs L = I := ⟨_, rfl⟩
  rw [hI] at HW
  have hIlt : ∀ i ∈ I, i < n := fun i hi => by rw [← hI] at hi; rw [← hn]; exact idx_lt hi
  have hIlen : I.length ≤ 64 := by rw [← hI, idx_len]; exact ord_len h6
  obtain ⟨m, hm⟩ : ∃ m, I.length = m := ⟨_, rfl⟩
  rw [hm] at HW hIlen
  have H1 := Lib.hid h1
  rw [hn] at h2
  have H2 := Lib.hid h2
  have HR := Lib.hid hr
  have HN := Lib.hid hn
  have HM := Lib.hid hm
  have HI := Lib.hid hI
  have HIL := Lib.hid hIlt
  have H3 := Lib.hid h3
  have H5 := Lib.hid h5
  have H4 := Lib.hid h4
  have H6 := Lib.hid h6
  have hlc := hr.2.1
  have hmx := hr.2.2.1
  clear h1 h2 h3 h4 h5 h6 hr hn hI hIlt hm hz
  go_enter Try.func35, Try.ntmps35
  go_wp2_with fail
  refine HW.out.mono ?_
  rintro e w1 ⟨v, rfl, o1, b1⟩
  obtain ⟨A1, c1, rfl, -⟩ := o1.rd
  have HO1 := Lib.hid o1
  have HB1 := Lib.hid b1
  clear o1 b1
  go_wp2_with fail
  go_loopw [5, 7, 8] (fun dv qv i wr => ∃ (k dl : Nat), k ≤ m ∧ dl ≤ 64 ∧ i = .int .i64 k ∧ Hid ((oldD L now k).length = dl) ∧ Hid (OwnC 32 5 (fun _ => True) wr w1.heap.size dv dl (mgL ((oldD L now k).map fun e => (e.m, bv e.id)))) ∧ Hid (OwnC 3 1 (fun _ => True) wr w1.heap.size qv dl ((oldD L now k).map fun e => iv e.id)) ∧ Below w1.heap.size w1 wr) (fun _ _ i _ => m - (intOf i).toNat)
  case atStart => exact ⟨0, 0, by omega, by omega, rfl, Lib.hid rfl, Lib.hid OwnC.nil_, Lib.hid OwnC.nil_, Below.refl _ _⟩
  case round =>
    obtain ⟨k, dl, hk, hdl64, rfl, HDL, HD, HQV, hb⟩ := hrel
    have HB := Lib.hid hb
    have HBB := Lib.hid (below_then HB1.out HB1.out.size hb)
    have hww : w1.heap.size ≤ wr.heap.size := hb.size
    have hdlk : dl ≤ k := by rw [← HDL.out]; exact oldD_len L now k
    clear hb
    by_cases hkm : k < m
    · have hkm' : (k : Int) < m := by omega
      obtain ⟨gi, ci, hgi, -⟩ := HO1.out.form (by omega)
      simp only [Value.slice.injEq] at hgi
      obtain ⟨rfl, -, rfl⟩ := hgi
      have hkI : k < I.length := by rw [HM.out]; exact hkm
      obtain ⟨j, hj⟩ : ∃ j, I[k] = j := ⟨_, rfl⟩
      have hjn : j < n := HIL.out j (by rw [← hj]; exact List.getElem_mem _)
      have d1 : wr.cell? ⟨gi, k, none⟩ = some (.int .i64 j) := ((HO1.out.below HB.out).cell_at k (iv j) (by rw [List.getElem?_map, List.getElem?_eq_getElem hkI, hj]; rfl)).1
      have d0 : wr.cell? ⟨r, 2, none⟩ = some (.slice A n c) := (H1.out.below HBB.out).cell 2 _ rfl
      have hjL : j < L.length := by rw [HN.out]; exact hjn
      obtain ⟨b0, o0, hA, hcw⟩ := flat_cells eit 8 (by decide) eit_length HR.out j (by rw [List.length_map]; exact hjL)
      subst hA
      rw [List.getElem_map] at hcw
      have hb0 : b0 < w.heap.size := World.block_lt_of_cell? _ _ (hcw 0 _ rfl)
      have hcell := fun j u hj => stays HBB.out (hcw j u hj) hb0
      clear hcw
      obtain ⟨e, he⟩ : ∃ e, L[j] = e := ⟨_, rfl⟩
      rw [he] at hcell
      have hmem : e ∈ L := by rw [← he]; exact List.getElem_mem _
      obtain ⟨Ab, cb, hbv, -⟩ := (H4.out e hmem).1
      have hgj : L.getD j zEn = e := by rw [List.getD_eq_getElem?_getD, List.getElem?_eq_getElem hjL, he]; rfl
      have HGJ := Lib.hid hgj
      have HJ := Lib.hid hj
      have HKI := Lib.hid hkI
      have HMEM := Lib.hid hmem
      have HE := Lib.hid (And.intro hjL he)
      have HBV := Lib.hid hbv
      have d2 := hcell 0 (.int .i64 e.id) rfl
      have d3 := hcell 1 (.int .u8 e.m.pr) rfl
      have d4 := hcell 2 (.int .u32 e.m.ttl) rfl
      have d5 := hcell 3 (.int .u32 e.m.cnt) rfl
      have d6 := hcell 4 (.string ⟨e.m.ids.toArray⟩) rfl
      have d7 := hcell 5 (.slice Ab e.m.body.length cb) (by show some (bv e.id) = _; rw [hbv])
      have d8 := hcell 6 (.int .i64 e.tm) rfl
      have d9 := hcell 7 (.bool e.held) rfl
      simp only [← Nat.add_assoc, Nat.add_zero] at d2 d3 d4 d5 d6 d7 d8 d9
      clear hcell hbv hmem hgj
      go_wp2_with fail
      obtain ⟨S, hSd⟩ : ∃ S : World → Prop, S = fun W' : World => W'.cell? ⟨r, 2, none⟩ = some (.slice (some ⟨b0, o0, none⟩) n c) ∧ W'.cell? ⟨gi, k, none⟩ = some (.int .i64 j) ∧ W'.cell? ⟨b0, o0 + j * 8, none⟩ = some (.int .i64 e.id) ∧ W'.cell? ⟨b0, o0 + j * 8 + 1, none⟩ = some (.int .u8 e.m.pr) ∧ W'.cell? ⟨b0, o0 + j * 8 + 2, none⟩ = some (.int .u32 e.m.ttl) ∧ W'.cell? ⟨b0, o0 + j * 8 + 3, none⟩ = some (.int .u32 e.m.cnt) ∧ W'.cell? ⟨b0, o0 + j * 8 + 4, none⟩ = some (.string ⟨e.m.ids.toArray⟩) ∧ W'.cell? ⟨b0, o0 + j * 8 + 5, none⟩ = some (.slice Ab e.m.body.length cb) ∧ W'.cell? ⟨b0, o0 + j * 8 + 6, none⟩ = some (.int .i64 e.tm) ∧ W'.cell? ⟨b0, o0 + j * 8 + 7, none⟩ = some (.bool e.held) := ⟨_, rfl⟩
      have hSk : ∀ A' W' : World, S A' → (∀ b o v, b = r ∨ b = gi ∨ b = b0 → A'.cell? ⟨b, o, none⟩ = some v → W'.cell? ⟨b, o, none⟩ = some v) → S W' := fun A' W' h hk => by
        rw [hSd] at h ⊢
        obtain ⟨e0, e1, e2, e3, e4, e5, e6, e7, e8, e9⟩ := h
        exact ⟨hk _ _ _ (.inl rfl) e0, hk _ _ _ (.inr (.inl rfl)) e1, hk _ _ _ (.inr (.inr rfl)) e2, hk _ _ _ (.inr (.inr rfl)) e3, hk _ _ _ (.inr (.inr rfl)) e4, hk _ _ _ (.inr (.inr rfl)) e5, hk _ _ _ (.inr (.inr rfl)) e6, hk _ _ _ (.inr (.inr rfl)) e7, hk _ _ _ (.inr (.inr rfl)) e8, hk _ _ _ (.inr (.inr rfl)) e9⟩
      have hS : S wr.drew := by rw [hSd]; exact ⟨d0, d1, d2, d3, d4, d5, d6, d7, d8, d9⟩
      have HSd := Lib.hid hSd
      have HSk := Lib.hid hSk
      have hgi : gi < w1.heap.size := (HO1.out.lt gi rfl).2
      have hw1 : w.heap.size ≤ w1.heap.size := HB1.out.size
      have hrl : r < w.heap.size := H1.out.lt
      clear hSd hSk d0 d1 d2 d3 d4 d5 d6 d7 d8 d9
      have HDS := Lib.hid (show oldD L now (k + 1) = oldD L now k ++ if oldE e now then [e] else [] by
        have hI := HI.out
        subst hI
        exact oldD_succ HKI.out HJ.out HGJ.out)
      refine (wpIn_wide (n := 0)).1 ?_
      refine s_region [] S (by kernel_rfl) ?_
      refine s_tk 0 rfl (by kernel_rfl) (by rfl) (by intro w' hw; rw [HSd.out] at hw; obtain ⟨h0, h1, h2, h3, h4, h5, h6, h7, h8, h9⟩ := hw; go_simp; try (with_reducible rfl)) hS ?_
      simp only [List.getElem_toArray, List.getElem_cons_succ, List.getElem_cons_zero, Act.put, List.setIfInBounds_toArray, List.set_cons_zero, List.set_cons_succ]
      refine s_tk 1 rfl (by kernel_rfl) (by rfl) (by intro w' hw; rw [HSd.out] at hw; obtain ⟨h0, h1, h2, h3, h4, h5, h6, h7, h8, h9⟩ := hw; go_simp; try (with_reducible rfl)) hS ?_
      simp only [List.getElem_toArray, List.getElem_cons_succ, List.getElem_cons_zero, Act.put, List.setIfInBounds_toArray, List.set_cons_zero, List.set_cons_succ]
      refine s_tk 2 rfl (by kernel_rfl) (by rfl) (by intro w' hw; rw [HSd.out] at hw; obtain ⟨h0, h1, h2, h3, h4, h5, h6, h7, h8, h9⟩ := hw; go_simp; try (with_reducible rfl)) hS ?_
      simp only [List.getElem_toArray, List.getElem_cons_succ, List.getElem_cons_zero, Act.put, List.setIfInBounds_toArray, List.set_cons_zero, List.set_cons_succ]
      refine s_tk 3 rfl (by kernel_rfl) (by rfl) (by intro w' hw; rw [HSd.out] at hw; obtain ⟨h0, h1, h2, h3, h4, h5, h6, h7, h8, h9⟩ := hw; go_simp; try (with_reducible rfl)) hS ?_
      simp only [List.getElem_toArray, List.getElem_cons_succ, List.getElem_cons_zero, Act.put, List.setIfInBounds_toArray, List.set_cons_zero, List.set_cons_succ]
      refine s_tk 4 rfl (by kernel_rfl) (by rfl) (by intro w' hw; rw [HSd.out] at hw; obtain ⟨h0, h1, h2, h3, h4, h5, h6, h7, h8, h9⟩ := hw; go_simp; try (with_reducible rfl)) hS ?_
      simp only [List.getElem_toArray, List.getElem_cons_succ, List.getElem_cons_zero, Act.put, List.setIfInBounds_toArray, List.set_cons_zero, List.set_cons_succ]
      refine s_tk 5 rfl (by kernel_rfl) (by rfl) (by intro w' hw; rw [HSd.out] at hw; obtain ⟨h0, h1, h2, h3, h4, h5, h6, h7, h8, h9⟩ := hw; go_simp; try (with_reducible rfl)) hS ?_
      simp only [List.getElem_toArray, List.getElem_cons_succ, List.getElem_cons_zero, Act.put, List.setIfInBounds_toArray, List.set_cons_zero, List.set_cons_succ]
      refine s_tk 6 rfl (by kernel_rfl) (by rfl) (by intro w' hw; rw [HSd.out] at hw; obtain ⟨h0, h1, h2, h3, h4, h5, h6, h7, h8, h9⟩ := hw; go_simp; try (with_reducible rfl)) hS ?_
      simp only [List.getElem_toArray, List.getElem_cons_succ, List.getElem_cons_zero, Act.put, List.setIfInBounds_toArray, List.set_cons_zero, List.set_cons_succ]
      refine s_tk 7 rfl (by kernel_rfl) (by rfl) (by intro w' hw; rw [HSd.out] at hw; obtain ⟨h0, h1, h2, h3, h4, h5, h6, h7, h8, h9⟩ := hw; go_simp; try (with_reducible rfl)) hS ?_
      simp only [List.getElem_toArray, List.getElem_cons_succ, List.getElem_cons_zero, Act.put, List.setIfInBounds_toArray, List.set_cons_zero, List.set_cons_succ]
      refine s_tk 8 rfl (by kernel_rfl) (by rfl) (by intro w' hw; rw [HSd.out] at hw; obtain ⟨h0, h1, h2, h3, h4, h5, h6, h7, h8, h9⟩ := hw; go_simp; try (with_reducible rfl)) hS ?_
      simp only [List.getElem_toArray, List.getElem_cons_succ, List.getElem_cons_zero, Act.put, List.setIfInBounds_toArray, List.set_cons_zero, List.set_cons_succ]
      refine s_tk 9 rfl (by kernel_rfl) (by rfl) (by intro w' hw; rw [HSd.out] at hw; obtain ⟨h0, h1, h2, h3, h4, h5, h6, h7, h8, h9⟩ := hw; go_simp; try (with_reducible rfl)) hS ?_
      simp only [List.getElem_toArray, List.getElem_cons_succ, List.getElem_cons_zero, Act.put, List.setIfInBounds_toArray, List.set_cons_zero, List.set_cons_succ]
      refine s_tk 10 rfl (by kernel_rfl) (by rfl) (by intro w' hw; rw [HSd.out] at hw; obtain ⟨h0, h1, h2, h3, h4, h5, h6, h7, h8, h9⟩ := hw; go_simp; try (with_reducible rfl)) hS ?_
      simp only [List.getElem_toArray, List.getElem_cons_succ, List.getElem_cons_zero, Act.put, List.setIfInBounds_toArray, List.set_cons_zero, List.set_cons_succ]
      refine s_one 11 (by kernel_rfl) rfl (by rfl) (fun K hK => ?_)
      go_simp
      have hcs : (ecs e (bv e.id)).toArray = #[.int .i64 e.id, .int .u8 e.m.pr, .int .u32 e.m.ttl, .int .u32 e.m.cnt, .string ⟨e.m.ids.toArray⟩, .slice Ab e.m.body.length cb, .int .i64 e.tm, .bool e.held] := by unfold ecs str; rw [HBV.out]
      have hcl := rold_calls (w := wr.drew) (e := e) (bv := bv e.id) (by rw [HBV.out]; rfl) (H6.out.ok e HMEM.out).ttl (H6.out.tm e HMEM.out) now
      rw [hcs] at hcl
      refine ⟨trivial, rfl, (callsIn_wide.2 hcl).mono ?_⟩
      rintro x w2 ⟨rfl, b2⟩
      have hS1 := HSk.out _ _ hS fun b o v _ h => stays_ b2 h
      refine hK.out _ _ (fun _ => hS1) ?_
      clear hK K hS hcl hcs
      have B2 := Lib.hid (below_of_drew b2)
      have hw2 : wr.heap.size ≤ w2.heap.size := b2.size
      clear b2
      refine s_done (by kernel_rfl) ?_ _
      have HD2 := Lib.hid (HD.out.below B2.out)
      have HQ2 := Lib.hid (HQV.out.below B2.out)
      have HB2 := Lib.hid (below_then HB.out HB.out.size B2.out)
      clear HD HQV B2
      cases hO : oldE e now with
      | false =>
        rw [hO] at HDS
        go_wp2_with fail
        exact ⟨⟨k + 1, dl, by omega, by omega, by go_num, Lib.hid (by rw [HDS.out]; simpa using HDL.out), Lib.hid (by rw [HDS.out]; simpa using HD2.out), Lib.hid (by rw [HDS.out]; simpa using HQ2.out), HB2.out⟩, by simp [intOf]; omega⟩
      | true =>
        rw [hO] at HDS
        have hdl2 : dl < 64 := by omega
        have HS1 := Lib.hid hS1
        clear hS1
        go_wp2_with fail
        have hS : S w2.drew := HSk.out _ _ HS1.out fun b o v _ h => h
        clear HS1
        refine (wpIn_wide (n := 0)).1 ?_
        refine s_region [] S (by kernel_rfl) ?_
        refine s_tk 0 rfl (by kernel_rfl) (by rfl) (by intro w' hw; rw [HSd.out] at hw; obtain ⟨h0, h1, h2, h3, h4, h5, h6, h7, h8, h9⟩ := hw; go_simp; try (with_reducible rfl)) hS ?_
        simp only [List.getElem_toArray, List.getElem_cons_succ, List.getElem_cons_zero, Act.put, List.setIfInBounds_toArray, List.set_cons_zero, List.set_cons_succ]
        refine s_tk 1 rfl (by kernel_rfl) (by rfl) (by intro w' hw; rw [HSd.out] at hw; obtain ⟨h0, h1, h2, h3, h4, h5, h6, h7, h8, h9⟩ := hw; go_simp; try (with_reducible rfl)) hS ?_
        simp only [List.getElem_toArray, List.getElem_cons_succ, List.getElem_cons_zero, Act.put, List.setIfInBounds_toArray, List.set_cons_zero, List.set_cons_succ]
        refine s_tk 2 rfl (by kernel_rfl) (by rfl) (by intro w' hw; rw [HSd.out] at hw; obtain ⟨h0, h1, h2, h3, h4, h5, h6, h7, h8, h9⟩ := hw; go_simp; try (with_reducible rfl)) hS ?_
        simp only [List.getElem_toArray, List.getElem_cons_succ, List.getElem_cons_zero, Act.put, List.setIfInBounds_toArray, List.set_cons_zero, List.set_cons_succ]
        refine s_tk 3 rfl (by kernel_rfl) (by rfl) (by intro w' hw; rw [HSd.out] at hw; obtain ⟨h0, h1, h2, h3, h4, h5, h6, h7, h8, h9⟩ := hw; go_simp; try (with_reducible rfl)) hS ?_
        simp only [List.getElem_toArray, List.getElem_cons_succ, List.getElem_cons_zero, Act.put, List.setIfInBounds_toArray, List.set_cons_zero, List.set_cons_succ]
        refine s_tk 4 rfl (by kernel_rfl) (by rfl) (by intro w' hw; rw [HSd.out] at hw; obtain ⟨h0, h1, h2, h3, h4, h5, h6, h7, h8, h9⟩ := hw; go_simp; try (with_reducible rfl)) hS ?_
        simp only [List.getElem_toArray, List.getElem_cons_succ, List.getElem_cons_zero, Act.put, List.setIfInBounds_toArray, List.set_cons_zero, List.set_cons_succ]
        refine s_tk 5 rfl (by kernel_rfl) (by rfl) (by intro w' hw; rw [HSd.out] at hw; obtain ⟨h0, h1, h2, h3, h4, h5, h6, h7, h8, h9⟩ := hw; go_simp; try (with_reducible rfl)) hS ?_
        simp only [List.getElem_toArray, List.getElem_cons_succ, List.getElem_cons_zero, Act.put, List.setIfInBounds_toArray, List.set_cons_zero, List.set_cons_succ]
        refine s_tk 6 rfl (by kernel_rfl) (by rfl) (by intro w' hw; rw [HSd.out] at hw; obtain ⟨h0, h1, h2, h3, h4, h5, h6, h7, h8, h9⟩ := hw; go_simp; try (with_reducible rfl)) hS ?_
        simp only [List.getElem_toArray, List.getElem_cons_succ, List.getElem_cons_zero, Act.put, List.setIfInBounds_toArray, List.set_cons_zero, List.set_cons_succ]
        refine s_tk 7 rfl (by kernel_rfl) (by rfl) (by intro w' hw; rw [HSd.out] at hw; obtain ⟨h0, h1, h2, h3, h4, h5, h6, h7, h8, h9⟩ := hw; go_simp; try (with_reducible rfl)) hS ?_
        simp only [List.getElem_toArray, List.getElem_cons_succ, List.getElem_cons_zero, Act.put, List.setIfInBounds_toArray, List.set_cons_zero, List.set_cons_succ]
        refine s_tk 8 rfl (by kernel_rfl) (by rfl) (by intro w' hw; rw [HSd.out] at hw; obtain ⟨h0, h1, h2, h3, h4, h5, h6, h7, h8, h9⟩ := hw; go_simp; try (with_reducible rfl)) hS ?_
        simp only [List.getElem_toArray, List.getElem_cons_succ, List.getElem_cons_zero, Act.put, List.setIfInBounds_toArray, List.set_cons_zero, List.set_cons_succ]
        refine s_tk 9 rfl (by kernel_rfl) (by rfl) (by intro w' hw; rw [HSd.out] at hw; obtain ⟨h0, h1, h2, h3, h4, h5, h6, h7, h8, h9⟩ := hw; go_simp; try (with_reducible rfl)) hS ?_
        simp only [List.getElem_toArray, List.getElem_cons_succ, List.getElem_cons_zero, Act.put, List.setIfInBounds_toArray, List.set_cons_zero, List.set_cons_succ]
        refine s_tk 10 rfl (by kernel_rfl) (by rfl) (by intro w' hw; rw [HSd.out] at hw; obtain ⟨h0, h1, h2, h3, h4, h5, h6, h7, h8, h9⟩ := hw; go_simp; try (with_reducible rfl)) hS ?_
        simp only [List.getElem_toArray, List.getElem_cons_succ, List.getElem_cons_zero, Act.put, List.setIfInBounds_toArray, List.set_cons_zero, List.set_cons_succ]
        refine s_tk 11 rfl (by kernel_rfl) (by rfl) (by intro w' hw; rw [HSd.out] at hw; obtain ⟨h0, h1, h2, h3, h4, h5, h6, h7, h8, h9⟩ := hw; go_simp; try (with_reducible rfl)) hS ?_
        simp only [List.getElem_toArray, List.getElem_cons_succ, List.getElem_cons_zero, Act.put, List.setIfInBounds_toArray, List.set_cons_zero, List.set_cons_succ]
        refine s_one 12 (by kernel_rfl) rfl (by rfl) (fun K hK => ?_)
        go_simp
        have hS1 := HSk.out _ _ hS fun b o v _ h => keeps_alloc h (.cells #[.int .u8 e.m.pr, .int .u32 e.m.ttl, .int .u32 e.m.cnt, .string ⟨e.m.ids.toArray⟩, .slice Ab e.m.body.length cb] 32)
        refine hK.out _ _ (fun _ => hS1) ?_
        clear hK K hS
        refine s_one 13 (by kernel_rfl) rfl (by rfl) (fun K hK => ?_)
        obtain ⟨i0, hi, hz0, hz1, hz2⟩ := info_parts Try.info_msg
        refine wpIn_appC (fun _ => trivial) _ _ _ rfl w1.heap.size i0 _ 56 Try.underlying52 hi hz0 hz1 hz2 rfl (by decide) (fun _ _ => trivial) u5 dl (mgL ((oldD L now k).map fun e => (e.m, bv e.id))) rfl ?own (some ⟨w2.heap.size, 0, none⟩) 1 1 [.int .u8 e.m.pr, .int .u32 e.m.ttl, .int .u32 e.m.cnt, .string ⟨e.m.ids.toArray⟩, .slice Ab e.m.body.length cb] rfl ?rd ?hb ?h63 ?hbase ?_
        case own => exact (OwnC.drew HD2.out).alloc _
        case rd => exact rdc_box (w := w2.drew) [.int .u8 e.m.pr, .int .u32 e.m.ttl, .int .u32 e.m.cnt, .string ⟨e.m.ids.toArray⟩, .slice Ab e.m.body.length cb] 1 5 rfl (by simp [Value.oneCell']) (by decide)
        case hb => omega
        case h63 => omega
        case hbase => show w1.heap.size ≤ (w2.alloc _).heap.size; simp; omega
        rintro v3 w3 ho' hg' - -
        have hb2 : Below w1.heap.size w1 w3 := below_grown (((Tch.of_below [] HB2.out).alloc _).drew.below0) (by show w1.heap.size ≤ (w2.alloc _).heap.size; simp; omega) hg' (fun q hq => (HD2.out.lt q hq).1)
        have hS3 := HSk.out _ _ hS1 fun b o v hb h => grown_cell hg' (fun hq => by have := (HD2.out.lt b hq).1; rcases hb with rfl | rfl | rfl <;> omega) h
        have hoth := ((OwnC.drew HQ2.out).alloc (.cells #[.int .u8 e.m.pr, .int .u32 e.m.ttl, .int .u32 e.m.cnt, .string ⟨e.m.ids.toArray⟩, .slice Ab e.m.body.length cb] 32)).grown hg' (fun q hq => own_ne HQ2.out HD2.out (by decide) hq)
        refine hK.out _ _ (fun _ => hS3) ?_
        have hS := hS3
        have hsz3 : w2.heap.size ≤ w3.heap.size := Nat.le_trans (below_alloc w2 _).size hg'.size
        clear hK K hS3 hS1 hg'
        have HB3 := Lib.hid hb2
        have O3 := Lib.hid ho'
        have P3 := Lib.hid hoth
        clear hb2 ho' hoth
        simp only [Act.put, List.setIfInBounds_toArray, List.set_cons_zero, List.set_cons_succ]
        refine s_tk 14 rfl (by kernel_rfl) (by rfl) (by intro w' hw; rw [HSd.out] at hw; obtain ⟨h0, h1, h2, h3, h4, h5, h6, h7, h8, h9⟩ := hw; go_simp; try (with_reducible rfl)) hS ?_
        simp only [List.getElem_toArray, List.getElem_cons_succ, List.getElem_cons_zero, Act.put, List.setIfInBounds_toArray, List.set_cons_zero, List.set_cons_succ]
        refine s_done (by kernel_rfl) ?_ _
        have HS3 := Lib.hid hS
        clear hS
        go_wp2_with fail
        have hS : S w3.drew := HSk.out _ _ HS3.out fun b o v _ h => h
        clear HS3
        refine (wpIn_wide (n := 0)).1 ?_
        refine s_region [] S (by kernel_rfl) ?_
        refine s_tk 0 rfl (by kernel_rfl) (by rfl) (by intro w' hw; rw [HSd.out] at hw; obtain ⟨h0, h1, h2, h3, h4, h5, h6, h7, h8, h9⟩ := hw; go_simp; try (with_reducible rfl)) hS ?_
        simp only [List.getElem_toArray, List.getElem_cons_succ, List.getElem_cons_zero, Act.put, List.setIfInBounds_toArray, List.set_cons_zero, List.set_cons_succ]
        refine s_tk 1 rfl (by kernel_rfl) (by rfl) (by intro w' hw; rw [HSd.out] at hw; obtain ⟨h0, h1, h2, h3, h4, h5, h6, h7, h8, h9⟩ := hw; go_simp; try (with_reducible rfl)) hS ?_
        simp only [List.getElem_toArray, List.getElem_cons_succ, List.getElem_cons_zero, Act.put, List.setIfInBounds_toArray, List.set_cons_zero, List.set_cons_succ]
        refine s_tk 2 rfl (by kernel_rfl) (by rfl) (by intro w' hw; rw [HSd.out] at hw; obtain ⟨h0, h1, h2, h3, h4, h5, h6, h7, h8, h9⟩ := hw; go_simp; try (with_reducible rfl)) hS ?_
        simp only [List.getElem_toArray, List.getElem_cons_succ, List.getElem_cons_zero, Act.put, List.setIfInBounds_toArray, List.set_cons_zero, List.set_cons_succ]
        refine s_tk 3 rfl (by kernel_rfl) (by rfl) (by intro w' hw; rw [HSd.out] at hw; obtain ⟨h0, h1, h2, h3, h4, h5, h6, h7, h8, h9⟩ := hw; go_simp; try (with_reducible rfl)) hS ?_
        simp only [List.getElem_toArray, List.getElem_cons_succ, List.getElem_cons_zero, Act.put, List.setIfInBounds_toArray, List.set_cons_zero, List.set_cons_succ]
        refine s_tk 4 rfl (by kernel_rfl) (by rfl) (by intro w' hw; rw [HSd.out] at hw; obtain ⟨h0, h1, h2, h3, h4, h5, h6, h7, h8, h9⟩ := hw; go_simp; try (with_reducible rfl)) hS ?_
        simp only [List.getElem_toArray, List.getElem_cons_succ, List.getElem_cons_zero, Act.put, List.setIfInBounds_toArray, List.set_cons_zero, List.set_cons_succ]
        refine s_tk 5 rfl (by kernel_rfl) (by rfl) (by intro w' hw; rw [HSd.out] at hw; obtain ⟨h0, h1, h2, h3, h4, h5, h6, h7, h8, h9⟩ := hw; go_simp; try (with_reducible rfl)) hS ?_
        simp only [List.getElem_toArray, List.getElem_cons_succ, List.getElem_cons_zero, Act.put, List.setIfInBounds_toArray, List.set_cons_zero, List.set_cons_succ]
        refine s_tk 6 rfl (by kernel_rfl) (by rfl) (by intro w' hw; rw [HSd.out] at hw; obtain ⟨h0, h1, h2, h3, h4, h5, h6, h7, h8, h9⟩ := hw; go_simp; try (with_reducible rfl)) hS ?_
        simp only [List.getElem_toArray, List.getElem_cons_succ, List.getElem_cons_zero, Act.put, List.setIfInBounds_toArray, List.set_cons_zero, List.set_cons_succ]
        refine s_tk 7 rfl (by kernel_rfl) (by rfl) (by intro w' hw; rw [HSd.out] at hw; obtain ⟨h0, h1, h2, h3, h4, h5, h6, h7, h8, h9⟩ := hw; go_simp; try (with_reducible rfl)) hS ?_
        simp only [List.getElem_toArray, List.getElem_cons_succ, List.getElem_cons_zero, Act.put, List.setIfInBounds_toArray, List.set_cons_zero, List.set_cons_succ]
        refine s_tk 8 rfl (by kernel_rfl) (by rfl) (by intro w' hw; rw [HSd.out] at hw; obtain ⟨h0, h1, h2, h3, h4, h5, h6, h7, h8, h9⟩ := hw; go_simp; try (with_reducible rfl)) hS ?_
        simp only [List.getElem_toArray, List.getElem_cons_succ, List.getElem_cons_zero, Act.put, List.setIfInBounds_toArray, List.set_cons_zero, List.set_cons_succ]
        refine s_tk 9 rfl (by kernel_rfl) (by rfl) (by intro w' hw; rw [HSd.out] at hw; obtain ⟨h0, h1, h2, h3, h4, h5, h6, h7, h8, h9⟩ := hw; go_simp; try (with_reducible rfl)) hS ?_
        simp only [List.getElem_toArray, List.getElem_cons_succ, List.getElem_cons_zero, Act.put, List.setIfInBounds_toArray, List.set_cons_zero, List.set_cons_succ]
        refine s_tk 10 rfl (by kernel_rfl) (by rfl) (by intro w' hw; rw [HSd.out] at hw; obtain ⟨h0, h1, h2, h3, h4, h5, h6, h7, h8, h9⟩ := hw; go_simp; try (with_reducible rfl)) hS ?_
        simp only [List.getElem_toArray, List.getElem_cons_succ, List.getElem_cons_zero, Act.put, List.setIfInBounds_toArray, List.set_cons_zero, List.set_cons_succ]
        refine s_tk 11 rfl (by kernel_rfl) (by rfl) (by intro w' hw; rw [HSd.out] at hw; obtain ⟨h0, h1, h2, h3, h4, h5, h6, h7, h8, h9⟩ := hw; go_simp; try (with_reducible rfl)) hS ?_
        simp only [List.getElem_toArray, List.getElem_cons_succ, List.getElem_cons_zero, Act.put, List.setIfInBounds_toArray, List.set_cons_zero, List.set_cons_succ]
        refine s_one 12 (by kernel_rfl) rfl (by rfl) (fun K hK => ?_)
        go_simp
        have hS1 := HSk.out _ _ hS fun b o v _ h => keeps_alloc h (.cells #[.int .i64 e.id] 3)
        refine hK.out _ _ (fun _ => hS1) ?_
        clear hK K hS
        refine s_one 13 (by kernel_rfl) rfl (by rfl) (fun K hK => ?_)
        obtain ⟨i0, hi, hz0, hz1, hz2⟩ := info_parts Try.info_int
        refine wpIn_appC (fun _ => trivial) _ _ _ rfl w1.heap.size i0 _ 8 Try.underlying94 hi hz0 hz1 hz2 rfl (by decide) (fun _ _ => trivial) u7 dl ((oldD L now k).map fun e => iv e.id) rfl ?own (some ⟨w3.heap.size, 0, none⟩) 1 1 [.int .i64 e.id] rfl ?rd ?hb ?h63 ?hbase ?_
        case own => exact (OwnC.drew P3.out).alloc _
        case rd => exact rdc_box (w := w3.drew) [.int .i64 e.id] 1 1 rfl (by simp [Value.oneCell']) (by decide)
        case hb => omega
        case h63 => omega
        case hbase => show w1.heap.size ≤ (w3.alloc _).heap.size; simp; omega
        rintro v4 w4 ho' hg' - -
        have hb2 : Below w1.heap.size w1 w4 := below_grown (((Tch.of_below [] HB3.out).alloc _).drew.below0) (by show w1.heap.size ≤ (w3.alloc _).heap.size; simp; omega) hg' (fun q hq => (P3.out.lt q hq).1)
        have hS3 := HSk.out _ _ hS1 fun b o v hb h => grown_cell hg' (fun hq => by have := (P3.out.lt b hq).1; rcases hb with rfl | rfl | rfl <;> omega) h
        have hoth := ((OwnC.drew O3.out).alloc (.cells #[.int .i64 e.id] 3)).grown hg' (fun q hq => own_ne O3.out P3.out (by decide) hq)
        refine hK.out _ _ (fun _ => hS3) ?_
        have hS := hS3
        have hsz4 : w3.heap.size ≤ w4.heap.size := Nat.le_trans (below_alloc w3 _).size hg'.size
        clear hK K hS3 hS1 hg'
        have HB4 := Lib.hid hb2
        have O4 := Lib.hid ho'
        have P4 := Lib.hid hoth
        clear hb2 ho' hoth
        simp only [Act.put, List.setIfInBounds_toArray, List.set_cons_zero, List.set_cons_succ]
        refine s_tk 14 rfl (by kernel_rfl) (by rfl) (by intro w' hw; rw [HSd.out] at hw; obtain ⟨h0, h1, h2, h3, h4, h5, h6, h7, h8, h9⟩ := hw; go_simp; try (with_reducible rfl)) hS ?_
        simp only [List.getElem_toArray, List.getElem_cons_succ, List.getElem_cons_zero, Act.put, List.setIfInBounds_toArray, List.set_cons_zero, List.set_cons_succ]
        refine s_done (by kernel_rfl) ?_ _
        go_wp2_with fail
        refine ⟨⟨k + 1, dl + 1, by omega, by omega, by go_num, Lib.hid (by rw [HDS.out]; simp [HDL.out]), Lib.hid ?_, Lib.hid ?_, HB4.out⟩, by simp [intOf]; omega⟩
        · have h1 := P4.out
          rw [HDS.out]
          unfold mgL at h1 ⊢
          simp only [if_true, List.map_append, List.map_cons, List.map_nil, List.flatMap_append, List.flatMap_cons, List.flatMap_nil, List.append_nil]
          rw [show mcs e.m (bv e.id) = [.int .u8 e.m.pr, .int .u32 e.m.ttl, .int .u32 e.m.cnt, .string ⟨e.m.ids.toArray⟩, .slice Ab e.m.body.length cb] by unfold mcs str; rw [HBV.out]]
          exact h1
        · have h1 := O4.out
          rw [HDS.out]
          simp only [if_true, List.map_append, List.map_cons, List.map_nil]
          exact h1
    · obtain rfl : k = m := by omega
      obtain ⟨w2, hw2⟩ : ∃ w2, w2 = wr := ⟨wr, rfl⟩
      subst hw2
      have hD := oldD_all L now
      rw [HI.out, HM.out] at hD
      rw [hD] at HDL HD HQV
      obtain ⟨D, hDD⟩ : ∃ D, expL L now = D := ⟨_, rfl⟩
      rw [hDD] at HDL HD HQV
      have HDD := Lib.hid hDD
      clear hD hDD
      obtain ⟨Ad, cd, rfl⟩ := HD.out.slice
      obtain ⟨Aq, cq, rfl⟩ := HQV.out.slice
      have hzz : ∀ k, k ∈ Z → k < w.heap.size := HZ.out
      have HRQ := Lib.hid (HQ.out.below HZ.out HBB.out)
      have hw1 : w.heap.size ≤ w1.heap.size := HB1.out.size
      have hwr : w.heap.size ≤ w2.heap.size := HBB.out.size
      go_wp2_with fail
      go_loopw [9] (fun i W => ∃ (j : Nat) (N : List Nat), j ≤ dl ∧ i = .int .i64 j ∧ Hid ((∀ q ∈ N, w2.heap.size ≤ q ∧ q < W.heap.size) ∧ Rq W (N ++ Z) r room limit last (less ((D.take j).map (·.id)) L) ∧ RStep Z w2 W)) (fun i _ => dl - (intOf i).toNat)
      case atStart => exact ⟨0, [], by omega, rfl, Lib.hid ⟨by simp, by rw [List.take_zero, List.map_nil, less_nil]; exact HRQ.out, RStep.of_below (Below.refl _ _)⟩⟩
      case round =>
        obtain ⟨j, N, hj, rfl, HJ⟩ := hrel
        by_cases hjd : j < dl
        · have hjd' : (j : Int) < dl := by omega
          have hjD : j < D.length := by rw [HDL.out]; exact hjd
          obtain ⟨gd, cd', hgd, hgb, -⟩ := HQV.out.form (by omega)
          simp only [Value.slice.injEq] at hgd
          obtain ⟨rfl, -, rfl⟩ := hgd
          obtain ⟨e, he⟩ : ∃ e, D[j] = e := ⟨_, rfl⟩
          have d0 := (HQV.out.cell_at j (iv e.id) (by rw [List.getElem?_map, List.getElem?_eq_getElem hjD, he]; rfl)).1
          have hgZ : gd ∉ Z := fun hm => by have := hzz gd hm; omega
          have d1 := HJ.out.2.2.tch.cell d0 hgZ
          unfold iv at d1
          have HE := Lib.hid he
          clear d0 he
          go_wp2_with fail
          refine (rgoes_calls HJ.out.2.1 e.id).mono ?_
          rintro x w5 ⟨⟨vv, rfl⟩, N', hN', RQ5, S5⟩
          have R5 := Lib.hid RQ5
          have HS5 := Lib.hid S5
          have HN5 := Lib.hid hN'
          have hsz5 := S5.tch.size
          have hszr := HJ.out.2.2.tch.size
          clear RQ5 S5 hN'
          go_wp2_with fail
          refine ⟨⟨j + 1, N' ++ N, by omega, by go_num, Lib.hid ⟨fun q hq => ?_, ?_, HJ.out.2.2.trans HS5.out fun q hq => ?_⟩⟩, by simp [intOf]; omega⟩
          · rcases List.mem_append.1 hq with h | h
            · have := HN5.out q h; omega
            · have := HJ.out.1 q h; omega
          · have h1 := R5.out
            rw [less_snoc] at h1
            rw [List.append_assoc, List.take_succ_eq_append_getElem hjD, List.map_append, HE.out]
            exact h1
          · rcases List.mem_append.1 hq with h | h
            · exact .inr (HJ.out.1 q h).1
            · exact .inl h
        · obtain rfl : j = dl := by omega
          go_wp2_with fail
          go_ret
          have hs : RStep Z w wr := (RStep.of_below HBB.out).trans HJ.out.2.2 fun q hq => .inl hq
          refine ⟨_, D.map (fun e => (e.m, bv e.id)), rfl, ?_, ?_, fun x hx => ?_, N, fun q hq => ?_, ?_, hs⟩
          · rw [HDD.out, List.map_map]; rfl
          · rw [List.length_map, HDL.out]
            exact OwnC.base (HD.out.tch HJ.out.2.2.tch fun q hq hm => by have h1 := (HD.out.lt q hq).1; have h2 := hzz q hm; omega) (by omega)
          · obtain ⟨e, he, rfl⟩ := List.mem_map.1 hx
            rw [← HDD.out] at he
            exact hs.bdv (H4.out e (mem_ord (List.mem_filter.1 he).1).1).1
          · have := HJ.out.1 q hq; omega
          · have h1 := HJ.out.2.1
            rw [← HDL.out, List.take_length] at h1
            unfold expQ
            rw [HDD.out]
            exact h1
end Go.Proofs.Ytkoihcfdchcgdaa

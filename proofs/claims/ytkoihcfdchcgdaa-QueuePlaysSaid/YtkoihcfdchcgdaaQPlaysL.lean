import Derived.Test.YtkoihcfdchcgdaaRSame
set_option linter.unusedVariables false
set_option linter.unusedSimpArgs false
namespace Go.Proofs.Ytkoihcfdchcgdaa
open Go.RowKit Go.Shelf

/-- Guests are turned, and new ones come. -/
theorem QF.zgrow {w0 w w' : World} {Z N : List Nat} {q room limit last : Nat} {L : List En} (h : QF w0 w Z q room limit last L) (t : Tch Z w w') (hN : ∀ k ∈ N, w.heap.size ≤ k ∧ k < w'.heap.size) : QF w0 w' (N ++ Z) q room limit last L := by
  obtain ⟨⟨F, bk, bv, rv, h1, h2⟩, h3, h4⟩ := h
  have hF : ∀ k ∈ F, w'.heap[k]? = w.heap[k]? := fun k hk => t.block k (h1.lt k hk) fun hm => (h2 k hm).1 hk
  refine ⟨⟨F, bk, bv, rv, ⟨(hF _ h1.fq).trans h1.hd, fun p hp => (h1.rows p hp).keep fun k hk => hF k (h1.fr p hp k hk), fun e he => (hF _ (h1.fe e he)).trans (h1.ent e he), fun e he => (h1.bod e he).keepK fun k hk => t.block k ((h1.bod e he).bl hk) fun hm => (h2 k hm).2 e he hk, h1.wf, h1.inj, h1.rdis, h1.fq, h1.fr, h1.fe, h1.fB,
    fun k hm => by obtain ⟨cs, t, h1', h2'⟩ := h1.ft k hm; exact ⟨cs, t, (hF k hm).trans h1', h2'⟩⟩, fun k hk => ?_⟩, h3.trans (t.below h3.size fun k hk => (h4 k hk).1), fun k hk => ?_⟩
  · rcases List.mem_append.1 hk with e | e
    · exact ⟨fun hm => by have := (hN k e).1; have := h1.lt k hm; omega, fun x hx hh => by have := (hN k e).1; have := (h1.bod x hx).bl hh; omega⟩
    · exact h2 k e
  · rcases List.mem_append.1 hk with e | e
    · exact ⟨Nat.le_trans h3.size (hN k e).1, (hN k e).2⟩
    · exact ⟨(h4 k e).1, Nat.lt_of_lt_of_le (h4 k e).2 t.size⟩
theorem TV.tchZ {w w' : World} {Z : List Nat} {base : Nat} {v : Value} {t : Tol} (h : TV w base v t) (hs : RStep Z w w') (hz : ∀ k ∈ Z, k < base) : TV w' base v t := by
  obtain ⟨sv, ms, h1, h2, h3⟩ := h
  obtain ⟨F, u, hF⟩ := hs
  exact ⟨sv, ms, h1, h2.tch u fun k hk => ⟨fun he => by have := (h2.1.lt k he).1; have := hz k (hF k hk).1; omega, (hF k hk).2⟩, h3⟩
theorem rq_new (w : World) (room limit : Nat) (h1 : 1 ≤ room) (h2 : room ≤ 64) (h3 : limit ≤ 1000) : Rq (w.alloc (.cells #[.int .i64 room, .int .i64 limit, .slice none 0 0, .int .i64 0] 90)) [w.heap.size] w.heap.size room limit 0 [] :=
  ⟨⟨.slice none 0 0, fun _ => .slice none 0 0, Bx.new w 90 (rcs room limit 0 (.slice none 0 0)), OwnC.nil_, fun k hk => by simp [Value.ownBlock] at hk, fun e he => (by cases he)⟩, by simp, ⟨h1, h2, h3, Nat.zero_le _, List.Pairwise.nil, fun e he => (by cases he), fun e he => (by cases he), fun e he => (by cases he)⟩⟩
theorem step_last (room limit last : Nat) (L : List En) (x : QOp) : (stepQ room limit last L x).2.1 ≤ last + 1 := by
  unfold stepQ
  split
  · split
    · simp
    · split <;> simp
  · split
    · cases acqQ L x.now <;> simp
    · split
      · simp
      · split <;> simp
theorem vast_no {l : List OpD} (h : vastL l = false) : l.length ≤ 150 ∧ ∀ d ∈ l, d.x.m.body.length ≤ 4096 := by
  unfold vastL at h
  simp only [Bool.or_eq_false_iff, decide_eq_false_iff_not, Nat.not_lt] at h
  refine ⟨h.1, fun d hd => ?_⟩
  have h2 := h.2
  rw [List.any_eq_false] at h2
  have h3 := h2 d hd
  unfold vastD at h3
  simp only [Bool.or_eq_true, decide_eq_true_eq, not_or, Nat.not_lt] at h3
  exact h3.1

set_option maxRecDepth 100000 in
set_option maxHeartbeats 8000000 in
theorem plays_row {w : World} (x0 : Int) (w0 : (Lit.int .i64 x0).wf = true) (x1 : Int) (w1 : (Lit.int .i64 x1).wf = true) (A : Option Addr) (c : Nat) (l : List OpD) (h : RdO w A c l) :
    Calls Try.prog 5 #[.int .i64 x0, .int .i64 x1, .slice A l.length c] w fun e w' => e = .returned (.bool true) ∧ Below w.heap.size w w' := by
  have HD := Lib.hid h.2
  have hr := h.1
  have hlc := hr.2.1
  have hmx := hr.2.2.1
  obtain ⟨n, hn⟩ : ∃ n, l.length = n := ⟨_, rfl⟩
  have HV := Lib.hid (fun b hb => vast_any A l.length c l b hb w hr)
  rw [hn] at hr hlc HV ⊢
  have HR := Lib.hid hr
  have HN := Lib.hid hn
  clear h hr hn
  cases hvast : vastL l with
  | true =>
    have HVV := Lib.hid hvast
    clear hvast
    go_enter Try.func5, Try.ntmps5
    go_wp2_with fail
    refine (HV.out true HVV.out).mono ?_
    rintro e w2 ⟨rfl, rfl⟩
    go_wp2_with fail
    refine (works_calls _).mono ?_
    rintro e w6 ⟨rfl, b6⟩
    have B6 := Lib.hid b6
    clear b6
    go_wp2_with fail
    go_ret
    exact ⟨rfl, B6.out⟩
  | false =>
  have hv2 := vast_no hvast
  rw [HN.out] at hv2
  have hn150 := hv2.1
  have HBL := Lib.hid hv2.2
  have HVV := Lib.hid hvast
  have HO := Lib.hid (fun W => rnew_calls x0 x1 W w0 w1)
  have HB := Lib.hid (fun W h => qf_new_bad x0 x1 W h w0 w1)
  clear hvast hv2
  by_cases hok : okNew x0 x1 = true
  · have hok2 : 1 ≤ x0 ∧ x0 ≤ 64 ∧ 0 ≤ x1 ∧ x1 ≤ 1000 := of_decide_eq_true hok
    obtain ⟨room, rfl⟩ : ∃ k : Nat, x0 = k := ⟨x0.toNat, by omega⟩
    obtain ⟨limit, rfl⟩ : ∃ k : Nat, x1 = k := ⟨x1.toNat, by omega⟩
    have HOK := Lib.hid hok
    have hr1 : 1 ≤ room := by omega
    have hr2 : room ≤ 64 := by omega
    have hl1 : limit ≤ 1000 := by omega
    clear hok hok2 w0 w1 HB
    go_enter Try.func5, Try.ntmps5
    go_wp2_with fail
    refine (HV.out false HVV.out).mono ?_
    rintro e w2 ⟨rfl, rfl⟩
    go_wp2_with fail
    refine (qf_new room limit (Below.refl _ w) hr1 hr2 hl1).mono ?_
    rintro e w3 ⟨rfl, hq, -⟩
    have HQ := Lib.hid hq
    clear hq
    obtain ⟨q, hqd⟩ : ∃ q, w.heap.size = q := ⟨_, rfl⟩
    rw [hqd] at HQ ⊢
    clear hqd
    go_wp2_with fail
    refine (HO.out w3).mono ?_
    rintro e w4 hx
    rcases hx with ⟨hx, -⟩ | ⟨-, rfl, rfl⟩
    · rw [HOK.out] at hx; cases hx
    obtain ⟨r, hrd⟩ : ∃ r, w3.heap.size = r := ⟨_, rfl⟩
    have HRQ := Lib.hid (rq_new w3 room limit hr1 hr2 hl1)
    have HQ2 := Lib.hid (HQ.out.alloc (.cells #[.int .i64 room, .int .i64 limit, .slice none 0 0, .int .i64 0] 90))
    rw [hrd] at HRQ HQ2 ⊢
    clear hrd
    go_wp2_with fail
    go_loopw [11] (fun i wr => ∃ (k last : Nat) (Z : List Nat) (L : List En), k ≤ n ∧ i = .int .i64 k ∧ last ≤ k ∧ Hid (QF w wr Z q room limit last L ∧ Rq wr Z r room limit last L)) (fun i _ => n - (intOf i).toNat)
    case atStart => exact ⟨0, 0, [r], [], by omega, rfl, by omega, Lib.hid ⟨HQ2.out, HRQ.out⟩⟩
    case round =>
      obtain ⟨k, last, Z, L, hk, rfl, hlast, HI⟩ := hrel
      by_cases hkn : k < n
      · have hkn' : (k : Int) < n := by omega
        have hkl : k < l.length := by rw [HN.out]; exact hkn
        obtain ⟨b0, o0, hA, hcw⟩ := flat_cells opd 12 (by decide) opd_length HR.out k hkl
        subst hA
        obtain ⟨d, hd⟩ : ∃ d, l[k] = d := ⟨_, rfl⟩
        have hmem : d ∈ l := by rw [← hd]; exact List.getElem_mem _
        rw [hd] at hcw
        have hb0 : b0 < w.heap.size := World.block_lt_of_cell? _ _ (hcw 0 _ rfl)
        have hbl := HBL.out d hmem
        have HDK := Lib.hid (HD.out d hmem)
        obtain ⟨nb, hnb⟩ : ∃ nb, d.x.m.body.length = nb := ⟨_, rfl⟩
        have hopd : (opd d).toArray = #[.int .i64 d.x.kind, .int .i64 d.x.id, .int .u8 d.x.m.pr, .int .u32 d.x.m.ttl, .int .u32 d.x.m.cnt, .string ⟨d.x.m.ids.toArray⟩, .slice d.A nb d.c, .int .u8 d.x.o.k, .int .u64 d.x.o.a, .int .u64 d.x.o.b, .string ⟨d.x.o.c.toArray⟩, .int .i64 d.x.now] := by unfold opd opc str; rw [hnb]
        have HOPD := Lib.hid hopd
        obtain ⟨S, hSd⟩ : ∃ S : World → Prop, S = fun W' : World => W'.cell? ⟨b0, o0 + k * 12, none⟩ = some (.int .i64 d.x.kind) ∧ W'.cell? ⟨b0, o0 + k * 12 + 1, none⟩ = some (.int .i64 d.x.id) ∧ W'.cell? ⟨b0, o0 + k * 12 + 2, none⟩ = some (.int .u8 d.x.m.pr) ∧ W'.cell? ⟨b0, o0 + k * 12 + 3, none⟩ = some (.int .u32 d.x.m.ttl) ∧ W'.cell? ⟨b0, o0 + k * 12 + 4, none⟩ = some (.int .u32 d.x.m.cnt) ∧ W'.cell? ⟨b0, o0 + k * 12 + 5, none⟩ = some (.string ⟨d.x.m.ids.toArray⟩) ∧ W'.cell? ⟨b0, o0 + k * 12 + 6, none⟩ = some (.slice d.A nb d.c) ∧ W'.cell? ⟨b0, o0 + k * 12 + 7, none⟩ = some (.int .u8 d.x.o.k) ∧ W'.cell? ⟨b0, o0 + k * 12 + 8, none⟩ = some (.int .u64 d.x.o.a) ∧ W'.cell? ⟨b0, o0 + k * 12 + 9, none⟩ = some (.int .u64 d.x.o.b) ∧ W'.cell? ⟨b0, o0 + k * 12 + 10, none⟩ = some (.string ⟨d.x.o.c.toArray⟩) ∧ W'.cell? ⟨b0, o0 + k * 12 + 11, none⟩ = some (.int .i64 d.x.now) := ⟨_, rfl⟩
        have hSw : ∀ W', Below w.heap.size w W' → S W' := fun W' hb => by
          have hcell := fun j u hj => stays hb (hcw j u hj) hb0
          have s0 := hcell 0 (.int .i64 d.x.kind) rfl
          have s1 := hcell 1 (.int .i64 d.x.id) rfl
          have s2 := hcell 2 (.int .u8 d.x.m.pr) rfl
          have s3 := hcell 3 (.int .u32 d.x.m.ttl) rfl
          have s4 := hcell 4 (.int .u32 d.x.m.cnt) rfl
          have s5 := hcell 5 (.string ⟨d.x.m.ids.toArray⟩) rfl
          have s6 := hcell 6 (.slice d.A nb d.c) (by rw [← hnb]; rfl)
          have s7 := hcell 7 (.int .u8 d.x.o.k) rfl
          have s8 := hcell 8 (.int .u64 d.x.o.a) rfl
          have s9 := hcell 9 (.int .u64 d.x.o.b) rfl
          have s10 := hcell 10 (.string ⟨d.x.o.c.toArray⟩) rfl
          have s11 := hcell 11 (.int .i64 d.x.now) rfl
          simp only [← Nat.add_assoc, Nat.add_zero] at s0 s1 s2 s3 s4 s5 s6 s7 s8 s9 s10 s11
          rw [hSd]
          exact ⟨s0, s1, s2, s3, s4, s5, s6, s7, s8, s9, s10, s11⟩
        have HSd := Lib.hid hSd
        have HSw := Lib.hid hSw
        have HNB := Lib.hid hnb
        clear hcw hd hmem hopd hSd hSw hnb
        go_wp2_with fail
        have HI0 := Lib.hid HI.out.1.old
        have hSr := HSw.out _ HI.out.1.old
        refine (wpIn_wide (n := 0)).1 ?_
        refine s_region [] S (by kernel_rfl) ?_
        have hS : S wr.drew := HSw.out _ (below_then HI.out.1.old HI.out.1.old.size (below_drew wr))
        clear hSr
        refine s_tk 0 rfl (by kernel_rfl) (by rfl) (by intro w' hw; rw [HSd.out] at hw; obtain ⟨h0, h1, h2, h3, h4, h5, h6, h7, h8, h9, h10, h11⟩ := hw; go_simp; try (with_reducible rfl)) hS ?_
        simp only [List.getElem_toArray, List.getElem_cons_succ, List.getElem_cons_zero, Act.put, List.setIfInBounds_toArray, List.set_cons_zero, List.set_cons_succ]
        refine s_tk 1 rfl (by kernel_rfl) (by rfl) (by intro w' hw; rw [HSd.out] at hw; obtain ⟨h0, h1, h2, h3, h4, h5, h6, h7, h8, h9, h10, h11⟩ := hw; go_simp; try (with_reducible rfl)) hS ?_
        simp only [List.getElem_toArray, List.getElem_cons_succ, List.getElem_cons_zero, Act.put, List.setIfInBounds_toArray, List.set_cons_zero, List.set_cons_succ]
        refine s_tk 2 rfl (by kernel_rfl) (by rfl) (by intro w' hw; rw [HSd.out] at hw; obtain ⟨h0, h1, h2, h3, h4, h5, h6, h7, h8, h9, h10, h11⟩ := hw; go_simp; try (with_reducible rfl)) hS ?_
        simp only [List.getElem_toArray, List.getElem_cons_succ, List.getElem_cons_zero, Act.put, List.setIfInBounds_toArray, List.set_cons_zero, List.set_cons_succ]
        refine s_tk 3 rfl (by kernel_rfl) (by rfl) (by intro w' hw; rw [HSd.out] at hw; obtain ⟨h0, h1, h2, h3, h4, h5, h6, h7, h8, h9, h10, h11⟩ := hw; go_simp; try (with_reducible rfl)) hS ?_
        simp only [List.getElem_toArray, List.getElem_cons_succ, List.getElem_cons_zero, Act.put, List.setIfInBounds_toArray, List.set_cons_zero, List.set_cons_succ]
        refine s_tk 4 rfl (by kernel_rfl) (by rfl) (by intro w' hw; rw [HSd.out] at hw; obtain ⟨h0, h1, h2, h3, h4, h5, h6, h7, h8, h9, h10, h11⟩ := hw; go_simp; try (with_reducible rfl)) hS ?_
        simp only [List.getElem_toArray, List.getElem_cons_succ, List.getElem_cons_zero, Act.put, List.setIfInBounds_toArray, List.set_cons_zero, List.set_cons_succ]
        refine s_tk 6 rfl (by kernel_rfl) (by rfl) (by intro w' hw; rw [HSd.out] at hw; obtain ⟨h0, h1, h2, h3, h4, h5, h6, h7, h8, h9, h10, h11⟩ := hw; go_simp; try (with_reducible rfl)) hS ?_
        simp only [List.getElem_toArray, List.getElem_cons_succ, List.getElem_cons_zero, Act.put, List.setIfInBounds_toArray, List.set_cons_zero, List.set_cons_succ]
        refine s_tk 7 rfl (by kernel_rfl) (by rfl) (by intro w' hw; rw [HSd.out] at hw; obtain ⟨h0, h1, h2, h3, h4, h5, h6, h7, h8, h9, h10, h11⟩ := hw; go_simp; try (with_reducible rfl)) hS ?_
        simp only [List.getElem_toArray, List.getElem_cons_succ, List.getElem_cons_zero, Act.put, List.setIfInBounds_toArray, List.set_cons_zero, List.set_cons_succ]
        refine s_tk 8 rfl (by kernel_rfl) (by rfl) (by intro w' hw; rw [HSd.out] at hw; obtain ⟨h0, h1, h2, h3, h4, h5, h6, h7, h8, h9, h10, h11⟩ := hw; go_simp; try (with_reducible rfl)) hS ?_
        simp only [List.getElem_toArray, List.getElem_cons_succ, List.getElem_cons_zero, Act.put, List.setIfInBounds_toArray, List.set_cons_zero, List.set_cons_succ]
        refine s_tk 9 rfl (by kernel_rfl) (by rfl) (by intro w' hw; rw [HSd.out] at hw; obtain ⟨h0, h1, h2, h3, h4, h5, h6, h7, h8, h9, h10, h11⟩ := hw; go_simp; try (with_reducible rfl)) hS ?_
        simp only [List.getElem_toArray, List.getElem_cons_succ, List.getElem_cons_zero, Act.put, List.setIfInBounds_toArray, List.set_cons_zero, List.set_cons_succ]
        refine s_tk 10 rfl (by kernel_rfl) (by rfl) (by intro w' hw; rw [HSd.out] at hw; obtain ⟨h0, h1, h2, h3, h4, h5, h6, h7, h8, h9, h10, h11⟩ := hw; go_simp; try (with_reducible rfl)) hS ?_
        simp only [List.getElem_toArray, List.getElem_cons_succ, List.getElem_cons_zero, Act.put, List.setIfInBounds_toArray, List.set_cons_zero, List.set_cons_succ]
        refine s_one 5 (by kernel_rfl) rfl (by rfl) (fun K hK => ?_)
        go_simp
        have hq0 : QF w wr.drew Z q room limit last L := HI.out.1.below (below_drew wr)
        have hr0 : Rq wr.drew Z r room limit last L := HI.out.2.keep fun k _ => rfl
        have hcl := qf_does hq0 d (HDK.out.below hq0.old) hbl (by omega)
        rw [HOPD.out] at hcl
        refine ⟨trivial, rfl, (callsIn_wide.2 hcl).mono ?_⟩
        rintro x w2 ⟨ht, ⟨v1, rfl⟩, hq2, hkz⟩
        have hS1 := HSw.out _ hq2.old
        refine hK.out _ _ (fun _ => hS1) ?_
        clear hK K hS hcl
        have HT := Lib.hid ht
        have HQ3 := Lib.hid hq2
        have HR3 := Lib.hid (hr0.kz hkz)
        have HZ0 := Lib.hid hq0.zs
        have hS := hS1
        clear hS1 ht hq2 hkz hq0 hr0
        refine s_one 11 (by kernel_rfl) rfl (by rfl) (fun K hK => ?_)
        go_simp
        have hcl := rq_meant HR3.out (fun k hk => (HQ3.out.zs k hk).2) d (HDK.out.below HQ3.out.old) hbl (by omega)
        rw [HOPD.out] at hcl
        refine ⟨trivial, rfl, (callsIn_wide.2 hcl).mono ?_⟩
        rintro x w3' ⟨v2, rfl, ht2, N, hN, hr4, hs4⟩
        have hq4 := HQ3.out.zgrow hs4.tch hN
        have hS1 := HSw.out _ hq4.old
        refine hK.out _ _ (fun _ => hS1) ?_
        clear hK K hS hcl
        have HT1 := Lib.hid (HT.out.tchZ hs4 fun k hk => (HZ0.out k hk).2)
        have HT2 := Lib.hid ht2
        have HQ4 := Lib.hid hq4
        have HR4 := Lib.hid hr4
        have hS := hS1
        clear hS1 ht2 hq4 hr4 hs4 hN HT HQ3 HR3 HZ0
        refine s_one 12 (by kernel_rfl) rfl (by rfl) (fun K hK => ?_)
        go_simp
        refine ⟨trivial, rfl, (callsIn_wide.2 (rtold_calls HT1.out HT2.out)).mono ?_⟩
        rintro x w5 ⟨rfl, b5⟩
        have HQ5 := Lib.hid (HQ4.out.below b5)
        have HR5 := Lib.hid (HR4.out.below (fun k hk => (HQ4.out.zs k hk).2) b5)
        have hS1 := HSw.out _ HQ5.out.old
        refine hK.out _ _ (fun _ => hS1) ?_
        clear hK K hS
        have hS := hS1
        clear hS1 b5 HT1 HT2 HQ4 HR4
        refine s_tk 13 rfl (by kernel_rfl) (by rfl) (by intro w' hw; rw [HSd.out] at hw; obtain ⟨h0, h1, h2, h3, h4, h5, h6, h7, h8, h9, h10, h11⟩ := hw; go_simp; try (with_reducible rfl)) hS ?_
        simp only [List.getElem_toArray, List.getElem_cons_succ, List.getElem_cons_zero, Act.put, List.setIfInBounds_toArray, List.set_cons_zero, List.set_cons_succ]
        refine s_done (by kernel_rfl) ?_ _
        have HST := Lib.hid (step_last room limit last L d.x)
        obtain ⟨L', hL'⟩ : ∃ L', (stepQ room limit last L d.x).1 = L' := ⟨_, rfl⟩
        obtain ⟨last', hl'⟩ : ∃ last', (stepQ room limit last L d.x).2.1 = last' := ⟨_, rfl⟩
        obtain ⟨Z', hZ'⟩ : ∃ Z', N ++ Z = Z' := ⟨_, rfl⟩
        rw [hL', hl', hZ'] at HQ5 HR5
        rw [hl'] at HST
        have hlast' : last' ≤ k + 1 := by have := HST.out; omega
        clear hS hL' hl' hZ' HST HSd HSw S
        go_wp2_with fail
        refine (qf_list HQ5.out).mono ?_
        rintro x w6 ⟨va, ia, rfl, ea, oa, ba, b6⟩
        have HQ6 := Lib.hid (HQ5.out.below b6)
        have HR6 := Lib.hid (HR5.out.below (fun k hk => (HQ5.out.zs k hk).2) b6)
        have hlen64 : ia.length ≤ 64 := by
          have h1 := congrArg List.length ea
          have h2 := ord_len (b := false) HQ5.out.wf
          rw [List.length_map] at h1
          omega
        obtain ⟨Aa, ca, rfl, ra⟩ := oa.rd
        have HRA := Lib.hid ra
        have HBA := Lib.hid ba
        have HEA := Lib.hid ea
        clear oa ra ba b6 HQ5 HR5 ea
        go_wp2_with fail
        refine (rlist_calls HR6.out).mono ?_
        rintro x w7 ⟨vb, ib, rfl, eb, ob, bb, b7⟩
        have HQ7 := Lib.hid (HQ6.out.below b7)
        have HR7 := Lib.hid (HR6.out.below (fun k hk => (HQ6.out.zs k hk).2) b7)
        obtain ⟨Ab, cb, rfl, rb⟩ := ob.rd
        have HRB := Lib.hid rb
        have HBB := Lib.hid bb
        have HEB := Lib.hid (HEA.out.trans eb.symm)
        have HRA7 := Lib.hid (HRA.out.below b7)
        have HBA7 := Lib.hid (fun x hx => (Bdv.of_own (HBA.out x hx)).below b7)
        clear ob rb bb b7 eb HQ6 HR6 HRA HBA HEA
        have hlen : ib.length = ia.length := by have := congrArg List.length HEB.out; simpa using this.symm
        obtain ⟨na, hna⟩ : ∃ na, ia.length = na := ⟨_, rfl⟩
        rw [hna] at hlen HRA7 hlen64 ⊢
        rw [hlen] at HRB ⊢
        have HNA := Lib.hid hna
        have HNB2 := Lib.hid hlen
        have ca1 := HRA7.out.2.1
        have ca2 := HRA7.out.2.2.1
        have cb1 := HRB.out.2.1
        have cb2 := HRB.out.2.2.1
        clear hna hlen
        go_wp2_with fail
        go_loopw [14] (fun i W => ∃ j : Nat, j ≤ na ∧ i = .int .i64 j ∧ Below w7.heap.size w7 W) (fun i _ => na - (intOf i).toNat)
        case atStart => exact ⟨0, by omega, rfl, Below.refl _ _⟩
        case round =>
          obtain ⟨j, hj, rfl, hb⟩ := hrel
          have HB7 := Lib.hid hb
          clear hb
          by_cases hjn : j < na
          · have hjn' : (j : Int) < na := by omega
            have hja : j < ia.length := by rw [HNA.out]; exact hjn
            have hjb : j < ib.length := by rw [HNB2.out]; exact hjn
            obtain ⟨p1, o1, hA1, ha⟩ := flat_cells itc 6 (by decide) (fun _ => rfl) (HRA7.out.below HB7.out) j hja
            obtain ⟨p2, o2, hA2, hb⟩ := flat_cells eit 8 (by decide) eit_length (HRB.out.below HB7.out) j hjb
            subst hA1 hA2
            obtain ⟨e, he⟩ : ∃ e, (ia[j]).1 = e := ⟨_, rfl⟩
            have he2 : (ib[j]).1 = e := by
              rw [← he]
              have h1 : (ia.map (·.1))[j]'(by simpa using hja) = (ib.map (·.1))[j]'(by simpa using hjb) := by simp only [HEB.out]
              simpa using h1.symm
            obtain ⟨A1, c1, hv1, hr1', -⟩ := (HBA7.out _ (List.getElem_mem hja)).below HB7.out
            obtain ⟨A2, c2, hv2, hr2', -⟩ := (HBB.out _ (List.getElem_mem hjb)).below HB7.out
            rw [he] at hv1 hr1'
            rw [he2] at hv2 hr2'
            obtain ⟨nb1, hnb1⟩ : ∃ nb1, e.m.body.length = nb1 := ⟨_, rfl⟩
            rw [hnb1] at hv1 hv2
            obtain ⟨S, hSd⟩ : ∃ S : World → Prop, S = fun W' : World => W'.cell? ⟨p1, o1 + j * 6, none⟩ = some (.int .i64 e.id) ∧ W'.cell? ⟨p1, o1 + j * 6 + 1, none⟩ = some (.int .u8 e.m.pr) ∧ W'.cell? ⟨p1, o1 + j * 6 + 2, none⟩ = some (.int .u32 e.m.ttl) ∧ W'.cell? ⟨p1, o1 + j * 6 + 3, none⟩ = some (.int .u32 e.m.cnt) ∧ W'.cell? ⟨p1, o1 + j * 6 + 4, none⟩ = some (.string ⟨e.m.ids.toArray⟩) ∧ W'.cell? ⟨p1, o1 + j * 6 + 5, none⟩ = some (.slice A1 nb1 c1) ∧ W'.cell? ⟨p2, o2 + j * 8, none⟩ = some (.int .i64 e.id) ∧ W'.cell? ⟨p2, o2 + j * 8 + 1, none⟩ = some (.int .u8 e.m.pr) ∧ W'.cell? ⟨p2, o2 + j * 8 + 2, none⟩ = some (.int .u32 e.m.ttl) ∧ W'.cell? ⟨p2, o2 + j * 8 + 3, none⟩ = some (.int .u32 e.m.cnt) ∧ W'.cell? ⟨p2, o2 + j * 8 + 4, none⟩ = some (.string ⟨e.m.ids.toArray⟩) ∧ W'.cell? ⟨p2, o2 + j * 8 + 5, none⟩ = some (.slice A2 nb1 c2) := ⟨_, rfl⟩
            unfold itc at ha
            unfold eit ecs at hb
            rw [he, hv1] at ha
            rw [he2, hv2] at hb
            have s0 := ha 0 (.int .i64 e.id) rfl
            have s1 := ha 1 (.int .u8 e.m.pr) rfl
            have s2 := ha 2 (.int .u32 e.m.ttl) rfl
            have s3 := ha 3 (.int .u32 e.m.cnt) rfl
            have s4 := ha 4 (.string ⟨e.m.ids.toArray⟩) rfl
            have s5 := ha 5 (.slice A1 nb1 c1) rfl
            have t0 := hb 0 (.int .i64 e.id) rfl
            have t1 := hb 1 (.int .u8 e.m.pr) rfl
            have t2 := hb 2 (.int .u32 e.m.ttl) rfl
            have t3 := hb 3 (.int .u32 e.m.cnt) rfl
            have t4 := hb 4 (.string ⟨e.m.ids.toArray⟩) rfl
            have t5 := hb 5 (.slice A2 nb1 c2) rfl
            simp only [← Nat.add_assoc, Nat.add_zero] at s0 s1 s2 s3 s4 s5 t0 t1 t2 t3 t4 t5
            have hS : S wr.drew := by rw [hSd]; exact ⟨s0, s1, s2, s3, s4, s5, t0, t1, t2, t3, t4, t5⟩
            have hSk : ∀ A' W' : World, S A' → (∀ b o v, A'.cell? ⟨b, o, none⟩ = some v → W'.cell? ⟨b, o, none⟩ = some v) → S W' := fun A' W' h hk => by
              rw [hSd] at h ⊢
              obtain ⟨e0, e1, e2, e3, e4, e5, e6, e7, e8, e9, e10, e11⟩ := h
              exact ⟨hk _ _ _ e0, hk _ _ _ e1, hk _ _ _ e2, hk _ _ _ e3, hk _ _ _ e4, hk _ _ _ e5, hk _ _ _ e6, hk _ _ _ e7, hk _ _ _ e8, hk _ _ _ e9, hk _ _ _ e10, hk _ _ _ e11⟩
            have HSd := Lib.hid hSd
            have HSk := Lib.hid hSk
            have HNB1 := Lib.hid hnb1
            have HR1 := Lib.hid hr1'
            have HR2 := Lib.hid hr2'
            have HSS := Lib.hid hS
            clear hSd hSk hnb1 hr1' hr2' hv1 hv2 ha hb he he2 hS s0 s1 s2 s3 s4 s5 t0 t1 t2 t3 t4 t5
            go_wp2_with fail
            have hS := HSS.out
            refine (wpIn_wide (n := 0)).1 ?_
            refine s_region [] S (by kernel_rfl) ?_
            refine s_tk 0 rfl (by kernel_rfl) (by rfl) (by intro w' hw; rw [HSd.out] at hw; obtain ⟨h0, h1, h2, h3, h4, h5, h6, h7, h8, h9, h10, h11⟩ := hw; go_simp; try (with_reducible rfl)) hS ?_
            simp only [List.getElem_toArray, List.getElem_cons_succ, List.getElem_cons_zero, Act.put, List.setIfInBounds_toArray, List.set_cons_zero, List.set_cons_succ]
            refine s_tk 1 rfl (by kernel_rfl) (by rfl) (by intro w' hw; rw [HSd.out] at hw; obtain ⟨h0, h1, h2, h3, h4, h5, h6, h7, h8, h9, h10, h11⟩ := hw; go_simp; try (with_reducible rfl)) hS ?_
            simp only [List.getElem_toArray, List.getElem_cons_succ, List.getElem_cons_zero, Act.put, List.setIfInBounds_toArray, List.set_cons_zero, List.set_cons_succ]
            refine s_tk 2 rfl (by kernel_rfl) (by rfl) (by intro w' hw; rw [HSd.out] at hw; obtain ⟨h0, h1, h2, h3, h4, h5, h6, h7, h8, h9, h10, h11⟩ := hw; go_simp; try (with_reducible rfl)) hS ?_
            simp only [List.getElem_toArray, List.getElem_cons_succ, List.getElem_cons_zero, Act.put, List.setIfInBounds_toArray, List.set_cons_zero, List.set_cons_succ]
            refine s_tk 3 rfl (by kernel_rfl) (by rfl) (by intro w' hw; rw [HSd.out] at hw; obtain ⟨h0, h1, h2, h3, h4, h5, h6, h7, h8, h9, h10, h11⟩ := hw; go_simp; try (with_reducible rfl)) hS ?_
            simp only [List.getElem_toArray, List.getElem_cons_succ, List.getElem_cons_zero, Act.put, List.setIfInBounds_toArray, List.set_cons_zero, List.set_cons_succ]
            refine s_tk 4 rfl (by kernel_rfl) (by rfl) (by intro w' hw; rw [HSd.out] at hw; obtain ⟨h0, h1, h2, h3, h4, h5, h6, h7, h8, h9, h10, h11⟩ := hw; go_simp; try (with_reducible rfl)) hS ?_
            simp only [List.getElem_toArray, List.getElem_cons_succ, List.getElem_cons_zero, Act.put, List.setIfInBounds_toArray, List.set_cons_zero, List.set_cons_succ]
            refine s_tk 5 rfl (by kernel_rfl) (by rfl) (by intro w' hw; rw [HSd.out] at hw; obtain ⟨h0, h1, h2, h3, h4, h5, h6, h7, h8, h9, h10, h11⟩ := hw; go_simp; try (with_reducible rfl)) hS ?_
            simp only [List.getElem_toArray, List.getElem_cons_succ, List.getElem_cons_zero, Act.put, List.setIfInBounds_toArray, List.set_cons_zero, List.set_cons_succ]
            refine s_tk 6 rfl (by kernel_rfl) (by rfl) (by intro w' hw; rw [HSd.out] at hw; obtain ⟨h0, h1, h2, h3, h4, h5, h6, h7, h8, h9, h10, h11⟩ := hw; go_simp; try (with_reducible rfl)) hS ?_
            simp only [List.getElem_toArray, List.getElem_cons_succ, List.getElem_cons_zero, Act.put, List.setIfInBounds_toArray, List.set_cons_zero, List.set_cons_succ]
            refine s_tk 7 rfl (by kernel_rfl) (by rfl) (by intro w' hw; rw [HSd.out] at hw; obtain ⟨h0, h1, h2, h3, h4, h5, h6, h7, h8, h9, h10, h11⟩ := hw; go_simp; try (with_reducible rfl)) hS ?_
            simp only [List.getElem_toArray, List.getElem_cons_succ, List.getElem_cons_zero, Act.put, List.setIfInBounds_toArray, List.set_cons_zero, List.set_cons_succ]
            refine s_tk 8 rfl (by kernel_rfl) (by rfl) (by intro w' hw; rw [HSd.out] at hw; obtain ⟨h0, h1, h2, h3, h4, h5, h6, h7, h8, h9, h10, h11⟩ := hw; go_simp; try (with_reducible rfl)) hS ?_
            simp only [List.getElem_toArray, List.getElem_cons_succ, List.getElem_cons_zero, Act.put, List.setIfInBounds_toArray, List.set_cons_zero, List.set_cons_succ]
            refine s_tk 9 rfl (by kernel_rfl) (by rfl) (by intro w' hw; rw [HSd.out] at hw; obtain ⟨h0, h1, h2, h3, h4, h5, h6, h7, h8, h9, h10, h11⟩ := hw; go_simp; try (with_reducible rfl)) hS ?_
            simp only [List.getElem_toArray, List.getElem_cons_succ, List.getElem_cons_zero, Act.put, List.setIfInBounds_toArray, List.set_cons_zero, List.set_cons_succ]
            refine s_tk 10 rfl (by kernel_rfl) (by rfl) (by intro w' hw; rw [HSd.out] at hw; obtain ⟨h0, h1, h2, h3, h4, h5, h6, h7, h8, h9, h10, h11⟩ := hw; go_simp; try (with_reducible rfl)) hS ?_
            simp only [List.getElem_toArray, List.getElem_cons_succ, List.getElem_cons_zero, Act.put, List.setIfInBounds_toArray, List.set_cons_zero, List.set_cons_succ]
            refine s_tk 11 rfl (by kernel_rfl) (by rfl) (by intro w' hw; rw [HSd.out] at hw; obtain ⟨h0, h1, h2, h3, h4, h5, h6, h7, h8, h9, h10, h11⟩ := hw; go_simp; try (with_reducible rfl)) hS ?_
            simp only [List.getElem_toArray, List.getElem_cons_succ, List.getElem_cons_zero, Act.put, List.setIfInBounds_toArray, List.set_cons_zero, List.set_cons_succ]
            refine s_tk 12 rfl (by kernel_rfl) (by rfl) (by intro w' hw; rw [HSd.out] at hw; obtain ⟨h0, h1, h2, h3, h4, h5, h6, h7, h8, h9, h10, h11⟩ := hw; go_simp; try (with_reducible rfl)) hS ?_
            simp only [List.getElem_toArray, List.getElem_cons_succ, List.getElem_cons_zero, Act.put, List.setIfInBounds_toArray, List.set_cons_zero, List.set_cons_succ]
            refine s_tk 13 rfl (by kernel_rfl) (by rfl) (by intro w' hw; rw [HSd.out] at hw; obtain ⟨h0, h1, h2, h3, h4, h5, h6, h7, h8, h9, h10, h11⟩ := hw; go_simp; try (with_reducible rfl)) hS ?_
            simp only [List.getElem_toArray, List.getElem_cons_succ, List.getElem_cons_zero, Act.put, List.setIfInBounds_toArray, List.set_cons_zero, List.set_cons_succ]
            refine s_tk 14 rfl (by kernel_rfl) (by rfl) (by intro w' hw; rw [HSd.out] at hw; obtain ⟨h0, h1, h2, h3, h4, h5, h6, h7, h8, h9, h10, h11⟩ := hw; go_simp; try (with_reducible rfl)) hS ?_
            simp only [List.getElem_toArray, List.getElem_cons_succ, List.getElem_cons_zero, Act.put, List.setIfInBounds_toArray, List.set_cons_zero, List.set_cons_succ]
            refine s_tk 15 rfl (by kernel_rfl) (by rfl) (by intro w' hw; rw [HSd.out] at hw; obtain ⟨h0, h1, h2, h3, h4, h5, h6, h7, h8, h9, h10, h11⟩ := hw; go_simp; try (with_reducible rfl)) hS ?_
            simp only [List.getElem_toArray, List.getElem_cons_succ, List.getElem_cons_zero, Act.put, List.setIfInBounds_toArray, List.set_cons_zero, List.set_cons_succ]
            refine s_tk 16 rfl (by kernel_rfl) (by rfl) (by intro w' hw; rw [HSd.out] at hw; obtain ⟨h0, h1, h2, h3, h4, h5, h6, h7, h8, h9, h10, h11⟩ := hw; go_simp; try (with_reducible rfl)) hS ?_
            simp only [List.getElem_toArray, List.getElem_cons_succ, List.getElem_cons_zero, Act.put, List.setIfInBounds_toArray, List.set_cons_zero, List.set_cons_succ]
            refine s_tk 17 rfl (by kernel_rfl) (by rfl) (by intro w' hw; rw [HSd.out] at hw; obtain ⟨h0, h1, h2, h3, h4, h5, h6, h7, h8, h9, h10, h11⟩ := hw; go_simp; try (with_reducible rfl)) hS ?_
            simp only [List.getElem_toArray, List.getElem_cons_succ, List.getElem_cons_zero, Act.put, List.setIfInBounds_toArray, List.set_cons_zero, List.set_cons_succ]
            refine s_tk 18 rfl (by kernel_rfl) (by rfl) (by intro w' hw; rw [HSd.out] at hw; obtain ⟨h0, h1, h2, h3, h4, h5, h6, h7, h8, h9, h10, h11⟩ := hw; go_simp; try (with_reducible rfl)) hS ?_
            simp only [List.getElem_toArray, List.getElem_cons_succ, List.getElem_cons_zero, Act.put, List.setIfInBounds_toArray, List.set_cons_zero, List.set_cons_succ]
            refine s_tk 19 rfl (by kernel_rfl) (by rfl) (by intro w' hw; rw [HSd.out] at hw; obtain ⟨h0, h1, h2, h3, h4, h5, h6, h7, h8, h9, h10, h11⟩ := hw; go_simp; try (with_reducible rfl)) hS ?_
            simp only [List.getElem_toArray, List.getElem_cons_succ, List.getElem_cons_zero, Act.put, List.setIfInBounds_toArray, List.set_cons_zero, List.set_cons_succ]
            refine s_tk 20 rfl (by kernel_rfl) (by rfl) (by intro w' hw; rw [HSd.out] at hw; obtain ⟨h0, h1, h2, h3, h4, h5, h6, h7, h8, h9, h10, h11⟩ := hw; go_simp; try (with_reducible rfl)) hS ?_
            simp only [List.getElem_toArray, List.getElem_cons_succ, List.getElem_cons_zero, Act.put, List.setIfInBounds_toArray, List.set_cons_zero, List.set_cons_succ]
            refine s_tk 21 rfl (by kernel_rfl) (by rfl) (by intro w' hw; rw [HSd.out] at hw; obtain ⟨h0, h1, h2, h3, h4, h5, h6, h7, h8, h9, h10, h11⟩ := hw; go_simp; try (with_reducible rfl)) hS ?_
            simp only [List.getElem_toArray, List.getElem_cons_succ, List.getElem_cons_zero, Act.put, List.setIfInBounds_toArray, List.set_cons_zero, List.set_cons_succ]
            refine s_one 22 (by kernel_rfl) rfl (by rfl) (fun K hK => ?_)
            go_simp
            have hcl := rsame_calls (w := wr.drew) e.m A1 A2 c1 c2 nb1 HNB1.out HR1.out HR2.out
            rw [mgv_eq, mgv_eq] at hcl
            refine ⟨trivial, rfl, (callsIn_wide.2 hcl).mono ?_⟩
            rintro x w8 ⟨rfl, b8⟩
            have hS1 := HSk.out _ _ hS fun b o v h => stays_ b8 h
            refine hK.out _ _ (fun _ => hS1) ?_
            clear hK K hS hcl HSS
            have hS := hS1
            clear hS1
            have B8 := Lib.hid (below_then HB7.out HB7.out.size (below_of_drew b8))
            clear b8
            refine s_tk 23 rfl (by kernel_rfl) (by rfl) (by intro w' hw; rw [HSd.out] at hw; obtain ⟨h0, h1, h2, h3, h4, h5, h6, h7, h8, h9, h10, h11⟩ := hw; go_simp; try (with_reducible rfl)) hS ?_
            simp only [List.getElem_toArray, List.getElem_cons_succ, List.getElem_cons_zero, Act.put, List.setIfInBounds_toArray, List.set_cons_zero, List.set_cons_succ]
            refine s_tk 24 rfl (by kernel_rfl) (by rfl) (by intro w' hw; rw [HSd.out] at hw; obtain ⟨h0, h1, h2, h3, h4, h5, h6, h7, h8, h9, h10, h11⟩ := hw; go_simp; try (with_reducible rfl)) hS ?_
            simp only [List.getElem_toArray, List.getElem_cons_succ, List.getElem_cons_zero, Act.put, List.setIfInBounds_toArray, List.set_cons_zero, List.set_cons_succ]
            refine s_done (by kernel_rfl) ?_ _
            go_wp2_with fail
            exact ⟨⟨j + 1, by omega, by go_num, B8.out⟩, by simp [intOf]; omega⟩
          · obtain rfl : j = na := by omega
            have HQ8 := Lib.hid (HQ7.out.below HB7.out)
            have HR8 := Lib.hid (HR7.out.below (fun k hk => (HQ7.out.zs k hk).2) HB7.out)
            clear HQ7 HR7
            go_wp2_with fail
            refine (qf_len HQ8.out).mono ?_
            rintro x w9 ⟨rfl, b9⟩
            have HQ9 := Lib.hid (HQ8.out.below b9)
            have HR9 := Lib.hid (HR8.out.below (fun k hk => (HQ8.out.zs k hk).2) b9)
            clear b9 HQ8 HR8
            obtain ⟨z1, hz1⟩ : ∃ z1, (ordQ false L').length = z1 := ⟨_, rfl⟩
            obtain ⟨z2, hz2⟩ : ∃ z2, (ordQ true L').length = z2 := ⟨_, rfl⟩
            rw [hz1, hz2]
            have HZ1 := Lib.hid hz1
            have HZ2 := Lib.hid hz2
            clear hz1 hz2
            go_wp2_with fail
            refine (rlen_calls HR9.out).mono ?_
            rintro x w10 ⟨rfl, b10⟩
            have HQ10 := Lib.hid (HQ9.out.below b10)
            have HR10 := Lib.hid (HR9.out.below (fun k hk => (HQ9.out.zs k hk).2) b10)
            clear b10 HQ9 HR9
            rw [HZ1.out, HZ2.out]
            go_wp2_with fail
            exact ⟨⟨k + 1, last', Z', L', by omega, by go_num, hlast', Lib.hid ⟨HQ10.out, HR10.out⟩⟩, by simp [intOf]; omega⟩
      · obtain rfl : k = n := by omega
        go_wp2_with fail
        refine (works_calls _).mono ?_
        rintro e w6 ⟨rfl, b6⟩
        have B6 := Lib.hid b6
        clear b6
        go_wp2_with fail
        go_ret
        exact ⟨rfl, below_then HI.out.1.old HI.out.1.old.size B6.out⟩
  · have hok : okNew x0 x1 = false := by simpa using hok
    have HOK := Lib.hid hok
    clear hok w0 w1
    go_enter Try.func5, Try.ntmps5
    go_wp2_with fail
    refine (HV.out false HVV.out).mono ?_
    rintro e w2 ⟨rfl, rfl⟩
    go_wp2_with fail
    refine (HB.out w HOK.out).mono ?_
    rintro e w2 ⟨rfl, rfl⟩
    go_wp2_with fail
    refine (HO.out w).mono ?_
    rintro e w4 hx
    rcases hx with ⟨-, rfl, rfl⟩ | ⟨hx, -⟩
    · go_wp2_with fail
      refine (works_calls _).mono ?_
      rintro e w6 ⟨rfl, b6⟩
      have B6 := Lib.hid b6
      clear b6
      go_wp2_with fail
      go_ret
      exact ⟨rfl, B6.out⟩
    · rw [HOK.out] at hx; cases hx
end Go.Proofs.Ytkoihcfdchcgdaa

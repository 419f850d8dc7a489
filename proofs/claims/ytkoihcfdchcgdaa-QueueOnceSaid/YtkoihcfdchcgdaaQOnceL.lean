import Derived.Test.YtkoihcfdchcgdaaQOnceM
import Derived.Deep.DeepCutAuto
import Derived.Deep.CutBlock
set_option linter.unusedVariables false
set_option linter.unusedSimpArgs false
namespace Go.Proofs.Ytkoihcfdchcgdaa
open Go.RowKit Go.Shelf

theorem vast_no2 {l : List OpD} (h : vastL l = false) : l.length ≤ 150 ∧ ∀ d ∈ l, d.x.m.body.length ≤ 4096 := by
  unfold vastL at h
  simp only [Bool.or_eq_false_iff, decide_eq_false_iff_not, Nat.not_lt] at h
  refine ⟨h.1, fun d hd => ?_⟩
  have h2 := h.2
  rw [List.any_eq_false] at h2
  have h3 := h2 d hd
  unfold vastD at h3
  simp only [Bool.or_eq_true, decide_eq_true_eq, not_or, Nat.not_lt] at h3
  exact h3.1
theorem step_last2 (room limit last : Nat) (L : List En) (x : QOp) : (stepQ room limit last L x).2.1 ≤ last + 1 := by
  unfold stepQ
  split
  · split
    · simp
    · split <;> simp
  · split
    · cases acqQ L x.now <;> simp
    · split
      · simp
      · split <;> simp

theorem bx_ne_map {W : World} {b r : Nat} {t : TypeId} {cs : List Value} {D : List (Nat × Value)} (h : Bx W b t cs) (hm : MapS ki W r D) : b ≠ r := by
  rintro rfl
  obtain ⟨_, es, clock, hr, _⟩ := hm
  have h1 : W.heap[b]? = _ := h
  rw [h1] at hr
  cases hr
theorem nodup_take {l : List Nat} (h : l.Nodup) {j : Nat} (hj : j < l.length) : l[j] ∉ l.take j := by
  intro hm
  obtain ⟨i, hi, he⟩ := List.mem_iff_getElem.1 hm
  rw [List.getElem_take] at he
  have h1 := (List.getElem_inj h).1 he
  rw [List.length_take] at hi
  omega
theorem ms_one {ms : List (Mg × Value)} {m : Mg} (h : ms.map (·.1) = [m]) : ∃ v, ms = [(m, v)] := by
  match ms, h with
  | [(a, v)], h => simp at h; subst h; exact ⟨v, rfl⟩

set_option maxRecDepth 100000 in
set_option maxHeartbeats 16000000 in
theorem once_row {w : World} (x0 : Int) (w0 : (Lit.int .u8 x0).wf = true) (x1 : Int) (w1 : (Lit.int .u8 x1).wf = true) (A : Option Addr) (c : Nat) (l : List OpD) (h : RdO w A c l) :
    Calls Try.prog 6 #[.int .u8 x0, .int .u8 x1, .slice A l.length c] w fun e w' => e = .returned (.bool true) ∧ Below w.heap.size w w' := by
  have b0' := wf_u8 w0
  have b1' := wf_u8 w1
  have HD := Lib.hid h.2
  have hr := h.1
  have hlc := hr.2.1
  have hmx := hr.2.2.1
  obtain ⟨n, hn⟩ : ∃ n, l.length = n := ⟨_, rfl⟩
  have HV := Lib.hid (fun b hb => vast_any A l.length c l b hb w hr)
  rw [hn] at hr hlc HV ⊢
  have HR := Lib.hid hr
  have HN := Lib.hid hn
  clear h hr hn w0 w1
  cases hvast : vastL l with
  | true =>
    have HVV := Lib.hid hvast
    clear hvast
    go_enter Try.func6, Try.ntmps6
    go_wp2_with fail
    refine (HV.out true HVV.out).mono ?_
    rintro e w2 ⟨rfl, rfl⟩
    go_wp2_with fail
    refine (works_calls _).mono ?_
    rintro e w6 ⟨rfl, b6⟩
    have B6 := Lib.hid b6
    clear b6
    go_wp2_with fail
    go_ret
    exact ⟨rfl, B6.out⟩
  | false =>
    have hv2 := vast_no2 hvast
    rw [HN.out] at hv2
    have hn150 := hv2.1
    have HBL := Lib.hid hv2.2
    have HVV := Lib.hid hvast
    clear hvast hv2
    obtain ⟨p, hp1, hp2⟩ : ∃ p : Nat, x0 % 64 = (p : Int) ∧ p < 64 := ⟨(x0 % 64).toNat, by omega, by omega⟩
    obtain ⟨limit, rfl⟩ : ∃ k : Nat, x1 = k := ⟨x1.toNat, by omega⟩
    have hl1 : limit ≤ 1000 := by omega
    go_enter Try.func6, Try.ntmps6
    go_wp2_with fail
    refine (HV.out false HVV.out).mono ?_
    rintro e w2 ⟨rfl, rfl⟩
    go_wp2_with fail
    obtain ⟨room, hroom, hr1, hr2⟩ : ∃ room : Nat, (1 : Int) + p = (room : Int) ∧ 1 ≤ room ∧ room ≤ 64 := ⟨1 + p, by omega, by omega, by omega⟩
    try rw [hroom]
    refine (qf_new room limit (Below.refl _ w) hr1 hr2 hl1).mono ?_
    rintro e w3 ⟨rfl, hq, -⟩
    have HQ := Lib.hid hq
    clear hq hp1 hp2 hroom b0' b1'
    obtain ⟨q, hqd⟩ : ∃ q, w.heap.size = q := ⟨_, rfl⟩
    rw [hqd] at HQ ⊢
    clear hqd
    have hmm := @run_makeMap Try.prog
    go_wp2_with fail
    clear hmm
    obtain ⟨r1, hr1d⟩ : ∃ r, w3.heap.size = r := ⟨_, rfl⟩
    have HI := Lib.hid (show OI w (((w3.alloc (.map #[] 0)).alloc (.map #[] 0)).alloc (.map #[] 0)) q room limit 0 [] r1 (r1 + 1) (r1 + 1 + 1) 0 0 by
      subst hr1d
      have hq3 := ((HQ.out.alloc (.map #[] 0)).alloc (.map #[] 0)).alloc (.map #[] 0)
      have e1 : (w3.alloc (.map #[] 0)).heap.size = w3.heap.size + 1 := by simp
      have e2 : ((w3.alloc (.map #[] 0)).alloc (.map #[] 0)).heap.size = w3.heap.size + 1 + 1 := by simp
      rw [e1, e2] at hq3
      refine ⟨_, [], [], [], _, _, hq3, ⟨?_, ?_, ?_, by simp, by simp, by simp, by omega, by omega, by omega, fun i h1 h2 => absurd h1 (by omega)⟩, OP.new⟩
      · exact (MapS.made w3).keep (by rw [heap_alloc_old _ _ (by simp; omega), heap_alloc_old _ _ (by simp)])
      · have h1 : MapS ki _ (w3.alloc (.map #[] 0)).heap.size ([] : List (Nat × Value)) := MapS.made (w3.alloc (.map #[] 0))
        rw [e1] at h1
        exact h1.keep (by rw [heap_alloc_old _ _ (by simp)])
      · have h1 : MapS ki _ ((w3.alloc (.map #[] 0)).alloc (.map #[] 0)).heap.size ([] : List (Nat × Value)) := MapS.made ((w3.alloc (.map #[] 0)).alloc (.map #[] 0))
        rw [e2] at h1
        exact h1)
    rw [hr1d]
    clear hr1d
    go_loopw [13, 14, 15] (fun dd dn i wr => ∃ (k last dead done : Nat) (L : List En), k ≤ n ∧ i = .int .i64 k ∧ dd = .int .i64 dead ∧ dn = .int .i64 done ∧ last ≤ k ∧ dead ≤ 1000 ∧ done ≤ 1000 ∧ Hid (OI w wr q room limit last L r1 (r1 + 1) (r1 + 1 + 1) dead done)) (fun _ _ i _ => n - (intOf i).toNat)
    case atStart => exact ⟨0, 0, 0, 0, [], by omega, rfl, rfl, rfl, by omega, by omega, by omega, HI⟩
    case round =>
      obtain ⟨k, last, dead, done, L, hk, rfl, rfl, rfl, hlast, hdd, hdn, HOI⟩ := hrel
      by_cases hkn : k < n
      · have hkn' : (k : Int) < n := by omega
        have hkl : k < l.length := by rw [HN.out]; exact hkn
        obtain ⟨b0, o0, hA, hcw⟩ := flat_cells opd 12 (by decide) opd_length HR.out k hkl
        subst hA
        obtain ⟨d, hd⟩ : ∃ d, l[k] = d := ⟨_, rfl⟩
        have hmem : d ∈ l := by rw [← hd]; exact List.getElem_mem _
        rw [hd] at hcw
        have hb0 : b0 < w.heap.size := World.block_lt_of_cell? _ _ (hcw 0 _ rfl)
        have hbl := HBL.out d hmem
        have HDK := Lib.hid (HD.out d hmem)
        obtain ⟨nb, hnb⟩ : ∃ nb, d.x.m.body.length = nb := ⟨_, rfl⟩
        have hopd : (opd d).toArray = #[.int .i64 d.x.kind, .int .i64 d.x.id, .int .u8 d.x.m.pr, .int .u32 d.x.m.ttl, .int .u32 d.x.m.cnt, .string ⟨d.x.m.ids.toArray⟩, .slice d.A nb d.c, .int .u8 d.x.o.k, .int .u64 d.x.o.a, .int .u64 d.x.o.b, .string ⟨d.x.o.c.toArray⟩, .int .i64 d.x.now] := by unfold opd opc str; rw [hnb]
        have HOPD := Lib.hid hopd
        obtain ⟨S, hSd⟩ : ∃ S : World → Prop, S = fun W' : World => W'.cell? ⟨b0, o0 + k * 12, none⟩ = some (.int .i64 d.x.kind) ∧ W'.cell? ⟨b0, o0 + k * 12 + 1, none⟩ = some (.int .i64 d.x.id) ∧ W'.cell? ⟨b0, o0 + k * 12 + 2, none⟩ = some (.int .u8 d.x.m.pr) ∧ W'.cell? ⟨b0, o0 + k * 12 + 3, none⟩ = some (.int .u32 d.x.m.ttl) ∧ W'.cell? ⟨b0, o0 + k * 12 + 4, none⟩ = some (.int .u32 d.x.m.cnt) ∧ W'.cell? ⟨b0, o0 + k * 12 + 5, none⟩ = some (.string ⟨d.x.m.ids.toArray⟩) ∧ W'.cell? ⟨b0, o0 + k * 12 + 6, none⟩ = some (.slice d.A nb d.c) ∧ W'.cell? ⟨b0, o0 + k * 12 + 7, none⟩ = some (.int .u8 d.x.o.k) ∧ W'.cell? ⟨b0, o0 + k * 12 + 8, none⟩ = some (.int .u64 d.x.o.a) ∧ W'.cell? ⟨b0, o0 + k * 12 + 9, none⟩ = some (.int .u64 d.x.o.b) ∧ W'.cell? ⟨b0, o0 + k * 12 + 10, none⟩ = some (.string ⟨d.x.o.c.toArray⟩) ∧ W'.cell? ⟨b0, o0 + k * 12 + 11, none⟩ = some (.int .i64 d.x.now) := ⟨_, rfl⟩
        have hSw : ∀ W', Below w.heap.size w W' → S W' := fun W' hb => by
          have hcell := fun j u hj => stays hb (hcw j u hj) hb0
          have s0 := hcell 0 (.int .i64 d.x.kind) rfl
          have s1 := hcell 1 (.int .i64 d.x.id) rfl
          have s2 := hcell 2 (.int .u8 d.x.m.pr) rfl
          have s3 := hcell 3 (.int .u32 d.x.m.ttl) rfl
          have s4 := hcell 4 (.int .u32 d.x.m.cnt) rfl
          have s5 := hcell 5 (.string ⟨d.x.m.ids.toArray⟩) rfl
          have s6 := hcell 6 (.slice d.A nb d.c) (by rw [← hnb]; rfl)
          have s7 := hcell 7 (.int .u8 d.x.o.k) rfl
          have s8 := hcell 8 (.int .u64 d.x.o.a) rfl
          have s9 := hcell 9 (.int .u64 d.x.o.b) rfl
          have s10 := hcell 10 (.string ⟨d.x.o.c.toArray⟩) rfl
          have s11 := hcell 11 (.int .i64 d.x.now) rfl
          simp only [← Nat.add_assoc, Nat.add_zero] at s0 s1 s2 s3 s4 s5 s6 s7 s8 s9 s10 s11
          rw [hSd]
          exact ⟨s0, s1, s2, s3, s4, s5, s6, s7, s8, s9, s10, s11⟩
        have HSd := Lib.hid hSd
        have HSw := Lib.hid hSw
        have HNB := Lib.hid hnb
        clear hcw hd hmem hopd hSd hSw hnb
        obtain ⟨Z, D1, D2, D3, M, V, hq, hm, hp⟩ := HOI.out
        have hS := HSw.out _ hq.old
        rw [HSd.out] at hS
        obtain ⟨s0, s1, s2, s3, s4, s5, s6, s7, s8, s9, s10, s11⟩ := hS
        have HQ0 := Lib.hid hq
        have HM0 := Lib.hid hm
        have HP := Lib.hid hp
        clear hq hm hp HOI
        go_wp2_with fail
        have hcl := qf_does HQ0.out d (HDK.out.below HQ0.out.old) hbl (by omega)
        rw [HOPD.out] at hcl
        refine hcl.mono ?_
        rintro x w4 ⟨ht, ⟨v1, rfl⟩, hq, hkz⟩
        have HM1 := Lib.hid (HM0.out.kz hkz)
        have HQ1 := Lib.hid hq
        have HWF := Lib.hid HQ0.out.wf
        have HSZ := Lib.hid (show wr.heap.size ≤ w4.heap.size from hkz.size)
        obtain ⟨sv, ms, rfl, hms, hmst⟩ := ht
        have HMS := Lib.hid hms
        have HMT := Lib.hid hmst
        have HST := Lib.hid (step_last2 room limit last L d.x)
        have hS := HSw.out _ hq.old
        rw [HSd.out] at hS
        clear s0 s1 s2 s3 s4 s5 s6 s7 s8 s9 s10 s11
        obtain ⟨s0, s1, s2, s3, s4, s5, s6, s7, s8, s9, s10, s11⟩ := hS
        clear hcl hq hkz hms hmst HQ0 HM0
        obtain ⟨A1, c1, hsv⟩ := HMS.out.1.slice
        obtain ⟨nm, hnm⟩ : ∃ nm, ms.length = nm := ⟨_, rfl⟩
        rw [hnm] at hsv
        subst hsv
        have HNM := Lib.hid hnm
        clear hnm
        obtain ⟨T, hT⟩ : ∃ T, (stepQ room limit last L d.x).2.2 = T := ⟨_, rfl⟩
        obtain ⟨L', hL'⟩ : ∃ L', (stepQ room limit last L d.x).1 = L' := ⟨_, rfl⟩
        obtain ⟨last', hl'⟩ : ∃ last', (stepQ room limit last L d.x).2.1 = last' := ⟨_, rfl⟩
        rw [hL', hl'] at HQ1
        rw [hl'] at HST
        rw [hT] at HMT ⊢
        have hlast' : last' ≤ k + 1 := by have := HST.out; omega
        have HT := Lib.hid hT
        have HL' := Lib.hid hL'
        have Hl' := Lib.hid hl'
        clear hT hL' hl' HST
        have hb4 : b0 < w4.heap.size := by have := HQ1.out.old.size; omega
        unfold tdc
        go_upto_block 2 with (fail)
        obtain ⟨g16, hg16⟩ : ∃ g, w4.heap.size = g := ⟨_, rfl⟩
        rw [hg16]
        refine forget (fun W => Bx W g16 54 (tdc T.n (.slice A1 nm c1) T.is T.e) ∧ Below w4.heap.size w4 W) ⟨Bx.new' w4 54 _ hg16.symm, below_alloc w4 _⟩ ?_
        rintro W ⟨hbx, hb4W⟩
        have HB := Lib.hid hbx
        have HQ2 := Lib.hid (HQ1.out.below hb4W)
        have HM2 := Lib.hid (om_below HQ1.out HM1.out hb4W)
        have HMS2 := Lib.hid (HMS.out.tch (Tch.of_below [] hb4W) (by simp))
        have hgW : g16 < W.heap.size := hbx.lt
        have hS := HSw.out _ HQ2.out.old
        rw [HSd.out] at hS
        clear s0 s1 s2 s3 s4 s5 s6 s7 s8 s9 s10 s11 hbx hb4W HQ1 HM1 HMS hg16
        obtain ⟨s0, s1, s2, s3, s4, s5, s6, s7, s8, s9, s10, s11⟩ := hS
        have hb4' : b0 < W.heap.size := by have := HQ2.out.old.size; omega
        obtain ⟨KI, hKI⟩ : ∃ K, d.x.kind = K := ⟨_, rfl⟩
        obtain ⟨ID, hID⟩ : ∃ K, d.x.id = K := ⟨_, rfl⟩
        obtain ⟨OK, hOK⟩ : ∃ K, d.x.o.k = K := ⟨_, rfl⟩
        rw [hKI] at s0
        rw [hID] at s1
        rw [hOK] at s7
        rw [hKI, hID, hOK]
        have HKI := Lib.hid hKI
        have HID := Lib.hid hID
        have HOK := Lib.hid hOK
        clear hKI hID hOK
        go_cut [13, 14] (fun dd dn wc => ∃ dead' done' : Nat, dd = .int .i64 dead' ∧ dn = .int .i64 done' ∧ Hid (OI w wc q room limit last' L' r1 (r1 + 1) (r1 + 1 + 1) dead' done'))
        case first =>
          by_cases h0 : d.x.kind = 0
          · by_cases hb : okMg d.x.m = false
            · as_aux_lemma =>
                have hs : stepQ room limit last L d.x = (L, last, ⟨0, [], false, 1⟩) := by unfold stepQ; rw [if_pos h0, if_pos hb]
                have hT := HT.out
                have hL := HL'.out
                have hl := Hl'.out
                rw [hs] at hT hL hl
                simp only at hT hL hl
                subst hT hL hl
                obtain rfl : KI = 0 := by rw [← HKI.out]; exact h0
                have x0 : W.cell? ⟨g16, 0, none⟩ = some (.int .i64 0) := HB.out.cell 0 _ rfl
                have x1 : W.cell? ⟨g16, 1, none⟩ = some (.slice A1 nm c1) := HB.out.cell 1 _ rfl
                have x2 : W.cell? ⟨g16, 2, none⟩ = some (.bool false) := HB.out.cell 2 _ rfl
                have x3 : W.cell? ⟨g16, 3, none⟩ = some (.int .i64 1) := HB.out.cell 3 _ rfl
                have hlk : (Instr.lookup 67 (.map (some r1)) (.int .i64 0) true).run Try.prog W = .ok (.tuple #[.agg #[.int .u8 0, .int .u32 0, .int .u32 0, .string ⟨#[]⟩, .slice none 0 0], .bool false]) W := by
                  have h1 := HM2.out.was HP.out 0
                  rw [if_neg (by omega)] at h1
                  exact h1
                clear hs h0
                go_wp2_with fail
                go_meet
                refine ⟨dead, done, rfl, rfl, Lib.hid (oi_same HQ2.out HM2.out HP.out ?_)⟩
                exact below_alloc W _
            · have hb : okMg d.x.m = true := by simpa using hb
              by_cases hr : L.length = room
              · as_aux_lemma =>
                  have hs : stepQ room limit last L d.x = (L, last, ⟨0, [], false, 4⟩) := by unfold stepQ; rw [if_pos h0, if_neg (by simp [hb]), if_pos hr]
                  have hT := HT.out
                  have hL := HL'.out
                  have hl := Hl'.out
                  rw [hs] at hT hL hl
                  simp only at hT hL hl
                  subst hT hL hl
                  obtain rfl : KI = 0 := by rw [← HKI.out]; exact h0
                  have x0 : W.cell? ⟨g16, 0, none⟩ = some (.int .i64 0) := HB.out.cell 0 _ rfl
                  have x1 : W.cell? ⟨g16, 1, none⟩ = some (.slice A1 nm c1) := HB.out.cell 1 _ rfl
                  have x2 : W.cell? ⟨g16, 2, none⟩ = some (.bool false) := HB.out.cell 2 _ rfl
                  have x3 : W.cell? ⟨g16, 3, none⟩ = some (.int .i64 4) := HB.out.cell 3 _ rfl
                  have hlk : (Instr.lookup 67 (.map (some r1)) (.int .i64 0) true).run Try.prog W = .ok (.tuple #[.agg #[.int .u8 0, .int .u32 0, .int .u32 0, .string ⟨#[]⟩, .slice none 0 0], .bool false]) W := by
                    have h1 := HM2.out.was HP.out 0
                    rw [if_neg (by omega)] at h1
                    exact h1
                  clear hs h0
                  go_wp2_with fail
                  go_meet
                  refine ⟨dead, done, rfl, rfl, Lib.hid (oi_same HQ2.out HM2.out HP.out ?_)⟩
                  exact below_alloc W _
              · as_aux_lemma =>
                  have hs : stepQ room limit last L d.x = (L ++ [newE last d.x.m d.x.now], last + 1, ⟨last + 1, [], false, 0⟩) := by unfold stepQ; rw [if_pos h0, if_neg (by simp [hb]), if_neg hr]
                  have hT := HT.out
                  have hL := HL'.out
                  have hl := Hl'.out
                  rw [hs] at hT hL hl
                  simp only at hT hL hl
                  subst hT hL hl
                  obtain rfl : KI = 0 := by rw [← HKI.out]; exact h0
                  have x0 : W.cell? ⟨g16, 0, none⟩ = some (.int .i64 ((last : Int) + 1)) := HB.out.cell 0 _ rfl
                  have x1 : W.cell? ⟨g16, 1, none⟩ = some (.slice A1 nm c1) := HB.out.cell 1 _ rfl
                  have x2 : W.cell? ⟨g16, 2, none⟩ = some (.bool false) := HB.out.cell 2 _ rfl
                  have x3 : W.cell? ⟨g16, 3, none⟩ = some (.int .i64 0) := HB.out.cell 3 _ rfl
                  have hlk : (Instr.lookup 67 (.map (some r1)) (.int .i64 ((last : Int) + 1)) true).run Try.prog W = .ok (.tuple #[.agg #[.int .u8 0, .int .u32 0, .int .u32 0, .string ⟨#[]⟩, .slice none 0 0], .bool false]) W := by
                    have h1 := HM2.out.was HP.out (last + 1)
                    rw [if_neg (by omega)] at h1
                    exact h1
                  have hlt : ¬ ((last : Int) + 1 < 1) := by omega
                  clear hs h0 hb hr
                  go_wp2_with fail
                  refine forget (fun W5 => Below W.heap.size W W5) (below_alloc W _) ?_
                  rintro W5 hb5
                  have B5 := Lib.hid hb5
                  have hS5 := HSw.out _ (HQ2.out.below hb5).old
                  have hx5 := stays hb5 x0 hgW
                  rw [HSd.out] at hS5
                  obtain ⟨S2, hSd2⟩ : ∃ S2 : World → Prop, S2 = fun W' : World => W'.cell? ⟨g16, 0, none⟩ = some (.int .i64 ((last : Int) + 1)) ∧ W'.cell? ⟨b0, o0 + k * 12 + 2, none⟩ = some (.int .u8 d.x.m.pr) ∧ W'.cell? ⟨b0, o0 + k * 12 + 3, none⟩ = some (.int .u32 d.x.m.ttl) ∧ W'.cell? ⟨b0, o0 + k * 12 + 4, none⟩ = some (.int .u32 d.x.m.cnt) ∧ W'.cell? ⟨b0, o0 + k * 12 + 5, none⟩ = some (.string ⟨d.x.m.ids.toArray⟩) ∧ W'.cell? ⟨b0, o0 + k * 12 + 6, none⟩ = some (.slice d.A nb d.c) := ⟨_, rfl⟩
                  have hS : S2 W5.drew := by
                    rw [hSd2]
                    exact ⟨hx5, hS5.2.2.1, hS5.2.2.2.1, hS5.2.2.2.2.1, hS5.2.2.2.2.2.1, hS5.2.2.2.2.2.2.1⟩
                  have hSk : ∀ A' W' : World, S2 A' → (∀ b o v, A'.cell? ⟨b, o, none⟩ = some v → W'.cell? ⟨b, o, none⟩ = some v) → S2 W' := fun A' W' h hk => by
                    rw [hSd2] at h ⊢
                    obtain ⟨e0, e1, e2, e3, e4, e5⟩ := h
                    exact ⟨hk _ _ _ e0, hk _ _ _ e1, hk _ _ _ e2, hk _ _ _ e3, hk _ _ _ e4, hk _ _ _ e5⟩
                  have HS2 := Lib.hid hSd2
                  have HSk := Lib.hid hSk
                  clear hb5 hS5 hx5 hSd2 hSk hlk
                  refine (wpIn_wide (n := 0)).1 ?_
                  refine s_region [9] S2 (by kernel_rfl) ?_
                  refine o_tk 0 rfl (by kernel_rfl) (by rfl) (by intro w' hw; rw [HS2.out] at hw; obtain ⟨h0, h1, h2, h3, h4, h5⟩ := hw; go_simp; try (with_reducible rfl)) hS ?_
                  simp only [List.getElem_toArray, List.getElem_cons_succ, List.getElem_cons_zero, Act.put, List.setIfInBounds_toArray, List.set_cons_zero, List.set_cons_succ]
                  refine o_tk 1 rfl (by kernel_rfl) (by rfl) (by intro w' hw; rw [HS2.out] at hw; obtain ⟨h0, h1, h2, h3, h4, h5⟩ := hw; go_simp; try (with_reducible rfl)) hS ?_
                  simp only [List.getElem_toArray, List.getElem_cons_succ, List.getElem_cons_zero, Act.put, List.setIfInBounds_toArray, List.set_cons_zero, List.set_cons_succ]
                  refine o_tk 2 rfl (by kernel_rfl) (by rfl) (by intro w' hw; rw [HS2.out] at hw; obtain ⟨h0, h1, h2, h3, h4, h5⟩ := hw; go_simp; try (with_reducible rfl)) hS ?_
                  simp only [List.getElem_toArray, List.getElem_cons_succ, List.getElem_cons_zero, Act.put, List.setIfInBounds_toArray, List.set_cons_zero, List.set_cons_succ]
                  refine o_tk 3 rfl (by kernel_rfl) (by rfl) (by intro w' hw; rw [HS2.out] at hw; obtain ⟨h0, h1, h2, h3, h4, h5⟩ := hw; go_simp; try (with_reducible rfl)) hS ?_
                  simp only [List.getElem_toArray, List.getElem_cons_succ, List.getElem_cons_zero, Act.put, List.setIfInBounds_toArray, List.set_cons_zero, List.set_cons_succ]
                  refine o_tk 4 rfl (by kernel_rfl) (by rfl) (by intro w' hw; rw [HS2.out] at hw; obtain ⟨h0, h1, h2, h3, h4, h5⟩ := hw; go_simp; try (with_reducible rfl)) hS ?_
                  simp only [List.getElem_toArray, List.getElem_cons_succ, List.getElem_cons_zero, Act.put, List.setIfInBounds_toArray, List.set_cons_zero, List.set_cons_succ]
                  refine o_tk 5 rfl (by kernel_rfl) (by rfl) (by intro w' hw; rw [HS2.out] at hw; obtain ⟨h0, h1, h2, h3, h4, h5⟩ := hw; go_simp; try (with_reducible rfl)) hS ?_
                  simp only [List.getElem_toArray, List.getElem_cons_succ, List.getElem_cons_zero, Act.put, List.setIfInBounds_toArray, List.set_cons_zero, List.set_cons_succ]
                  refine o_tk 6 rfl (by kernel_rfl) (by rfl) (by intro w' hw; rw [HS2.out] at hw; obtain ⟨h0, h1, h2, h3, h4, h5⟩ := hw; go_simp; try (with_reducible rfl)) hS ?_
                  simp only [List.getElem_toArray, List.getElem_cons_succ, List.getElem_cons_zero, Act.put, List.setIfInBounds_toArray, List.set_cons_zero, List.set_cons_succ]
                  refine o_tk 7 rfl (by kernel_rfl) (by rfl) (by intro w' hw; rw [HS2.out] at hw; obtain ⟨h0, h1, h2, h3, h4, h5⟩ := hw; go_simp; try (with_reducible rfl)) hS ?_
                  simp only [List.getElem_toArray, List.getElem_cons_succ, List.getElem_cons_zero, Act.put, List.setIfInBounds_toArray, List.set_cons_zero, List.set_cons_succ]
                  refine s_one 8 (by kernel_rfl) rfl (by rfl) (fun K hK => ?_)
                  go_simp
                  have hrd := HDK.out.rd.below (HQ2.out.below B5.out).old
                  have hcl := rcopy_calls (w := W5.drew) d.x.m d.A d.c nb HNB.out hrd (by have := HNB.out; omega)
                  rw [mgv_eq] at hcl
                  refine ⟨trivial, rfl, (callsIn_wide.2 hcl).mono ?_⟩
                  rintro x w6 ⟨v, rfl, o6, b6⟩
                  have hS6 := HSk.out _ _ hS fun b o v h => stays_ b6 h
                  refine hK.out _ _ (fun _ => hS6) ?_
                  clear hK K hcl
                  have B6 := Lib.hid (below_then B5.out B5.out.size (below_of_drew b6))
                  have O6 := Lib.hid (OwnB.base o6 (show W.heap.size ≤ W5.heap.size from B5.out.size))
                  have M6 := Lib.hid (om_below HQ2.out HM2.out B6.out)
                  clear o6 b6
                  refine s_one 9 (by kernel_rfl) rfl (by rfl) (fun K hK => ?_)
                  refine wpIn_mput (fun _ => trivial) _ _ _ _ rfl Try.underlying67 keyI r1 D1 rfl M6.out.m1 (last + 1) rfl (mgv d.x.m v) rfl ?_
                  intro w7 m7 t7
                  refine hK.out _ _ (fun h => absurd (by simp) h) ?_
                  clear hK K
                  refine s_done (by kernel_rfl) ?_ _
                  have M7 := Lib.hid m7
                  have T7 := Lib.hid t7
                  clear m7 t7 hS hS6
                  go_wp2_with fail
                  go_meet
                  exact ⟨dead, done, rfl, rfl, Lib.hid (oi_put HQ2.out HM2.out HP.out HWF.out.ids B6.out O6.out M7.out T7.out)⟩
          · by_cases h1 : d.x.kind = 1
            · cases hA : acqQ L d.x.now with
              | none =>
                as_aux_lemma =>
                  have hs : stepQ room limit last L d.x = (L, last, ⟨0, [zMg], false, 0⟩) := by unfold stepQ; rw [if_neg h0, if_pos h1, hA]
                  have hT := HT.out
                  have hL := HL'.out
                  have hl := Hl'.out
                  rw [hs] at hT hL hl
                  simp only at hT hL hl
                  subst hT hL hl
                  obtain rfl : KI = 1 := by rw [← HKI.out]; exact h1
                  have x0 : W.cell? ⟨g16, 0, none⟩ = some (.int .i64 0) := HB.out.cell 0 _ rfl
                  have x1 : W.cell? ⟨g16, 1, none⟩ = some (.slice A1 nm c1) := HB.out.cell 1 _ rfl
                  have x2 : W.cell? ⟨g16, 2, none⟩ = some (.bool false) := HB.out.cell 2 _ rfl
                  have x3 : W.cell? ⟨g16, 3, none⟩ = some (.int .i64 0) := HB.out.cell 3 _ rfl
                  clear hs h0
                  go_wp2_with fail
                  go_meet
                  exact ⟨dead, done, rfl, rfl, Lib.hid (oi_same HQ2.out HM2.out HP.out (Below.refl _ _))⟩
              | some e =>
                as_aux_lemma =>
                  have hs : stepQ room limit last L d.x = (modL (holdE e) L, last, ⟨e.id, [e.m], true, 0⟩) := by unfold stepQ; rw [if_neg h0, if_pos h1, hA]
                  have hT := HT.out
                  have hL := HL'.out
                  have hl := Hl'.out
                  rw [hs] at hT hL hl
                  simp only at hT hL hl
                  subst hT hL hl
                  obtain rfl : KI = 1 := by rw [← HKI.out]; exact h1
                  have x0 : W.cell? ⟨g16, 0, none⟩ = some (.int .i64 e.id) := HB.out.cell 0 _ rfl
                  have x1 : W.cell? ⟨g16, 1, none⟩ = some (.slice A1 nm c1) := HB.out.cell 1 _ rfl
                  have x2 : W.cell? ⟨g16, 2, none⟩ = some (.bool true) := HB.out.cell 2 _ rfl
                  have x3 : W.cell? ⟨g16, 3, none⟩ = some (.int .i64 0) := HB.out.cell 3 _ rfl
                  have he := acq_mem hA
                  have hids := HWF.out.ids e he.1
                  obtain ⟨p1', p2', p3', p4', p5'⟩ := HP.out.w2 e he.1
                  obtain ⟨hbd, hbz⟩ := HM2.out.bd e.id hids.1 hids.2
                  obtain ⟨A2, c2, hv2, hr2', -⟩ := hbd
                  obtain ⟨M0, hM0⟩ : ∃ M0, M e.id = M0 := ⟨_, rfl⟩
                  have hlk := HM2.out.was HP.out e.id
                  rw [if_pos hids, hv2, mgv_eq] at hlk
                  rw [hM0] at p1' p2' p3' p4' p5' hr2' hlk
                  rw [← p1'] at hr2' hlk
                  rw [← p2', ← p3', ← p4'] at hlk
                  obtain ⟨C0, hC0⟩ : ∃ C0, M0.cnt = C0 := ⟨_, rfl⟩
                  rw [hC0] at hlk p5'
                  obtain ⟨va, hms1⟩ := ms_one HMT.out
                  subst hms1
                  obtain rfl : nm = 1 := HNM.out.symm
                  obtain ⟨A3, c3, hva, hr3, -⟩ := HMS2.out.2 _ (List.mem_singleton.2 rfl)
                  simp only at hva hr3
                  subst hva
                  obtain ⟨A1', c1', hv1, hrd1⟩ := HMS2.out.1.rd
                  simp only [Value.slice.injEq] at hv1
                  obtain ⟨rfl, -, rfl⟩ := hv1
                  obtain ⟨pa, oa, hA1, hy⟩ := flat_cells (fun x : Mg × Value => mcs x.1 x.2) 5 (by decide) (fun _ => rfl) hrd1 0 (by simp)
                  clear hrd1
                  subst hA1
                  simp only [List.getElem_cons_zero, Nat.zero_mul, Nat.zero_add] at hy
                  obtain ⟨nbe, hnbe⟩ : ∃ nbe, e.m.body.length = nbe := ⟨_, rfl⟩
                  have HE := Lib.hid he
                  have HR2 := Lib.hid hr2'
                  have HR3 := Lib.hid hr3
                  have HY := Lib.hid hy
                  have HP5 := Lib.hid p5'
                  have HNE := Lib.hid hnbe
                  rw [hnbe] at hlk
                  have hh := map_no HM2.out.m2 e.id (HP.out.held_no he.1 he.2 HWF.out.sorted)
                  have hg := map_no HM2.out.m3 e.id (HP.out.gone_no he.1)
                  have HH := Lib.hid hh
                  have HGO := Lib.hid hg
                  clear hs h0 h1 hA he hids p1' p2' p3' p4' p5' hbz hv2 hr2' hM0 hC0 hr3 hy hnbe hh hg
                  go_wp2_with fail
                  obtain ⟨gb, hgb⟩ : ∃ gb, W.heap.size = gb := ⟨_, rfl⟩
                  rw [hgb]
                  refine forget (fun W5 => Below W.heap.size W W5 ∧ Bx W5 gb 32 [.int .u8 e.m.pr, .int .u32 e.m.ttl, .int .u32 C0, .string ⟨e.m.ids.toArray⟩, .slice A2 nbe c2]) ⟨below_alloc W _, Bx.new' W 32 _ hgb.symm⟩ ?_
                  rintro W5 ⟨hb5, hk5⟩
                  obtain ⟨Wd, hWd⟩ : ∃ Wd, Wd = W5.drew := ⟨_, rfl⟩
                  have B5 := Lib.hid (show Below W.heap.size W Wd by rw [hWd]; exact hb5.trans ((below_drew W5).mono hb5.size))
                  have hkd : Bx Wd gb 32 [.int .u8 e.m.pr, .int .u32 e.m.ttl, .int .u32 C0, .string ⟨e.m.ids.toArray⟩, .slice A2 nbe c2] := by rw [hWd]; exact hk5
                  have X0 := stays B5.out x0 hgW
                  have X1 := stays B5.out x1 hgW
                  have z0 := hkd.cell 0 _ rfl
                  have z1 := hkd.cell 1 _ rfl
                  have z2 := hkd.cell 2 _ rfl
                  have z3 := hkd.cell 3 _ rfl
                  have z4 := hkd.cell 4 _ rfl
                  have y0 := stays_ B5.out (HY.out 0 (.int .u8 e.m.pr) rfl)
                  have y1 := stays_ B5.out (HY.out 1 (.int .u32 e.m.ttl) rfl)
                  have y2 := stays_ B5.out (HY.out 2 (.int .u32 e.m.cnt) rfl)
                  have y3 := stays_ B5.out (HY.out 3 (.string ⟨e.m.ids.toArray⟩) rfl)
                  have y4 := stays_ B5.out (HY.out 4 (.slice A3 nbe c3) (by rw [← HNE.out]; rfl))
                  simp only [Nat.add_zero] at y0
                  have l2 := map_no (HM2.out.m2.tch (Tch.of_below [] B5.out) (by simp)) e.id (HP.out.held_no HE.out.1 HE.out.2 HWF.out.sorted)
                  have l3 := map_no (HM2.out.m3.tch (Tch.of_below [] B5.out) (by simp)) e.id (HP.out.gone_no HE.out.1)
                  have v1 := conv_bytes (HR3.out.below B5.out)
                  have v2 := conv_bytes (HR2.out.below B5.out)
                  rw [HNE.out] at v1 v2
                  unfold str at v1 v2
                  have hp5 := HP5.out
                  have hp5' : ¬ e.m.cnt < C0 := by omega
                  obtain ⟨S3, hSd3⟩ : ∃ S3 : World → Prop, S3 = fun W' : World => W' = Wd := ⟨_, rfl⟩
                  have hS : S3 Wd := by rw [hSd3]
                  have HS3 := Lib.hid hSd3
                  clear hSd3 hb5 hk5 hkd x0 x1 x2 x3 hlk hgb s0 s1 s2 s3 s4 s5 s6 s7 s8 s9 s10 s11
                  refine (wpIn_wide (n := 0)).1 ?_
                  refine s_region [] S3 (by kernel_rfl) ?_
                  rw [← hWd]
                  clear hWd
                  refine o_tk 0 rfl (by kernel_rfl) (by rfl) (by intro w' hw; rw [HS3.out] at hw; subst hw; go_simp; try (with_reducible rfl)) hS ?_
                  simp only [List.getElem_toArray, List.getElem_cons_succ, List.getElem_cons_zero, Act.put, List.setIfInBounds_toArray, List.set_cons_zero, List.set_cons_succ]
                  refine o_tk 1 rfl (by kernel_rfl) (by rfl) (by intro w' hw; rw [HS3.out] at hw; subst hw; go_simp; try (with_reducible rfl)) hS ?_
                  simp only [List.getElem_toArray, List.getElem_cons_succ, List.getElem_cons_zero, Act.put, List.setIfInBounds_toArray, List.set_cons_zero, List.set_cons_succ]
                  refine o_tk 2 rfl (by kernel_rfl) (by rfl) (by intro w' hw; rw [HS3.out] at hw; subst hw; go_simp; try (with_reducible rfl)) hS ?_
                  simp only [List.getElem_toArray, List.getElem_cons_succ, List.getElem_cons_zero, Act.put, List.setIfInBounds_toArray, List.set_cons_zero, List.set_cons_succ]
                  refine o_tk 3 rfl (by kernel_rfl) (by rfl) (by intro w' hw; rw [HS3.out] at hw; subst hw; go_simp; try (with_reducible rfl)) hS ?_
                  simp only [List.getElem_toArray, List.getElem_cons_succ, List.getElem_cons_zero, Act.put, List.setIfInBounds_toArray, List.set_cons_zero, List.set_cons_succ]
                  refine o_tk 4 rfl (by kernel_rfl) (by rfl) (by intro w' hw; rw [HS3.out] at hw; subst hw; go_simp; try (with_reducible rfl)) hS ?_
                  simp only [List.getElem_toArray, List.getElem_cons_succ, List.getElem_cons_zero, Act.put, List.setIfInBounds_toArray, List.set_cons_zero, List.set_cons_succ]
                  refine o_tk 5 rfl (by kernel_rfl) (by rfl) (by intro w' hw; rw [HS3.out] at hw; subst hw; go_simp; try (with_reducible rfl)) hS ?_
                  simp only [List.getElem_toArray, List.getElem_cons_succ, List.getElem_cons_zero, Act.put, List.setIfInBounds_toArray, List.set_cons_zero, List.set_cons_succ]
                  refine o_tk 6 rfl (by kernel_rfl) (by rfl) (by intro w' hw; rw [HS3.out] at hw; subst hw; go_simp; try (with_reducible rfl)) hS ?_
                  simp only [List.getElem_toArray, List.getElem_cons_succ, List.getElem_cons_zero, Act.put, List.setIfInBounds_toArray, List.set_cons_zero, List.set_cons_succ]
                  refine o_tk 7 rfl (by kernel_rfl) (by rfl) (by intro w' hw; rw [HS3.out] at hw; subst hw; go_simp; try (with_reducible rfl)) hS ?_
                  simp only [List.getElem_toArray, List.getElem_cons_succ, List.getElem_cons_zero, Act.put, List.setIfInBounds_toArray, List.set_cons_zero, List.set_cons_succ]
                  refine o_tk 8 rfl (by kernel_rfl) (by rfl) (by intro w' hw; rw [HS3.out] at hw; subst hw; go_simp; try (with_reducible rfl)) hS ?_
                  simp only [List.getElem_toArray, List.getElem_cons_succ, List.getElem_cons_zero, Act.put, List.setIfInBounds_toArray, List.set_cons_zero, List.set_cons_succ]
                  refine o_tk 9 rfl (by kernel_rfl) (by rfl) (by intro w' hw; rw [HS3.out] at hw; subst hw; go_simp; try (with_reducible rfl)) hS ?_
                  simp only [List.getElem_toArray, List.getElem_cons_succ, List.getElem_cons_zero, Act.put, List.setIfInBounds_toArray, List.set_cons_zero, List.set_cons_succ]
                  refine o_tk 10 rfl (by kernel_rfl) (by rfl) (by intro w' hw; rw [HS3.out] at hw; subst hw; go_simp; try (with_reducible rfl)) hS ?_
                  simp only [List.getElem_toArray, List.getElem_cons_succ, List.getElem_cons_zero, Act.put, List.setIfInBounds_toArray, List.set_cons_zero, List.set_cons_succ]
                  refine o_tk 11 rfl (by kernel_rfl) (by rfl) (by intro w' hw; rw [HS3.out] at hw; subst hw; go_simp; try (with_reducible rfl)) hS ?_
                  simp only [List.getElem_toArray, List.getElem_cons_succ, List.getElem_cons_zero, Act.put, List.setIfInBounds_toArray, List.set_cons_zero, List.set_cons_succ]
                  refine o_tk 12 rfl (by kernel_rfl) (by rfl) (by intro w' hw; rw [HS3.out] at hw; subst hw; go_simp; try (with_reducible rfl)) hS ?_
                  simp only [List.getElem_toArray, List.getElem_cons_succ, List.getElem_cons_zero, Act.put, List.setIfInBounds_toArray, List.set_cons_zero, List.set_cons_succ]
                  refine o_tk 13 rfl (by kernel_rfl) (by rfl) (by intro w' hw; rw [HS3.out] at hw; subst hw; go_simp; try (with_reducible rfl)) hS ?_
                  simp only [List.getElem_toArray, List.getElem_cons_succ, List.getElem_cons_zero, Act.put, List.setIfInBounds_toArray, List.set_cons_zero, List.set_cons_succ]
                  refine o_tk 14 rfl (by kernel_rfl) (by rfl) (by intro w' hw; rw [HS3.out] at hw; subst hw; go_simp; try (with_reducible rfl)) hS ?_
                  simp only [List.getElem_toArray, List.getElem_cons_succ, List.getElem_cons_zero, Act.put, List.setIfInBounds_toArray, List.set_cons_zero, List.set_cons_succ]
                  refine o_tk 15 rfl (by kernel_rfl) (by rfl) (by intro w' hw; rw [HS3.out] at hw; subst hw; go_simp; try (with_reducible rfl)) hS ?_
                  simp only [List.getElem_toArray, List.getElem_cons_succ, List.getElem_cons_zero, Act.put, List.setIfInBounds_toArray, List.set_cons_zero, List.set_cons_succ]
                  refine o_tk 16 rfl (by kernel_rfl) (by rfl) (by intro w' hw; rw [HS3.out] at hw; subst hw; go_simp; try (with_reducible rfl)) hS ?_
                  simp only [List.getElem_toArray, List.getElem_cons_succ, List.getElem_cons_zero, Act.put, List.setIfInBounds_toArray, List.set_cons_zero, List.set_cons_succ]
                  refine o_tk 17 rfl (by kernel_rfl) (by rfl) (by intro w' hw; rw [HS3.out] at hw; subst hw; go_simp; try (with_reducible rfl)) hS ?_
                  simp only [List.getElem_toArray, List.getElem_cons_succ, List.getElem_cons_zero, Act.put, List.setIfInBounds_toArray, List.set_cons_zero, List.set_cons_succ]
                  refine o_tk 18 rfl (by kernel_rfl) (by rfl) (by intro w' hw; rw [HS3.out] at hw; subst hw; go_simp; try (with_reducible rfl)) hS ?_
                  simp only [List.getElem_toArray, List.getElem_cons_succ, List.getElem_cons_zero, Act.put, List.setIfInBounds_toArray, List.set_cons_zero, List.set_cons_succ]
                  refine o_tk 19 rfl (by kernel_rfl) (by rfl) (by intro w' hw; rw [HS3.out] at hw; subst hw; go_simp; try (with_reducible rfl)) hS ?_
                  simp only [List.getElem_toArray, List.getElem_cons_succ, List.getElem_cons_zero, Act.put, List.setIfInBounds_toArray, List.set_cons_zero, List.set_cons_succ]
                  refine o_tk 20 rfl (by kernel_rfl) (by rfl) (by intro w' hw; rw [HS3.out] at hw; subst hw; go_simp; try (with_reducible rfl)) hS ?_
                  simp only [List.getElem_toArray, List.getElem_cons_succ, List.getElem_cons_zero, Act.put, List.setIfInBounds_toArray, List.set_cons_zero, List.set_cons_succ]
                  refine o_tk 21 rfl (by kernel_rfl) (by rfl) (by intro w' hw; rw [HS3.out] at hw; subst hw; go_simp; try (with_reducible rfl)) hS ?_
                  simp only [List.getElem_toArray, List.getElem_cons_succ, List.getElem_cons_zero, Act.put, List.setIfInBounds_toArray, List.set_cons_zero, List.set_cons_succ]
                  refine o_tk 22 rfl (by kernel_rfl) (by rfl) (by intro w' hw; rw [HS3.out] at hw; subst hw; go_simp; try (with_reducible rfl)) hS ?_
                  simp only [List.getElem_toArray, List.getElem_cons_succ, List.getElem_cons_zero, Act.put, List.setIfInBounds_toArray, List.set_cons_zero, List.set_cons_succ]
                  refine o_tk 23 rfl (by kernel_rfl) (by rfl) (by intro w' hw; rw [HS3.out] at hw; subst hw; go_simp; try (with_reducible rfl)) hS ?_
                  simp only [List.getElem_toArray, List.getElem_cons_succ, List.getElem_cons_zero, Act.put, List.setIfInBounds_toArray, List.set_cons_zero, List.set_cons_succ]
                  refine o_tk 24 rfl (by kernel_rfl) (by rfl) (by intro w' hw; rw [HS3.out] at hw; subst hw; go_simp; try (with_reducible rfl)) hS ?_
                  simp only [List.getElem_toArray, List.getElem_cons_succ, List.getElem_cons_zero, Act.put, List.setIfInBounds_toArray, List.set_cons_zero, List.set_cons_succ]
                  refine o_tk 25 rfl (by kernel_rfl) (by rfl) (by intro w' hw; rw [HS3.out] at hw; subst hw; go_simp; try (with_reducible rfl)) hS ?_
                  simp only [List.getElem_toArray, List.getElem_cons_succ, List.getElem_cons_zero, Act.put, List.setIfInBounds_toArray, List.set_cons_zero, List.set_cons_succ]
                  refine o_tk 26 rfl (by kernel_rfl) (by rfl) (by intro w' hw; rw [HS3.out] at hw; subst hw; go_simp; try (with_reducible rfl)) hS ?_
                  simp only [List.getElem_toArray, List.getElem_cons_succ, List.getElem_cons_zero, Act.put, List.setIfInBounds_toArray, List.set_cons_zero, List.set_cons_succ]
                  refine o_tk 27 rfl (by kernel_rfl) (by rfl) (by intro w' hw; rw [HS3.out] at hw; subst hw; go_simp; try (with_reducible rfl)) hS ?_
                  simp only [List.getElem_toArray, List.getElem_cons_succ, List.getElem_cons_zero, Act.put, List.setIfInBounds_toArray, List.set_cons_zero, List.set_cons_succ]
                  refine o_tk 28 rfl (by kernel_rfl) (by rfl) (by intro w' hw; rw [HS3.out] at hw; subst hw; go_simp; try (with_reducible rfl)) hS ?_
                  simp only [List.getElem_toArray, List.getElem_cons_succ, List.getElem_cons_zero, Act.put, List.setIfInBounds_toArray, List.set_cons_zero, List.set_cons_succ]
                  refine o_tk 29 rfl (by kernel_rfl) (by rfl) (by intro w' hw; rw [HS3.out] at hw; subst hw; go_simp; try (with_reducible rfl)) hS ?_
                  simp only [List.getElem_toArray, List.getElem_cons_succ, List.getElem_cons_zero, Act.put, List.setIfInBounds_toArray, List.set_cons_zero, List.set_cons_succ]
                  refine o_tk 30 rfl (by kernel_rfl) (by rfl) (by intro w' hw; rw [HS3.out] at hw; subst hw; go_simp; try (with_reducible rfl)) hS ?_
                  simp only [List.getElem_toArray, List.getElem_cons_succ, List.getElem_cons_zero, Act.put, List.setIfInBounds_toArray, List.set_cons_zero, List.set_cons_succ]
                  refine o_tk 31 rfl (by kernel_rfl) (by rfl) (by intro w' hw; rw [HS3.out] at hw; subst hw; go_simp; try (with_reducible rfl)) hS ?_
                  simp only [List.getElem_toArray, List.getElem_cons_succ, List.getElem_cons_zero, Act.put, List.setIfInBounds_toArray, List.set_cons_zero, List.set_cons_succ]
                  refine o_tk 32 rfl (by kernel_rfl) (by rfl) (by intro w' hw; rw [HS3.out] at hw; subst hw; go_simp; try (with_reducible rfl)) hS ?_
                  simp only [List.getElem_toArray, List.getElem_cons_succ, List.getElem_cons_zero, Act.put, List.setIfInBounds_toArray, List.set_cons_zero, List.set_cons_succ]
                  refine o_tk 33 rfl (by kernel_rfl) (by rfl) (by intro w' hw; rw [HS3.out] at hw; subst hw; go_simp; try (with_reducible rfl)) hS ?_
                  simp only [List.getElem_toArray, List.getElem_cons_succ, List.getElem_cons_zero, Act.put, List.setIfInBounds_toArray, List.set_cons_zero, List.set_cons_succ]
                  refine o_tk 34 rfl (by kernel_rfl) (by rfl) (by intro w' hw; rw [HS3.out] at hw; subst hw; go_simp; try (with_reducible rfl)) hS ?_
                  simp only [List.getElem_toArray, List.getElem_cons_succ, List.getElem_cons_zero, Act.put, List.setIfInBounds_toArray, List.set_cons_zero, List.set_cons_succ]
                  refine o_tk 35 rfl (by kernel_rfl) (by rfl) (by intro w' hw; rw [HS3.out] at hw; subst hw; go_simp; try (with_reducible rfl)) hS ?_
                  simp only [List.getElem_toArray, List.getElem_cons_succ, List.getElem_cons_zero, Act.put, List.setIfInBounds_toArray, List.set_cons_zero, List.set_cons_succ]
                  refine o_tk 36 rfl (by kernel_rfl) (by rfl) (by intro w' hw; rw [HS3.out] at hw; subst hw; go_simp; try (with_reducible rfl)) hS ?_
                  simp only [List.getElem_toArray, List.getElem_cons_succ, List.getElem_cons_zero, Act.put, List.setIfInBounds_toArray, List.set_cons_zero, List.set_cons_succ]
                  refine o_tk 37 rfl (by kernel_rfl) (by rfl) (by intro w' hw; rw [HS3.out] at hw; subst hw; go_simp; try (with_reducible rfl)) hS ?_
                  simp only [List.getElem_toArray, List.getElem_cons_succ, List.getElem_cons_zero, Act.put, List.setIfInBounds_toArray, List.set_cons_zero, List.set_cons_succ]
                  refine o_tk 38 rfl (by kernel_rfl) (by rfl) (by intro w' hw; rw [HS3.out] at hw; subst hw; go_simp; try (with_reducible rfl)) hS ?_
                  simp only [List.getElem_toArray, List.getElem_cons_succ, List.getElem_cons_zero, Act.put, List.setIfInBounds_toArray, List.set_cons_zero, List.set_cons_succ]
                  refine o_tk 39 rfl (by kernel_rfl) (by rfl) (by intro w' hw; rw [HS3.out] at hw; subst hw; go_simp; try (with_reducible rfl)) hS ?_
                  simp only [List.getElem_toArray, List.getElem_cons_succ, List.getElem_cons_zero, Act.put, List.setIfInBounds_toArray, List.set_cons_zero, List.set_cons_succ]
                  refine o_tk 40 rfl (by kernel_rfl) (by rfl) (by intro w' hw; rw [HS3.out] at hw; subst hw; go_simp; try (with_reducible rfl)) hS ?_
                  simp only [List.getElem_toArray, List.getElem_cons_succ, List.getElem_cons_zero, Act.put, List.setIfInBounds_toArray, List.set_cons_zero, List.set_cons_succ]
                  refine o_tk 41 rfl (by kernel_rfl) (by rfl) (by intro w' hw; rw [HS3.out] at hw; subst hw; go_simp; try (with_reducible rfl)) hS ?_
                  simp only [List.getElem_toArray, List.getElem_cons_succ, List.getElem_cons_zero, Act.put, List.setIfInBounds_toArray, List.set_cons_zero, List.set_cons_succ]
                  refine o_tk 42 rfl (by kernel_rfl) (by rfl) (by intro w' hw; rw [HS3.out] at hw; subst hw; go_simp; try (with_reducible rfl)) hS ?_
                  simp only [List.getElem_toArray, List.getElem_cons_succ, List.getElem_cons_zero, Act.put, List.setIfInBounds_toArray, List.set_cons_zero, List.set_cons_succ]
                  refine o_tk 43 rfl (by kernel_rfl) (by rfl) (by intro w' hw; rw [HS3.out] at hw; subst hw; go_simp; try (with_reducible rfl)) hS ?_
                  simp only [List.getElem_toArray, List.getElem_cons_succ, List.getElem_cons_zero, Act.put, List.setIfInBounds_toArray, List.set_cons_zero, List.set_cons_succ]
                  refine o_tk 44 rfl (by kernel_rfl) (by rfl) (by intro w' hw; rw [HS3.out] at hw; subst hw; go_simp; try (with_reducible rfl)) hS ?_
                  simp only [List.getElem_toArray, List.getElem_cons_succ, List.getElem_cons_zero, Act.put, List.setIfInBounds_toArray, List.set_cons_zero, List.set_cons_succ]
                  refine o_tk 45 rfl (by kernel_rfl) (by rfl) (by intro w' hw; rw [HS3.out] at hw; subst hw; go_simp; try (with_reducible rfl)) hS ?_
                  simp only [List.getElem_toArray, List.getElem_cons_succ, List.getElem_cons_zero, Act.put, List.setIfInBounds_toArray, List.set_cons_zero, List.set_cons_succ]
                  refine o_tk 46 rfl (by kernel_rfl) (by rfl) (by intro w' hw; rw [HS3.out] at hw; subst hw; go_simp; try (with_reducible rfl)) hS ?_
                  simp only [List.getElem_toArray, List.getElem_cons_succ, List.getElem_cons_zero, Act.put, List.setIfInBounds_toArray, List.set_cons_zero, List.set_cons_succ]
                  refine o_tk 47 rfl (by kernel_rfl) (by rfl) (by intro w' hw; rw [HS3.out] at hw; subst hw; go_simp; try (with_reducible rfl)) hS ?_
                  simp only [List.getElem_toArray, List.getElem_cons_succ, List.getElem_cons_zero, Act.put, List.setIfInBounds_toArray, List.set_cons_zero, List.set_cons_succ]
                  refine o_tk 48 rfl (by kernel_rfl) (by rfl) (by intro w' hw; rw [HS3.out] at hw; subst hw; go_simp; try (with_reducible rfl)) hS ?_
                  simp only [List.getElem_toArray, List.getElem_cons_succ, List.getElem_cons_zero, Act.put, List.setIfInBounds_toArray, List.set_cons_zero, List.set_cons_succ]
                  refine o_tk 49 rfl (by kernel_rfl) (by rfl) (by intro w' hw; rw [HS3.out] at hw; subst hw; go_simp; try (with_reducible rfl)) hS ?_
                  simp only [List.getElem_toArray, List.getElem_cons_succ, List.getElem_cons_zero, Act.put, List.setIfInBounds_toArray, List.set_cons_zero, List.set_cons_succ]
                  refine o_tk 50 rfl (by kernel_rfl) (by rfl) (by intro w' hw; rw [HS3.out] at hw; subst hw; go_simp; try (with_reducible rfl)) hS ?_
                  simp only [List.getElem_toArray, List.getElem_cons_succ, List.getElem_cons_zero, Act.put, List.setIfInBounds_toArray, List.set_cons_zero, List.set_cons_succ]
                  refine o_tk 51 rfl (by kernel_rfl) (by rfl) (by intro w' hw; rw [HS3.out] at hw; subst hw; go_simp; try (with_reducible rfl)) hS ?_
                  simp only [List.getElem_toArray, List.getElem_cons_succ, List.getElem_cons_zero, Act.put, List.setIfInBounds_toArray, List.set_cons_zero, List.set_cons_succ]
                  refine o_tk 52 rfl (by kernel_rfl) (by rfl) (by intro w' hw; rw [HS3.out] at hw; subst hw; go_simp; try (with_reducible rfl)) hS ?_
                  simp only [List.getElem_toArray, List.getElem_cons_succ, List.getElem_cons_zero, Act.put, List.setIfInBounds_toArray, List.set_cons_zero, List.set_cons_succ]
                  refine o_tk 53 rfl (by kernel_rfl) (by rfl) (by intro w' hw; rw [HS3.out] at hw; subst hw; go_simp; try (with_reducible rfl)) hS ?_
                  simp only [List.getElem_toArray, List.getElem_cons_succ, List.getElem_cons_zero, Act.put, List.setIfInBounds_toArray, List.set_cons_zero, List.set_cons_succ]
                  refine o_tk 54 rfl (by kernel_rfl) (by rfl) (by intro w' hw; rw [HS3.out] at hw; subst hw; go_simp; try (with_reducible rfl)) hS ?_
                  simp only [List.getElem_toArray, List.getElem_cons_succ, List.getElem_cons_zero, Act.put, List.setIfInBounds_toArray, List.set_cons_zero, List.set_cons_succ]
                  refine o_tk 55 rfl (by kernel_rfl) (by rfl) (by intro w' hw; rw [HS3.out] at hw; subst hw; go_simp; try (with_reducible rfl)) hS ?_
                  simp only [List.getElem_toArray, List.getElem_cons_succ, List.getElem_cons_zero, Act.put, List.setIfInBounds_toArray, List.set_cons_zero, List.set_cons_succ]
                  refine o_tk 56 rfl (by kernel_rfl) (by rfl) (by intro w' hw; rw [HS3.out] at hw; subst hw; go_simp; try (with_reducible rfl)) hS ?_
                  simp only [List.getElem_toArray, List.getElem_cons_succ, List.getElem_cons_zero, Act.put, List.setIfInBounds_toArray, List.set_cons_zero, List.set_cons_succ]
                  refine o_tk 57 rfl (by kernel_rfl) (by rfl) (by intro w' hw; rw [HS3.out] at hw; subst hw; go_simp; try (with_reducible rfl)) hS ?_
                  simp only [List.getElem_toArray, List.getElem_cons_succ, List.getElem_cons_zero, Act.put, List.setIfInBounds_toArray, List.set_cons_zero, List.set_cons_succ]
                  refine o_tk 58 rfl (by kernel_rfl) (by rfl) (by intro w' hw; rw [HS3.out] at hw; subst hw; go_simp; try (with_reducible rfl)) hS ?_
                  simp only [List.getElem_toArray, List.getElem_cons_succ, List.getElem_cons_zero, Act.put, List.setIfInBounds_toArray, List.set_cons_zero, List.set_cons_succ]
                  refine o_tk 59 rfl (by kernel_rfl) (by rfl) (by intro w' hw; rw [HS3.out] at hw; subst hw; go_simp; try (with_reducible rfl)) hS ?_
                  simp only [List.getElem_toArray, List.getElem_cons_succ, List.getElem_cons_zero, Act.put, List.setIfInBounds_toArray, List.set_cons_zero, List.set_cons_succ]
                  refine o_tk 60 rfl (by kernel_rfl) (by rfl) (by intro w' hw; rw [HS3.out] at hw; subst hw; go_simp; try (with_reducible rfl)) hS ?_
                  simp only [List.getElem_toArray, List.getElem_cons_succ, List.getElem_cons_zero, Act.put, List.setIfInBounds_toArray, List.set_cons_zero, List.set_cons_succ]
                  refine o_tk 61 rfl (by kernel_rfl) (by rfl) (by intro w' hw; rw [HS3.out] at hw; subst hw; go_simp; try (with_reducible rfl)) hS ?_
                  simp only [List.getElem_toArray, List.getElem_cons_succ, List.getElem_cons_zero, Act.put, List.setIfInBounds_toArray, List.set_cons_zero, List.set_cons_succ]
                  refine o_tk 62 rfl (by kernel_rfl) (by rfl) (by intro w' hw; rw [HS3.out] at hw; subst hw; go_simp; try (with_reducible rfl)) hS ?_
                  simp only [List.getElem_toArray, List.getElem_cons_succ, List.getElem_cons_zero, Act.put, List.setIfInBounds_toArray, List.set_cons_zero, List.set_cons_succ]
                  refine o_tk 63 rfl (by kernel_rfl) (by rfl) (by intro w' hw; rw [HS3.out] at hw; subst hw; go_simp; try (with_reducible rfl)) hS ?_
                  simp only [List.getElem_toArray, List.getElem_cons_succ, List.getElem_cons_zero, Act.put, List.setIfInBounds_toArray, List.set_cons_zero, List.set_cons_succ]
                  refine o_tk 64 rfl (by kernel_rfl) (by rfl) (by intro w' hw; rw [HS3.out] at hw; subst hw; go_simp; try (with_reducible rfl)) hS ?_
                  simp only [List.getElem_toArray, List.getElem_cons_succ, List.getElem_cons_zero, Act.put, List.setIfInBounds_toArray, List.set_cons_zero, List.set_cons_succ]
                  refine o_tk 65 rfl (by kernel_rfl) (by rfl) (by intro w' hw; rw [HS3.out] at hw; subst hw; go_simp; try (with_reducible rfl)) hS ?_
                  simp only [List.getElem_toArray, List.getElem_cons_succ, List.getElem_cons_zero, Act.put, List.setIfInBounds_toArray, List.set_cons_zero, List.set_cons_succ]
                  refine o_tk 66 rfl (by kernel_rfl) (by rfl) (by intro w' hw; rw [HS3.out] at hw; subst hw; go_simp; try (with_reducible rfl)) hS ?_
                  simp only [List.getElem_toArray, List.getElem_cons_succ, List.getElem_cons_zero, Act.put, List.setIfInBounds_toArray, List.set_cons_zero, List.set_cons_succ]
                  refine o_tk 67 rfl (by kernel_rfl) (by rfl) (by intro w' hw; rw [HS3.out] at hw; subst hw; go_simp; try (with_reducible rfl)) hS ?_
                  simp only [List.getElem_toArray, List.getElem_cons_succ, List.getElem_cons_zero, Act.put, List.setIfInBounds_toArray, List.set_cons_zero, List.set_cons_succ]
                  refine o_tk 68 rfl (by kernel_rfl) (by rfl) (by intro w' hw; rw [HS3.out] at hw; subst hw; go_simp; try (with_reducible rfl)) hS ?_
                  simp only [List.getElem_toArray, List.getElem_cons_succ, List.getElem_cons_zero, Act.put, List.setIfInBounds_toArray, List.set_cons_zero, List.set_cons_succ]
                  refine o_tk 69 rfl (by kernel_rfl) (by rfl) (by intro w' hw; rw [HS3.out] at hw; subst hw; go_simp; try (with_reducible rfl)) hS ?_
                  simp only [List.getElem_toArray, List.getElem_cons_succ, List.getElem_cons_zero, Act.put, List.setIfInBounds_toArray, List.set_cons_zero, List.set_cons_succ]
                  refine o_tk 70 rfl (by kernel_rfl) (by rfl) (by intro w' hw; rw [HS3.out] at hw; subst hw; go_simp; try (with_reducible rfl)) hS ?_
                  simp only [List.getElem_toArray, List.getElem_cons_succ, List.getElem_cons_zero, Act.put, List.setIfInBounds_toArray, List.set_cons_zero, List.set_cons_succ]
                  refine o_tk 71 rfl (by kernel_rfl) (by rfl) (by intro w' hw; rw [HS3.out] at hw; subst hw; go_simp; try (with_reducible rfl)) hS ?_
                  simp only [List.getElem_toArray, List.getElem_cons_succ, List.getElem_cons_zero, Act.put, List.setIfInBounds_toArray, List.set_cons_zero, List.set_cons_succ]
                  refine o_tk (v := .bool false) 72 rfl (by kernel_rfl) (by rfl) (by intro w' hw; rw [HS3.out] at hw; subst hw; go_simp; try (first | (with_reducible rfl) | (simp; omega))) hS ?_
                  simp only [List.getElem_toArray, List.getElem_cons_succ, List.getElem_cons_zero, Act.put, List.setIfInBounds_toArray, List.set_cons_zero, List.set_cons_succ]
                  refine o_tk 73 rfl (by kernel_rfl) (by rfl) (by intro w' hw; rw [HS3.out] at hw; subst hw; go_simp; try (with_reducible rfl)) hS ?_
                  simp only [List.getElem_toArray, List.getElem_cons_succ, List.getElem_cons_zero, Act.put, List.setIfInBounds_toArray, List.set_cons_zero, List.set_cons_succ]
                  refine s_done (by kernel_rfl) ?_ _
                  clear z0 z1 z2 z3 z4 y0 y1 y2 y3 y4 v1 v2 X1 hp5 hp5' hS l2 l3
                  go_wp2_with (at_mapUpdate; refine wpList_mput _ rfl _ _ _ rfl Try.underlying68 keyI (r1 + 1) D2 rfl ?hM e.id rfl one rfl ?_)
                  case hM => exact HM2.out.m2.tch (Tch.of_below [] B5.out) (by simp)
                  intro w7 m7 t7
                  have M7 := Lib.hid m7
                  have T7 := Lib.hid t7
                  clear m7 t7 X0
                  go_wp2_with fail
                  go_meet
                  exact ⟨dead, done, rfl, rfl, Lib.hid (oi_acq HQ2.out HM2.out HP.out HE.out.1 B5.out M7.out T7.out)⟩
            · by_cases h2 : d.x.kind = 2
              · as_aux_lemma =>
                  obtain ⟨tn, tms, tis, te⟩ := T
                  have hs : stepQ room limit last L d.x = ((setQ limit L d.x.id d.x.o).1, last, ⟨0, [match (setQ limit L d.x.id d.x.o).2.2 with | none => zMg | some e => e.m], (setQ limit L d.x.id d.x.o).2.2.isSome, (setQ limit L d.x.id d.x.o).2.1⟩) := by unfold stepQ; rw [if_neg h0, if_neg h1, if_pos h2]; rfl
                  have hT := HT.out
                  have hL := HL'.out
                  have hl := Hl'.out
                  rw [hs] at hT hL hl
                  simp only [Tol.mk.injEq] at hT hL hl
                  obtain ⟨-, -, his, hte⟩ := hT
                  subst hl
                  obtain rfl : KI = 2 := by rw [← HKI.out]; exact h2
                  rw [HID.out] at his hte hL
                  have x0 : W.cell? ⟨g16, 0, none⟩ = some (.int .i64 tn) := HB.out.cell 0 _ rfl
                  have x2 : W.cell? ⟨g16, 2, none⟩ = some (.bool tis) := HB.out.cell 2 _ rfl
                  have x3 : W.cell? ⟨g16, 3, none⟩ = some (.int .i64 te) := HB.out.cell 3 _ rfl
                  have hca := setQ_cases limit L ID d.x.o
                  rw [his, hte, hL, HOK.out] at hca
                  clear hs his hte h0 h1 h2
                  rcases hca with ⟨hE, rfl⟩ | ⟨e, he, hid, hhe, rfl, hca⟩
                  · have hE1 : ¬ (te : Int) = 0 := by omega
                    have hE2 : (te == 0) = false := by simpa using hE
                    have hE3 : ((te : Int) == 0) = false := by simpa using hE
                    go_wp2_with fail
                    go_meet
                    exact ⟨dead, done, rfl, rfl, Lib.hid (oi_same HQ2.out HM2.out HP.out (Below.refl _ _))⟩
                  · subst hid
                    have hl2 := map_one HM2.out.m2 e.id (HP.out.held_one he hhe)
                    have hids := HWF.out.ids e he
                    have HE := Lib.hid he
                    have HIDS := Lib.hid hids
                    obtain ⟨w6, hrun, m6, t6⟩ := HM2.out.m2.drop Try.underlying68 keyI e.id 0
                    unfold ki at hrun
                    have hbn : g16 ≠ r1 + 1 := bx_ne_map HB.out HM2.out.m2
                    have hbn0 : b0 ≠ r1 + 1 := by have := (HQ2.out.zs _ HM2.out.z2).1; omega
                    have X2 := t6.cell x2 (by simpa using hbn)
                    have S1 := t6.cell s1 (by simpa using hbn0)
                    have S7 := t6.cell s7 (by simpa using hbn0)
                    have M6 := Lib.hid m6
                    have T6 := Lib.hid t6
                    have HM6 := Lib.hid (HM2.out.set2 m6 t6)
                    clear m6 t6 he hhe x0
                    rcases hca with ⟨rfl, rfl | ⟨rfl, rfl⟩⟩ | ⟨rfl, hk2, e', he1, he2, he3, rfl⟩
                    · go_wp2_with (at_mapUpdate; refine wpList_mput _ rfl _ _ _ rfl Try.underlying68 keyI (r1 + 1 + 1) D3 rfl ?hM e.id rfl one rfl ?_)
                      case hM => exact HM6.out.m3
                      intro w7 m7 t7
                      have M7 := Lib.hid m7
                      have T7 := Lib.hid t7
                      clear m7 t7 X2 S1 S7 hrun
                      go_wp2_with fail
                      go_meet
                      exact ⟨dead + 1, done, by go_num, rfl, Lib.hid (oi_gone HQ2.out HM2.out HP.out HE.out HWF.out.sorted hids.2 (by omega) M6.out T6.out M7.out T7.out)⟩
                    · go_wp2_with (at_mapUpdate; refine wpList_mput _ rfl _ _ _ rfl Try.underlying68 keyI (r1 + 1 + 1) D3 rfl ?hM e.id rfl one rfl ?_)
                      case hM => exact HM6.out.m3
                      intro w7 m7 t7
                      have M7 := Lib.hid m7
                      have T7 := Lib.hid t7
                      clear m7 t7 X2 S1 S7 hrun
                      go_wp2_with fail
                      go_meet
                      exact ⟨dead, done + 1, rfl, by go_num, Lib.hid (oi_gone HQ2.out HM2.out HP.out HE.out HWF.out.sorted hids.2 (by omega) M6.out T6.out M7.out T7.out)⟩
                    · have hk3 : (OK == 2) = false := by simpa using hk2
                      have hk4 : ((OK : Int) == 2) = false := by simp; omega
                      have hk5 : ¬ (OK : Int) = 2 := by omega
                      go_wp2_with fail
                      go_meet
                      exact ⟨dead, done, rfl, rfl, Lib.hid (oi_free HQ2.out HM2.out HP.out HE.out he1 he2 he3 M6.out T6.out)⟩
              · by_cases h3 : d.x.kind = 3
                · as_aux_lemma =>
                    have hs : stepQ room limit last L d.x = (expQ L d.x.now, last, ⟨0, (expL L d.x.now).map (·.m), false, 0⟩) := by unfold stepQ; rw [if_neg h0, if_neg h1, if_neg h2, if_pos h3]
                    have hT := HT.out
                    have hL := HL'.out
                    have hl := Hl'.out
                    rw [hs] at hT hL hl
                    simp only at hT hL hl
                    subst hT hL hl
                    obtain rfl : KI = 3 := by rw [← HKI.out]; exact h3
                    have x0 : W.cell? ⟨g16, 0, none⟩ = some (.int .i64 0) := HB.out.cell 0 _ rfl
                    have x1 : W.cell? ⟨g16, 1, none⟩ = some (.slice A1 nm c1) := HB.out.cell 1 _ rfl
                    have x2 : W.cell? ⟨g16, 2, none⟩ = some (.bool false) := HB.out.cell 2 _ rfl
                    have x3 : W.cell? ⟨g16, 3, none⟩ = some (.int .i64 0) := HB.out.cell 3 _ rfl
                    have hnm : nm = (expL L d.x.now).length := by
                      have h1 := congrArg List.length HMT.out
                      rw [List.length_map, List.length_map] at h1
                      rw [← HNM.out]; exact h1
                    have hdead : nm ≤ 1000 := by
                      have h1 := exp_len d.x.now HWF.out.sorted
                      have h2 := HWF.out.len
                      omega
                    have HNM2 := Lib.hid hnm
                    clear hs hnm h0 h1 h2 h3
                    go_wp2_with fail
                    go_meet
                    refine ⟨dead + nm, done, by go_num, rfl, Lib.hid ?_⟩
                    rw [HNM2.out]
                    exact oi_exp HQ2.out HM2.out HP.out HWF.out.sorted
                · as_aux_lemma =>
                    have hs : stepQ room limit last L d.x = (L, last, ⟨0, [], false, 0⟩) := by unfold stepQ; rw [if_neg h0, if_neg h1, if_neg h2, if_neg h3]
                    have hT := HT.out
                    have hL := HL'.out
                    have hl := Hl'.out
                    rw [hs] at hT hL hl
                    simp only at hT hL hl
                    subst hT hL hl
                    have k0 : (KI == 0) = false := by rw [← HKI.out]; simpa using h0
                    have k1 : (KI == 1) = false := by rw [← HKI.out]; simpa using h1
                    have k2 : (KI == 2) = false := by rw [← HKI.out]; simpa using h2
                    have k3 : (KI == 3) = false := by rw [← HKI.out]; simpa using h3
                    clear hs h0
                    go_wp2_with fail
                    go_meet
                    exact ⟨dead, done, rfl, rfl, Lib.hid (oi_same HQ2.out HM2.out HP.out (Below.refl _ _))⟩
        case rest =>
          as_aux_lemma =>
            obtain ⟨dead', done', rfl, rfl, HO2⟩ := hcut
            obtain ⟨Z', D1', D2', D3', M', V', hq, hm, hp⟩ := HO2.out
            have hc := hp.c
            have hwf := hq.wf
            have hd1 := hp.len1 hm.m1.1
            have hd2 := hp.len2 hm.m2.1 hwf.sorted (fun e he => (hwf.ok e he).pr)
            have hob := ord_both (fun e he => (hwf.ok e he).pr)
            have hlen := hwf.len
            obtain ⟨z1, hz1⟩ : ∃ z1, (ordQ false L').length = z1 := ⟨_, rfl⟩
            obtain ⟨z2, hz2⟩ : ∃ z2, (ordQ true L').length = z2 := ⟨_, rfl⟩
            rw [hz1, hz2] at hob
            rw [hz2] at hd2
            have hsum : (z1 : Int) + z2 + done' + dead' = last' := by omega
            have hzr : ¬ (room : Int) < z1 + z2 := by omega
            have hz64 : z1 ≤ 64 := by omega
            have hz65 : z2 ≤ 64 := by omega
            have hdn' : done' ≤ 151 := by omega
            have hdd' : dead' ≤ 151 := by omega
            have HQ3 := Lib.hid hq
            have HM3 := Lib.hid hm
            have HP3 := Lib.hid hp
            have HWF3 := Lib.hid hwf
            have HD1 := Lib.hid hd1
            have HD2 := Lib.hid hd2
            have HZ1 := Lib.hid hz1
            have HZ2 := Lib.hid hz2
            clear hq hm hp hwf hd1 hd2 hob hlen hc hz1 hz2 HO2 s0 s1 s2 s3 s4 s5 s6 s7 s8 s9 s10 s11 hbl
            go_wp2_with fail
            refine (qf_list HQ3.out).mono ?_
            rintro x w5 ⟨va, ia, rfl, ea, oa, -, b5⟩
            have HQ4 := Lib.hid (HQ3.out.below b5)
            have HM4 := Lib.hid (om_below HQ3.out HM3.out b5)
            obtain ⟨Aa, ca, rfl, ra⟩ := oa.rd
            have hia : ia.length = z1 := by have h1 := congrArg List.length ea; rw [List.length_map, HZ1.out] at h1; exact h1
            have HIA := Lib.hid hia
            have HEA := Lib.hid ea
            rw [hia] at ra ⊢
            have ca1 := ra.2.1
            have ca2 := ra.2.2.1
            have HRA := Lib.hid ra
            clear oa ra b5 ea hia HQ3 HM3
            go_wp2_with fail
            refine (qf_len HQ4.out).mono ?_
            rintro x w6 ⟨rfl, b6⟩
            have HQ5 := Lib.hid (HQ4.out.below b6)
            have HM5 := Lib.hid (om_below HQ4.out HM4.out b6)
            have HRA6 := Lib.hid (HRA.out.below b6)
            rw [HZ1.out, HZ2.out]
            clear b6 HQ4 HM4 HRA
            have hlen2 := fun ty => HM5.out.m2.len (P := Try.prog) Try.underlying68 ty
            rw [HD2.out] at hlen2
            have hmm := @run_makeMap Try.prog
            go_wp2_with fail
            clear hmm hlen2
            obtain ⟨r4, hr4⟩ : ∃ r4, w6.heap.size = r4 := ⟨_, rfl⟩
            have HM40 := Lib.hid (MapS.made w6 : MapS ki (w6.alloc (.map #[] 0)) w6.heap.size [])
            rw [hr4] at HM40 ⊢
            have HR4 := Lib.hid hr4
            clear hr4
            go_loopw [25] (fun i Wl => ∃ (j : Nat) (D4 : List (Nat × Value)), j ≤ z1 ∧ i = .int .i64 j ∧ Hid (MapS ki Wl r4 D4 ∧ (∀ x, luk D4 x ≠ none → x ∈ (ia.map fun y => y.1.id).take j) ∧ Below w6.heap.size w6 Wl)) (fun i _ => z1 - (intOf i).toNat)
            case atStart => exact ⟨0, [], by omega, rfl, Lib.hid ⟨HM40.out, fun x hx => absurd rfl hx, below_alloc w6 _⟩⟩
            case round =>
              obtain ⟨j, D4, hj, rfl, HJ⟩ := hrel
              have HQ6 := Lib.hid (HQ5.out.below HJ.out.2.2)
              have HM6 := Lib.hid (om_below HQ5.out HM5.out HJ.out.2.2)
              by_cases hjz : j < z1
              · have hjz' : (j : Int) < z1 := by omega
                have hja : j < ia.length := by rw [HIA.out]; exact hjz
                obtain ⟨pa, oa, hAa, hy⟩ := flat_cells itc 6 (by decide) (fun _ => rfl) (HRA6.out.below HJ.out.2.2) j hja
                subst hAa
                obtain ⟨e, he⟩ : ∃ e, (ia[j]).1 = e := ⟨_, rfl⟩
                have y0 := hy 0 (.int .i64 e.id) (by unfold itc; rw [he]; rfl)
                simp only [Nat.add_zero] at y0
                have heo : e ∈ ordQ false L' := by rw [← HEA.out, ← he]; exact List.mem_map.2 ⟨_, List.getElem_mem hja, rfl⟩
                have hem := mem_ord heo
                have hids := HWF3.out.ids e hem.1
                have hpl : pa < wr.heap.size := World.block_lt_of_cell? _ _ y0
                have hidj : (ia.map fun y => y.1.id)[j]'(by simpa using hja) = e.id := by rw [List.getElem_map, he]
                have hnd : (ia.map fun y => y.1.id).Nodup := by
                  have h1 := ord_nodup false HWF3.out.sorted
                  rw [← HEA.out, List.map_map] at h1
                  exact h1
                have hd4 : luk D4 e.id = none := by
                  cases h : luk D4 e.id with
                  | none => rfl
                  | some v =>
                    have h1 := HJ.out.2.1 e.id (by rw [h]; simp)
                    rw [← hidj] at h1
                    exact absurd h1 (nodup_take hnd (by simpa using hja))
                have hw1 := HM6.out.was HP3.out e.id
                rw [if_pos hids] at hw1
                obtain ⟨A9, c9, hv9, -, -⟩ := (HM6.out.bd e.id hids.1 hids.2).1
                rw [hv9, mgv_eq] at hw1
                have hw2 : ∀ o, (Instr.lookup 68 (.map (some (r1 + 1))) (.int .i64 e.id) false).run Try.prog (wr.alloc o) = .ok (.int .i64 0) (wr.alloc o) := fun o => map_no (HM6.out.m2.tch (Tch.of_below [] (below_alloc wr o)) (by simp)) e.id (HP3.out.held_no hem.1 hem.2 HWF3.out.sorted)
                have hw3 : ∀ o, (Instr.lookup 68 (.map (some (r1 + 1 + 1))) (.int .i64 e.id) false).run Try.prog (wr.alloc o) = .ok (.int .i64 0) (wr.alloc o) := fun o => map_no (HM6.out.m3.tch (Tch.of_below [] (below_alloc wr o)) (by simp)) e.id (HP3.out.gone_no hem.1)
                have hw4 : ∀ o, (Instr.lookup 68 (.map (some r4)) (.int .i64 e.id) false).run Try.prog (wr.alloc o) = .ok (.int .i64 0) (wr.alloc o) := fun o => map_no (HJ.out.1.tch (Tch.of_below [] (below_alloc wr o)) (by simp)) e.id hd4
                have HIDJ := Lib.hid hidj
                have HW6 := Lib.hid (show w6.heap.size ≤ r4 from by rw [HR4.out]; omega)
                clear hy he heo hem hids hnd hd4 hv9 hidj
                go_wp2_with (at_mapUpdate; refine wpList_mput _ rfl _ _ _ rfl Try.underlying68 keyI r4 D4 rfl ?hM e.id rfl one rfl ?_)
                case hM => exact HJ.out.1.tch (Tch.of_below [] (below_alloc wr _)) (by simp)
                intro w8 m8 t8
                have M8 := Lib.hid m8
                have T8 := Lib.hid (((Tch.of_below [r4] HJ.out.2.2).alloc _).trans_ t8)
                clear m8 t8 y0 hw1 hw2 hw3 hw4
                go_wp2_with fail
                refine ⟨⟨j + 1, _, by omega, by go_num, Lib.hid ⟨M8.out, fun x hx => ?_, T8.out.below (Nat.le_refl _) (by have := HW6.out; simpa using this)⟩⟩, by simp [intOf]; omega⟩
                rw [luk_put] at hx
                rw [List.take_succ_eq_append_getElem (by simpa using hja), List.mem_append, List.mem_singleton, HIDJ.out]
                by_cases hxe : x = e.id
                · exact .inr hxe
                · rw [if_neg hxe] at hx
                  exact .inl (HJ.out.2.1 x hx)
              · obtain rfl : j = z1 := by omega
                have hlen1 := fun ty => HM6.out.m1.len (P := Try.prog) Try.underlying67 ty
                rw [HD1.out] at hlen1
                go_wp2_with fail
                exact ⟨⟨k + 1, last', dead', done', L', by omega, by go_num, rfl, rfl, hlast', by omega, by omega, Lib.hid ⟨_, _, _, _, _, _, HQ6.out, HM6.out, HP3.out⟩⟩, by simp [intOf]; omega⟩
      · obtain rfl : k = n := by omega
        have HOLD := Lib.hid (show Below w.heap.size w wr by obtain ⟨Z, D1, D2, D3, M, V, hq, hm, hp⟩ := HOI.out; exact hq.old)
        go_wp2_with fail
        refine (works_calls _).mono ?_
        rintro e w6 ⟨rfl, b6⟩
        have B6 := Lib.hid b6
        clear b6
        go_wp2_with fail
        go_ret
        exact ⟨rfl, below_then HOLD.out HOLD.out.size B6.out⟩
end Go.Proofs.Ytkoihcfdchcgdaa

import Derived.Test.YtklgndmndnmdpaaHSet
set_option linter.unusedVariables false
set_option linter.unusedSimpArgs false
namespace Go.Proofs.Ytklgndmndnmdpaa
open Go.RowKit Go.Shelf

/-- Dead messages of a name's queue go where they go, one by one. -/
def hburyL (C : List Cf) (r : List Qu × Nat) (name : List UInt8) (ms : List Mg) (now : Int) : List Qu × Nat := ms.foldl (fun r m => hburyR C r.1 r.2 name m now) r
theorem hputR_last {C : List Cf} {Qs : List Qu} {name : List UInt8} {m : Mg} {now : Int} {B : Nat} (h : ∀ x ∈ Qs, x.last ≤ B) : ∀ x ∈ (hputR C Qs name m now).1, x.last ≤ B + 1 := by
  unfold hputR
  cases hb : (atC C name).bind fun i => (Qs[i]?).map fun x => (i, x) with
  | none => intro x hx; exact Nat.le_succ_of_le (h x hx)
  | some p =>
    obtain ⟨i, y⟩ := p
    intro x hx
    have hy : y ∈ Qs := by
      cases hA : atC C name with
      | none => simp [hA] at hb
      | some j =>
        simp only [hA, Option.bind_some, Option.map_eq_some_iff, Prod.mk.injEq] at hb
        obtain ⟨z, h1, rfl, rfl⟩ := hb
        exact List.mem_of_getElem? h1
    rcases List.mem_or_eq_of_mem_set hx with hx | rfl
    · exact Nat.le_succ_of_le (h x hx)
    · have := h y hy
      show (putQ y.room y.last y.L m now).1.1 ≤ B + 1
      unfold putQ
      split
      · exact Nat.le_succ_of_le this
      · split
        · exact Nat.le_succ_of_le this
        · exact Nat.succ_le_succ this
theorem hburyR_last {C : List Cf} {Qs : List Qu} {lost : Nat} {name : List UInt8} {m : Mg} {now : Int} {B : Nat} (h : ∀ x ∈ Qs, x.last ≤ B) (hl : lost ≤ B) : (∀ x ∈ (hburyR C Qs lost name m now).1, x.last ≤ B + 1) ∧ (hburyR C Qs lost name m now).2 ≤ B + 1 := by
  unfold hburyR
  split
  · exact ⟨hputR_last h, Nat.le_succ_of_le hl⟩
  · exact ⟨fun x hx => Nat.le_succ_of_le (h x hx), Nat.succ_le_succ hl⟩
theorem hburyL_last {C : List Cf} {name : List UInt8} {now : Int} : ∀ (ms : List Mg) {r : List Qu × Nat} {B : Nat}, (∀ x ∈ r.1, x.last ≤ B) → r.2 ≤ B → (∀ x ∈ (hburyL C r name ms now).1, x.last ≤ B + ms.length) ∧ (hburyL C r name ms now).2 ≤ B + ms.length
  | [], r, B, h1, h2 => ⟨h1, h2⟩
  | m :: ms, r, B, h1, h2 => by
    have h3 := hburyR_last (C := C) (name := name) (m := m) (now := now) h1 h2
    have h4 := hburyL_last (C := C) (name := name) (now := now) ms h3.1 h3.2
    show (∀ x ∈ (hburyL C (hburyR C r.1 r.2 name m now) name ms now).1, _) ∧ (hburyL C (hburyR C r.1 r.2 name m now) name ms now).2 ≤ _
    refine ⟨fun x hx => ?_, ?_⟩
    · have := h4.1 x hx; simp only [List.length_cons]; omega
    · have := h4.2; simp only [List.length_cons]; exact Nat.le_trans this (by omega)
theorem hburyL_take {C : List Cf} {r : List Qu × Nat} {name : List UInt8} {ms : List Mg} {now : Int} {k : Nat} (hk : k < ms.length) : hburyL C r name (ms.take (k + 1)) now = hburyR C (hburyL C r name (ms.take k) now).1 (hburyL C r name (ms.take k) now).2 name ms[k] now := by
  unfold hburyL
  rw [List.take_succ_eq_append_getElem hk, List.foldl_append]
  rfl
/-- The queue at i lets its old messages go. -/
def htick1R (C : List Cf) (Qs : List Qu) (lost : Nat) (i : Nat) (name : List UInt8) (now : Int) : List Qu × Nat :=
  match Qs[i]? with
  | none => (Qs, lost)
  | some x => hburyL C (Qs.set i { x with L := expQ x.L now }, lost) name ((expL x.L now).map (·.m)) now
theorem expL_len {room limit last : Nat} {L : List En} (h : WfQ room limit last L) (now : Int) : (expL L now).length ≤ 64 := Nat.le_trans (List.length_filter_le _ _) (ord_len h)
theorem mcs_length (m : Mg) (v : Value) : (mcs m v).length = 5 := rfl
def xcs (h : Nat) (now : Int) : List Value := [.pointer (some ⟨h, 0, none⟩), .int .i64 now]
section
variable {w0 w : World} {G : List Nat} {h lost : Nat} {C : List Cf} {Qs : List Qu}
set_option maxRecDepth 100000 in
set_option maxHeartbeats 4000000 in
theorem hof_calls (hf : HF w0 w G h C Qs lost) (name : List UInt8) (i : Nat) (hi : i < Qs.length) (hA : atC C name = some i) (now : Int) (hl : ∀ x ∈ Qs, x.last < 900000) (hlo : lost < 900000) :
    Calls Try.prog 52 #[.agg (xcs h now).toArray, str name] w fun e w' => (∃ u, e = .returned u) ∧ HF w0 w' G h C (htick1R C Qs lost i name now).1 (htick1R C Qs lost i name now).2 ∧ Kz G w0 w w' := by
  obtain ⟨x, hx⟩ : ∃ x, Qs[i] = x := ⟨_, rfl⟩
  have hR : htick1R C Qs lost i name now = hburyL C (Qs.set i { x with L := expQ x.L now }, lost) name ((expL x.L now).map (·.m)) now := by unfold htick1R; rw [List.getElem?_eq_getElem hi, hx]
  rw [hR]
  obtain ⟨g, hg⟩ : ∃ g, w.heap.size = g := ⟨_, rfl⟩
  have hba : Below w.heap.size w (w.alloc (.cells #[.pointer (some ⟨h, 0, none⟩), .int .i64 now] 113)) := below_alloc w _
  obtain ⟨wa, hwa⟩ : ∃ wa, wa = w.alloc (.cells #[.pointer (some ⟨h, 0, none⟩), .int .i64 now] 113) := ⟨_, rfl⟩
  rw [← hwa] at hba
  have hfa : HF w0 wa ([g] ++ G) h C Qs lost := hf.guest (N := [g]) hba (fun k hk => by rw [hwa]; simp at hk; simp; omega)
  have hkz := hf.kz_of hba
  have hbx : Bx wa g 113 (xcs h now) := by rw [hwa]; exact Bx.new' w 113 (xcs h now) hg.symm
  have hqa : qAt C Qs name = some ⟨x.q, 0, none⟩ := by unfold qAt; rw [hA]; simp [List.getElem?_eq_getElem hi, hx]
  have H := Lib.hid hfa
  have HKZ := Lib.hid hkz
  have HBX := Lib.hid hbx
  have HQA := Lib.hid hqa
  have HX := Lib.hid hx
  have HWA := Lib.hid hwa
  have HL := Lib.hid (show ∀ y ∈ Qs.set i { x with L := expQ x.L now }, y.last ≤ 900000 from fun y hy => by
    rcases List.mem_or_eq_of_mem_set hy with hy | rfl
    · exact Nat.le_of_lt (hl y hy)
    · exact Nat.le_of_lt (hl x (hx ▸ List.getElem_mem hi)))
  have HLO := Lib.hid hlo
  have hg0 : w0.heap.size ≤ g := by have := hf.old; omega
  clear hba hkz hfa hbx hqa hx hwa hl hlo hf hR hA
  unfold xcs str
  go_enter Try.func52, Try.ntmps52
  go_wp2_with fail
  have hwa2 := HWA.out
  rw [← hwa2]
  clear hwa2
  obtain ⟨S, hSd⟩ : ∃ S : World → Prop, S = fun W' : World => W'.cell? ⟨g, 0, none⟩ = some (.pointer (some ⟨h, 0, none⟩)) ∧ W'.cell? ⟨g, 1, none⟩ = some (.int .i64 now) := ⟨_, rfl⟩
  have hSb : ∀ W, Bx W g 113 (xcs h now) → S W := fun W hb => by rw [hSd]; exact ⟨hb.cell 0 _ rfl, hb.cell 1 _ rfl⟩
  have hS : S wa.drew := hSb _ HBX.out.drew
  have HSd := Lib.hid hSd
  have HSB := Lib.hid hSb
  clear hSd hSb
  refine (wpIn_wide (n := 0)).1 ?_
  refine s_region [] S (by kernel_rfl) ?_
  refine s_take (fun _ => trivial) (by kernel_rfl) 0 rfl (by kernel_rfl) (by kernel_rfl) (by kernel_rfl) (by kernel_rfl) (fun _ _ _ h => h) (by rfl) (by intro w' hw; rw [HSd.out] at hw; obtain ⟨h0, h1⟩ := hw; go_simp; try (with_reducible rfl)) hS ?_
  simp only [List.getElem_toArray, List.getElem_cons_succ, List.getElem_cons_zero, Act.put, List.setIfInBounds_toArray, List.set_cons_zero, List.set_cons_succ]
  refine s_take (fun _ => trivial) (by kernel_rfl) 1 rfl (by kernel_rfl) (by kernel_rfl) (by kernel_rfl) (by kernel_rfl) (fun _ _ _ h => h) (by rfl) (by intro w' hw; rw [HSd.out] at hw; obtain ⟨h0, h1⟩ := hw; go_simp; try (with_reducible rfl)) hS ?_
  simp only [List.getElem_toArray, List.getElem_cons_succ, List.getElem_cons_zero, Act.put, List.setIfInBounds_toArray, List.set_cons_zero, List.set_cons_succ]
  refine s_take (fun _ => trivial) (by kernel_rfl) 2 rfl (by kernel_rfl) (by kernel_rfl) (by kernel_rfl) (by kernel_rfl) (fun _ _ _ h => h) (by rfl) (by intro w' hw; rw [HSd.out] at hw; obtain ⟨h0, h1⟩ := hw; go_simp; try (with_reducible rfl)) hS ?_
  simp only [List.getElem_toArray, List.getElem_cons_succ, List.getElem_cons_zero, Act.put, List.setIfInBounds_toArray, List.set_cons_zero, List.set_cons_succ]
  refine s_take (fun _ => trivial) (by kernel_rfl) 4 rfl (by kernel_rfl) (by kernel_rfl) (by kernel_rfl) (by kernel_rfl) (fun _ _ _ h => h) (by rfl) (by intro w' hw; rw [HSd.out] at hw; obtain ⟨h0, h1⟩ := hw; go_simp; try (with_reducible rfl)) hS ?_
  simp only [List.getElem_toArray, List.getElem_cons_succ, List.getElem_cons_zero, Act.put, List.setIfInBounds_toArray, List.set_cons_zero, List.set_cons_succ]
  refine s_take (fun _ => trivial) (by kernel_rfl) 5 rfl (by kernel_rfl) (by kernel_rfl) (by kernel_rfl) (by kernel_rfl) (fun _ _ _ h => h) (by rfl) (by intro w' hw; rw [HSd.out] at hw; obtain ⟨h0, h1⟩ := hw; go_simp; try (with_reducible rfl)) hS ?_
  simp only [List.getElem_toArray, List.getElem_cons_succ, List.getElem_cons_zero, Act.put, List.setIfInBounds_toArray, List.set_cons_zero, List.set_cons_succ]
  refine s_take (fun _ => trivial) (by kernel_rfl) 8 rfl (by kernel_rfl) (by kernel_rfl) (by kernel_rfl) (by kernel_rfl) (fun _ _ _ h => h) (by rfl) (by intro w' hw; rw [HSd.out] at hw; obtain ⟨h0, h1⟩ := hw; go_simp; try (with_reducible rfl)) hS ?_
  simp only [List.getElem_toArray, List.getElem_cons_succ, List.getElem_cons_zero, Act.put, List.setIfInBounds_toArray, List.set_cons_zero, List.set_cons_succ]
  refine s_one 3 (by kernel_rfl) rfl (by rfl) (fun K hK => ?_)
  go_simp
  have hcl := hqueue_calls (H.out.below (below_drew wa)) name
  unfold str at hcl
  refine ⟨trivial, rfl, (callsIn_wide.2 hcl).mono ?_⟩
  rintro e w1 ⟨rfl, rfl⟩
  rw [HQA.out]
  refine hK.out _ _ (fun _ => hS) ?_
  clear hK K hcl
  refine s_one 6 (by kernel_rfl) rfl (by rfl) (fun K hK => ?_)
  go_simp
  obtain ⟨Z, g1, g2, g3⟩ := (H.out.below (below_drew wa)).step i hi
  rw [HX.out] at g1 g3
  refine ⟨trivial, rfl, (callsIn_wide.2 (qf_exp g1 now)).mono ?_⟩
  rintro e w1 ⟨v, ms, rfl, j1, j2, j3, j4, j5⟩
  obtain ⟨f1, f2⟩ := g3 x.last (expQ x.L now) w1 (j4.less fun k hk => List.mem_append_right _ hk) j5
  have hbx1 : Bx w1 g 113 (xcs h now) := j5.bx HBX.out.drew (.inl (g2 g (by simp)))
  have hS1 : S w1 := HSB.out _ hbx1
  refine hK.out _ _ (fun _ => hS1) ?_
  clear hK K hS g1 g2 g3 j4 j5
  have hS := hS1
  clear hS1
  obtain ⟨A, c, rfl⟩ := j2.slice
  obtain ⟨n, hn⟩ : ∃ n, ms.length = n := ⟨_, rfl⟩
  rw [hn] at j2 ⊢
  have hn64 : n ≤ 64 := by
    have h1 : ms.length = (expL x.L now).length := by have := congrArg List.length j1; simpa using this
    obtain ⟨Z', q1, -⟩ := H.out.step i hi
    rw [HX.out] at q1
    have h2 := expL_len q1.wf now
    omega
  have F1 := Lib.hid f1
  have F2 := Lib.hid (HKZ.out.trans ((Kz.of_below (below_drew wa) (by rw [HWA.out]; simp; omega) (fun k hk => H.out.glt k (List.mem_append_right _ hk))).trans (f2.mono fun k hk => List.mem_append_right _ hk)))
  have J1 := Lib.hid j1
  have J2 := Lib.hid j2
  have J3 := Lib.hid j3
  have HN := Lib.hid hn
  have HB1 := Lib.hid hbx1
  clear f1 f2 j1 j2 j3 hn hbx1 HKZ HBX H
  refine s_take (fun _ => trivial) (by kernel_rfl) 7 rfl (by kernel_rfl) (by kernel_rfl) (by kernel_rfl) (by kernel_rfl) (fun _ _ _ h => h) (by rfl) (by intro w' hw; rw [HSd.out] at hw; obtain ⟨h0, h1⟩ := hw; go_simp; try (with_reducible rfl)) hS ?_
  simp only [List.getElem_toArray, List.getElem_cons_succ, List.getElem_cons_zero, Act.put, List.setIfInBounds_toArray, List.set_cons_zero, List.set_cons_succ]
  refine s_done (by kernel_rfl) ?_ _
  go_wp2_with fail
  have hlc := J2.out.rd
  have hmx : n ≤ c ∧ c ≤ 9223372036854775807 := by
    obtain ⟨A', c', hv, hr⟩ := J2.out.rd
    cases hv
    exact ⟨hr.2.1, hr.2.2.1⟩
  obtain ⟨hlc, hmx⟩ := hmx
  obtain ⟨r0, hr0⟩ : ∃ r0 : List Qu × Nat, r0 = (Qs.set i { x with L := expQ x.L now }, lost) := ⟨_, rfl⟩
  have HR0 := Lib.hid hr0
  clear hr0
  go_loopw [5, 14] (fun _ ix wr => ∃ k : Nat, k ≤ n ∧ ix = .int .i64 k ∧ Hid (HF w0 wr ([g] ++ G) h C (hburyL C r0 name ((ms.map (·.1)).take k) now).1 (hburyL C r0 name ((ms.map (·.1)).take k) now).2 ∧ Kz ([g] ++ G) w0 w1 wr)) (fun _ ix _ => n - (intOf ix).toNat)
  case atStart => exact ⟨0, by omega, rfl, Lib.hid ⟨by rw [HR0.out]; exact F1.out, Kz.refl _ _ _⟩⟩
  case round =>
    obtain ⟨k, hk, rfl, HJ⟩ := hrel
    have hbw := HJ.out.2.bx HB1.out (.inl (by simp))
    have t0 := hbw.cell 0 (.pointer (some ⟨h, 0, none⟩)) rfl
    have t1 := hbw.cell 1 (.int .i64 now) rfl
    by_cases hkn : k < n
    · have hkn' : (k : Int) < n := by omega
      have hkm : k < ms.length := by rw [HN.out]; exact hkn
      obtain ⟨p, hp⟩ : ∃ p, ms[k] = p := ⟨_, rfl⟩
      have hbody := J3.out p (by rw [← hp]; exact List.getElem_mem _)
      have hbody2 := HJ.out.2.bdv hbody
      obtain ⟨A3, c3, hpv, -⟩ := hbody2
      have HBD := Lib.hid (HJ.out.2.bdv hbody)
      have hmsl := (HJ.out.2.ownS (.inr (.inr rfl)) J2.out)
      obtain ⟨A', c', hv, hrd⟩ := hmsl.rd
      cases hv
      obtain ⟨b0, o0, e, hcell⟩ := flat_cells (fun x : Mg × Value => mcs x.1 x.2) 5 (by decide) (fun x => mcs_length x.1 x.2) hrd k hkm
      subst e
      rw [hp] at hcell
      rw [hpv] at hcell
      have d0 := hcell 0 (.int .u8 p.1.pr) rfl
      have d1 := hcell 1 (.int .u32 p.1.ttl) rfl
      have d2 := hcell 2 (.int .u32 p.1.cnt) rfl
      have d3 := hcell 3 (.string ⟨p.1.ids.toArray⟩) rfl
      have d4 := hcell 4 (.slice A3 p.1.body.length c3) rfl
      simp only [← Nat.add_assoc, Nat.add_zero] at d0 d1 d2 d3 d4
      obtain ⟨nb, hnb⟩ : ∃ nb, p.1.body.length = nb := ⟨_, rfl⟩
      rw [hnb] at d4 hpv
      have HST := Lib.hid (show hburyL C r0 name ((ms.map (·.1)).take (k + 1)) now = hburyR C (hburyL C r0 name ((ms.map (·.1)).take k) now).1 (hburyL C r0 name ((ms.map (·.1)).take k) now).2 name p.1 now by
        rw [hburyL_take (by rw [List.length_map]; exact hkm), List.getElem_map, hp])
      have hb1 : Below wr.heap.size wr (wr.alloc (.cells (mcs p.1 (.slice A3 nb c3)).toArray 41)) := below_alloc wr _
      have hlast := hburyL_last (C := C) (name := name) (now := now) ((ms.map (·.1)).take k) (r := r0) (B := 900000) (by rw [HR0.out]; exact HL.out) (by rw [HR0.out]; exact Nat.le_of_lt HLO.out)
      have hlen : ((ms.map (·.1)).take k).length ≤ 64 := by simp; omega
      have hbu := hbury_calls (HJ.out.1.below hb1) name p.1 (.slice A3 nb c3) (by have := HBD.out.below hb1; rwa [hpv] at this) (fun y hy => by have := hlast.1 y hy; omega) (by have := hlast.2; omega) now
      rw [mgv_eq'] at hbu
      unfold str at hbu
      have HBU := Lib.hid hbu
      have HKA := Lib.hid (HJ.out.1.kz_of hb1)
      have hgl := hbw.lt
      clear hbu hb1 hlast hlen hcell hrd hmsl hbody hpv hp hnb hbw hkm
      go_wp2_with fail
      refine HBU.out.mono ?_
      rintro e w3 ⟨⟨u, rfl⟩, y1, y2⟩
      have Y1 := Lib.hid y1
      have Y2 := Lib.hid y2
      clear y1 y2 d0 d1 d2 d3 d4 t0 t1
      go_wp2_with fail
      exact ⟨⟨k + 1, by omega, by go_num, Lib.hid ⟨by rw [HST.out]; exact Y1.out, (HJ.out.2.trans HKA.out).trans Y2.out⟩⟩, by simp [intOf]; omega⟩
    · obtain rfl : k = n := by omega
      go_wp2_with fail
      refine bodyPost_end (results_none rfl _ _ _) rfl ⟨⟨_, rfl⟩, ?_⟩
      have e1 : (ms.map (·.1)).take k = (expL x.L now).map (·.m) := by rw [← J1.out]; exact List.take_of_length_le (by rw [List.length_map, HN.out]; exact Nat.le_refl _)
      have h1 := HJ.out
      rw [e1, HR0.out] at h1
      exact ⟨h1.1.less fun k hk => List.mem_append_right _ hk, F2.out.trans (h1.2.mono fun k hk => List.mem_append_right _ hk)⟩
end

def nameC (C : List Cf) (i : Nat) : List UInt8 := ((C[i]?).map (·.name)).getD []
/-- The first k queues let their old messages go. -/
def htickL (C : List Cf) (r : List Qu × Nat) (now : Int) (k : Nat) : List Qu × Nat := (List.range k).foldl (fun r i => htick1R C r.1 r.2 i (nameC C i) now) r
theorem htickL_succ {C : List Cf} {r : List Qu × Nat} {now : Int} {k : Nat} : htickL C r now (k + 1) = htick1R C (htickL C r now k).1 (htickL C r now k).2 k (nameC C k) now := by
  unfold htickL
  rw [List.range_succ, List.foldl_append]
  rfl
theorem atC_nd {C : List Cf} (hnd : (C.map (·.name)).Nodup) {k : Nat} (hk : k < C.length) : atC C (C[k]).name = some k := by
  refine atI_at hk rfl fun j hj hjk he => ?_
  exact (List.pairwise_iff_getElem.1 hnd) j k (by rw [List.length_map]; exact hj) (by rw [List.length_map]; exact hk) hjk (by simp only [List.getElem_map]; exact he)
section
variable {w0 w : World} {G : List Nat} {h lost : Nat} {C : List Cf} {Qs : List Qu}
theorem htick1R_last (hf : HF w0 w G h C Qs lost) {i : Nat} (hi : i < Qs.length) {name : List UInt8} {now : Int} {B : Nat} (hl : ∀ x ∈ Qs, x.last ≤ B) (hlo : lost ≤ B) : (∀ x ∈ (htick1R C Qs lost i name now).1, x.last ≤ B + 64) ∧ (htick1R C Qs lost i name now).2 ≤ B + 64 := by
  obtain ⟨Z, g1, -, -⟩ := hf.step i hi
  have h64 := expL_len g1.wf now
  unfold htick1R
  rw [List.getElem?_eq_getElem hi]
  have h3 := hburyL_last (C := C) (name := name) (now := now) ((expL (Qs[i]).L now).map (·.m)) (r := (Qs.set i { Qs[i] with L := expQ (Qs[i]).L now }, lost)) (B := B) (fun x hx => by
    rcases List.mem_or_eq_of_mem_set hx with hx | rfl
    · exact hl x hx
    · exact (hl (Qs[i]) (List.getElem_mem hi) :)) hlo
  rw [List.length_map] at h3
  refine ⟨fun x hx => ?_, ?_⟩
  · have := h3.1 x hx; omega
  · have := h3.2; exact Nat.le_trans this (by omega)
theorem hputR_len {C : List Cf} {Qs : List Qu} {name : List UInt8} {m : Mg} {now : Int} : (hputR C Qs name m now).1.length = Qs.length := by
  unfold hputR
  split
  · rfl
  · exact List.length_set
set_option maxRecDepth 100000 in
set_option maxHeartbeats 1000000 in
theorem heachT_calls (hf : HF w0 w G h C Qs lost) (hnd : (C.map (·.name)).Nodup) (now : Int) {B : Nat} (hB : B < 800000) (hl : ∀ x ∈ Qs, x.last ≤ B) (hlo : lost ≤ B) :
    Calls Try.prog 42 #[.pointer (some ⟨h, 0, none⟩), .func (.func 52) #[.agg (xcs h now).toArray] #[]] w fun e w' => (∃ u, e = .returned u) ∧ HF w0 w' G h C (htickL C (Qs, lost) now C.length).1 (htickL C (Qs, lost) now C.length).2 ∧ Kz G w0 w w' ∧ (∀ x ∈ (htickL C (Qs, lost) now C.length).1, x.last ≤ B + 512) ∧ (htickL C (Qs, lost) now C.length).2 ≤ B + 512 := by
  have hff := hf
  obtain ⟨⟨cv, r, D, h1, h2, h3, h4, h5⟩, -, -, h8⟩ := hf
  obtain ⟨A, c, rfl, hr⟩ := h2.rd
  obtain ⟨n, hn⟩ : ∃ n, C.length = n := ⟨_, rfl⟩
  rw [hn] at h1 hr h2 h8 ⊢
  have c0 := h1.cell 0 _ rfl
  have HN := Lib.hid hn
  have H2 := Lib.hid h2
  have HF0 := Lib.hid hff
  have HL := Lib.hid hl
  have HLO := Lib.hid hlo
  have HND := Lib.hid hnd
  have hlc := hr.2.1
  have hmx := hr.2.2.1
  clear h1 h2 h3 h4 h5 hr hn hff hl hlo hnd
  obtain ⟨X, hX⟩ : ∃ X, X = xcs h now := ⟨_, rfl⟩
  rw [← hX]
  have HX := Lib.hid hX
  clear hX
  go_enter Try.func42, Try.ntmps42
  go_wp2_with fail
  go_loopw [5, 13] (fun _ i wr => ∃ (k : Nat), k ≤ n ∧ i = .int .i64 k ∧ Hid (HF w0 wr G h C (htickL C (Qs, lost) now k).1 (htickL C (Qs, lost) now k).2 ∧ Kz G w0 w wr ∧ (∀ x ∈ (htickL C (Qs, lost) now k).1, x.last ≤ B + 64 * k) ∧ (htickL C (Qs, lost) now k).2 ≤ B + 64 * k)) (fun _ i _ => n - (intOf i).toNat)
  case atStart => exact ⟨0, by omega, rfl, Lib.hid ⟨HF0.out, Kz.refl _ _ _, fun x hx => HL.out x hx, HLO.out⟩⟩
  case round =>
    obtain ⟨k, hk, rfl, HJ⟩ := hrel
    by_cases hkn : k < n
    · have hkn' : (k : Int) < n := by omega
      have hkl : k < C.length := by rw [HN.out]; exact hkn
      have hown := HJ.out.2.1.ownS (.inr (.inl rfl)) H2.out
      obtain ⟨A', c', hv, hrd⟩ := hown.rd
      cases hv
      obtain ⟨b0, o0, e, hcell⟩ := flat_cells cfs 4 (by decide) cfs_length hrd k hkl
      subst e
      obtain ⟨p, hp⟩ : ∃ p, C[k] = p := ⟨_, rfl⟩
      rw [hp] at hcell
      have g0 := hcell 0 (.string ⟨p.name.toArray⟩) rfl
      have g1 := hcell 1 (.int .i64 p.room) rfl
      have g2 := hcell 2 (.int .i64 p.limit) rfl
      have g3 := hcell 3 (.string ⟨p.dead.toArray⟩) rfl
      simp only [← Nat.add_assoc, Nat.add_zero] at g0 g1 g2 g3
      have hA : atC C p.name = some k := by rw [← hp]; exact atC_nd HND.out hkl
      have hnm : nameC C k = p.name := by unfold nameC; rw [List.getElem?_eq_getElem hkl, hp]; rfl
      have hST := htickL_succ (C := C) (r := (Qs, lost)) (now := now) (k := k)
      rw [hnm] at hST
      have hiq : k < (htickL C (Qs, lost) now k).1.length := by rw [HJ.out.1.len]; exact hkl
      have hla := htick1R_last HJ.out.1 hiq (name := p.name) (now := now) HJ.out.2.2.1 HJ.out.2.2.2
      rw [← hST] at hla
      have hb1 : Below wr.heap.size wr (wr.alloc (.cells #[.string ⟨p.name.toArray⟩, .int .i64 p.room, .int .i64 p.limit, .string ⟨p.dead.toArray⟩] 23)) := below_alloc wr _
      have hof := hof_calls (HJ.out.1.below hb1) p.name k hiq hA now (fun x hx => by have := HJ.out.2.2.1 x hx; omega) (by have := HJ.out.2.2.2; omega)
      rw [← hST, ← HX.out] at hof
      unfold str at hof
      have HOF := Lib.hid hof
      have HLA := Lib.hid hla
      have HKA := Lib.hid (HJ.out.2.1.trans (HJ.out.1.kz_of hb1))
      clear hcell hp hA hnm hST hiq hla hb1 hof hown hrd
      go_wp2_with fail
      refine HOF.out.mono ?_
      rintro e w2 ⟨⟨u, rfl⟩, j1, j2⟩
      have J1 := Lib.hid j1
      have J2 := Lib.hid j2
      clear j1 j2 g0 g1 g2 g3
      go_wp2_with fail
      exact ⟨⟨k + 1, by omega, by go_num, Lib.hid ⟨J1.out, HKA.out.trans J2.out, HLA.out.1, HLA.out.2⟩⟩, by simp [intOf]; omega⟩
    · obtain rfl : k = n := by omega
      go_wp2_with fail
      refine bodyPost_end (results_none rfl _ _ _) rfl ⟨⟨_, rfl⟩, HJ.out.1, HJ.out.2.1, fun x hx => by have := HJ.out.2.2.1 x hx; omega, by have := HJ.out.2.2.2; omega⟩
set_option maxRecDepth 100000 in
theorem htick_of (p : Option Addr) (now : Int) (R : World → Prop)
    (hcl : Calls Try.prog 42 #[.pointer p, .func (.func 52) #[.agg #[.pointer p, .int .i64 now]] #[]] w fun e w' => (∃ u, e = .returned u) ∧ R w') :
    Calls Try.prog 22 #[.pointer p, .int .i64 now] w fun e w' => (∃ u, e = .returned u) ∧ R w' := by
  have HCL := Lib.hid hcl
  have hmk : ∀ W, (Instr.makeFunc (Fn.func 52) #[.agg #[.pointer p, .int .i64 now]] #[]).run Try.prog W = .ok (.func (.func 52) #[.agg #[.pointer p, .int .i64 now]] #[]) W := fun W => rfl
  clear hcl
  go_enter Try.func22, Try.ntmps22
  go_wp2_with fail
  refine HCL.out.mono ?_
  rintro e w' ⟨⟨u, rfl⟩, h1⟩
  have H1 := Lib.hid h1
  clear h1 hmk
  go_wp2_with fail
  refine bodyPost_end (results_none rfl _ _ _) rfl ⟨⟨_, rfl⟩, H1.out⟩
theorem htick_calls (hf : HF w0 w G h C Qs lost) (hnd : (C.map (·.name)).Nodup) (now : Int) {B : Nat} (hB : B < 800000) (hl : ∀ x ∈ Qs, x.last ≤ B) (hlo : lost ≤ B) :
    Calls Try.prog 22 #[.pointer (some ⟨h, 0, none⟩), .int .i64 now] w fun e w' => (∃ u, e = .returned u) ∧ HF w0 w' G h C (htickL C (Qs, lost) now C.length).1 (htickL C (Qs, lost) now C.length).2 ∧ Kz G w0 w w' ∧ (∀ x ∈ (htickL C (Qs, lost) now C.length).1, x.last ≤ B + 512) ∧ (htickL C (Qs, lost) now C.length).2 ≤ B + 512 :=
  htick_of _ now _ (heachT_calls hf hnd now hB hl hlo)
set_option maxRecDepth 100000 in
theorem heachT_nil (a : Value) (w : World) :
    Calls Try.prog 42 #[.pointer none, .func (.func 52) #[a] #[]] w fun e w' => (∃ u, e = .returned u) ∧ w = w' := by
  go_enter Try.func42, Try.ntmps42
  go_wp2_with fail
  refine bodyPost_ret (results_none rfl _ _ _) rfl ⟨⟨_, rfl⟩, rfl⟩
theorem htick_nil (now : Int) (w : World) :
    Calls Try.prog 22 #[.pointer none, .int .i64 now] w fun e w' => (∃ u, e = .returned u) ∧ w = w' :=
  htick_of _ now _ (heachT_nil _ w)
end
end Go.Proofs.Ytklgndmndnmdpaa

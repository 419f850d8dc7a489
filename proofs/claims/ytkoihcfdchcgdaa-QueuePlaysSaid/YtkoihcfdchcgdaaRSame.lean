import Derived.Test.YtkoihcfdchcgdaaRMeant
set_option linter.unusedVariables false
set_option linter.unusedSimpArgs false
namespace Go.Proofs.Ytkoihcfdchcgdaa
open Go.RowKit Go.Shelf

set_option maxRecDepth 100000 in
set_option maxHeartbeats 1000000 in
/-- One message twice is the same. -/
theorem rsame_calls {w : World} (m : Mg) (A B : Option Addr) (c d n : Nat) (hn : m.body.length = n) (h : Rd w A c m.body) (k : Rd w B d m.body) :
    Calls Try.prog 22 #[mgv m (.slice A n c), mgv m (.slice B n d)] w fun e w' => e = .returned (.bool true) ∧ Below w.heap.size w w' := by
  have H := Lib.hid h
  have HK := Lib.hid k
  have HN := Lib.hid hn
  clear h k hn
  rw [mgv_eq, mgv_eq]
  go_enter Try.func22, Try.ntmps22
  go_wp2_with fail
  have hb : ∀ a b : Obj, Below w.heap.size w ((w.alloc a).alloc b) := fun a b => (below_alloc w a).alloc (by simp) b
  have hcl := eq_calls A B c d m.body m.body _ (H.out.below (hb (.cells #[.int .u8 m.pr, .int .u32 m.ttl, .int .u32 m.cnt, .string ⟨m.ids.toArray⟩, .slice A n c] 32) (.cells #[.int .u8 m.pr, .int .u32 m.ttl, .int .u32 m.cnt, .string ⟨m.ids.toArray⟩, .slice B n d] 32))) (HK.out.below (hb _ _))
  rw [HN.out] at hcl
  refine hcl.mono ?_
  rintro e w' ⟨rfl, rfl⟩
  rw [show decide (m.body = m.body) = true from decide_eq_true rfl]
  go_wp2_with fail
  go_ret
  exact ⟨rfl, hb _ _⟩

set_option maxRecDepth 100000 in
set_option maxHeartbeats 2000000 in
theorem rmsgs_calls {w : World} {b1 b2 : Nat} {v1 v2 : Value} {l1 l2 : List (Mg × Value)} (h1 : Msl w b1 v1 l1) (h2 : Msl w b2 v2 l2) (he : l1.map (·.1) = l2.map (·.1)) :
    Calls Try.prog 31 #[v1, v2] w fun e w' => e = .returned (.bool true) ∧ Below w.heap.size w w' := by
  obtain ⟨o1, k1⟩ := h1
  obtain ⟨o2, k2⟩ := h2
  obtain ⟨A, c, rfl, r1⟩ := o1.rd
  obtain ⟨B, d, rfl, r2⟩ := o2.rd
  have hlen : l2.length = l1.length := by have := congrArg List.length he; simpa using this.symm
  rw [hlen] at r2 ⊢
  obtain ⟨n, hn⟩ : ∃ n, l1.length = n := ⟨_, rfl⟩
  rw [hn] at r1 r2 ⊢
  have R1 := Lib.hid r1
  have R2 := Lib.hid r2
  have K1 := Lib.hid k1
  have K2 := Lib.hid k2
  have HE := Lib.hid he
  have HL := Lib.hid hlen
  have HN := Lib.hid hn
  have c1 := r1.2.1
  have c2 := r1.2.2.1
  have c3 := r2.2.1
  have c4 := r2.2.2.1
  clear o1 o2 r1 r2 k1 k2 he hlen hn
  go_enter Try.func31, Try.ntmps31
  go_wp2_with fail
  go_loopw [5] (fun i wr => ∃ k : Nat, k ≤ n ∧ i = .int .i64 k ∧ Below w.heap.size w wr) (fun i _ => n - (intOf i).toNat)
  case atStart => exact ⟨0, by omega, rfl, Below.refl _ _⟩
  case round =>
    obtain ⟨k, hk, rfl, hb⟩ := hrel
    have HB := Lib.hid hb
    clear hb
    by_cases hkn : k < n
    · have hkn' : (k : Int) < n := by omega
      have hk1 : k < l1.length := by rw [HN.out]; exact hkn
      have hk2 : k < l2.length := by rw [HL.out]; exact hk1
      obtain ⟨ba, oa, hA, ha⟩ := flat_cells (fun x : Mg × Value => mcs x.1 x.2) 5 (by decide) (fun _ => rfl) (R1.out.below HB.out) k hk1
      obtain ⟨bb, ob, hB, hb⟩ := flat_cells (fun x : Mg × Value => mcs x.1 x.2) 5 (by decide) (fun _ => rfl) (R2.out.below HB.out) k hk2
      subst hA hB
      obtain ⟨m, hm⟩ : ∃ m, (l1[k]).1 = m := ⟨_, rfl⟩
      have hm2 : (l2[k]).1 = m := by
        rw [← hm]
        have h1 : (l1.map (·.1))[k]'(by simpa using hk1) = (l2.map (·.1))[k]'(by simpa using hk2) := by simp only [HE.out]
        simpa using h1.symm
      obtain ⟨Aa, ca, hva, hra, -⟩ := (K1.out _ (List.getElem_mem hk1)).below HB.out
      obtain ⟨Ab, cb, hvb, hrb, -⟩ := (K2.out _ (List.getElem_mem hk2)).below HB.out
      rw [hm] at hva hra ha
      rw [hm2] at hvb hrb hb
      obtain ⟨nb, hnb⟩ : ∃ nb, m.body.length = nb := ⟨_, rfl⟩
      rw [hva] at ha
      rw [hvb] at hb
      rw [hnb] at ha hb
      have d0 := ha 0 (.int .u8 m.pr) rfl
      have d1 := ha 1 (.int .u32 m.ttl) rfl
      have d2 := ha 2 (.int .u32 m.cnt) rfl
      have d3 := ha 3 (.string ⟨m.ids.toArray⟩) rfl
      have d4 := ha 4 (.slice Aa nb ca) rfl
      have d5 := hb 0 (.int .u8 m.pr) rfl
      have d6 := hb 1 (.int .u32 m.ttl) rfl
      have d7 := hb 2 (.int .u32 m.cnt) rfl
      have d8 := hb 3 (.string ⟨m.ids.toArray⟩) rfl
      have d9 := hb 4 (.slice Ab nb cb) rfl
      simp only [← Nat.add_assoc, Nat.add_zero] at d0 d1 d2 d3 d4 d5 d6 d7 d8 d9
      have HRA := Lib.hid hra
      have HRB := Lib.hid hrb
      have HNB := Lib.hid hnb
      clear ha hb hva hvb hm hm2 hra hrb hnb
      go_wp2_with fail
      obtain ⟨S, hSd⟩ : ∃ S : World → Prop, S = fun W' : World => W'.cell? ⟨ba, oa + k * 5, none⟩ = some (.int .u8 m.pr) ∧ W'.cell? ⟨ba, oa + k * 5 + 1, none⟩ = some (.int .u32 m.ttl) ∧ W'.cell? ⟨ba, oa + k * 5 + 2, none⟩ = some (.int .u32 m.cnt) ∧ W'.cell? ⟨ba, oa + k * 5 + 3, none⟩ = some (.string ⟨m.ids.toArray⟩) ∧ W'.cell? ⟨ba, oa + k * 5 + 4, none⟩ = some (.slice Aa nb ca) ∧ W'.cell? ⟨bb, ob + k * 5, none⟩ = some (.int .u8 m.pr) ∧ W'.cell? ⟨bb, ob + k * 5 + 1, none⟩ = some (.int .u32 m.ttl) ∧ W'.cell? ⟨bb, ob + k * 5 + 2, none⟩ = some (.int .u32 m.cnt) ∧ W'.cell? ⟨bb, ob + k * 5 + 3, none⟩ = some (.string ⟨m.ids.toArray⟩) ∧ W'.cell? ⟨bb, ob + k * 5 + 4, none⟩ = some (.slice Ab nb cb) := ⟨_, rfl⟩
      have hS : S wr.drew := by rw [hSd]; exact ⟨d0, d1, d2, d3, d4, d5, d6, d7, d8, d9⟩
      have hSk : ∀ A' W' : World, S A' → (∀ b o v, A'.cell? ⟨b, o, none⟩ = some v → W'.cell? ⟨b, o, none⟩ = some v) → S W' := fun A' W' h hk => by
        rw [hSd] at h ⊢
        obtain ⟨e0, e1, e2, e3, e4, e5, e6, e7, e8, e9⟩ := h
        exact ⟨hk _ _ _ e0, hk _ _ _ e1, hk _ _ _ e2, hk _ _ _ e3, hk _ _ _ e4, hk _ _ _ e5, hk _ _ _ e6, hk _ _ _ e7, hk _ _ _ e8, hk _ _ _ e9⟩
      have HSd := Lib.hid hSd
      have HSk := Lib.hid hSk
      clear hSd hSk d0 d1 d2 d3 d4 d5 d6 d7 d8 d9
      refine (wpIn_wide (n := 0)).1 ?_
      refine s_region [] S (by kernel_rfl) ?_
      refine s_tk 0 rfl (by kernel_rfl) (by rfl) (by intro w' hw; rw [HSd.out] at hw; obtain ⟨h0, h1, h2, h3, h4, h5, h6, h7, h8, h9⟩ := hw; go_simp; try (with_reducible rfl)) hS ?_
      simp only [List.getElem_toArray, List.getElem_cons_succ, List.getElem_cons_zero, Act.put, List.setIfInBounds_toArray, List.set_cons_zero, List.set_cons_succ]
      refine s_tk 1 rfl (by kernel_rfl) (by rfl) (by intro w' hw; rw [HSd.out] at hw; obtain ⟨h0, h1, h2, h3, h4, h5, h6, h7, h8, h9⟩ := hw; go_simp; try (with_reducible rfl)) hS ?_
      simp only [List.getElem_toArray, List.getElem_cons_succ, List.getElem_cons_zero, Act.put, List.setIfInBounds_toArray, List.set_cons_zero, List.set_cons_succ]
      refine s_tk 2 rfl (by kernel_rfl) (by rfl) (by intro w' hw; rw [HSd.out] at hw; obtain ⟨h0, h1, h2, h3, h4, h5, h6, h7, h8, h9⟩ := hw; go_simp; try (with_reducible rfl)) hS ?_
      simp only [List.getElem_toArray, List.getElem_cons_succ, List.getElem_cons_zero, Act.put, List.setIfInBounds_toArray, List.set_cons_zero, List.set_cons_succ]
      refine s_tk 3 rfl (by kernel_rfl) (by rfl) (by intro w' hw; rw [HSd.out] at hw; obtain ⟨h0, h1, h2, h3, h4, h5, h6, h7, h8, h9⟩ := hw; go_simp; try (with_reducible rfl)) hS ?_
      simp only [List.getElem_toArray, List.getElem_cons_succ, List.getElem_cons_zero, Act.put, List.setIfInBounds_toArray, List.set_cons_zero, List.set_cons_succ]
      refine s_tk 4 rfl (by kernel_rfl) (by rfl) (by intro w' hw; rw [HSd.out] at hw; obtain ⟨h0, h1, h2, h3, h4, h5, h6, h7, h8, h9⟩ := hw; go_simp; try (with_reducible rfl)) hS ?_
      simp only [List.getElem_toArray, List.getElem_cons_succ, List.getElem_cons_zero, Act.put, List.setIfInBounds_toArray, List.set_cons_zero, List.set_cons_succ]
      refine s_tk 5 rfl (by kernel_rfl) (by rfl) (by intro w' hw; rw [HSd.out] at hw; obtain ⟨h0, h1, h2, h3, h4, h5, h6, h7, h8, h9⟩ := hw; go_simp; try (with_reducible rfl)) hS ?_
      simp only [List.getElem_toArray, List.getElem_cons_succ, List.getElem_cons_zero, Act.put, List.setIfInBounds_toArray, List.set_cons_zero, List.set_cons_succ]
      refine s_tk 6 rfl (by kernel_rfl) (by rfl) (by intro w' hw; rw [HSd.out] at hw; obtain ⟨h0, h1, h2, h3, h4, h5, h6, h7, h8, h9⟩ := hw; go_simp; try (with_reducible rfl)) hS ?_
      simp only [List.getElem_toArray, List.getElem_cons_succ, List.getElem_cons_zero, Act.put, List.setIfInBounds_toArray, List.set_cons_zero, List.set_cons_succ]
      refine s_tk 7 rfl (by kernel_rfl) (by rfl) (by intro w' hw; rw [HSd.out] at hw; obtain ⟨h0, h1, h2, h3, h4, h5, h6, h7, h8, h9⟩ := hw; go_simp; try (with_reducible rfl)) hS ?_
      simp only [List.getElem_toArray, List.getElem_cons_succ, List.getElem_cons_zero, Act.put, List.setIfInBounds_toArray, List.set_cons_zero, List.set_cons_succ]
      refine s_one 8 (by kernel_rfl) rfl (by rfl) (fun K hK => ?_)
      go_simp
      have hcl := rsame_calls (w := wr.drew) m Aa Ab ca cb nb HNB.out HRA.out HRB.out
      rw [mgv_eq, mgv_eq] at hcl
      refine ⟨trivial, rfl, (callsIn_wide.2 hcl).mono ?_⟩
      rintro x w2 ⟨rfl, b2⟩
      have hS1 := HSk.out _ _ hS fun b o v h => stays_ b2 h
      refine hK.out _ _ (fun _ => hS1) ?_
      clear hK K hS hcl
      have hS := hS1
      clear hS1
      have B2 := Lib.hid (below_then HB.out HB.out.size (below_of_drew b2))
      clear b2
      refine s_tk 9 rfl (by kernel_rfl) (by rfl) (by intro w' hw; rw [HSd.out] at hw; obtain ⟨h0, h1, h2, h3, h4, h5, h6, h7, h8, h9⟩ := hw; go_simp; try (with_reducible rfl)) hS ?_
      simp only [List.getElem_toArray, List.getElem_cons_succ, List.getElem_cons_zero, Act.put, List.setIfInBounds_toArray, List.set_cons_zero, List.set_cons_succ]
      refine s_done (by kernel_rfl) ?_ _
      go_wp2_with fail
      exact ⟨⟨k + 1, by omega, by go_num, B2.out⟩, by simp [intOf]; omega⟩
    · obtain rfl : k = n := by omega
      go_wp2_with fail
      go_ret
      exact ⟨rfl, HB.out⟩

set_option maxRecDepth 100000 in
set_option maxHeartbeats 1000000 in
/-- What is told twice alike is the same. -/
theorem rtold_calls {w : World} {b1 b2 : Nat} {v1 v2 : Value} {t : Tol} (h1 : TV w b1 v1 t) (h2 : TV w b2 v2 t) :
    Calls Try.prog 17 #[v1, v2] w fun e w' => e = .returned (.bool true) ∧ Below w.heap.size w w' := by
  obtain ⟨s1, l1, rfl, m1, e1⟩ := h1
  obtain ⟨s2, l2, rfl, m2, e2⟩ := h2
  have hsl1 := m1.1.slice
  obtain ⟨A, c, rfl⟩ := hsl1
  obtain ⟨B, d, rfl⟩ := m2.1.slice
  have M1 := Lib.hid m1
  have M2 := Lib.hid m2
  have HE := Lib.hid (e1.trans e2.symm)
  obtain ⟨n, ms, is, E⟩ := t
  obtain ⟨x, hx⟩ : ∃ x, l1.length = x := ⟨_, rfl⟩
  obtain ⟨y, hy⟩ : ∃ y, l2.length = y := ⟨_, rfl⟩
  rw [hx] at M1 ⊢
  rw [hy] at M2 ⊢
  clear m1 m2 e1 e2 hx hy
  unfold tdc
  go_enter Try.func17, Try.ntmps17
  go_wp2_with fail
  have hb : ∀ a b : Obj, Below w.heap.size w ((w.alloc a).alloc b) := fun a b => (below_alloc w a).alloc (by simp) b
  have hm1 : ∀ a b : Obj, Msl ((w.alloc a).alloc b) b1 (.slice A x c) l1 := fun a b => M1.out.tch ((Tch.of_below [] (hb a b))) (by simp)
  have hm2 : ∀ a b : Obj, Msl ((w.alloc a).alloc b) b2 (.slice B y d) l2 := fun a b => M2.out.tch ((Tch.of_below [] (hb a b))) (by simp)
  refine (rmsgs_calls (hm1 _ _) (hm2 _ _) HE.out).mono ?_
  rintro e w' ⟨rfl, b2⟩
  have B2 := Lib.hid (below_then (hb _ _) (hb _ _).size b2)
  clear b2
  go_wp2_with fail
  go_ret
  exact ⟨rfl, B2.out⟩
end Go.Proofs.Ytkoihcfdchcgdaa

import Derived.Test.YtklgndmndnmdpaaHDeadL
set_option linter.unusedVariables false
set_option linter.unusedSimpArgs false
namespace Go.Proofs.Ytklgndmndnmdpaa
open Go.RowKit Go.Shelf

set_option maxRecDepth 100000 in
set_option maxHeartbeats 8000000 in
theorem dead_row {w : World} (x0 : Int) (w0 : (Lit.int .u8 x0).wf = true) (x1 : Int) (w1 : (Lit.int .u8 x1).wf = true) (x2 : Int) (w2 : (Lit.int .u8 x2).wf = true) (no : Bool) :
    Calls Try.prog 6 #[.int .u8 x0, .int .u8 x1, .int .u8 x2, .bool no] w fun e w' => e = .returned (.bool true) ∧ Below w.heap.size w w' := by
  obtain ⟨how, rfl⟩ : ∃ k : Nat, x0 = k := ⟨x0.toNat, by have := wf_u8 w0; omega⟩
  obtain ⟨ah, rfl⟩ : ∃ k : Nat, x1 = k := ⟨x1.toNat, by have := wf_u8 w1; omega⟩
  obtain ⟨ro, rfl⟩ : ∃ k : Nat, x2 = k := ⟨x2.toNat, by have := wf_u8 w2; omega⟩
  have hh := (wf_u8 w0).2
  have ha := (wf_u8 w1).2
  have hr := (wf_u8 w2).2
  clear w0 w1 w2
  obtain ⟨n, hn⟩ : ∃ n : Nat, n = 1 + ro % 6 := ⟨_, rfl⟩
  obtain ⟨full, hfu⟩ : ∃ full : Nat, full = ah % (n + 1) := ⟨_, rfl⟩
  have hn1 : 1 ≤ n := by omega
  have hn6 : n ≤ 6 := by omega
  have hfn : full ≤ n := by have := Nat.mod_lt ah (show 0 < n + 1 by omega); omega
  have e1 : (1 : Int) + (ro : Int) % 6 = n := by omega
  have e2 : (ah : Int) % ((n : Int) + 1) = full := by rw [hfu]; exact (Int.natCast_emod ah (n + 1)).symm
  have HE1 := Lib.hid e1
  have HE2 := Lib.hid e2
  have HN1 := Lib.hid hn1
  have HN6 := Lib.hid hn6
  have HFN := Lib.hid hfn
  clear e1 e2 hn hfu hn1 hn6 hfn
  cases no with
  | true =>
    have hd : ([] : List UInt8) = [] ∨ ([] : List UInt8) = [100] := by decide
    have hnw := hnew_calls (w0 := w) (w := w.alloc (.cells ((dC [] n).flatMap cfs).toArray 23)) (below_alloc w _) (some ⟨w.heap.size, 0, none⟩) 2 2 (dC [] n) (rdc_bx (Bx.new w 23 ((dC [] n).flatMap cfs)) 2 4 rfl (fun u hu => by obtain ⟨c, _, hc⟩ := List.mem_flatMap.1 hu; exact cfs_one' c u hc) (by decide)) (by decide) (d_wf [] HN6.out)
    rw [dC_arr] at hnw
    have HNW := Lib.hid hnw
    have HNH := Lib.hid (dNew (dd := []) HN1.out HN6.out hd)
    have HD := Lib.hid hd
    clear hnw hd
    go_enter Try.func6, Try.ntmps6
    go_wp2_with fail
    rw [HE1.out]
    refine HNW.out.mono ?_
    rintro e w1 ⟨p, rfl, hb1, -, h0⟩
    obtain ⟨h, Qs, rfl, hf, hnew⟩ := h0 HNH.out
    obtain ⟨q0, q1, rfl⟩ := d_start hf hnew
    have HF0 := Lib.hid hf
    rw [HNH.out]
    clear h0 hf hnew HNW hb1
    have hnn : ¬ (n : Int) + 1 = 0 := by omega
    have hn0 : (0 : Int) ≤ n := by omega
    have hn7 : (n : Int) < 7 := by have := HN6.out; omega
    go_wp2_with fail
    rw [HE2.out]
    have hfn' : (full : Int) < 8 := by have := HN6.out; have := HFN.out; omega
    go_loopw [14] (fun i wr => ∃ k : Nat, k ≤ full ∧ i = .int .i64 k ∧ Hid (HF w wr [] h (dC [] n) [⟨q0, 3, 2, 0, []⟩, ⟨q1, n, 0, k, dL k⟩] 0)) (fun i _ => full - (intOf i).toNat)
    case atStart => exact ⟨0, by omega, rfl, HF0⟩
    case round =>
      obtain ⟨k, hk, rfl, HJ⟩ := hrel
      clear HF0
      by_cases hkf : k < full
      · have hkf' : (k : Int) < full := by omega
        have hk8 : (k : Int) < 8 := by omega
        have hwr : IntKind.u8.wrap (k : Int) = (k : Int) := by rw [IntKind.wrap_u8]; omega
        have hpt := hput_calls (HJ.out.below (below_alloc wr (.cells #[.int .u8 k] 5))) [100] (dM k) (some ⟨wr.heap.size, 0, none⟩) 1 1 rfl (rd_const (dM_arr k (by omega)) rfl (by decide)) (Nat.zero_le _) (Nat.zero_le _) (by intro x hx; simp only [List.mem_cons, List.not_mem_nil, or_false] at hx; rcases hx with rfl | rfl <;> simp <;> omega) 0
        rw [d_put k (by have := HFN.out; omega)] at hpt
        have HPT := Lib.hid hpt
        clear hpt
        go_wp2_with fail
        refine HPT.out.mono ?_
        rintro e w3 ⟨rfl, hf3, -⟩
        have HF3 := Lib.hid hf3
        clear hf3 HPT
        go_wp2_with fail
        exact ⟨⟨k + 1, by omega, by go_num, HF3⟩, by simp [intOf]; omega⟩
      · obtain rfl : k = full := by omega
        clear hkf
        have kc := fun (w : World) (C : Array Value) (n c : Nat) => Lib.run_convert_bytes_const (P := Try.prog) w 39 5 C n c Try.underlying39 Try.underlying5
        go_wp2_with fail
        obtain ⟨g, hg⟩ : ∃ g, wr.heap.size = g := ⟨_, rfl⟩
        rw [hg]
        have hbx1 : Bx ((wr.alloc (.cells #[.int .u8 98, .int .u8 111, .int .u8 100, .int .u8 121] 5 (4, 5))).alloc (.cells #[.int .u8 7, .int .u32 50, .int .u32 1, .string ⟨#[105, 100]⟩, .slice (some ⟨g, 0, none⟩) 4 4] 41)) (g + 1) 41 (mcs dMsg (.slice (some ⟨g, 0, none⟩) 4 4)) := Bx.new' (wr.alloc _) (b := g + 1) 41 (mcs dMsg (.slice (some ⟨g, 0, none⟩) 4 4)) (by simp; omega)
        have hrd0 : Rd ((wr.alloc (.cells #[.int .u8 98, .int .u8 111, .int .u8 100, .int .u8 121] 5 (4, 5))).alloc (.cells #[.int .u8 7, .int .u32 50, .int .u32 1, .string ⟨#[105, 100]⟩, .slice (some ⟨g, 0, none⟩) 4 4] 41)) (some ⟨g, 0, none⟩) 4 dMsg.body := by
          rw [← hg]
          exact (rd_const (w := wr) (fr := (4, 5)) (l := dMsg.body) rfl rfl (by decide)).below (below_alloc _ _)
        have hbd0 : Bdv ((wr.alloc (.cells #[.int .u8 98, .int .u8 111, .int .u8 100, .int .u8 121] 5 (4, 5))).alloc (.cells #[.int .u8 7, .int .u32 50, .int .u32 1, .string ⟨#[105, 100]⟩, .slice (some ⟨g, 0, none⟩) 4 4] 41)) (.slice (some ⟨g, 0, none⟩) 4 4) dMsg.body := by
          refine ⟨some ⟨g, 0, none⟩, 4, rfl, hrd0, fun ad ha _ => ?_⟩
          cases ha
          exact ⟨_, _, (heap_alloc_old (wr.alloc _) _ (by simp; omega)).trans (by rw [← hg]; exact heap_alloc_new wr _)⟩
        have hfm := HJ.out.guest (N := [g + 1]) (below2 wr (.cells #[.int .u8 98, .int .u8 111, .int .u8 100, .int .u8 121] 5 (4, 5)) (.cells #[.int .u8 7, .int .u32 50, .int .u32 1, .string ⟨#[105, 100]⟩, .slice (some ⟨g, 0, none⟩) 4 4] 41)) (fun k hk => by simp at hk; simp; omega)
        have hpt := hput_calls hfm [97] dMsg (some ⟨g, 0, none⟩) 4 4 rfl hrd0 (by decide) (by decide) (by intro x hx; simp only [List.mem_cons, List.not_mem_nil, or_false] at hx; rcases hx with rfl | rfl <;> simp <;> omega) 10
        rw [d_putm] at hpt
        refine hpt.mono ?_
        rintro e V ⟨rfl, hfV, kzV⟩
        have HFV := Lib.hid hfV
        have HMV := Lib.hid (kzV.bx hbx1 (.inl (by simp)))
        have HBV := Lib.hid (kzV.bdv hbd0)
        clear hpt hfV kzV hfm hbd0 hrd0 hbx1 kc hg HJ
        have hcases : (how : Int) % 4 = 0 ∨ (how : Int) % 4 = 1 ∨ (how : Int) % 4 = 2 ∨ (how : Int) % 4 = 3 := by omega
        rcases hcases with h4 | h4 | h4 | h4
        · go_wp2_with fail
          obtain ⟨ob, hob⟩ : ∃ ob, V.heap.size = ob := ⟨_, rfl⟩
          rw [hob]
          have hfW := HFV.out.guest (N := [ob]) (below_alloc V (.cells #[.int .u8 3, .int .u64 0, .int .u64 0, .string ⟨#[]⟩] 47)) (fun k hk => by simp at hk; simp; omega)
          have hoW : Bx (V.alloc (.cells #[.int .u8 3, .int .u64 0, .int .u64 0, .string ⟨#[]⟩] 47)) ob 47 (occ ⟨3, 0, 0, []⟩) := Bx.new' V 47 (occ ⟨3, 0, 0, []⟩) hob.symm
          have hmW := HMV.out.alloc (.cells #[.int .u8 3, .int .u64 0, .int .u64 0, .string ⟨#[]⟩] 47)
          have hbW := HBV.out.below (below_alloc V (.cells #[.int .u8 3, .int .u64 0, .int .u64 0, .string ⟨#[]⟩] 47))
          have hne : g + 1 ≠ ob := hmW.ne hoW (by decide)
          refine (hacq_calls hfW [97] 20).mono ?_
          rintro e W ⟨hor, hf4, kz4⟩
          rw [d_acq] at hor hf4
          obtain ⟨e4, v4, he4, rfl, hbd⟩ : ∃ e4 v4, (some (⟨1, dMsg, 10, false⟩ : En)) = some e4 ∧ e = .returned (.tuple #[.agg (kcs [97] e4.id).toArray, mgv e4.m v4, .bool true]) ∧ Bdv W v4 e4.m.body := by
            rcases hor with ⟨h1, -⟩ | ⟨e4, v4, h1, h2, h3⟩
            · cases h1
            · exact ⟨e4, v4, h1, h2, h3⟩
          cases he4
          obtain ⟨A4, c4, rfl, -⟩ := hbd
          have HF4 := Lib.hid hf4
          have hoX := kz4.bx hoW (.inl (by simp))
          have HO4 := Lib.hid hoX
          have HM4 := Lib.hid (kz4.bx hmW (.inl (by simp)))
          have HB4 := Lib.hid (kz4.bdv hbW)
          have o0 := hoX.cell 0 (.int .u8 3) rfl
          have o1 := hoX.cell 1 (.int .u64 0) rfl
          have o2 := hoX.cell 2 (.int .u64 0) rfl
          have o3 := hoX.cell 3 (.string ⟨#[]⟩) rfl
          have ol := hoX.lt
          rw [show (kcs [97] (⟨1, dMsg, 10, false⟩ : En).id).toArray = #[.string ⟨#[97]⟩, .int .i64 1] from rfl, show mgv (⟨1, dMsg, 10, false⟩ : En).m (.slice A4 ((⟨1, dMsg, 10, false⟩ : En).m.body.length) c4) = .agg #[.int .u8 7, .int .u32 50, .int .u32 1, .string ⟨#[105, 100]⟩, .slice A4 4 c4] from rfl]
          have hst := fun U (hb : Below W.heap.size W U) => hset_calls (HF4.out.below hb) [97] 1 ⟨3, 0, 0, []⟩ 21 (by intro x hx; simp only [List.mem_cons, List.not_mem_nil, or_false] at hx; rcases hx with rfl | rfl <;> simp <;> omega) (by decide)
          rw [d_set k (by decide) ⟨3, 0, 0, []⟩ (by simp)] at hst
          have HST := Lib.hid hst
          clear hst hor hf4 kz4 hoX hfW hoW hmW hbW HFV HMV HBV hob
          go_wp2_with fail
          refine (HST.out _ ?_).mono ?_
          · exact below2 W _ _
          rintro e U ⟨rfl, hfU, kzU⟩
          have HFU := Lib.hid (hfU.less (G' := [g + 1]) (by simp))
          have HMU := Lib.hid (kzU.bx ((HM4.out.alloc (.cells #[.string ⟨#[97]⟩, .int .i64 1] 37)).alloc (.cells #[.int .u8 7, .int .u32 50, .int .u32 1, .string ⟨#[105, 100]⟩, .slice A4 4 c4] 41)) (.inl (by simp)))
          have HBU := Lib.hid (kzU.bdv (HB4.out.below (below2 W (.cells #[.string ⟨#[97]⟩, .int .i64 1] 37) (.cells #[.int .u8 7, .int .u32 50, .int .u32 1, .string ⟨#[105, 100]⟩, .slice A4 4 c4] 41))))
          clear hfU kzU HF4 HO4 HM4 HB4 o0 o1 o2 o3 ol HST
          go_wp2_with fail
          have hE : dEnd [] n q0 q1 k 21 = ([⟨q0, 3, 2, 1, []⟩, ⟨q1, n, 0, k, dL k⟩], 1) := by unfold dEnd; rw [if_pos (.inl rfl)]
          have hfL := HFU.out
          rw [hE] at hfL
          have HFL := Lib.hid hfL
          clear hfL hE HFU
          refine (hlist_calls HFL.out [100]).mono ?_
          rintro e U1 ⟨v, ms, rfl, hms, hml, b1⟩
          have hms2 : ms.map (·.1) = (ordQ false (dL k)).map (·.m) := hms
          rw [d_order] at hms2
          have hmk : ms.length = k := by have := congrArg List.length hms2; rw [List.length_map, List.length_map, dL_len] at this; exact this
          obtain ⟨A1, c1, rfl⟩ := hml.1.slice
          rw [hmk, show hasQ (dC [] n) [⟨q0, 3, 2, 1, []⟩, ⟨q1, n, 0, k, dL k⟩] [100] = 0 from by unfold hasQ qAt; rw [dAt_d]; rfl]
          have HF1 := Lib.hid (HFL.out.below b1)
          clear hms hms2 hml b1 HFL hmk
          go_wp2_with fail
          refine (hlen_calls HF1.out [97]).mono ?_
          rintro e U2 ⟨rfl, b2⟩
          rw [show (ordQ false (qLs (dC [] n) [⟨q0, 3, 2, 1, []⟩, ⟨q1, n, 0, k, dL k⟩] [97])).length = 0 from by kernel_rfl, show (ordQ true (qLs (dC [] n) [⟨q0, 3, 2, 1, []⟩, ⟨q1, n, 0, k, dL k⟩] [97])).length = 0 from by kernel_rfl]
          have HF2 := Lib.hid (HF1.out.below b2)
          have HLO := Lib.hid (hlost_calls (HF1.out.below b2))
          clear b2 HF1
          go_wp2_with fail
          refine HLO.out.mono ?_
          rintro e U3 ⟨rfl, rfl⟩
          go_wp2_with fail
          refine (works_calls _).mono ?_
          rintro e U4 ⟨rfl, b4⟩
          have B4 := Lib.hid b4
          clear b4
          go_wp2_with fail
          go_ret
          exact ⟨rfl, below_then HF2.out.blw HF2.out.blw.size B4.out⟩
        · go_wp2_with fail
          obtain ⟨ob, hob⟩ : ∃ ob, V.heap.size = ob := ⟨_, rfl⟩
          rw [hob]
          have hfW := HFV.out.guest (N := [ob]) (below_alloc V (.cells #[.int .u8 5, .int .u64 0, .int .u64 1, .string ⟨#[]⟩] 47)) (fun k hk => by simp at hk; simp; omega)
          have hoW : Bx (V.alloc (.cells #[.int .u8 5, .int .u64 0, .int .u64 1, .string ⟨#[]⟩] 47)) ob 47 (occ ⟨5, 0, 1, []⟩) := Bx.new' V 47 (occ ⟨5, 0, 1, []⟩) hob.symm
          have hmW := HMV.out.alloc (.cells #[.int .u8 5, .int .u64 0, .int .u64 1, .string ⟨#[]⟩] 47)
          have hbW := HBV.out.below (below_alloc V (.cells #[.int .u8 5, .int .u64 0, .int .u64 1, .string ⟨#[]⟩] 47))
          have hne : g + 1 ≠ ob := hmW.ne hoW (by decide)
          refine (hacq_calls hfW [97] 20).mono ?_
          rintro e W ⟨hor, hf4, kz4⟩
          rw [d_acq] at hor hf4
          obtain ⟨e4, v4, he4, rfl, hbd⟩ : ∃ e4 v4, (some (⟨1, dMsg, 10, false⟩ : En)) = some e4 ∧ e = .returned (.tuple #[.agg (kcs [97] e4.id).toArray, mgv e4.m v4, .bool true]) ∧ Bdv W v4 e4.m.body := by
            rcases hor with ⟨h1, -⟩ | ⟨e4, v4, h1, h2, h3⟩
            · cases h1
            · exact ⟨e4, v4, h1, h2, h3⟩
          cases he4
          obtain ⟨A4, c4, rfl, -⟩ := hbd
          have HF4 := Lib.hid hf4
          have hoX := kz4.bx hoW (.inl (by simp))
          have HO4 := Lib.hid hoX
          have HM4 := Lib.hid (kz4.bx hmW (.inl (by simp)))
          have HB4 := Lib.hid (kz4.bdv hbW)
          have o0 := hoX.cell 0 (.int .u8 5) rfl
          have o1 := hoX.cell 1 (.int .u64 0) rfl
          have o2 := hoX.cell 2 (.int .u64 1) rfl
          have o3 := hoX.cell 3 (.string ⟨#[]⟩) rfl
          have ol := hoX.lt
          rw [show (kcs [97] (⟨1, dMsg, 10, false⟩ : En).id).toArray = #[.string ⟨#[97]⟩, .int .i64 1] from rfl, show mgv (⟨1, dMsg, 10, false⟩ : En).m (.slice A4 ((⟨1, dMsg, 10, false⟩ : En).m.body.length) c4) = .agg #[.int .u8 7, .int .u32 50, .int .u32 1, .string ⟨#[105, 100]⟩, .slice A4 4 c4] from rfl]
          have hst := fun U (hb : Below W.heap.size W U) => hset_calls (HF4.out.below hb) [97] 1 ⟨5, 0, 1, []⟩ 21 (by intro x hx; simp only [List.mem_cons, List.not_mem_nil, or_false] at hx; rcases hx with rfl | rfl <;> simp <;> omega) (by decide)
          rw [d_set k (by decide) ⟨5, 0, 1, []⟩ (by simp)] at hst
          have HST := Lib.hid hst
          clear hst hor hf4 kz4 hoX hfW hoW hmW hbW HFV HMV HBV hob
          go_wp2_with fail
          refine (HST.out _ ?_).mono ?_
          · exact below2 W _ _
          rintro e U ⟨rfl, hfU, kzU⟩
          have HFU := Lib.hid (hfU.less (G' := [g + 1]) (by simp))
          have HMU := Lib.hid (kzU.bx ((HM4.out.alloc (.cells #[.string ⟨#[97]⟩, .int .i64 1] 37)).alloc (.cells #[.int .u8 7, .int .u32 50, .int .u32 1, .string ⟨#[105, 100]⟩, .slice A4 4 c4] 41)) (.inl (by simp)))
          have HBU := Lib.hid (kzU.bdv (HB4.out.below (below2 W (.cells #[.string ⟨#[97]⟩, .int .i64 1] 37) (.cells #[.int .u8 7, .int .u32 50, .int .u32 1, .string ⟨#[105, 100]⟩, .slice A4 4 c4] 41))))
          clear hfU kzU HF4 HO4 HM4 HB4 o0 o1 o2 o3 ol HST
          go_wp2_with fail
          have hE : dEnd [] n q0 q1 k 21 = ([⟨q0, 3, 2, 1, []⟩, ⟨q1, n, 0, k, dL k⟩], 1) := by unfold dEnd; rw [if_pos (.inl rfl)]
          have hfL := HFU.out
          rw [hE] at hfL
          have HFL := Lib.hid hfL
          clear hfL hE HFU
          refine (hlist_calls HFL.out [100]).mono ?_
          rintro e U1 ⟨v, ms, rfl, hms, hml, b1⟩
          have hms2 : ms.map (·.1) = (ordQ false (dL k)).map (·.m) := hms
          rw [d_order] at hms2
          have hmk : ms.length = k := by have := congrArg List.length hms2; rw [List.length_map, List.length_map, dL_len] at this; exact this
          obtain ⟨A1, c1, rfl⟩ := hml.1.slice
          rw [hmk, show hasQ (dC [] n) [⟨q0, 3, 2, 1, []⟩, ⟨q1, n, 0, k, dL k⟩] [100] = 0 from by unfold hasQ qAt; rw [dAt_d]; rfl]
          have HF1 := Lib.hid (HFL.out.below b1)
          clear hms hms2 hml b1 HFL hmk
          go_wp2_with fail
          refine (hlen_calls HF1.out [97]).mono ?_
          rintro e U2 ⟨rfl, b2⟩
          rw [show (ordQ false (qLs (dC [] n) [⟨q0, 3, 2, 1, []⟩, ⟨q1, n, 0, k, dL k⟩] [97])).length = 0 from by kernel_rfl, show (ordQ true (qLs (dC [] n) [⟨q0, 3, 2, 1, []⟩, ⟨q1, n, 0, k, dL k⟩] [97])).length = 0 from by kernel_rfl]
          have HF2 := Lib.hid (HF1.out.below b2)
          have HLO := Lib.hid (hlost_calls (HF1.out.below b2))
          clear b2 HF1
          go_wp2_with fail
          refine HLO.out.mono ?_
          rintro e U3 ⟨rfl, rfl⟩
          go_wp2_with fail
          refine (works_calls _).mono ?_
          rintro e U4 ⟨rfl, b4⟩
          have B4 := Lib.hid b4
          clear b4
          go_wp2_with fail
          go_ret
          exact ⟨rfl, below_then HF2.out.blw HF2.out.blw.size B4.out⟩
        · go_wp2_with fail
          obtain ⟨ob, hob⟩ : ∃ ob, V.heap.size = ob := ⟨_, rfl⟩
          rw [hob]
          have hfW := HFV.out.guest (N := [ob]) (below_alloc V (.cells #[.int .u8 5, .int .u64 1, .int .u64 0, .string ⟨#[]⟩] 47)) (fun k hk => by simp at hk; simp; omega)
          have hoW : Bx (V.alloc (.cells #[.int .u8 5, .int .u64 1, .int .u64 0, .string ⟨#[]⟩] 47)) ob 47 (occ ⟨5, 1, 0, []⟩) := Bx.new' V 47 (occ ⟨5, 1, 0, []⟩) hob.symm
          have hmW := HMV.out.alloc (.cells #[.int .u8 5, .int .u64 1, .int .u64 0, .string ⟨#[]⟩] 47)
          have hbW := HBV.out.below (below_alloc V (.cells #[.int .u8 5, .int .u64 1, .int .u64 0, .string ⟨#[]⟩] 47))
          have hne : g + 1 ≠ ob := hmW.ne hoW (by decide)
          refine (hacq_calls hfW [97] 20).mono ?_
          rintro e W ⟨hor, hf4, kz4⟩
          rw [d_acq] at hor hf4
          obtain ⟨e4, v4, he4, rfl, hbd⟩ : ∃ e4 v4, (some (⟨1, dMsg, 10, false⟩ : En)) = some e4 ∧ e = .returned (.tuple #[.agg (kcs [97] e4.id).toArray, mgv e4.m v4, .bool true]) ∧ Bdv W v4 e4.m.body := by
            rcases hor with ⟨h1, -⟩ | ⟨e4, v4, h1, h2, h3⟩
            · cases h1
            · exact ⟨e4, v4, h1, h2, h3⟩
          cases he4
          obtain ⟨A4, c4, rfl, -⟩ := hbd
          have HF4 := Lib.hid hf4
          have hoX := kz4.bx hoW (.inl (by simp))
          have HO4 := Lib.hid hoX
          have HM4 := Lib.hid (kz4.bx hmW (.inl (by simp)))
          have HB4 := Lib.hid (kz4.bdv hbW)
          have o0 := hoX.cell 0 (.int .u8 5) rfl
          have o1 := hoX.cell 1 (.int .u64 1) rfl
          have o2 := hoX.cell 2 (.int .u64 0) rfl
          have o3 := hoX.cell 3 (.string ⟨#[]⟩) rfl
          have ol := hoX.lt
          rw [show (kcs [97] (⟨1, dMsg, 10, false⟩ : En).id).toArray = #[.string ⟨#[97]⟩, .int .i64 1] from rfl, show mgv (⟨1, dMsg, 10, false⟩ : En).m (.slice A4 ((⟨1, dMsg, 10, false⟩ : En).m.body.length) c4) = .agg #[.int .u8 7, .int .u32 50, .int .u32 1, .string ⟨#[105, 100]⟩, .slice A4 4 c4] from rfl]
          have hst := fun U (hb : Below W.heap.size W U) => hset_calls (HF4.out.below hb) [97] 1 ⟨5, 1, 0, []⟩ 21 (by intro x hx; simp only [List.mem_cons, List.not_mem_nil, or_false] at hx; rcases hx with rfl | rfl <;> simp <;> omega) (by decide)
          rw [d_set k (by decide) ⟨5, 1, 0, []⟩ (by simp)] at hst
          have HST := Lib.hid hst
          clear hst hor hf4 kz4 hoX hfW hoW hmW hbW HFV HMV HBV hob
          go_wp2_with fail
          refine (HST.out _ ?_).mono ?_
          · exact below2 W _ _
          rintro e U ⟨rfl, hfU, kzU⟩
          have HFU := Lib.hid (hfU.less (G' := [g + 1]) (by simp))
          have HMU := Lib.hid (kzU.bx ((HM4.out.alloc (.cells #[.string ⟨#[97]⟩, .int .i64 1] 37)).alloc (.cells #[.int .u8 7, .int .u32 50, .int .u32 1, .string ⟨#[105, 100]⟩, .slice A4 4 c4] 41)) (.inl (by simp)))
          have HBU := Lib.hid (kzU.bdv (HB4.out.below (below2 W (.cells #[.string ⟨#[97]⟩, .int .i64 1] 37) (.cells #[.int .u8 7, .int .u32 50, .int .u32 1, .string ⟨#[105, 100]⟩, .slice A4 4 c4] 41))))
          clear hfU kzU HF4 HO4 HM4 HB4 o0 o1 o2 o3 ol HST
          go_wp2_with fail
          have hE : dEnd [] n q0 q1 k 21 = ([⟨q0, 3, 2, 1, []⟩, ⟨q1, n, 0, k, dL k⟩], 1) := by unfold dEnd; rw [if_pos (.inl rfl)]
          have hfL := HFU.out
          rw [hE] at hfL
          have HFL := Lib.hid hfL
          clear hfL hE HFU
          refine (hlist_calls HFL.out [100]).mono ?_
          rintro e U1 ⟨v, ms, rfl, hms, hml, b1⟩
          have hms2 : ms.map (·.1) = (ordQ false (dL k)).map (·.m) := hms
          rw [d_order] at hms2
          have hmk : ms.length = k := by have := congrArg List.length hms2; rw [List.length_map, List.length_map, dL_len] at this; exact this
          obtain ⟨A1, c1, rfl⟩ := hml.1.slice
          rw [hmk, show hasQ (dC [] n) [⟨q0, 3, 2, 1, []⟩, ⟨q1, n, 0, k, dL k⟩] [100] = 0 from by unfold hasQ qAt; rw [dAt_d]; rfl]
          have HF1 := Lib.hid (HFL.out.below b1)
          clear hms hms2 hml b1 HFL hmk
          go_wp2_with fail
          refine (hlen_calls HF1.out [97]).mono ?_
          rintro e U2 ⟨rfl, b2⟩
          rw [show (ordQ false (qLs (dC [] n) [⟨q0, 3, 2, 1, []⟩, ⟨q1, n, 0, k, dL k⟩] [97])).length = 0 from by kernel_rfl, show (ordQ true (qLs (dC [] n) [⟨q0, 3, 2, 1, []⟩, ⟨q1, n, 0, k, dL k⟩] [97])).length = 0 from by kernel_rfl]
          have HF2 := Lib.hid (HF1.out.below b2)
          have HLO := Lib.hid (hlost_calls (HF1.out.below b2))
          clear b2 HF1
          go_wp2_with fail
          refine HLO.out.mono ?_
          rintro e U3 ⟨rfl, rfl⟩
          go_wp2_with fail
          refine (works_calls _).mono ?_
          rintro e U4 ⟨rfl, b4⟩
          have B4 := Lib.hid b4
          clear b4
          go_wp2_with fail
          go_ret
          exact ⟨rfl, below_then HF2.out.blw HF2.out.blw.size B4.out⟩
        · go_wp2_with fail
          obtain ⟨ob, hob⟩ : ∃ ob, V.heap.size = ob := ⟨_, rfl⟩
          rw [hob]
          have hfW := HFV.out.guest (N := [ob]) (below_alloc V (.cells #[.int .u8 3, .int .u64 0, .int .u64 0, .string ⟨#[]⟩] 47)) (fun k hk => by simp at hk; simp; omega)
          have hoW : Bx (V.alloc (.cells #[.int .u8 3, .int .u64 0, .int .u64 0, .string ⟨#[]⟩] 47)) ob 47 (occ ⟨3, 0, 0, []⟩) := Bx.new' V 47 (occ ⟨3, 0, 0, []⟩) hob.symm
          have hmW := HMV.out.alloc (.cells #[.int .u8 3, .int .u64 0, .int .u64 0, .string ⟨#[]⟩] 47)
          have hbW := HBV.out.below (below_alloc V (.cells #[.int .u8 3, .int .u64 0, .int .u64 0, .string ⟨#[]⟩] 47))
          have hne : g + 1 ≠ ob := hmW.ne hoW (by decide)
          refine (htick_calls hfW (d_nd [] n) 59 (B := 8) (by decide) (by intro x hx; simp only [List.mem_cons, List.not_mem_nil, or_false] at hx; rcases hx with rfl | rfl <;> simp <;> omega) (by decide)).mono ?_
          rintro e W ⟨⟨u, rfl⟩, hf4, kz4, -⟩
          rw [d_tick59] at hf4
          have HF4 := Lib.hid hf4
          have HM4 := Lib.hid (kz4.bx hmW (.inl (by simp)))
          have HB4 := Lib.hid (kz4.bdv hbW)
          clear hf4 kz4 hfW hoW hmW hbW HFV HMV HBV hob
          go_wp2_with fail
          refine (hlen_calls HF4.out [97]).mono ?_
          rintro e W5 ⟨rfl, b5⟩
          rw [show (ordQ false (qLs (dC [] n) [⟨q0, 3, 2, 1, [⟨1, dMsg, 10, false⟩]⟩, ⟨q1, n, 0, k, dL k⟩] [97])).length = 1 from by kernel_rfl, show (ordQ true (qLs (dC [] n) [⟨q0, 3, 2, 1, [⟨1, dMsg, 10, false⟩]⟩, ⟨q1, n, 0, k, dL k⟩] [97])).length = 0 from by kernel_rfl]
          have HF5 := Lib.hid (HF4.out.below b5)
          have HM5 := Lib.hid (HM4.out.below b5)
          have HB5 := Lib.hid (HB4.out.below b5)
          clear b5 HF4 HM4 HB4
          go_wp2_with fail
          refine (htick_calls HF5.out (d_nd [] n) 60 (B := 8) (by decide) (by intro x hx; simp only [List.mem_cons, List.not_mem_nil, or_false] at hx; rcases hx with rfl | rfl <;> simp <;> omega) (by decide)).mono ?_
          rintro e U ⟨⟨u', rfl⟩, hfU, kzU, -⟩
          rw [d_tick60 k (by decide)] at hfU
          have HFU := Lib.hid (hfU.less (G' := [g + 1]) (by simp))
          have HMU := Lib.hid (kzU.bx HM5.out (.inl (by simp)))
          have HBU := Lib.hid (kzU.bdv HB5.out)
          clear hfU kzU HF5 HM5 HB5
          go_wp2_with fail
          have hE : dEnd [] n q0 q1 k 60 = ([⟨q0, 3, 2, 1, []⟩, ⟨q1, n, 0, k, dL k⟩], 1) := by unfold dEnd; rw [if_pos (.inl rfl)]
          have hfL := HFU.out
          rw [hE] at hfL
          have HFL := Lib.hid hfL
          clear hfL hE HFU
          refine (hlist_calls HFL.out [100]).mono ?_
          rintro e U1 ⟨v, ms, rfl, hms, hml, b1⟩
          have hms2 : ms.map (·.1) = (ordQ false (dL k)).map (·.m) := hms
          rw [d_order] at hms2
          have hmk : ms.length = k := by have := congrArg List.length hms2; rw [List.length_map, List.length_map, dL_len] at this; exact this
          obtain ⟨A1, c1, rfl⟩ := hml.1.slice
          rw [hmk, show hasQ (dC [] n) [⟨q0, 3, 2, 1, []⟩, ⟨q1, n, 0, k, dL k⟩] [100] = 0 from by unfold hasQ qAt; rw [dAt_d]; rfl]
          have HF1 := Lib.hid (HFL.out.below b1)
          clear hms hms2 hml b1 HFL hmk
          go_wp2_with fail
          refine (hlen_calls HF1.out [97]).mono ?_
          rintro e U2 ⟨rfl, b2⟩
          rw [show (ordQ false (qLs (dC [] n) [⟨q0, 3, 2, 1, []⟩, ⟨q1, n, 0, k, dL k⟩] [97])).length = 0 from by kernel_rfl, show (ordQ true (qLs (dC [] n) [⟨q0, 3, 2, 1, []⟩, ⟨q1, n, 0, k, dL k⟩] [97])).length = 0 from by kernel_rfl]
          have HF2 := Lib.hid (HF1.out.below b2)
          have HLO := Lib.hid (hlost_calls (HF1.out.below b2))
          clear b2 HF1
          go_wp2_with fail
          refine HLO.out.mono ?_
          rintro e U3 ⟨rfl, rfl⟩
          go_wp2_with fail
          refine (works_calls _).mono ?_
          rintro e U4 ⟨rfl, b4⟩
          have B4 := Lib.hid b4
          clear b4
          go_wp2_with fail
          go_ret
          exact ⟨rfl, below_then HF2.out.blw HF2.out.blw.size B4.out⟩
  | false =>
    have hd : ([100] : List UInt8) = [] ∨ ([100] : List UInt8) = [100] := by decide
    have hnw := hnew_calls (w0 := w) (w := w.alloc (.cells ((dC [100] n).flatMap cfs).toArray 23)) (below_alloc w _) (some ⟨w.heap.size, 0, none⟩) 2 2 (dC [100] n) (rdc_bx (Bx.new w 23 ((dC [100] n).flatMap cfs)) 2 4 rfl (fun u hu => by obtain ⟨c, _, hc⟩ := List.mem_flatMap.1 hu; exact cfs_one' c u hc) (by decide)) (by decide) (d_wf [100] HN6.out)
    rw [dC_arr] at hnw
    have HNW := Lib.hid hnw
    have HNH := Lib.hid (dNew (dd := [100]) HN1.out HN6.out hd)
    have HD := Lib.hid hd
    clear hnw hd
    go_enter Try.func6, Try.ntmps6
    go_wp2_with fail
    rw [HE1.out]
    refine HNW.out.mono ?_
    rintro e w1 ⟨p, rfl, hb1, -, h0⟩
    obtain ⟨h, Qs, rfl, hf, hnew⟩ := h0 HNH.out
    obtain ⟨q0, q1, rfl⟩ := d_start hf hnew
    have HF0 := Lib.hid hf
    rw [HNH.out]
    clear h0 hf hnew HNW hb1
    have hnn : ¬ (n : Int) + 1 = 0 := by omega
    have hn0 : (0 : Int) ≤ n := by omega
    have hn7 : (n : Int) < 7 := by have := HN6.out; omega
    go_wp2_with fail
    rw [HE2.out]
    have hfn' : (full : Int) < 8 := by have := HN6.out; have := HFN.out; omega
    go_loopw [14] (fun i wr => ∃ k : Nat, k ≤ full ∧ i = .int .i64 k ∧ Hid (HF w wr [] h (dC [100] n) [⟨q0, 3, 2, 0, []⟩, ⟨q1, n, 0, k, dL k⟩] 0)) (fun i _ => full - (intOf i).toNat)
    case atStart => exact ⟨0, by omega, rfl, HF0⟩
    case round =>
      obtain ⟨k, hk, rfl, HJ⟩ := hrel
      clear HF0
      by_cases hkf : k < full
      · have hkf' : (k : Int) < full := by omega
        have hk8 : (k : Int) < 8 := by omega
        have hwr : IntKind.u8.wrap (k : Int) = (k : Int) := by rw [IntKind.wrap_u8]; omega
        have hpt := hput_calls (HJ.out.below (below_alloc wr (.cells #[.int .u8 k] 5))) [100] (dM k) (some ⟨wr.heap.size, 0, none⟩) 1 1 rfl (rd_const (dM_arr k (by omega)) rfl (by decide)) (Nat.zero_le _) (Nat.zero_le _) (by intro x hx; simp only [List.mem_cons, List.not_mem_nil, or_false] at hx; rcases hx with rfl | rfl <;> simp <;> omega) 0
        rw [d_put k (by have := HFN.out; omega)] at hpt
        have HPT := Lib.hid hpt
        clear hpt
        go_wp2_with fail
        refine HPT.out.mono ?_
        rintro e w3 ⟨rfl, hf3, -⟩
        have HF3 := Lib.hid hf3
        clear hf3 HPT
        go_wp2_with fail
        exact ⟨⟨k + 1, by omega, by go_num, HF3⟩, by simp [intOf]; omega⟩
      · obtain rfl : k = full := by omega
        clear hkf
        have kc := fun (w : World) (C : Array Value) (n c : Nat) => Lib.run_convert_bytes_const (P := Try.prog) w 39 5 C n c Try.underlying39 Try.underlying5
        go_wp2_with fail
        obtain ⟨g, hg⟩ : ∃ g, wr.heap.size = g := ⟨_, rfl⟩
        rw [hg]
        have hbx1 : Bx ((wr.alloc (.cells #[.int .u8 98, .int .u8 111, .int .u8 100, .int .u8 121] 5 (4, 5))).alloc (.cells #[.int .u8 7, .int .u32 50, .int .u32 1, .string ⟨#[105, 100]⟩, .slice (some ⟨g, 0, none⟩) 4 4] 41)) (g + 1) 41 (mcs dMsg (.slice (some ⟨g, 0, none⟩) 4 4)) := Bx.new' (wr.alloc _) (b := g + 1) 41 (mcs dMsg (.slice (some ⟨g, 0, none⟩) 4 4)) (by simp; omega)
        have hrd0 : Rd ((wr.alloc (.cells #[.int .u8 98, .int .u8 111, .int .u8 100, .int .u8 121] 5 (4, 5))).alloc (.cells #[.int .u8 7, .int .u32 50, .int .u32 1, .string ⟨#[105, 100]⟩, .slice (some ⟨g, 0, none⟩) 4 4] 41)) (some ⟨g, 0, none⟩) 4 dMsg.body := by
          rw [← hg]
          exact (rd_const (w := wr) (fr := (4, 5)) (l := dMsg.body) rfl rfl (by decide)).below (below_alloc _ _)
        have hbd0 : Bdv ((wr.alloc (.cells #[.int .u8 98, .int .u8 111, .int .u8 100, .int .u8 121] 5 (4, 5))).alloc (.cells #[.int .u8 7, .int .u32 50, .int .u32 1, .string ⟨#[105, 100]⟩, .slice (some ⟨g, 0, none⟩) 4 4] 41)) (.slice (some ⟨g, 0, none⟩) 4 4) dMsg.body := by
          refine ⟨some ⟨g, 0, none⟩, 4, rfl, hrd0, fun ad ha _ => ?_⟩
          cases ha
          exact ⟨_, _, (heap_alloc_old (wr.alloc _) _ (by simp; omega)).trans (by rw [← hg]; exact heap_alloc_new wr _)⟩
        have hfm := HJ.out.guest (N := [g + 1]) (below2 wr (.cells #[.int .u8 98, .int .u8 111, .int .u8 100, .int .u8 121] 5 (4, 5)) (.cells #[.int .u8 7, .int .u32 50, .int .u32 1, .string ⟨#[105, 100]⟩, .slice (some ⟨g, 0, none⟩) 4 4] 41)) (fun k hk => by simp at hk; simp; omega)
        have hpt := hput_calls hfm [97] dMsg (some ⟨g, 0, none⟩) 4 4 rfl hrd0 (by decide) (by decide) (by intro x hx; simp only [List.mem_cons, List.not_mem_nil, or_false] at hx; rcases hx with rfl | rfl <;> simp <;> omega) 10
        rw [d_putm] at hpt
        refine hpt.mono ?_
        rintro e V ⟨rfl, hfV, kzV⟩
        have HFV := Lib.hid hfV
        have HMV := Lib.hid (kzV.bx hbx1 (.inl (by simp)))
        have HBV := Lib.hid (kzV.bdv hbd0)
        clear hpt hfV kzV hfm hbd0 hrd0 hbx1 kc hg HJ
        have hcases : (how : Int) % 4 = 0 ∨ (how : Int) % 4 = 1 ∨ (how : Int) % 4 = 2 ∨ (how : Int) % 4 = 3 := by omega
        rcases hcases with h4 | h4 | h4 | h4
        · go_wp2_with fail
          obtain ⟨ob, hob⟩ : ∃ ob, V.heap.size = ob := ⟨_, rfl⟩
          rw [hob]
          have hfW := HFV.out.guest (N := [ob]) (below_alloc V (.cells #[.int .u8 3, .int .u64 0, .int .u64 0, .string ⟨#[]⟩] 47)) (fun k hk => by simp at hk; simp; omega)
          have hoW : Bx (V.alloc (.cells #[.int .u8 3, .int .u64 0, .int .u64 0, .string ⟨#[]⟩] 47)) ob 47 (occ ⟨3, 0, 0, []⟩) := Bx.new' V 47 (occ ⟨3, 0, 0, []⟩) hob.symm
          have hmW := HMV.out.alloc (.cells #[.int .u8 3, .int .u64 0, .int .u64 0, .string ⟨#[]⟩] 47)
          have hbW := HBV.out.below (below_alloc V (.cells #[.int .u8 3, .int .u64 0, .int .u64 0, .string ⟨#[]⟩] 47))
          have hne : g + 1 ≠ ob := hmW.ne hoW (by decide)
          refine (hacq_calls hfW [97] 20).mono ?_
          rintro e W ⟨hor, hf4, kz4⟩
          rw [d_acq] at hor hf4
          obtain ⟨e4, v4, he4, rfl, hbd⟩ : ∃ e4 v4, (some (⟨1, dMsg, 10, false⟩ : En)) = some e4 ∧ e = .returned (.tuple #[.agg (kcs [97] e4.id).toArray, mgv e4.m v4, .bool true]) ∧ Bdv W v4 e4.m.body := by
            rcases hor with ⟨h1, -⟩ | ⟨e4, v4, h1, h2, h3⟩
            · cases h1
            · exact ⟨e4, v4, h1, h2, h3⟩
          cases he4
          obtain ⟨A4, c4, rfl, -⟩ := hbd
          have HF4 := Lib.hid hf4
          have hoX := kz4.bx hoW (.inl (by simp))
          have HO4 := Lib.hid hoX
          have HM4 := Lib.hid (kz4.bx hmW (.inl (by simp)))
          have HB4 := Lib.hid (kz4.bdv hbW)
          have o0 := hoX.cell 0 (.int .u8 3) rfl
          have o1 := hoX.cell 1 (.int .u64 0) rfl
          have o2 := hoX.cell 2 (.int .u64 0) rfl
          have o3 := hoX.cell 3 (.string ⟨#[]⟩) rfl
          have ol := hoX.lt
          rw [show (kcs [97] (⟨1, dMsg, 10, false⟩ : En).id).toArray = #[.string ⟨#[97]⟩, .int .i64 1] from rfl, show mgv (⟨1, dMsg, 10, false⟩ : En).m (.slice A4 ((⟨1, dMsg, 10, false⟩ : En).m.body.length) c4) = .agg #[.int .u8 7, .int .u32 50, .int .u32 1, .string ⟨#[105, 100]⟩, .slice A4 4 c4] from rfl]
          have hst := fun U (hb : Below W.heap.size W U) => hset_calls (HF4.out.below hb) [97] 1 ⟨3, 0, 0, []⟩ 21 (by intro x hx; simp only [List.mem_cons, List.not_mem_nil, or_false] at hx; rcases hx with rfl | rfl <;> simp <;> omega) (by decide)
          rw [d_set k (by decide) ⟨3, 0, 0, []⟩ (by simp)] at hst
          have HST := Lib.hid hst
          clear hst hor hf4 kz4 hoX hfW hoW hmW hbW HFV HMV HBV hob
          go_wp2_with fail
          refine (HST.out _ ?_).mono ?_
          · exact below2 W _ _
          rintro e U ⟨rfl, hfU, kzU⟩
          have HFU := Lib.hid (hfU.less (G' := [g + 1]) (by simp))
          have HMU := Lib.hid (kzU.bx ((HM4.out.alloc (.cells #[.string ⟨#[97]⟩, .int .i64 1] 37)).alloc (.cells #[.int .u8 7, .int .u32 50, .int .u32 1, .string ⟨#[105, 100]⟩, .slice A4 4 c4] 41)) (.inl (by simp)))
          have HBU := Lib.hid (kzU.bdv (HB4.out.below (below2 W (.cells #[.string ⟨#[97]⟩, .int .i64 1] 37) (.cells #[.int .u8 7, .int .u32 50, .int .u32 1, .string ⟨#[105, 100]⟩, .slice A4 4 c4] 41))))
          clear hfU kzU HF4 HO4 HM4 HB4 o0 o1 o2 o3 ol HST
          go_wp2_with fail
          by_cases hkn : k = n
          · subst hkn
            have hE : dEnd [100] k q0 q1 k 21 = ([⟨q0, 3, 2, 1, []⟩, ⟨q1, k, 0, k, dL k⟩], 1) := by unfold dEnd; rw [if_pos (.inr rfl)]
            have hfL := HFU.out
            rw [hE] at hfL
            have HFL := Lib.hid hfL
            clear hfL hE HFU
            refine (hlist_calls HFL.out [100]).mono ?_
            rintro e U1 ⟨v, ms, rfl, hms, hml, b1⟩
            have hms2 : ms.map (·.1) = (ordQ false (dL k)).map (·.m) := hms
            rw [d_order] at hms2
            have hmk : ms.length = k := by have := congrArg List.length hms2; rw [List.length_map, List.length_map, dL_len] at this; exact this
            obtain ⟨A1, c1, rfl⟩ := hml.1.slice
            rw [hmk, show hasQ (dC [100] k) [⟨q0, 3, 2, 1, []⟩, ⟨q1, k, 0, k, dL k⟩] [100] = 0 from by unfold hasQ qAt; rw [dAt_d]; rfl]
            have HF1 := Lib.hid (HFL.out.below b1)
            clear hms hms2 hml b1 HFL hmk
            go_wp2_with fail
            refine (hlen_calls HF1.out [97]).mono ?_
            rintro e U2 ⟨rfl, b2⟩
            rw [show (ordQ false (qLs (dC [100] k) [⟨q0, 3, 2, 1, []⟩, ⟨q1, k, 0, k, dL k⟩] [97])).length = 0 from by kernel_rfl, show (ordQ true (qLs (dC [100] k) [⟨q0, 3, 2, 1, []⟩, ⟨q1, k, 0, k, dL k⟩] [97])).length = 0 from by kernel_rfl]
            have HF2 := Lib.hid (HF1.out.below b2)
            have HLO := Lib.hid (hlost_calls (HF1.out.below b2))
            clear b2 HF1
            go_wp2_with fail
            refine HLO.out.mono ?_
            rintro e U3 ⟨rfl, rfl⟩
            go_wp2_with fail
            refine (works_calls _).mono ?_
            rintro e U4 ⟨rfl, b4⟩
            have B4 := Lib.hid b4
            clear b4
            go_wp2_with fail
            go_ret
            exact ⟨rfl, below_then HF2.out.blw HF2.out.blw.size B4.out⟩
          · have hE : dEnd [100] n q0 q1 k 21 = ([⟨q0, 3, 2, 1, []⟩, ⟨q1, n, 0, k + 1, dL k ++ [⟨k + 1, dStale, mom 21, false⟩]⟩], 0) := by unfold dEnd; rw [if_neg (by simp [hkn])]
            have hfL := HFU.out
            rw [hE] at hfL
            have HFL := Lib.hid hfL
            have hkn' : ¬ (k : Int) = n := by omega
            clear hfL hE HFU hkn
            refine (hlist_calls HFL.out [100]).mono ?_
            rintro e U1 ⟨v, ms, rfl, hms, hml, b1⟩
            have hms2 : ms.map (·.1) = (ordQ false (dL k ++ [⟨k + 1, dStale, mom 21, false⟩])).map (·.m) := hms
            rw [d_order7 k _ rfl rfl] at hms2
            have hmk : ms.length = k + 1 := by have := congrArg List.length hms2; rw [List.length_map, List.length_map, List.length_cons, dL_len] at this; exact this
            obtain ⟨bv, ms', rfl⟩ : ∃ bv ms', ms = (dStale, bv) :: ms' := by
              cases ms with
              | nil => cases hmk
              | cons x ms' =>
                obtain ⟨m, bv⟩ := x
                simp only [List.map_cons, List.cons.injEq] at hms2
                exact ⟨bv, ms', by rw [hms2.1]⟩
            obtain ⟨g7, c7, hv7, -⟩ := hml.1.form (by rw [hmk]; omega)
            subst hv7
            obtain ⟨Ab, cb, hbv, -⟩ := hml.2 _ (List.mem_cons_self ..)
            simp only at hbv
            subst hbv
            have hrd : Bdv U1 (.slice Ab 4 cb) dStale.body := hml.2 _ (List.mem_cons_self ..)
            have hg7 := (hml.1.lt g7 rfl).1
            rw [show hasQ (dC [100] n) [⟨q0, 3, 2, 1, []⟩, ⟨q1, n, 0, k + 1, dL k ++ [⟨k + 1, dStale, mom 21, false⟩]⟩] [100] = 0 from by unfold hasQ qAt; rw [dAt_d]; rfl]
            obtain ⟨N, hN⟩ : ∃ N, N = k + 1 := ⟨_, rfl⟩
            rw [hmk] at hml ⊢
            rw [← hN] at hml ⊢
            have hN0 : 0 < N := by omega
            have hN9 : (N : Int) < 9 := by omega
            have HNK := Lib.hid hN
            clear hN
            have HF1 := Lib.hid (HFL.out.below b1)
            have HM1 := Lib.hid (HMU.out.below b1)
            have HB1 := Lib.hid (HBU.out.below b1)
            have HRD := Lib.hid hrd
            have HBX : Hid (∃ (cs : List Value), Bx U1 g7 41 cs ∧ cs[0]? = some (.int .u8 7) ∧ cs[1]? = some (.int .u32 0) ∧ cs[2]? = some (.int .u32 0) ∧ cs[3]? = some (.string ⟨#[105, 100]⟩) ∧ cs[4]? = some (.slice Ab 4 cb)) := Lib.hid (by
              rcases hml.1.2.2 with ⟨hx, -⟩ | ⟨g, cap, sp, hx, -, hh, -⟩
              · cases hx
              · cases hx
                exact ⟨_, hh, rfl, rfl, rfl, rfl, rfl⟩)
            have hgl : g + 1 < g7 := by have := HMU.out.lt; omega
            clear hms hms2 hml b1 HFL hmk hrd HMU HBU hg7
            go_wp2_with fail
            refine (hlen_calls HF1.out [97]).mono ?_
            rintro e U2 ⟨rfl, b2⟩
            rw [show (ordQ false (qLs (dC [100] n) [⟨q0, 3, 2, 1, []⟩, ⟨q1, n, 0, k + 1, dL k ++ [⟨k + 1, dStale, mom 21, false⟩]⟩] [97])).length = 0 from by kernel_rfl, show (ordQ true (qLs (dC [100] n) [⟨q0, 3, 2, 1, []⟩, ⟨q1, n, 0, k + 1, dL k ++ [⟨k + 1, dStale, mom 21, false⟩]⟩] [97])).length = 0 from by kernel_rfl]
            have HF2 := Lib.hid (HF1.out.below b2)
            have HM2 := Lib.hid (HM1.out.below b2)
            have HB2 := Lib.hid (HB1.out.below b2)
            have HR2 := Lib.hid (HRD.out.below b2)
            obtain ⟨cs, hcs, hc0, hc1, hc2, hc3, hc4⟩ := HBX.out
            have hcs2 := hcs.below b2
            have HCS := Lib.hid hcs2
            have m1 := HM2.out.cell 1 (.int .u32 50) rfl
            have m2 := HM2.out.cell 2 (.int .u32 1) rfl
            have f1 := HM2.out.froz 1
            have f2 := HM2.out.froz 2
            have HC0 := Lib.hid hc0
            have HC1 := Lib.hid hc1
            have HC2 := Lib.hid hc2
            have HC3 := Lib.hid hc3
            have HC4 := Lib.hid hc4
            clear b2 HF1 HM1 HB1 HRD HBX hcs hcs2 hc0 hc1 hc2 hc3 hc4
            go_wp2_with fail
            have hgne : g7 ≠ g + 1 := by omega
            have ht2 : Tch [g + 1] U2 ((U2.setCell ⟨g + 1, 1, none⟩ (.int .u32 0)).setCell ⟨g + 1, 2, none⟩ (.int .u32 0)) := ((Tch.refl [g + 1] U2).setCell _ (.inl (by simp))).setCell _ (.inl (by simp))
            have hns : ∀ k ∈ [g + 1], ∃ o, U2.heap[k]? = some o ∧ ∀ (cs : Array Value) (fr : Nat × Nat), o ≠ Obj.cells cs 5 fr := fun k hk => by
              simp only [List.mem_singleton] at hk
              subst hk
              exact ⟨_, HM2.out, fun cs fr he => by cases he⟩
            refine forget (fun X => HF w X ([g + 1] ++ []) h (dC [100] n) [⟨q0, 3, 2, 1, []⟩, ⟨q1, n, 0, k + 1, dL k ++ [⟨k + 1, dStale, mom 21, false⟩]⟩] 0 ∧ Bx X (g + 1) 41 (mcs dStale (.slice (some ⟨g, 0, none⟩) 4 4)) ∧ Bdv X (.slice (some ⟨g, 0, none⟩) 4 4) dStale.body ∧ Bdv X (.slice Ab 4 cb) dStale.body ∧ Bx X g7 41 cs) ⟨HF2.out.zset ht2, ((HM2.out.set 1 _).set 2 _).to rfl, HB2.out.tch ht2 hns, HR2.out.tch ht2 hns, (HCS.out.off hgne).off hgne⟩ ?_
            rintro X ⟨hfX, hmX, hrX, haX, hcX⟩
            have HFX := Lib.hid hfX
            have HMX := Lib.hid hmX
            have HRX := Lib.hid hrX
            have HAX := Lib.hid haX
            have HCX := Lib.hid hcX
            clear hfX hmX hrX haX hcX m1 m2 f1 f2 ht2 hns HF2 HM2 HB2 HR2 HCS
            have hbe : ((k : Int) == (n : Int)) = false := by simpa using hkn'
            rw [hbe]
            clear hbe
            go_loopw [25, 26] (fun fd ix wr => ∃ j : Nat, j ≤ N ∧ ix = .int .i64 j ∧ fd = .bool (decide (0 < j)) ∧ Below X.heap.size X wr) (fun _ ix _ => N - (intOf ix).toNat)
            case atStart => exact ⟨0, by omega, rfl, rfl, Below.refl _ _⟩
            case round =>
              obtain ⟨j, hj, rfl, rfl, hbl⟩ := hrel
              have HBL := Lib.hid hbl
              clear hbl
              by_cases hjN : j < N
              · have hjN' : (j : Int) < N := by omega
                by_cases hj0 : j = 0
                · subst hj0
                  rw [show decide (0 < 0) = false from rfl]
                  go_wp2_with fail
                  have hm' := HMX.out.below HBL.out
                  have hc' := HCX.out.below HBL.out
                  obtain ⟨S, hSd⟩ : ∃ S : World → Prop, S = fun W' : World => W'.cell? ⟨g7, 0, none⟩ = some (.int .u8 7) ∧ W'.cell? ⟨g7, 1, none⟩ = some (.int .u32 0) ∧ W'.cell? ⟨g7, 2, none⟩ = some (.int .u32 0) ∧ W'.cell? ⟨g7, 3, none⟩ = some (.string ⟨#[105, 100]⟩) ∧ W'.cell? ⟨g7, 4, none⟩ = some (.slice Ab 4 cb) ∧ W'.cell? ⟨g + 1, 0, none⟩ = some (.int .u8 7) ∧ W'.cell? ⟨g + 1, 1, none⟩ = some (.int .u32 0) ∧ W'.cell? ⟨g + 1, 2, none⟩ = some (.int .u32 0) ∧ W'.cell? ⟨g + 1, 3, none⟩ = some (.string ⟨#[105, 100]⟩) ∧ W'.cell? ⟨g + 1, 4, none⟩ = some (.slice (some ⟨g, 0, none⟩) 4 4) := ⟨_, rfl⟩
                  have hS : S wr.drew := by
                    rw [hSd]
                    exact ⟨hc'.cell 0 _ HC0.out, hc'.cell 1 _ HC1.out, hc'.cell 2 _ HC2.out, hc'.cell 3 _ HC3.out, hc'.cell 4 _ HC4.out, hm'.cell 0 _ rfl, hm'.cell 1 _ rfl, hm'.cell 2 _ rfl, hm'.cell 3 _ rfl, hm'.cell 4 _ rfl⟩
                  have HSd := Lib.hid hSd
                  clear hSd hm' hc'
                  refine (wpIn_wide (n := 0)).1 ?_
                  refine s_region [] S (by kernel_rfl) ?_
                  refine s_take (fun _ => trivial) (by kernel_rfl) 0 rfl (by kernel_rfl) (by kernel_rfl) (by kernel_rfl) (by kernel_rfl) (fun _ _ _ h => h) (by rfl) (by intro w' hw; rw [HSd.out] at hw; obtain ⟨h0, h1, h2, h3, h4, h5, h6, h7, h8, h9⟩ := hw; go_simp; try (with_reducible rfl)) hS ?_
                  simp only [List.getElem_toArray, List.getElem_cons_succ, List.getElem_cons_zero, Act.put, List.setIfInBounds_toArray, List.set_cons_zero, List.set_cons_succ]
                  refine s_take (fun _ => trivial) (by kernel_rfl) 1 rfl (by kernel_rfl) (by kernel_rfl) (by kernel_rfl) (by kernel_rfl) (fun _ _ _ h => h) (by rfl) (by intro w' hw; rw [HSd.out] at hw; obtain ⟨h0, h1, h2, h3, h4, h5, h6, h7, h8, h9⟩ := hw; go_simp; try (with_reducible rfl)) hS ?_
                  simp only [List.getElem_toArray, List.getElem_cons_succ, List.getElem_cons_zero, Act.put, List.setIfInBounds_toArray, List.set_cons_zero, List.set_cons_succ]
                  refine s_take (fun _ => trivial) (by kernel_rfl) 2 rfl (by kernel_rfl) (by kernel_rfl) (by kernel_rfl) (by kernel_rfl) (fun _ _ _ h => h) (by rfl) (by intro w' hw; rw [HSd.out] at hw; obtain ⟨h0, h1, h2, h3, h4, h5, h6, h7, h8, h9⟩ := hw; go_simp; try (with_reducible rfl)) hS ?_
                  simp only [List.getElem_toArray, List.getElem_cons_succ, List.getElem_cons_zero, Act.put, List.setIfInBounds_toArray, List.set_cons_zero, List.set_cons_succ]
                  refine s_take (fun _ => trivial) (by kernel_rfl) 3 rfl (by kernel_rfl) (by kernel_rfl) (by kernel_rfl) (by kernel_rfl) (fun _ _ _ h => h) (by rfl) (by intro w' hw; rw [HSd.out] at hw; obtain ⟨h0, h1, h2, h3, h4, h5, h6, h7, h8, h9⟩ := hw; go_simp; try (with_reducible rfl)) hS ?_
                  simp only [List.getElem_toArray, List.getElem_cons_succ, List.getElem_cons_zero, Act.put, List.setIfInBounds_toArray, List.set_cons_zero, List.set_cons_succ]
                  refine s_take (fun _ => trivial) (by kernel_rfl) 4 rfl (by kernel_rfl) (by kernel_rfl) (by kernel_rfl) (by kernel_rfl) (fun _ _ _ h => h) (by rfl) (by intro w' hw; rw [HSd.out] at hw; obtain ⟨h0, h1, h2, h3, h4, h5, h6, h7, h8, h9⟩ := hw; go_simp; try (with_reducible rfl)) hS ?_
                  simp only [List.getElem_toArray, List.getElem_cons_succ, List.getElem_cons_zero, Act.put, List.setIfInBounds_toArray, List.set_cons_zero, List.set_cons_succ]
                  refine s_take (fun _ => trivial) (by kernel_rfl) 5 rfl (by kernel_rfl) (by kernel_rfl) (by kernel_rfl) (by kernel_rfl) (fun _ _ _ h => h) (by rfl) (by intro w' hw; rw [HSd.out] at hw; obtain ⟨h0, h1, h2, h3, h4, h5, h6, h7, h8, h9⟩ := hw; go_simp; try (with_reducible rfl)) hS ?_
                  simp only [List.getElem_toArray, List.getElem_cons_succ, List.getElem_cons_zero, Act.put, List.setIfInBounds_toArray, List.set_cons_zero, List.set_cons_succ]
                  refine s_take (fun _ => trivial) (by kernel_rfl) 6 rfl (by kernel_rfl) (by kernel_rfl) (by kernel_rfl) (by kernel_rfl) (fun _ _ _ h => h) (by rfl) (by intro w' hw; rw [HSd.out] at hw; obtain ⟨h0, h1, h2, h3, h4, h5, h6, h7, h8, h9⟩ := hw; go_simp; try (with_reducible rfl)) hS ?_
                  simp only [List.getElem_toArray, List.getElem_cons_succ, List.getElem_cons_zero, Act.put, List.setIfInBounds_toArray, List.set_cons_zero, List.set_cons_succ]
                  refine s_one 7 (by kernel_rfl) rfl (by rfl) (fun K hK => ?_)
                  go_simp
                  have hsm := rsame_calls (w := wr.drew) dStale Ab (some ⟨g, 0, none⟩) cb 4 4 rfl (by obtain ⟨A', c', hv', hr', -⟩ := HAX.out.below HBL.out; cases hv'; exact hr') (by obtain ⟨A', c', hv', hr', -⟩ := HRX.out.below HBL.out; cases hv'; exact hr')
                  refine ⟨trivial, rfl, (callsIn_wide.2 hsm).mono ?_⟩
                  rintro e U5 ⟨rfl, b5⟩
                  have hS5 : S U5 := by
                    rw [HSd.out] at hS ⊢
                    obtain ⟨t0, t1, t2, t3, t4, t5, t6, t7, t8, t9⟩ := hS
                    exact ⟨stays_ b5 t0, stays_ b5 t1, stays_ b5 t2, stays_ b5 t3, stays_ b5 t4, stays_ b5 t5, stays_ b5 t6, stays_ b5 t7, stays_ b5 t8, stays_ b5 t9⟩
                  refine hK.out _ _ (fun _ => hS5) ?_
                  clear hK K hS hsm
                  have hS := hS5
                  clear hS5
                  refine s_take (fun _ => trivial) (by kernel_rfl) 8 rfl (by kernel_rfl) (by kernel_rfl) (by kernel_rfl) (by kernel_rfl) (fun _ _ _ h => h) (by rfl) (by intro w' hw; rw [HSd.out] at hw; obtain ⟨h0, h1, h2, h3, h4, h5, h6, h7, h8, h9⟩ := hw; go_simp; try (with_reducible rfl)) hS ?_
                  simp only [List.getElem_toArray, List.getElem_cons_succ, List.getElem_cons_zero, Act.put, List.setIfInBounds_toArray, List.set_cons_zero, List.set_cons_succ]
                  refine s_take (fun _ => trivial) (by kernel_rfl) 9 rfl (by kernel_rfl) (by kernel_rfl) (by kernel_rfl) (by kernel_rfl) (fun _ _ _ h => h) (by rfl) (by intro w' hw; rw [HSd.out] at hw; obtain ⟨h0, h1, h2, h3, h4, h5, h6, h7, h8, h9⟩ := hw; go_simp; try (with_reducible rfl)) hS ?_
                  simp only [List.getElem_toArray, List.getElem_cons_succ, List.getElem_cons_zero, Act.put, List.setIfInBounds_toArray, List.set_cons_zero, List.set_cons_succ]
                  refine s_done (by kernel_rfl) ?_ _
                  have B5 := Lib.hid (below_then HBL.out HBL.out.size (below_of_drew b5))
                  clear b5 hS
                  go_wp2_with fail
                  go_roundw
                  case rel => exact ⟨1, by omega, by go_num, rfl, B5.out⟩
                  case measure => simp [intOf]; omega
                · have hd : decide (0 < j) = true := decide_eq_true (by omega)
                  have hd2 : decide (0 < j + 1) = true := decide_eq_true (by omega)
                  rw [hd]
                  have HD2 := Lib.hid hd2
                  clear hd hd2
                  go_wp2_with fail
                  obtain ⟨S, hSd⟩ : ∃ S : World → Prop, S = fun W' : World => Below wr.heap.size wr W' := ⟨_, rfl⟩
                  have hS : S wr.drew := by rw [hSd]; exact below_drew wr
                  have HSd := Lib.hid hSd
                  clear hSd
                  refine (wpIn_wide (n := 0)).1 ?_
                  refine s_region [] S (by kernel_rfl) ?_
                  refine s_take (fun _ => trivial) (by kernel_rfl) 0 rfl (by kernel_rfl) (by kernel_rfl) (by kernel_rfl) (by kernel_rfl) (fun _ _ _ h => h) (by rfl) (by intro w' hw; rw [HSd.out] at hw; go_simp; try (with_reducible rfl)) hS ?_
                  simp only [List.getElem_toArray, List.getElem_cons_succ, List.getElem_cons_zero, Act.put, List.setIfInBounds_toArray, List.set_cons_zero, List.set_cons_succ]
                  refine s_take (fun _ => trivial) (by kernel_rfl) 1 rfl (by kernel_rfl) (by kernel_rfl) (by kernel_rfl) (by kernel_rfl) (fun _ _ _ h => h) (by rfl) (by intro w' hw; rw [HSd.out] at hw; go_simp; try (with_reducible rfl)) hS ?_
                  simp only [List.getElem_toArray, List.getElem_cons_succ, List.getElem_cons_zero, Act.put, List.setIfInBounds_toArray, List.set_cons_zero, List.set_cons_succ]
                  refine s_pass (fun _ => trivial) (by kernel_rfl) 2 rfl (by kernel_rfl) (by kernel_rfl) (by kernel_rfl) (by kernel_rfl) (fun _ _ _ h => h) (by rfl) hS ?_
                  simp only [List.getElem_toArray, List.getElem_cons_succ, List.getElem_cons_zero, Act.put, List.setIfInBounds_toArray, List.set_cons_zero, List.set_cons_succ]
                  refine s_pass (fun _ => trivial) (by kernel_rfl) 3 rfl (by kernel_rfl) (by kernel_rfl) (by kernel_rfl) (by kernel_rfl) (fun _ _ _ h => h) (by rfl) hS ?_
                  simp only [List.getElem_toArray, List.getElem_cons_succ, List.getElem_cons_zero, Act.put, List.setIfInBounds_toArray, List.set_cons_zero, List.set_cons_succ]
                  refine s_pass (fun _ => trivial) (by kernel_rfl) 4 rfl (by kernel_rfl) (by kernel_rfl) (by kernel_rfl) (by kernel_rfl) (fun _ _ _ h => h) (by rfl) hS ?_
                  simp only [List.getElem_toArray, List.getElem_cons_succ, List.getElem_cons_zero, Act.put, List.setIfInBounds_toArray, List.set_cons_zero, List.set_cons_succ]
                  refine s_pass (fun _ => trivial) (by kernel_rfl) 5 rfl (by kernel_rfl) (by kernel_rfl) (by kernel_rfl) (by kernel_rfl) (fun _ _ _ h => h) (by rfl) hS ?_
                  simp only [List.getElem_toArray, List.getElem_cons_succ, List.getElem_cons_zero, Act.put, List.setIfInBounds_toArray, List.set_cons_zero, List.set_cons_succ]
                  refine s_pass (fun _ => trivial) (by kernel_rfl) 6 rfl (by kernel_rfl) (by kernel_rfl) (by kernel_rfl) (by kernel_rfl) (fun _ _ _ h => h) (by rfl) hS ?_
                  simp only [List.getElem_toArray, List.getElem_cons_succ, List.getElem_cons_zero, Act.put, List.setIfInBounds_toArray, List.set_cons_zero, List.set_cons_succ]
                  refine s_pass (fun _ => trivial) (by kernel_rfl) 7 rfl (by kernel_rfl) (by kernel_rfl) (by kernel_rfl) (by kernel_rfl) (fun _ _ _ h => h) (by rfl) hS ?_
                  simp only [List.getElem_toArray, List.getElem_cons_succ, List.getElem_cons_zero, Act.put, List.setIfInBounds_toArray, List.set_cons_zero, List.set_cons_succ]
                  refine s_take (fun _ => trivial) (by kernel_rfl) 8 rfl (by kernel_rfl) (by kernel_rfl) (by kernel_rfl) (by kernel_rfl) (fun _ _ _ h => h) (by rfl) (by intro w' hw; rw [HSd.out] at hw; go_simp; try (with_reducible rfl)) hS ?_
                  simp only [List.getElem_toArray, List.getElem_cons_succ, List.getElem_cons_zero, Act.put, List.setIfInBounds_toArray, List.set_cons_zero, List.set_cons_succ]
                  refine s_take (fun _ => trivial) (by kernel_rfl) 9 rfl (by kernel_rfl) (by kernel_rfl) (by kernel_rfl) (by kernel_rfl) (fun _ _ _ h => h) (by rfl) (by intro w' hw; rw [HSd.out] at hw; go_simp; try (with_reducible rfl)) hS ?_
                  simp only [List.getElem_toArray, List.getElem_cons_succ, List.getElem_cons_zero, Act.put, List.setIfInBounds_toArray, List.set_cons_zero, List.set_cons_succ]
                  refine s_done (by kernel_rfl) ?_ _
                  go_wp2_with fail
                  exact ⟨⟨j + 1, by omega, by go_num, by rw [HD2.out], HBL.out.drew⟩, by simp [intOf]; omega⟩
              · obtain rfl : j = N := by omega
                have hd : decide (0 < j) = true := decide_eq_true hN0
                rw [hd]
                clear hd
                have HFJ := Lib.hid (HFX.out.below HBL.out)
                have HLO := Lib.hid (hlost_calls (HFX.out.below HBL.out))
                have hNk := HNK.out
                subst hNk
                go_wp2_with fail
                refine HLO.out.mono ?_
                rintro e U6 ⟨rfl, rfl⟩
                go_wp2_with fail
                refine (works_calls _).mono ?_
                rintro e U7 ⟨rfl, b7⟩
                have B7 := Lib.hid b7
                clear b7
                go_wp2_with fail
                go_ret
                exact ⟨rfl, below_then HFJ.out.blw HFJ.out.blw.size B7.out⟩
        · go_wp2_with fail
          obtain ⟨ob, hob⟩ : ∃ ob, V.heap.size = ob := ⟨_, rfl⟩
          rw [hob]
          have hfW := HFV.out.guest (N := [ob]) (below_alloc V (.cells #[.int .u8 5, .int .u64 0, .int .u64 1, .string ⟨#[]⟩] 47)) (fun k hk => by simp at hk; simp; omega)
          have hoW : Bx (V.alloc (.cells #[.int .u8 5, .int .u64 0, .int .u64 1, .string ⟨#[]⟩] 47)) ob 47 (occ ⟨5, 0, 1, []⟩) := Bx.new' V 47 (occ ⟨5, 0, 1, []⟩) hob.symm
          have hmW := HMV.out.alloc (.cells #[.int .u8 5, .int .u64 0, .int .u64 1, .string ⟨#[]⟩] 47)
          have hbW := HBV.out.below (below_alloc V (.cells #[.int .u8 5, .int .u64 0, .int .u64 1, .string ⟨#[]⟩] 47))
          have hne : g + 1 ≠ ob := hmW.ne hoW (by decide)
          refine (hacq_calls hfW [97] 20).mono ?_
          rintro e W ⟨hor, hf4, kz4⟩
          rw [d_acq] at hor hf4
          obtain ⟨e4, v4, he4, rfl, hbd⟩ : ∃ e4 v4, (some (⟨1, dMsg, 10, false⟩ : En)) = some e4 ∧ e = .returned (.tuple #[.agg (kcs [97] e4.id).toArray, mgv e4.m v4, .bool true]) ∧ Bdv W v4 e4.m.body := by
            rcases hor with ⟨h1, -⟩ | ⟨e4, v4, h1, h2, h3⟩
            · cases h1
            · exact ⟨e4, v4, h1, h2, h3⟩
          cases he4
          obtain ⟨A4, c4, rfl, -⟩ := hbd
          have HF4 := Lib.hid hf4
          have hoX := kz4.bx hoW (.inl (by simp))
          have HO4 := Lib.hid hoX
          have HM4 := Lib.hid (kz4.bx hmW (.inl (by simp)))
          have HB4 := Lib.hid (kz4.bdv hbW)
          have o0 := hoX.cell 0 (.int .u8 5) rfl
          have o1 := hoX.cell 1 (.int .u64 0) rfl
          have o2 := hoX.cell 2 (.int .u64 1) rfl
          have o3 := hoX.cell 3 (.string ⟨#[]⟩) rfl
          have ol := hoX.lt
          rw [show (kcs [97] (⟨1, dMsg, 10, false⟩ : En).id).toArray = #[.string ⟨#[97]⟩, .int .i64 1] from rfl, show mgv (⟨1, dMsg, 10, false⟩ : En).m (.slice A4 ((⟨1, dMsg, 10, false⟩ : En).m.body.length) c4) = .agg #[.int .u8 7, .int .u32 50, .int .u32 1, .string ⟨#[105, 100]⟩, .slice A4 4 c4] from rfl]
          have hst := fun U (hb : Below W.heap.size W U) => hset_calls (HF4.out.below hb) [97] 1 ⟨5, 0, 1, []⟩ 21 (by intro x hx; simp only [List.mem_cons, List.not_mem_nil, or_false] at hx; rcases hx with rfl | rfl <;> simp <;> omega) (by decide)
          rw [d_set k (by decide) ⟨5, 0, 1, []⟩ (by simp)] at hst
          have HST := Lib.hid hst
          clear hst hor hf4 kz4 hoX hfW hoW hmW hbW HFV HMV HBV hob
          go_wp2_with fail
          refine (HST.out _ ?_).mono ?_
          · exact below2 W _ _
          rintro e U ⟨rfl, hfU, kzU⟩
          have HFU := Lib.hid (hfU.less (G' := [g + 1]) (by simp))
          have HMU := Lib.hid (kzU.bx ((HM4.out.alloc (.cells #[.string ⟨#[97]⟩, .int .i64 1] 37)).alloc (.cells #[.int .u8 7, .int .u32 50, .int .u32 1, .string ⟨#[105, 100]⟩, .slice A4 4 c4] 41)) (.inl (by simp)))
          have HBU := Lib.hid (kzU.bdv (HB4.out.below (below2 W (.cells #[.string ⟨#[97]⟩, .int .i64 1] 37) (.cells #[.int .u8 7, .int .u32 50, .int .u32 1, .string ⟨#[105, 100]⟩, .slice A4 4 c4] 41))))
          clear hfU kzU HF4 HO4 HM4 HB4 o0 o1 o2 o3 ol HST
          go_wp2_with fail
          by_cases hkn : k = n
          · subst hkn
            have hE : dEnd [100] k q0 q1 k 21 = ([⟨q0, 3, 2, 1, []⟩, ⟨q1, k, 0, k, dL k⟩], 1) := by unfold dEnd; rw [if_pos (.inr rfl)]
            have hfL := HFU.out
            rw [hE] at hfL
            have HFL := Lib.hid hfL
            clear hfL hE HFU
            refine (hlist_calls HFL.out [100]).mono ?_
            rintro e U1 ⟨v, ms, rfl, hms, hml, b1⟩
            have hms2 : ms.map (·.1) = (ordQ false (dL k)).map (·.m) := hms
            rw [d_order] at hms2
            have hmk : ms.length = k := by have := congrArg List.length hms2; rw [List.length_map, List.length_map, dL_len] at this; exact this
            obtain ⟨A1, c1, rfl⟩ := hml.1.slice
            rw [hmk, show hasQ (dC [100] k) [⟨q0, 3, 2, 1, []⟩, ⟨q1, k, 0, k, dL k⟩] [100] = 0 from by unfold hasQ qAt; rw [dAt_d]; rfl]
            have HF1 := Lib.hid (HFL.out.below b1)
            clear hms hms2 hml b1 HFL hmk
            go_wp2_with fail
            refine (hlen_calls HF1.out [97]).mono ?_
            rintro e U2 ⟨rfl, b2⟩
            rw [show (ordQ false (qLs (dC [100] k) [⟨q0, 3, 2, 1, []⟩, ⟨q1, k, 0, k, dL k⟩] [97])).length = 0 from by kernel_rfl, show (ordQ true (qLs (dC [100] k) [⟨q0, 3, 2, 1, []⟩, ⟨q1, k, 0, k, dL k⟩] [97])).length = 0 from by kernel_rfl]
            have HF2 := Lib.hid (HF1.out.below b2)
            have HLO := Lib.hid (hlost_calls (HF1.out.below b2))
            clear b2 HF1
            go_wp2_with fail
            refine HLO.out.mono ?_
            rintro e U3 ⟨rfl, rfl⟩
            go_wp2_with fail
            refine (works_calls _).mono ?_
            rintro e U4 ⟨rfl, b4⟩
            have B4 := Lib.hid b4
            clear b4
            go_wp2_with fail
            go_ret
            exact ⟨rfl, below_then HF2.out.blw HF2.out.blw.size B4.out⟩
          · have hE : dEnd [100] n q0 q1 k 21 = ([⟨q0, 3, 2, 1, []⟩, ⟨q1, n, 0, k + 1, dL k ++ [⟨k + 1, dStale, mom 21, false⟩]⟩], 0) := by unfold dEnd; rw [if_neg (by simp [hkn])]
            have hfL := HFU.out
            rw [hE] at hfL
            have HFL := Lib.hid hfL
            have hkn' : ¬ (k : Int) = n := by omega
            clear hfL hE HFU hkn
            refine (hlist_calls HFL.out [100]).mono ?_
            rintro e U1 ⟨v, ms, rfl, hms, hml, b1⟩
            have hms2 : ms.map (·.1) = (ordQ false (dL k ++ [⟨k + 1, dStale, mom 21, false⟩])).map (·.m) := hms
            rw [d_order7 k _ rfl rfl] at hms2
            have hmk : ms.length = k + 1 := by have := congrArg List.length hms2; rw [List.length_map, List.length_map, List.length_cons, dL_len] at this; exact this
            obtain ⟨bv, ms', rfl⟩ : ∃ bv ms', ms = (dStale, bv) :: ms' := by
              cases ms with
              | nil => cases hmk
              | cons x ms' =>
                obtain ⟨m, bv⟩ := x
                simp only [List.map_cons, List.cons.injEq] at hms2
                exact ⟨bv, ms', by rw [hms2.1]⟩
            obtain ⟨g7, c7, hv7, -⟩ := hml.1.form (by rw [hmk]; omega)
            subst hv7
            obtain ⟨Ab, cb, hbv, -⟩ := hml.2 _ (List.mem_cons_self ..)
            simp only at hbv
            subst hbv
            have hrd : Bdv U1 (.slice Ab 4 cb) dStale.body := hml.2 _ (List.mem_cons_self ..)
            have hg7 := (hml.1.lt g7 rfl).1
            rw [show hasQ (dC [100] n) [⟨q0, 3, 2, 1, []⟩, ⟨q1, n, 0, k + 1, dL k ++ [⟨k + 1, dStale, mom 21, false⟩]⟩] [100] = 0 from by unfold hasQ qAt; rw [dAt_d]; rfl]
            obtain ⟨N, hN⟩ : ∃ N, N = k + 1 := ⟨_, rfl⟩
            rw [hmk] at hml ⊢
            rw [← hN] at hml ⊢
            have hN0 : 0 < N := by omega
            have hN9 : (N : Int) < 9 := by omega
            have HNK := Lib.hid hN
            clear hN
            have HF1 := Lib.hid (HFL.out.below b1)
            have HM1 := Lib.hid (HMU.out.below b1)
            have HB1 := Lib.hid (HBU.out.below b1)
            have HRD := Lib.hid hrd
            have HBX : Hid (∃ (cs : List Value), Bx U1 g7 41 cs ∧ cs[0]? = some (.int .u8 7) ∧ cs[1]? = some (.int .u32 0) ∧ cs[2]? = some (.int .u32 0) ∧ cs[3]? = some (.string ⟨#[105, 100]⟩) ∧ cs[4]? = some (.slice Ab 4 cb)) := Lib.hid (by
              rcases hml.1.2.2 with ⟨hx, -⟩ | ⟨g, cap, sp, hx, -, hh, -⟩
              · cases hx
              · cases hx
                exact ⟨_, hh, rfl, rfl, rfl, rfl, rfl⟩)
            have hgl : g + 1 < g7 := by have := HMU.out.lt; omega
            clear hms hms2 hml b1 HFL hmk hrd HMU HBU hg7
            go_wp2_with fail
            refine (hlen_calls HF1.out [97]).mono ?_
            rintro e U2 ⟨rfl, b2⟩
            rw [show (ordQ false (qLs (dC [100] n) [⟨q0, 3, 2, 1, []⟩, ⟨q1, n, 0, k + 1, dL k ++ [⟨k + 1, dStale, mom 21, false⟩]⟩] [97])).length = 0 from by kernel_rfl, show (ordQ true (qLs (dC [100] n) [⟨q0, 3, 2, 1, []⟩, ⟨q1, n, 0, k + 1, dL k ++ [⟨k + 1, dStale, mom 21, false⟩]⟩] [97])).length = 0 from by kernel_rfl]
            have HF2 := Lib.hid (HF1.out.below b2)
            have HM2 := Lib.hid (HM1.out.below b2)
            have HB2 := Lib.hid (HB1.out.below b2)
            have HR2 := Lib.hid (HRD.out.below b2)
            obtain ⟨cs, hcs, hc0, hc1, hc2, hc3, hc4⟩ := HBX.out
            have hcs2 := hcs.below b2
            have HCS := Lib.hid hcs2
            have m1 := HM2.out.cell 1 (.int .u32 50) rfl
            have m2 := HM2.out.cell 2 (.int .u32 1) rfl
            have f1 := HM2.out.froz 1
            have f2 := HM2.out.froz 2
            have HC0 := Lib.hid hc0
            have HC1 := Lib.hid hc1
            have HC2 := Lib.hid hc2
            have HC3 := Lib.hid hc3
            have HC4 := Lib.hid hc4
            clear b2 HF1 HM1 HB1 HRD HBX hcs hcs2 hc0 hc1 hc2 hc3 hc4
            go_wp2_with fail
            have hgne : g7 ≠ g + 1 := by omega
            have ht2 : Tch [g + 1] U2 ((U2.setCell ⟨g + 1, 1, none⟩ (.int .u32 0)).setCell ⟨g + 1, 2, none⟩ (.int .u32 0)) := ((Tch.refl [g + 1] U2).setCell _ (.inl (by simp))).setCell _ (.inl (by simp))
            have hns : ∀ k ∈ [g + 1], ∃ o, U2.heap[k]? = some o ∧ ∀ (cs : Array Value) (fr : Nat × Nat), o ≠ Obj.cells cs 5 fr := fun k hk => by
              simp only [List.mem_singleton] at hk
              subst hk
              exact ⟨_, HM2.out, fun cs fr he => by cases he⟩
            refine forget (fun X => HF w X ([g + 1] ++ []) h (dC [100] n) [⟨q0, 3, 2, 1, []⟩, ⟨q1, n, 0, k + 1, dL k ++ [⟨k + 1, dStale, mom 21, false⟩]⟩] 0 ∧ Bx X (g + 1) 41 (mcs dStale (.slice (some ⟨g, 0, none⟩) 4 4)) ∧ Bdv X (.slice (some ⟨g, 0, none⟩) 4 4) dStale.body ∧ Bdv X (.slice Ab 4 cb) dStale.body ∧ Bx X g7 41 cs) ⟨HF2.out.zset ht2, ((HM2.out.set 1 _).set 2 _).to rfl, HB2.out.tch ht2 hns, HR2.out.tch ht2 hns, (HCS.out.off hgne).off hgne⟩ ?_
            rintro X ⟨hfX, hmX, hrX, haX, hcX⟩
            have HFX := Lib.hid hfX
            have HMX := Lib.hid hmX
            have HRX := Lib.hid hrX
            have HAX := Lib.hid haX
            have HCX := Lib.hid hcX
            clear hfX hmX hrX haX hcX m1 m2 f1 f2 ht2 hns HF2 HM2 HB2 HR2 HCS
            have hbe : ((k : Int) == (n : Int)) = false := by simpa using hkn'
            rw [hbe]
            clear hbe
            go_loopw [25, 26] (fun fd ix wr => ∃ j : Nat, j ≤ N ∧ ix = .int .i64 j ∧ fd = .bool (decide (0 < j)) ∧ Below X.heap.size X wr) (fun _ ix _ => N - (intOf ix).toNat)
            case atStart => exact ⟨0, by omega, rfl, rfl, Below.refl _ _⟩
            case round =>
              obtain ⟨j, hj, rfl, rfl, hbl⟩ := hrel
              have HBL := Lib.hid hbl
              clear hbl
              by_cases hjN : j < N
              · have hjN' : (j : Int) < N := by omega
                by_cases hj0 : j = 0
                · subst hj0
                  rw [show decide (0 < 0) = false from rfl]
                  go_wp2_with fail
                  have hm' := HMX.out.below HBL.out
                  have hc' := HCX.out.below HBL.out
                  obtain ⟨S, hSd⟩ : ∃ S : World → Prop, S = fun W' : World => W'.cell? ⟨g7, 0, none⟩ = some (.int .u8 7) ∧ W'.cell? ⟨g7, 1, none⟩ = some (.int .u32 0) ∧ W'.cell? ⟨g7, 2, none⟩ = some (.int .u32 0) ∧ W'.cell? ⟨g7, 3, none⟩ = some (.string ⟨#[105, 100]⟩) ∧ W'.cell? ⟨g7, 4, none⟩ = some (.slice Ab 4 cb) ∧ W'.cell? ⟨g + 1, 0, none⟩ = some (.int .u8 7) ∧ W'.cell? ⟨g + 1, 1, none⟩ = some (.int .u32 0) ∧ W'.cell? ⟨g + 1, 2, none⟩ = some (.int .u32 0) ∧ W'.cell? ⟨g + 1, 3, none⟩ = some (.string ⟨#[105, 100]⟩) ∧ W'.cell? ⟨g + 1, 4, none⟩ = some (.slice (some ⟨g, 0, none⟩) 4 4) := ⟨_, rfl⟩
                  have hS : S wr.drew := by
                    rw [hSd]
                    exact ⟨hc'.cell 0 _ HC0.out, hc'.cell 1 _ HC1.out, hc'.cell 2 _ HC2.out, hc'.cell 3 _ HC3.out, hc'.cell 4 _ HC4.out, hm'.cell 0 _ rfl, hm'.cell 1 _ rfl, hm'.cell 2 _ rfl, hm'.cell 3 _ rfl, hm'.cell 4 _ rfl⟩
                  have HSd := Lib.hid hSd
                  clear hSd hm' hc'
                  refine (wpIn_wide (n := 0)).1 ?_
                  refine s_region [] S (by kernel_rfl) ?_
                  refine s_take (fun _ => trivial) (by kernel_rfl) 0 rfl (by kernel_rfl) (by kernel_rfl) (by kernel_rfl) (by kernel_rfl) (fun _ _ _ h => h) (by rfl) (by intro w' hw; rw [HSd.out] at hw; obtain ⟨h0, h1, h2, h3, h4, h5, h6, h7, h8, h9⟩ := hw; go_simp; try (with_reducible rfl)) hS ?_
                  simp only [List.getElem_toArray, List.getElem_cons_succ, List.getElem_cons_zero, Act.put, List.setIfInBounds_toArray, List.set_cons_zero, List.set_cons_succ]
                  refine s_take (fun _ => trivial) (by kernel_rfl) 1 rfl (by kernel_rfl) (by kernel_rfl) (by kernel_rfl) (by kernel_rfl) (fun _ _ _ h => h) (by rfl) (by intro w' hw; rw [HSd.out] at hw; obtain ⟨h0, h1, h2, h3, h4, h5, h6, h7, h8, h9⟩ := hw; go_simp; try (with_reducible rfl)) hS ?_
                  simp only [List.getElem_toArray, List.getElem_cons_succ, List.getElem_cons_zero, Act.put, List.setIfInBounds_toArray, List.set_cons_zero, List.set_cons_succ]
                  refine s_take (fun _ => trivial) (by kernel_rfl) 2 rfl (by kernel_rfl) (by kernel_rfl) (by kernel_rfl) (by kernel_rfl) (fun _ _ _ h => h) (by rfl) (by intro w' hw; rw [HSd.out] at hw; obtain ⟨h0, h1, h2, h3, h4, h5, h6, h7, h8, h9⟩ := hw; go_simp; try (with_reducible rfl)) hS ?_
                  simp only [List.getElem_toArray, List.getElem_cons_succ, List.getElem_cons_zero, Act.put, List.setIfInBounds_toArray, List.set_cons_zero, List.set_cons_succ]
                  refine s_take (fun _ => trivial) (by kernel_rfl) 3 rfl (by kernel_rfl) (by kernel_rfl) (by kernel_rfl) (by kernel_rfl) (fun _ _ _ h => h) (by rfl) (by intro w' hw; rw [HSd.out] at hw; obtain ⟨h0, h1, h2, h3, h4, h5, h6, h7, h8, h9⟩ := hw; go_simp; try (with_reducible rfl)) hS ?_
                  simp only [List.getElem_toArray, List.getElem_cons_succ, List.getElem_cons_zero, Act.put, List.setIfInBounds_toArray, List.set_cons_zero, List.set_cons_succ]
                  refine s_take (fun _ => trivial) (by kernel_rfl) 4 rfl (by kernel_rfl) (by kernel_rfl) (by kernel_rfl) (by kernel_rfl) (fun _ _ _ h => h) (by rfl) (by intro w' hw; rw [HSd.out] at hw; obtain ⟨h0, h1, h2, h3, h4, h5, h6, h7, h8, h9⟩ := hw; go_simp; try (with_reducible rfl)) hS ?_
                  simp only [List.getElem_toArray, List.getElem_cons_succ, List.getElem_cons_zero, Act.put, List.setIfInBounds_toArray, List.set_cons_zero, List.set_cons_succ]
                  refine s_take (fun _ => trivial) (by kernel_rfl) 5 rfl (by kernel_rfl) (by kernel_rfl) (by kernel_rfl) (by kernel_rfl) (fun _ _ _ h => h) (by rfl) (by intro w' hw; rw [HSd.out] at hw; obtain ⟨h0, h1, h2, h3, h4, h5, h6, h7, h8, h9⟩ := hw; go_simp; try (with_reducible rfl)) hS ?_
                  simp only [List.getElem_toArray, List.getElem_cons_succ, List.getElem_cons_zero, Act.put, List.setIfInBounds_toArray, List.set_cons_zero, List.set_cons_succ]
                  refine s_take (fun _ => trivial) (by kernel_rfl) 6 rfl (by kernel_rfl) (by kernel_rfl) (by kernel_rfl) (by kernel_rfl) (fun _ _ _ h => h) (by rfl) (by intro w' hw; rw [HSd.out] at hw; obtain ⟨h0, h1, h2, h3, h4, h5, h6, h7, h8, h9⟩ := hw; go_simp; try (with_reducible rfl)) hS ?_
                  simp only [List.getElem_toArray, List.getElem_cons_succ, List.getElem_cons_zero, Act.put, List.setIfInBounds_toArray, List.set_cons_zero, List.set_cons_succ]
                  refine s_one 7 (by kernel_rfl) rfl (by rfl) (fun K hK => ?_)
                  go_simp
                  have hsm := rsame_calls (w := wr.drew) dStale Ab (some ⟨g, 0, none⟩) cb 4 4 rfl (by obtain ⟨A', c', hv', hr', -⟩ := HAX.out.below HBL.out; cases hv'; exact hr') (by obtain ⟨A', c', hv', hr', -⟩ := HRX.out.below HBL.out; cases hv'; exact hr')
                  refine ⟨trivial, rfl, (callsIn_wide.2 hsm).mono ?_⟩
                  rintro e U5 ⟨rfl, b5⟩
                  have hS5 : S U5 := by
                    rw [HSd.out] at hS ⊢
                    obtain ⟨t0, t1, t2, t3, t4, t5, t6, t7, t8, t9⟩ := hS
                    exact ⟨stays_ b5 t0, stays_ b5 t1, stays_ b5 t2, stays_ b5 t3, stays_ b5 t4, stays_ b5 t5, stays_ b5 t6, stays_ b5 t7, stays_ b5 t8, stays_ b5 t9⟩
                  refine hK.out _ _ (fun _ => hS5) ?_
                  clear hK K hS hsm
                  have hS := hS5
                  clear hS5
                  refine s_take (fun _ => trivial) (by kernel_rfl) 8 rfl (by kernel_rfl) (by kernel_rfl) (by kernel_rfl) (by kernel_rfl) (fun _ _ _ h => h) (by rfl) (by intro w' hw; rw [HSd.out] at hw; obtain ⟨h0, h1, h2, h3, h4, h5, h6, h7, h8, h9⟩ := hw; go_simp; try (with_reducible rfl)) hS ?_
                  simp only [List.getElem_toArray, List.getElem_cons_succ, List.getElem_cons_zero, Act.put, List.setIfInBounds_toArray, List.set_cons_zero, List.set_cons_succ]
                  refine s_take (fun _ => trivial) (by kernel_rfl) 9 rfl (by kernel_rfl) (by kernel_rfl) (by kernel_rfl) (by kernel_rfl) (fun _ _ _ h => h) (by rfl) (by intro w' hw; rw [HSd.out] at hw; obtain ⟨h0, h1, h2, h3, h4, h5, h6, h7, h8, h9⟩ := hw; go_simp; try (with_reducible rfl)) hS ?_
                  simp only [List.getElem_toArray, List.getElem_cons_succ, List.getElem_cons_zero, Act.put, List.setIfInBounds_toArray, List.set_cons_zero, List.set_cons_succ]
                  refine s_done (by kernel_rfl) ?_ _
                  have B5 := Lib.hid (below_then HBL.out HBL.out.size (below_of_drew b5))
                  clear b5 hS
                  go_wp2_with fail
                  go_roundw
                  case rel => exact ⟨1, by omega, by go_num, rfl, B5.out⟩
                  case measure => simp [intOf]; omega
                · have hd : decide (0 < j) = true := decide_eq_true (by omega)
                  have hd2 : decide (0 < j + 1) = true := decide_eq_true (by omega)
                  rw [hd]
                  have HD2 := Lib.hid hd2
                  clear hd hd2
                  go_wp2_with fail
                  obtain ⟨S, hSd⟩ : ∃ S : World → Prop, S = fun W' : World => Below wr.heap.size wr W' := ⟨_, rfl⟩
                  have hS : S wr.drew := by rw [hSd]; exact below_drew wr
                  have HSd := Lib.hid hSd
                  clear hSd
                  refine (wpIn_wide (n := 0)).1 ?_
                  refine s_region [] S (by kernel_rfl) ?_
                  refine s_take (fun _ => trivial) (by kernel_rfl) 0 rfl (by kernel_rfl) (by kernel_rfl) (by kernel_rfl) (by kernel_rfl) (fun _ _ _ h => h) (by rfl) (by intro w' hw; rw [HSd.out] at hw; go_simp; try (with_reducible rfl)) hS ?_
                  simp only [List.getElem_toArray, List.getElem_cons_succ, List.getElem_cons_zero, Act.put, List.setIfInBounds_toArray, List.set_cons_zero, List.set_cons_succ]
                  refine s_take (fun _ => trivial) (by kernel_rfl) 1 rfl (by kernel_rfl) (by kernel_rfl) (by kernel_rfl) (by kernel_rfl) (fun _ _ _ h => h) (by rfl) (by intro w' hw; rw [HSd.out] at hw; go_simp; try (with_reducible rfl)) hS ?_
                  simp only [List.getElem_toArray, List.getElem_cons_succ, List.getElem_cons_zero, Act.put, List.setIfInBounds_toArray, List.set_cons_zero, List.set_cons_succ]
                  refine s_pass (fun _ => trivial) (by kernel_rfl) 2 rfl (by kernel_rfl) (by kernel_rfl) (by kernel_rfl) (by kernel_rfl) (fun _ _ _ h => h) (by rfl) hS ?_
                  simp only [List.getElem_toArray, List.getElem_cons_succ, List.getElem_cons_zero, Act.put, List.setIfInBounds_toArray, List.set_cons_zero, List.set_cons_succ]
                  refine s_pass (fun _ => trivial) (by kernel_rfl) 3 rfl (by kernel_rfl) (by kernel_rfl) (by kernel_rfl) (by kernel_rfl) (fun _ _ _ h => h) (by rfl) hS ?_
                  simp only [List.getElem_toArray, List.getElem_cons_succ, List.getElem_cons_zero, Act.put, List.setIfInBounds_toArray, List.set_cons_zero, List.set_cons_succ]
                  refine s_pass (fun _ => trivial) (by kernel_rfl) 4 rfl (by kernel_rfl) (by kernel_rfl) (by kernel_rfl) (by kernel_rfl) (fun _ _ _ h => h) (by rfl) hS ?_
                  simp only [List.getElem_toArray, List.getElem_cons_succ, List.getElem_cons_zero, Act.put, List.setIfInBounds_toArray, List.set_cons_zero, List.set_cons_succ]
                  refine s_pass (fun _ => trivial) (by kernel_rfl) 5 rfl (by kernel_rfl) (by kernel_rfl) (by kernel_rfl) (by kernel_rfl) (fun _ _ _ h => h) (by rfl) hS ?_
                  simp only [List.getElem_toArray, List.getElem_cons_succ, List.getElem_cons_zero, Act.put, List.setIfInBounds_toArray, List.set_cons_zero, List.set_cons_succ]
                  refine s_pass (fun _ => trivial) (by kernel_rfl) 6 rfl (by kernel_rfl) (by kernel_rfl) (by kernel_rfl) (by kernel_rfl) (fun _ _ _ h => h) (by rfl) hS ?_
                  simp only [List.getElem_toArray, List.getElem_cons_succ, List.getElem_cons_zero, Act.put, List.setIfInBounds_toArray, List.set_cons_zero, List.set_cons_succ]
                  refine s_pass (fun _ => trivial) (by kernel_rfl) 7 rfl (by kernel_rfl) (by kernel_rfl) (by kernel_rfl) (by kernel_rfl) (fun _ _ _ h => h) (by rfl) hS ?_
                  simp only [List.getElem_toArray, List.getElem_cons_succ, List.getElem_cons_zero, Act.put, List.setIfInBounds_toArray, List.set_cons_zero, List.set_cons_succ]
                  refine s_take (fun _ => trivial) (by kernel_rfl) 8 rfl (by kernel_rfl) (by kernel_rfl) (by kernel_rfl) (by kernel_rfl) (fun _ _ _ h => h) (by rfl) (by intro w' hw; rw [HSd.out] at hw; go_simp; try (with_reducible rfl)) hS ?_
                  simp only [List.getElem_toArray, List.getElem_cons_succ, List.getElem_cons_zero, Act.put, List.setIfInBounds_toArray, List.set_cons_zero, List.set_cons_succ]
                  refine s_take (fun _ => trivial) (by kernel_rfl) 9 rfl (by kernel_rfl) (by kernel_rfl) (by kernel_rfl) (by kernel_rfl) (fun _ _ _ h => h) (by rfl) (by intro w' hw; rw [HSd.out] at hw; go_simp; try (with_reducible rfl)) hS ?_
                  simp only [List.getElem_toArray, List.getElem_cons_succ, List.getElem_cons_zero, Act.put, List.setIfInBounds_toArray, List.set_cons_zero, List.set_cons_succ]
                  refine s_done (by kernel_rfl) ?_ _
                  go_wp2_with fail
                  exact ⟨⟨j + 1, by omega, by go_num, by rw [HD2.out], HBL.out.drew⟩, by simp [intOf]; omega⟩
              · obtain rfl : j = N := by omega
                have hd : decide (0 < j) = true := decide_eq_true hN0
                rw [hd]
                clear hd
                have HFJ := Lib.hid (HFX.out.below HBL.out)
                have HLO := Lib.hid (hlost_calls (HFX.out.below HBL.out))
                have hNk := HNK.out
                subst hNk
                go_wp2_with fail
                refine HLO.out.mono ?_
                rintro e U6 ⟨rfl, rfl⟩
                go_wp2_with fail
                refine (works_calls _).mono ?_
                rintro e U7 ⟨rfl, b7⟩
                have B7 := Lib.hid b7
                clear b7
                go_wp2_with fail
                go_ret
                exact ⟨rfl, below_then HFJ.out.blw HFJ.out.blw.size B7.out⟩
        · go_wp2_with fail
          obtain ⟨ob, hob⟩ : ∃ ob, V.heap.size = ob := ⟨_, rfl⟩
          rw [hob]
          have hfW := HFV.out.guest (N := [ob]) (below_alloc V (.cells #[.int .u8 5, .int .u64 1, .int .u64 0, .string ⟨#[]⟩] 47)) (fun k hk => by simp at hk; simp; omega)
          have hoW : Bx (V.alloc (.cells #[.int .u8 5, .int .u64 1, .int .u64 0, .string ⟨#[]⟩] 47)) ob 47 (occ ⟨5, 1, 0, []⟩) := Bx.new' V 47 (occ ⟨5, 1, 0, []⟩) hob.symm
          have hmW := HMV.out.alloc (.cells #[.int .u8 5, .int .u64 1, .int .u64 0, .string ⟨#[]⟩] 47)
          have hbW := HBV.out.below (below_alloc V (.cells #[.int .u8 5, .int .u64 1, .int .u64 0, .string ⟨#[]⟩] 47))
          have hne : g + 1 ≠ ob := hmW.ne hoW (by decide)
          refine (hacq_calls hfW [97] 20).mono ?_
          rintro e W ⟨hor, hf4, kz4⟩
          rw [d_acq] at hor hf4
          obtain ⟨e4, v4, he4, rfl, hbd⟩ : ∃ e4 v4, (some (⟨1, dMsg, 10, false⟩ : En)) = some e4 ∧ e = .returned (.tuple #[.agg (kcs [97] e4.id).toArray, mgv e4.m v4, .bool true]) ∧ Bdv W v4 e4.m.body := by
            rcases hor with ⟨h1, -⟩ | ⟨e4, v4, h1, h2, h3⟩
            · cases h1
            · exact ⟨e4, v4, h1, h2, h3⟩
          cases he4
          obtain ⟨A4, c4, rfl, -⟩ := hbd
          have HF4 := Lib.hid hf4
          have hoX := kz4.bx hoW (.inl (by simp))
          have HO4 := Lib.hid hoX
          have HM4 := Lib.hid (kz4.bx hmW (.inl (by simp)))
          have HB4 := Lib.hid (kz4.bdv hbW)
          have o0 := hoX.cell 0 (.int .u8 5) rfl
          have o1 := hoX.cell 1 (.int .u64 1) rfl
          have o2 := hoX.cell 2 (.int .u64 0) rfl
          have o3 := hoX.cell 3 (.string ⟨#[]⟩) rfl
          have ol := hoX.lt
          rw [show (kcs [97] (⟨1, dMsg, 10, false⟩ : En).id).toArray = #[.string ⟨#[97]⟩, .int .i64 1] from rfl, show mgv (⟨1, dMsg, 10, false⟩ : En).m (.slice A4 ((⟨1, dMsg, 10, false⟩ : En).m.body.length) c4) = .agg #[.int .u8 7, .int .u32 50, .int .u32 1, .string ⟨#[105, 100]⟩, .slice A4 4 c4] from rfl]
          have hst := fun U (hb : Below W.heap.size W U) => hset_calls (HF4.out.below hb) [97] 1 ⟨5, 1, 0, []⟩ 21 (by intro x hx; simp only [List.mem_cons, List.not_mem_nil, or_false] at hx; rcases hx with rfl | rfl <;> simp <;> omega) (by decide)
          rw [d_set k (by decide) ⟨5, 1, 0, []⟩ (by simp)] at hst
          have HST := Lib.hid hst
          clear hst hor hf4 kz4 hoX hfW hoW hmW hbW HFV HMV HBV hob
          go_wp2_with fail
          refine (HST.out _ ?_).mono ?_
          · exact below2 W _ _
          rintro e U ⟨rfl, hfU, kzU⟩
          have HFU := Lib.hid (hfU.less (G' := [g + 1]) (by simp))
          have HMU := Lib.hid (kzU.bx ((HM4.out.alloc (.cells #[.string ⟨#[97]⟩, .int .i64 1] 37)).alloc (.cells #[.int .u8 7, .int .u32 50, .int .u32 1, .string ⟨#[105, 100]⟩, .slice A4 4 c4] 41)) (.inl (by simp)))
          have HBU := Lib.hid (kzU.bdv (HB4.out.below (below2 W (.cells #[.string ⟨#[97]⟩, .int .i64 1] 37) (.cells #[.int .u8 7, .int .u32 50, .int .u32 1, .string ⟨#[105, 100]⟩, .slice A4 4 c4] 41))))
          clear hfU kzU HF4 HO4 HM4 HB4 o0 o1 o2 o3 ol HST
          go_wp2_with fail
          by_cases hkn : k = n
          · subst hkn
            have hE : dEnd [100] k q0 q1 k 21 = ([⟨q0, 3, 2, 1, []⟩, ⟨q1, k, 0, k, dL k⟩], 1) := by unfold dEnd; rw [if_pos (.inr rfl)]
            have hfL := HFU.out
            rw [hE] at hfL
            have HFL := Lib.hid hfL
            clear hfL hE HFU
            refine (hlist_calls HFL.out [100]).mono ?_
            rintro e U1 ⟨v, ms, rfl, hms, hml, b1⟩
            have hms2 : ms.map (·.1) = (ordQ false (dL k)).map (·.m) := hms
            rw [d_order] at hms2
            have hmk : ms.length = k := by have := congrArg List.length hms2; rw [List.length_map, List.length_map, dL_len] at this; exact this
            obtain ⟨A1, c1, rfl⟩ := hml.1.slice
            rw [hmk, show hasQ (dC [100] k) [⟨q0, 3, 2, 1, []⟩, ⟨q1, k, 0, k, dL k⟩] [100] = 0 from by unfold hasQ qAt; rw [dAt_d]; rfl]
            have HF1 := Lib.hid (HFL.out.below b1)
            clear hms hms2 hml b1 HFL hmk
            go_wp2_with fail
            refine (hlen_calls HF1.out [97]).mono ?_
            rintro e U2 ⟨rfl, b2⟩
            rw [show (ordQ false (qLs (dC [100] k) [⟨q0, 3, 2, 1, []⟩, ⟨q1, k, 0, k, dL k⟩] [97])).length = 0 from by kernel_rfl, show (ordQ true (qLs (dC [100] k) [⟨q0, 3, 2, 1, []⟩, ⟨q1, k, 0, k, dL k⟩] [97])).length = 0 from by kernel_rfl]
            have HF2 := Lib.hid (HF1.out.below b2)
            have HLO := Lib.hid (hlost_calls (HF1.out.below b2))
            clear b2 HF1
            go_wp2_with fail
            refine HLO.out.mono ?_
            rintro e U3 ⟨rfl, rfl⟩
            go_wp2_with fail
            refine (works_calls _).mono ?_
            rintro e U4 ⟨rfl, b4⟩
            have B4 := Lib.hid b4
            clear b4
            go_wp2_with fail
            go_ret
            exact ⟨rfl, below_then HF2.out.blw HF2.out.blw.size B4.out⟩
          · have hE : dEnd [100] n q0 q1 k 21 = ([⟨q0, 3, 2, 1, []⟩, ⟨q1, n, 0, k + 1, dL k ++ [⟨k + 1, dStale, mom 21, false⟩]⟩], 0) := by unfold dEnd; rw [if_neg (by simp [hkn])]
            have hfL := HFU.out
            rw [hE] at hfL
            have HFL := Lib.hid hfL
            have hkn' : ¬ (k : Int) = n := by omega
            clear hfL hE HFU hkn
            refine (hlist_calls HFL.out [100]).mono ?_
            rintro e U1 ⟨v, ms, rfl, hms, hml, b1⟩
            have hms2 : ms.map (·.1) = (ordQ false (dL k ++ [⟨k + 1, dStale, mom 21, false⟩])).map (·.m) := hms
            rw [d_order7 k _ rfl rfl] at hms2
            have hmk : ms.length = k + 1 := by have := congrArg List.length hms2; rw [List.length_map, List.length_map, List.length_cons, dL_len] at this; exact this
            obtain ⟨bv, ms', rfl⟩ : ∃ bv ms', ms = (dStale, bv) :: ms' := by
              cases ms with
              | nil => cases hmk
              | cons x ms' =>
                obtain ⟨m, bv⟩ := x
                simp only [List.map_cons, List.cons.injEq] at hms2
                exact ⟨bv, ms', by rw [hms2.1]⟩
            obtain ⟨g7, c7, hv7, -⟩ := hml.1.form (by rw [hmk]; omega)
            subst hv7
            obtain ⟨Ab, cb, hbv, -⟩ := hml.2 _ (List.mem_cons_self ..)
            simp only at hbv
            subst hbv
            have hrd : Bdv U1 (.slice Ab 4 cb) dStale.body := hml.2 _ (List.mem_cons_self ..)
            have hg7 := (hml.1.lt g7 rfl).1
            rw [show hasQ (dC [100] n) [⟨q0, 3, 2, 1, []⟩, ⟨q1, n, 0, k + 1, dL k ++ [⟨k + 1, dStale, mom 21, false⟩]⟩] [100] = 0 from by unfold hasQ qAt; rw [dAt_d]; rfl]
            obtain ⟨N, hN⟩ : ∃ N, N = k + 1 := ⟨_, rfl⟩
            rw [hmk] at hml ⊢
            rw [← hN] at hml ⊢
            have hN0 : 0 < N := by omega
            have hN9 : (N : Int) < 9 := by omega
            have HNK := Lib.hid hN
            clear hN
            have HF1 := Lib.hid (HFL.out.below b1)
            have HM1 := Lib.hid (HMU.out.below b1)
            have HB1 := Lib.hid (HBU.out.below b1)
            have HRD := Lib.hid hrd
            have HBX : Hid (∃ (cs : List Value), Bx U1 g7 41 cs ∧ cs[0]? = some (.int .u8 7) ∧ cs[1]? = some (.int .u32 0) ∧ cs[2]? = some (.int .u32 0) ∧ cs[3]? = some (.string ⟨#[105, 100]⟩) ∧ cs[4]? = some (.slice Ab 4 cb)) := Lib.hid (by
              rcases hml.1.2.2 with ⟨hx, -⟩ | ⟨g, cap, sp, hx, -, hh, -⟩
              · cases hx
              · cases hx
                exact ⟨_, hh, rfl, rfl, rfl, rfl, rfl⟩)
            have hgl : g + 1 < g7 := by have := HMU.out.lt; omega
            clear hms hms2 hml b1 HFL hmk hrd HMU HBU hg7
            go_wp2_with fail
            refine (hlen_calls HF1.out [97]).mono ?_
            rintro e U2 ⟨rfl, b2⟩
            rw [show (ordQ false (qLs (dC [100] n) [⟨q0, 3, 2, 1, []⟩, ⟨q1, n, 0, k + 1, dL k ++ [⟨k + 1, dStale, mom 21, false⟩]⟩] [97])).length = 0 from by kernel_rfl, show (ordQ true (qLs (dC [100] n) [⟨q0, 3, 2, 1, []⟩, ⟨q1, n, 0, k + 1, dL k ++ [⟨k + 1, dStale, mom 21, false⟩]⟩] [97])).length = 0 from by kernel_rfl]
            have HF2 := Lib.hid (HF1.out.below b2)
            have HM2 := Lib.hid (HM1.out.below b2)
            have HB2 := Lib.hid (HB1.out.below b2)
            have HR2 := Lib.hid (HRD.out.below b2)
            obtain ⟨cs, hcs, hc0, hc1, hc2, hc3, hc4⟩ := HBX.out
            have hcs2 := hcs.below b2
            have HCS := Lib.hid hcs2
            have m1 := HM2.out.cell 1 (.int .u32 50) rfl
            have m2 := HM2.out.cell 2 (.int .u32 1) rfl
            have f1 := HM2.out.froz 1
            have f2 := HM2.out.froz 2
            have HC0 := Lib.hid hc0
            have HC1 := Lib.hid hc1
            have HC2 := Lib.hid hc2
            have HC3 := Lib.hid hc3
            have HC4 := Lib.hid hc4
            clear b2 HF1 HM1 HB1 HRD HBX hcs hcs2 hc0 hc1 hc2 hc3 hc4
            go_wp2_with fail
            have hgne : g7 ≠ g + 1 := by omega
            have ht2 : Tch [g + 1] U2 ((U2.setCell ⟨g + 1, 1, none⟩ (.int .u32 0)).setCell ⟨g + 1, 2, none⟩ (.int .u32 0)) := ((Tch.refl [g + 1] U2).setCell _ (.inl (by simp))).setCell _ (.inl (by simp))
            have hns : ∀ k ∈ [g + 1], ∃ o, U2.heap[k]? = some o ∧ ∀ (cs : Array Value) (fr : Nat × Nat), o ≠ Obj.cells cs 5 fr := fun k hk => by
              simp only [List.mem_singleton] at hk
              subst hk
              exact ⟨_, HM2.out, fun cs fr he => by cases he⟩
            refine forget (fun X => HF w X ([g + 1] ++ []) h (dC [100] n) [⟨q0, 3, 2, 1, []⟩, ⟨q1, n, 0, k + 1, dL k ++ [⟨k + 1, dStale, mom 21, false⟩]⟩] 0 ∧ Bx X (g + 1) 41 (mcs dStale (.slice (some ⟨g, 0, none⟩) 4 4)) ∧ Bdv X (.slice (some ⟨g, 0, none⟩) 4 4) dStale.body ∧ Bdv X (.slice Ab 4 cb) dStale.body ∧ Bx X g7 41 cs) ⟨HF2.out.zset ht2, ((HM2.out.set 1 _).set 2 _).to rfl, HB2.out.tch ht2 hns, HR2.out.tch ht2 hns, (HCS.out.off hgne).off hgne⟩ ?_
            rintro X ⟨hfX, hmX, hrX, haX, hcX⟩
            have HFX := Lib.hid hfX
            have HMX := Lib.hid hmX
            have HRX := Lib.hid hrX
            have HAX := Lib.hid haX
            have HCX := Lib.hid hcX
            clear hfX hmX hrX haX hcX m1 m2 f1 f2 ht2 hns HF2 HM2 HB2 HR2 HCS
            have hbe : ((k : Int) == (n : Int)) = false := by simpa using hkn'
            rw [hbe]
            clear hbe
            go_loopw [25, 26] (fun fd ix wr => ∃ j : Nat, j ≤ N ∧ ix = .int .i64 j ∧ fd = .bool (decide (0 < j)) ∧ Below X.heap.size X wr) (fun _ ix _ => N - (intOf ix).toNat)
            case atStart => exact ⟨0, by omega, rfl, rfl, Below.refl _ _⟩
            case round =>
              obtain ⟨j, hj, rfl, rfl, hbl⟩ := hrel
              have HBL := Lib.hid hbl
              clear hbl
              by_cases hjN : j < N
              · have hjN' : (j : Int) < N := by omega
                by_cases hj0 : j = 0
                · subst hj0
                  rw [show decide (0 < 0) = false from rfl]
                  go_wp2_with fail
                  have hm' := HMX.out.below HBL.out
                  have hc' := HCX.out.below HBL.out
                  obtain ⟨S, hSd⟩ : ∃ S : World → Prop, S = fun W' : World => W'.cell? ⟨g7, 0, none⟩ = some (.int .u8 7) ∧ W'.cell? ⟨g7, 1, none⟩ = some (.int .u32 0) ∧ W'.cell? ⟨g7, 2, none⟩ = some (.int .u32 0) ∧ W'.cell? ⟨g7, 3, none⟩ = some (.string ⟨#[105, 100]⟩) ∧ W'.cell? ⟨g7, 4, none⟩ = some (.slice Ab 4 cb) ∧ W'.cell? ⟨g + 1, 0, none⟩ = some (.int .u8 7) ∧ W'.cell? ⟨g + 1, 1, none⟩ = some (.int .u32 0) ∧ W'.cell? ⟨g + 1, 2, none⟩ = some (.int .u32 0) ∧ W'.cell? ⟨g + 1, 3, none⟩ = some (.string ⟨#[105, 100]⟩) ∧ W'.cell? ⟨g + 1, 4, none⟩ = some (.slice (some ⟨g, 0, none⟩) 4 4) := ⟨_, rfl⟩
                  have hS : S wr.drew := by
                    rw [hSd]
                    exact ⟨hc'.cell 0 _ HC0.out, hc'.cell 1 _ HC1.out, hc'.cell 2 _ HC2.out, hc'.cell 3 _ HC3.out, hc'.cell 4 _ HC4.out, hm'.cell 0 _ rfl, hm'.cell 1 _ rfl, hm'.cell 2 _ rfl, hm'.cell 3 _ rfl, hm'.cell 4 _ rfl⟩
                  have HSd := Lib.hid hSd
                  clear hSd hm' hc'
                  refine (wpIn_wide (n := 0)).1 ?_
                  refine s_region [] S (by kernel_rfl) ?_
                  refine s_take (fun _ => trivial) (by kernel_rfl) 0 rfl (by kernel_rfl) (by kernel_rfl) (by kernel_rfl) (by kernel_rfl) (fun _ _ _ h => h) (by rfl) (by intro w' hw; rw [HSd.out] at hw; obtain ⟨h0, h1, h2, h3, h4, h5, h6, h7, h8, h9⟩ := hw; go_simp; try (with_reducible rfl)) hS ?_
                  simp only [List.getElem_toArray, List.getElem_cons_succ, List.getElem_cons_zero, Act.put, List.setIfInBounds_toArray, List.set_cons_zero, List.set_cons_succ]
                  refine s_take (fun _ => trivial) (by kernel_rfl) 1 rfl (by kernel_rfl) (by kernel_rfl) (by kernel_rfl) (by kernel_rfl) (fun _ _ _ h => h) (by rfl) (by intro w' hw; rw [HSd.out] at hw; obtain ⟨h0, h1, h2, h3, h4, h5, h6, h7, h8, h9⟩ := hw; go_simp; try (with_reducible rfl)) hS ?_
                  simp only [List.getElem_toArray, List.getElem_cons_succ, List.getElem_cons_zero, Act.put, List.setIfInBounds_toArray, List.set_cons_zero, List.set_cons_succ]
                  refine s_take (fun _ => trivial) (by kernel_rfl) 2 rfl (by kernel_rfl) (by kernel_rfl) (by kernel_rfl) (by kernel_rfl) (fun _ _ _ h => h) (by rfl) (by intro w' hw; rw [HSd.out] at hw; obtain ⟨h0, h1, h2, h3, h4, h5, h6, h7, h8, h9⟩ := hw; go_simp; try (with_reducible rfl)) hS ?_
                  simp only [List.getElem_toArray, List.getElem_cons_succ, List.getElem_cons_zero, Act.put, List.setIfInBounds_toArray, List.set_cons_zero, List.set_cons_succ]
                  refine s_take (fun _ => trivial) (by kernel_rfl) 3 rfl (by kernel_rfl) (by kernel_rfl) (by kernel_rfl) (by kernel_rfl) (fun _ _ _ h => h) (by rfl) (by intro w' hw; rw [HSd.out] at hw; obtain ⟨h0, h1, h2, h3, h4, h5, h6, h7, h8, h9⟩ := hw; go_simp; try (with_reducible rfl)) hS ?_
                  simp only [List.getElem_toArray, List.getElem_cons_succ, List.getElem_cons_zero, Act.put, List.setIfInBounds_toArray, List.set_cons_zero, List.set_cons_succ]
                  refine s_take (fun _ => trivial) (by kernel_rfl) 4 rfl (by kernel_rfl) (by kernel_rfl) (by kernel_rfl) (by kernel_rfl) (fun _ _ _ h => h) (by rfl) (by intro w' hw; rw [HSd.out] at hw; obtain ⟨h0, h1, h2, h3, h4, h5, h6, h7, h8, h9⟩ := hw; go_simp; try (with_reducible rfl)) hS ?_
                  simp only [List.getElem_toArray, List.getElem_cons_succ, List.getElem_cons_zero, Act.put, List.setIfInBounds_toArray, List.set_cons_zero, List.set_cons_succ]
                  refine s_take (fun _ => trivial) (by kernel_rfl) 5 rfl (by kernel_rfl) (by kernel_rfl) (by kernel_rfl) (by kernel_rfl) (fun _ _ _ h => h) (by rfl) (by intro w' hw; rw [HSd.out] at hw; obtain ⟨h0, h1, h2, h3, h4, h5, h6, h7, h8, h9⟩ := hw; go_simp; try (with_reducible rfl)) hS ?_
                  simp only [List.getElem_toArray, List.getElem_cons_succ, List.getElem_cons_zero, Act.put, List.setIfInBounds_toArray, List.set_cons_zero, List.set_cons_succ]
                  refine s_take (fun _ => trivial) (by kernel_rfl) 6 rfl (by kernel_rfl) (by kernel_rfl) (by kernel_rfl) (by kernel_rfl) (fun _ _ _ h => h) (by rfl) (by intro w' hw; rw [HSd.out] at hw; obtain ⟨h0, h1, h2, h3, h4, h5, h6, h7, h8, h9⟩ := hw; go_simp; try (with_reducible rfl)) hS ?_
                  simp only [List.getElem_toArray, List.getElem_cons_succ, List.getElem_cons_zero, Act.put, List.setIfInBounds_toArray, List.set_cons_zero, List.set_cons_succ]
                  refine s_one 7 (by kernel_rfl) rfl (by rfl) (fun K hK => ?_)
                  go_simp
                  have hsm := rsame_calls (w := wr.drew) dStale Ab (some ⟨g, 0, none⟩) cb 4 4 rfl (by obtain ⟨A', c', hv', hr', -⟩ := HAX.out.below HBL.out; cases hv'; exact hr') (by obtain ⟨A', c', hv', hr', -⟩ := HRX.out.below HBL.out; cases hv'; exact hr')
                  refine ⟨trivial, rfl, (callsIn_wide.2 hsm).mono ?_⟩
                  rintro e U5 ⟨rfl, b5⟩
                  have hS5 : S U5 := by
                    rw [HSd.out] at hS ⊢
                    obtain ⟨t0, t1, t2, t3, t4, t5, t6, t7, t8, t9⟩ := hS
                    exact ⟨stays_ b5 t0, stays_ b5 t1, stays_ b5 t2, stays_ b5 t3, stays_ b5 t4, stays_ b5 t5, stays_ b5 t6, stays_ b5 t7, stays_ b5 t8, stays_ b5 t9⟩
                  refine hK.out _ _ (fun _ => hS5) ?_
                  clear hK K hS hsm
                  have hS := hS5
                  clear hS5
                  refine s_take (fun _ => trivial) (by kernel_rfl) 8 rfl (by kernel_rfl) (by kernel_rfl) (by kernel_rfl) (by kernel_rfl) (fun _ _ _ h => h) (by rfl) (by intro w' hw; rw [HSd.out] at hw; obtain ⟨h0, h1, h2, h3, h4, h5, h6, h7, h8, h9⟩ := hw; go_simp; try (with_reducible rfl)) hS ?_
                  simp only [List.getElem_toArray, List.getElem_cons_succ, List.getElem_cons_zero, Act.put, List.setIfInBounds_toArray, List.set_cons_zero, List.set_cons_succ]
                  refine s_take (fun _ => trivial) (by kernel_rfl) 9 rfl (by kernel_rfl) (by kernel_rfl) (by kernel_rfl) (by kernel_rfl) (fun _ _ _ h => h) (by rfl) (by intro w' hw; rw [HSd.out] at hw; obtain ⟨h0, h1, h2, h3, h4, h5, h6, h7, h8, h9⟩ := hw; go_simp; try (with_reducible rfl)) hS ?_
                  simp only [List.getElem_toArray, List.getElem_cons_succ, List.getElem_cons_zero, Act.put, List.setIfInBounds_toArray, List.set_cons_zero, List.set_cons_succ]
                  refine s_done (by kernel_rfl) ?_ _
                  have B5 := Lib.hid (below_then HBL.out HBL.out.size (below_of_drew b5))
                  clear b5 hS
                  go_wp2_with fail
                  go_roundw
                  case rel => exact ⟨1, by omega, by go_num, rfl, B5.out⟩
                  case measure => simp [intOf]; omega
                · have hd : decide (0 < j) = true := decide_eq_true (by omega)
                  have hd2 : decide (0 < j + 1) = true := decide_eq_true (by omega)
                  rw [hd]
                  have HD2 := Lib.hid hd2
                  clear hd hd2
                  go_wp2_with fail
                  obtain ⟨S, hSd⟩ : ∃ S : World → Prop, S = fun W' : World => Below wr.heap.size wr W' := ⟨_, rfl⟩
                  have hS : S wr.drew := by rw [hSd]; exact below_drew wr
                  have HSd := Lib.hid hSd
                  clear hSd
                  refine (wpIn_wide (n := 0)).1 ?_
                  refine s_region [] S (by kernel_rfl) ?_
                  refine s_take (fun _ => trivial) (by kernel_rfl) 0 rfl (by kernel_rfl) (by kernel_rfl) (by kernel_rfl) (by kernel_rfl) (fun _ _ _ h => h) (by rfl) (by intro w' hw; rw [HSd.out] at hw; go_simp; try (with_reducible rfl)) hS ?_
                  simp only [List.getElem_toArray, List.getElem_cons_succ, List.getElem_cons_zero, Act.put, List.setIfInBounds_toArray, List.set_cons_zero, List.set_cons_succ]
                  refine s_take (fun _ => trivial) (by kernel_rfl) 1 rfl (by kernel_rfl) (by kernel_rfl) (by kernel_rfl) (by kernel_rfl) (fun _ _ _ h => h) (by rfl) (by intro w' hw; rw [HSd.out] at hw; go_simp; try (with_reducible rfl)) hS ?_
                  simp only [List.getElem_toArray, List.getElem_cons_succ, List.getElem_cons_zero, Act.put, List.setIfInBounds_toArray, List.set_cons_zero, List.set_cons_succ]
                  refine s_pass (fun _ => trivial) (by kernel_rfl) 2 rfl (by kernel_rfl) (by kernel_rfl) (by kernel_rfl) (by kernel_rfl) (fun _ _ _ h => h) (by rfl) hS ?_
                  simp only [List.getElem_toArray, List.getElem_cons_succ, List.getElem_cons_zero, Act.put, List.setIfInBounds_toArray, List.set_cons_zero, List.set_cons_succ]
                  refine s_pass (fun _ => trivial) (by kernel_rfl) 3 rfl (by kernel_rfl) (by kernel_rfl) (by kernel_rfl) (by kernel_rfl) (fun _ _ _ h => h) (by rfl) hS ?_
                  simp only [List.getElem_toArray, List.getElem_cons_succ, List.getElem_cons_zero, Act.put, List.setIfInBounds_toArray, List.set_cons_zero, List.set_cons_succ]
                  refine s_pass (fun _ => trivial) (by kernel_rfl) 4 rfl (by kernel_rfl) (by kernel_rfl) (by kernel_rfl) (by kernel_rfl) (fun _ _ _ h => h) (by rfl) hS ?_
                  simp only [List.getElem_toArray, List.getElem_cons_succ, List.getElem_cons_zero, Act.put, List.setIfInBounds_toArray, List.set_cons_zero, List.set_cons_succ]
                  refine s_pass (fun _ => trivial) (by kernel_rfl) 5 rfl (by kernel_rfl) (by kernel_rfl) (by kernel_rfl) (by kernel_rfl) (fun _ _ _ h => h) (by rfl) hS ?_
                  simp only [List.getElem_toArray, List.getElem_cons_succ, List.getElem_cons_zero, Act.put, List.setIfInBounds_toArray, List.set_cons_zero, List.set_cons_succ]
                  refine s_pass (fun _ => trivial) (by kernel_rfl) 6 rfl (by kernel_rfl) (by kernel_rfl) (by kernel_rfl) (by kernel_rfl) (fun _ _ _ h => h) (by rfl) hS ?_
                  simp only [List.getElem_toArray, List.getElem_cons_succ, List.getElem_cons_zero, Act.put, List.setIfInBounds_toArray, List.set_cons_zero, List.set_cons_succ]
                  refine s_pass (fun _ => trivial) (by kernel_rfl) 7 rfl (by kernel_rfl) (by kernel_rfl) (by kernel_rfl) (by kernel_rfl) (fun _ _ _ h => h) (by rfl) hS ?_
                  simp only [List.getElem_toArray, List.getElem_cons_succ, List.getElem_cons_zero, Act.put, List.setIfInBounds_toArray, List.set_cons_zero, List.set_cons_succ]
                  refine s_take (fun _ => trivial) (by kernel_rfl) 8 rfl (by kernel_rfl) (by kernel_rfl) (by kernel_rfl) (by kernel_rfl) (fun _ _ _ h => h) (by rfl) (by intro w' hw; rw [HSd.out] at hw; go_simp; try (with_reducible rfl)) hS ?_
                  simp only [List.getElem_toArray, List.getElem_cons_succ, List.getElem_cons_zero, Act.put, List.setIfInBounds_toArray, List.set_cons_zero, List.set_cons_succ]
                  refine s_take (fun _ => trivial) (by kernel_rfl) 9 rfl (by kernel_rfl) (by kernel_rfl) (by kernel_rfl) (by kernel_rfl) (fun _ _ _ h => h) (by rfl) (by intro w' hw; rw [HSd.out] at hw; go_simp; try (with_reducible rfl)) hS ?_
                  simp only [List.getElem_toArray, List.getElem_cons_succ, List.getElem_cons_zero, Act.put, List.setIfInBounds_toArray, List.set_cons_zero, List.set_cons_succ]
                  refine s_done (by kernel_rfl) ?_ _
                  go_wp2_with fail
                  exact ⟨⟨j + 1, by omega, by go_num, by rw [HD2.out], HBL.out.drew⟩, by simp [intOf]; omega⟩
              · obtain rfl : j = N := by omega
                have hd : decide (0 < j) = true := decide_eq_true hN0
                rw [hd]
                clear hd
                have HFJ := Lib.hid (HFX.out.below HBL.out)
                have HLO := Lib.hid (hlost_calls (HFX.out.below HBL.out))
                have hNk := HNK.out
                subst hNk
                go_wp2_with fail
                refine HLO.out.mono ?_
                rintro e U6 ⟨rfl, rfl⟩
                go_wp2_with fail
                refine (works_calls _).mono ?_
                rintro e U7 ⟨rfl, b7⟩
                have B7 := Lib.hid b7
                clear b7
                go_wp2_with fail
                go_ret
                exact ⟨rfl, below_then HFJ.out.blw HFJ.out.blw.size B7.out⟩
        · go_wp2_with fail
          obtain ⟨ob, hob⟩ : ∃ ob, V.heap.size = ob := ⟨_, rfl⟩
          rw [hob]
          have hfW := HFV.out.guest (N := [ob]) (below_alloc V (.cells #[.int .u8 3, .int .u64 0, .int .u64 0, .string ⟨#[]⟩] 47)) (fun k hk => by simp at hk; simp; omega)
          have hoW : Bx (V.alloc (.cells #[.int .u8 3, .int .u64 0, .int .u64 0, .string ⟨#[]⟩] 47)) ob 47 (occ ⟨3, 0, 0, []⟩) := Bx.new' V 47 (occ ⟨3, 0, 0, []⟩) hob.symm
          have hmW := HMV.out.alloc (.cells #[.int .u8 3, .int .u64 0, .int .u64 0, .string ⟨#[]⟩] 47)
          have hbW := HBV.out.below (below_alloc V (.cells #[.int .u8 3, .int .u64 0, .int .u64 0, .string ⟨#[]⟩] 47))
          have hne : g + 1 ≠ ob := hmW.ne hoW (by decide)
          refine (htick_calls hfW (d_nd [100] n) 59 (B := 8) (by decide) (by intro x hx; simp only [List.mem_cons, List.not_mem_nil, or_false] at hx; rcases hx with rfl | rfl <;> simp <;> omega) (by decide)).mono ?_
          rintro e W ⟨⟨u, rfl⟩, hf4, kz4, -⟩
          rw [d_tick59] at hf4
          have HF4 := Lib.hid hf4
          have HM4 := Lib.hid (kz4.bx hmW (.inl (by simp)))
          have HB4 := Lib.hid (kz4.bdv hbW)
          clear hf4 kz4 hfW hoW hmW hbW HFV HMV HBV hob
          go_wp2_with fail
          refine (hlen_calls HF4.out [97]).mono ?_
          rintro e W5 ⟨rfl, b5⟩
          rw [show (ordQ false (qLs (dC [100] n) [⟨q0, 3, 2, 1, [⟨1, dMsg, 10, false⟩]⟩, ⟨q1, n, 0, k, dL k⟩] [97])).length = 1 from by kernel_rfl, show (ordQ true (qLs (dC [100] n) [⟨q0, 3, 2, 1, [⟨1, dMsg, 10, false⟩]⟩, ⟨q1, n, 0, k, dL k⟩] [97])).length = 0 from by kernel_rfl]
          have HF5 := Lib.hid (HF4.out.below b5)
          have HM5 := Lib.hid (HM4.out.below b5)
          have HB5 := Lib.hid (HB4.out.below b5)
          clear b5 HF4 HM4 HB4
          go_wp2_with fail
          refine (htick_calls HF5.out (d_nd [100] n) 60 (B := 8) (by decide) (by intro x hx; simp only [List.mem_cons, List.not_mem_nil, or_false] at hx; rcases hx with rfl | rfl <;> simp <;> omega) (by decide)).mono ?_
          rintro e U ⟨⟨u', rfl⟩, hfU, kzU, -⟩
          rw [d_tick60 k (by decide)] at hfU
          have HFU := Lib.hid (hfU.less (G' := [g + 1]) (by simp))
          have HMU := Lib.hid (kzU.bx HM5.out (.inl (by simp)))
          have HBU := Lib.hid (kzU.bdv HB5.out)
          clear hfU kzU HF5 HM5 HB5
          go_wp2_with fail
          by_cases hkn : k = n
          · subst hkn
            have hE : dEnd [100] k q0 q1 k 60 = ([⟨q0, 3, 2, 1, []⟩, ⟨q1, k, 0, k, dL k⟩], 1) := by unfold dEnd; rw [if_pos (.inr rfl)]
            have hfL := HFU.out
            rw [hE] at hfL
            have HFL := Lib.hid hfL
            clear hfL hE HFU
            refine (hlist_calls HFL.out [100]).mono ?_
            rintro e U1 ⟨v, ms, rfl, hms, hml, b1⟩
            have hms2 : ms.map (·.1) = (ordQ false (dL k)).map (·.m) := hms
            rw [d_order] at hms2
            have hmk : ms.length = k := by have := congrArg List.length hms2; rw [List.length_map, List.length_map, dL_len] at this; exact this
            obtain ⟨A1, c1, rfl⟩ := hml.1.slice
            rw [hmk, show hasQ (dC [100] k) [⟨q0, 3, 2, 1, []⟩, ⟨q1, k, 0, k, dL k⟩] [100] = 0 from by unfold hasQ qAt; rw [dAt_d]; rfl]
            have HF1 := Lib.hid (HFL.out.below b1)
            clear hms hms2 hml b1 HFL hmk
            go_wp2_with fail
            refine (hlen_calls HF1.out [97]).mono ?_
            rintro e U2 ⟨rfl, b2⟩
            rw [show (ordQ false (qLs (dC [100] k) [⟨q0, 3, 2, 1, []⟩, ⟨q1, k, 0, k, dL k⟩] [97])).length = 0 from by kernel_rfl, show (ordQ true (qLs (dC [100] k) [⟨q0, 3, 2, 1, []⟩, ⟨q1, k, 0, k, dL k⟩] [97])).length = 0 from by kernel_rfl]
            have HF2 := Lib.hid (HF1.out.below b2)
            have HLO := Lib.hid (hlost_calls (HF1.out.below b2))
            clear b2 HF1
            go_wp2_with fail
            refine HLO.out.mono ?_
            rintro e U3 ⟨rfl, rfl⟩
            go_wp2_with fail
            refine (works_calls _).mono ?_
            rintro e U4 ⟨rfl, b4⟩
            have B4 := Lib.hid b4
            clear b4
            go_wp2_with fail
            go_ret
            exact ⟨rfl, below_then HF2.out.blw HF2.out.blw.size B4.out⟩
          · have hE : dEnd [100] n q0 q1 k 60 = ([⟨q0, 3, 2, 1, []⟩, ⟨q1, n, 0, k + 1, dL k ++ [⟨k + 1, dStale, mom 60, false⟩]⟩], 0) := by unfold dEnd; rw [if_neg (by simp [hkn])]
            have hfL := HFU.out
            rw [hE] at hfL
            have HFL := Lib.hid hfL
            have hkn' : ¬ (k : Int) = n := by omega
            clear hfL hE HFU hkn
            refine (hlist_calls HFL.out [100]).mono ?_
            rintro e U1 ⟨v, ms, rfl, hms, hml, b1⟩
            have hms2 : ms.map (·.1) = (ordQ false (dL k ++ [⟨k + 1, dStale, mom 60, false⟩])).map (·.m) := hms
            rw [d_order7 k _ rfl rfl] at hms2
            have hmk : ms.length = k + 1 := by have := congrArg List.length hms2; rw [List.length_map, List.length_map, List.length_cons, dL_len] at this; exact this
            obtain ⟨bv, ms', rfl⟩ : ∃ bv ms', ms = (dStale, bv) :: ms' := by
              cases ms with
              | nil => cases hmk
              | cons x ms' =>
                obtain ⟨m, bv⟩ := x
                simp only [List.map_cons, List.cons.injEq] at hms2
                exact ⟨bv, ms', by rw [hms2.1]⟩
            obtain ⟨g7, c7, hv7, -⟩ := hml.1.form (by rw [hmk]; omega)
            subst hv7
            obtain ⟨Ab, cb, hbv, -⟩ := hml.2 _ (List.mem_cons_self ..)
            simp only at hbv
            subst hbv
            have hrd : Bdv U1 (.slice Ab 4 cb) dStale.body := hml.2 _ (List.mem_cons_self ..)
            have hg7 := (hml.1.lt g7 rfl).1
            rw [show hasQ (dC [100] n) [⟨q0, 3, 2, 1, []⟩, ⟨q1, n, 0, k + 1, dL k ++ [⟨k + 1, dStale, mom 60, false⟩]⟩] [100] = 0 from by unfold hasQ qAt; rw [dAt_d]; rfl]
            obtain ⟨N, hN⟩ : ∃ N, N = k + 1 := ⟨_, rfl⟩
            rw [hmk] at hml ⊢
            rw [← hN] at hml ⊢
            have hN0 : 0 < N := by omega
            have hN9 : (N : Int) < 9 := by omega
            have HNK := Lib.hid hN
            clear hN
            have HF1 := Lib.hid (HFL.out.below b1)
            have HM1 := Lib.hid (HMU.out.below b1)
            have HB1 := Lib.hid (HBU.out.below b1)
            have HRD := Lib.hid hrd
            have HBX : Hid (∃ (cs : List Value), Bx U1 g7 41 cs ∧ cs[0]? = some (.int .u8 7) ∧ cs[1]? = some (.int .u32 0) ∧ cs[2]? = some (.int .u32 0) ∧ cs[3]? = some (.string ⟨#[105, 100]⟩) ∧ cs[4]? = some (.slice Ab 4 cb)) := Lib.hid (by
              rcases hml.1.2.2 with ⟨hx, -⟩ | ⟨g, cap, sp, hx, -, hh, -⟩
              · cases hx
              · cases hx
                exact ⟨_, hh, rfl, rfl, rfl, rfl, rfl⟩)
            have hgl : g + 1 < g7 := by have := HMU.out.lt; omega
            clear hms hms2 hml b1 HFL hmk hrd HMU HBU hg7
            go_wp2_with fail
            refine (hlen_calls HF1.out [97]).mono ?_
            rintro e U2 ⟨rfl, b2⟩
            rw [show (ordQ false (qLs (dC [100] n) [⟨q0, 3, 2, 1, []⟩, ⟨q1, n, 0, k + 1, dL k ++ [⟨k + 1, dStale, mom 60, false⟩]⟩] [97])).length = 0 from by kernel_rfl, show (ordQ true (qLs (dC [100] n) [⟨q0, 3, 2, 1, []⟩, ⟨q1, n, 0, k + 1, dL k ++ [⟨k + 1, dStale, mom 60, false⟩]⟩] [97])).length = 0 from by kernel_rfl]
            have HF2 := Lib.hid (HF1.out.below b2)
            have HM2 := Lib.hid (HM1.out.below b2)
            have HB2 := Lib.hid (HB1.out.below b2)
            have HR2 := Lib.hid (HRD.out.below b2)
            obtain ⟨cs, hcs, hc0, hc1, hc2, hc3, hc4⟩ := HBX.out
            have hcs2 := hcs.below b2
            have HCS := Lib.hid hcs2
            have m1 := HM2.out.cell 1 (.int .u32 50) rfl
            have m2 := HM2.out.cell 2 (.int .u32 1) rfl
            have f1 := HM2.out.froz 1
            have f2 := HM2.out.froz 2
            have HC0 := Lib.hid hc0
            have HC1 := Lib.hid hc1
            have HC2 := Lib.hid hc2
            have HC3 := Lib.hid hc3
            have HC4 := Lib.hid hc4
            clear b2 HF1 HM1 HB1 HRD HBX hcs hcs2 hc0 hc1 hc2 hc3 hc4
            go_wp2_with fail
            have hgne : g7 ≠ g + 1 := by omega
            have ht2 : Tch [g + 1] U2 ((U2.setCell ⟨g + 1, 1, none⟩ (.int .u32 0)).setCell ⟨g + 1, 2, none⟩ (.int .u32 0)) := ((Tch.refl [g + 1] U2).setCell _ (.inl (by simp))).setCell _ (.inl (by simp))
            have hns : ∀ k ∈ [g + 1], ∃ o, U2.heap[k]? = some o ∧ ∀ (cs : Array Value) (fr : Nat × Nat), o ≠ Obj.cells cs 5 fr := fun k hk => by
              simp only [List.mem_singleton] at hk
              subst hk
              exact ⟨_, HM2.out, fun cs fr he => by cases he⟩
            refine forget (fun X => HF w X ([g + 1] ++ []) h (dC [100] n) [⟨q0, 3, 2, 1, []⟩, ⟨q1, n, 0, k + 1, dL k ++ [⟨k + 1, dStale, mom 60, false⟩]⟩] 0 ∧ Bx X (g + 1) 41 (mcs dStale (.slice (some ⟨g, 0, none⟩) 4 4)) ∧ Bdv X (.slice (some ⟨g, 0, none⟩) 4 4) dStale.body ∧ Bdv X (.slice Ab 4 cb) dStale.body ∧ Bx X g7 41 cs) ⟨HF2.out.zset ht2, ((HM2.out.set 1 _).set 2 _).to rfl, HB2.out.tch ht2 hns, HR2.out.tch ht2 hns, (HCS.out.off hgne).off hgne⟩ ?_
            rintro X ⟨hfX, hmX, hrX, haX, hcX⟩
            have HFX := Lib.hid hfX
            have HMX := Lib.hid hmX
            have HRX := Lib.hid hrX
            have HAX := Lib.hid haX
            have HCX := Lib.hid hcX
            clear hfX hmX hrX haX hcX m1 m2 f1 f2 ht2 hns HF2 HM2 HB2 HR2 HCS
            have hbe : ((k : Int) == (n : Int)) = false := by simpa using hkn'
            rw [hbe]
            clear hbe
            go_loopw [25, 26] (fun fd ix wr => ∃ j : Nat, j ≤ N ∧ ix = .int .i64 j ∧ fd = .bool (decide (0 < j)) ∧ Below X.heap.size X wr) (fun _ ix _ => N - (intOf ix).toNat)
            case atStart => exact ⟨0, by omega, rfl, rfl, Below.refl _ _⟩
            case round =>
              obtain ⟨j, hj, rfl, rfl, hbl⟩ := hrel
              have HBL := Lib.hid hbl
              clear hbl
              by_cases hjN : j < N
              · have hjN' : (j : Int) < N := by omega
                by_cases hj0 : j = 0
                · subst hj0
                  rw [show decide (0 < 0) = false from rfl]
                  go_wp2_with fail
                  have hm' := HMX.out.below HBL.out
                  have hc' := HCX.out.below HBL.out
                  obtain ⟨S, hSd⟩ : ∃ S : World → Prop, S = fun W' : World => W'.cell? ⟨g7, 0, none⟩ = some (.int .u8 7) ∧ W'.cell? ⟨g7, 1, none⟩ = some (.int .u32 0) ∧ W'.cell? ⟨g7, 2, none⟩ = some (.int .u32 0) ∧ W'.cell? ⟨g7, 3, none⟩ = some (.string ⟨#[105, 100]⟩) ∧ W'.cell? ⟨g7, 4, none⟩ = some (.slice Ab 4 cb) ∧ W'.cell? ⟨g + 1, 0, none⟩ = some (.int .u8 7) ∧ W'.cell? ⟨g + 1, 1, none⟩ = some (.int .u32 0) ∧ W'.cell? ⟨g + 1, 2, none⟩ = some (.int .u32 0) ∧ W'.cell? ⟨g + 1, 3, none⟩ = some (.string ⟨#[105, 100]⟩) ∧ W'.cell? ⟨g + 1, 4, none⟩ = some (.slice (some ⟨g, 0, none⟩) 4 4) := ⟨_, rfl⟩
                  have hS : S wr.drew := by
                    rw [hSd]
                    exact ⟨hc'.cell 0 _ HC0.out, hc'.cell 1 _ HC1.out, hc'.cell 2 _ HC2.out, hc'.cell 3 _ HC3.out, hc'.cell 4 _ HC4.out, hm'.cell 0 _ rfl, hm'.cell 1 _ rfl, hm'.cell 2 _ rfl, hm'.cell 3 _ rfl, hm'.cell 4 _ rfl⟩
                  have HSd := Lib.hid hSd
                  clear hSd hm' hc'
                  refine (wpIn_wide (n := 0)).1 ?_
                  refine s_region [] S (by kernel_rfl) ?_
                  refine s_take (fun _ => trivial) (by kernel_rfl) 0 rfl (by kernel_rfl) (by kernel_rfl) (by kernel_rfl) (by kernel_rfl) (fun _ _ _ h => h) (by rfl) (by intro w' hw; rw [HSd.out] at hw; obtain ⟨h0, h1, h2, h3, h4, h5, h6, h7, h8, h9⟩ := hw; go_simp; try (with_reducible rfl)) hS ?_
                  simp only [List.getElem_toArray, List.getElem_cons_succ, List.getElem_cons_zero, Act.put, List.setIfInBounds_toArray, List.set_cons_zero, List.set_cons_succ]
                  refine s_take (fun _ => trivial) (by kernel_rfl) 1 rfl (by kernel_rfl) (by kernel_rfl) (by kernel_rfl) (by kernel_rfl) (fun _ _ _ h => h) (by rfl) (by intro w' hw; rw [HSd.out] at hw; obtain ⟨h0, h1, h2, h3, h4, h5, h6, h7, h8, h9⟩ := hw; go_simp; try (with_reducible rfl)) hS ?_
                  simp only [List.getElem_toArray, List.getElem_cons_succ, List.getElem_cons_zero, Act.put, List.setIfInBounds_toArray, List.set_cons_zero, List.set_cons_succ]
                  refine s_take (fun _ => trivial) (by kernel_rfl) 2 rfl (by kernel_rfl) (by kernel_rfl) (by kernel_rfl) (by kernel_rfl) (fun _ _ _ h => h) (by rfl) (by intro w' hw; rw [HSd.out] at hw; obtain ⟨h0, h1, h2, h3, h4, h5, h6, h7, h8, h9⟩ := hw; go_simp; try (with_reducible rfl)) hS ?_
                  simp only [List.getElem_toArray, List.getElem_cons_succ, List.getElem_cons_zero, Act.put, List.setIfInBounds_toArray, List.set_cons_zero, List.set_cons_succ]
                  refine s_take (fun _ => trivial) (by kernel_rfl) 3 rfl (by kernel_rfl) (by kernel_rfl) (by kernel_rfl) (by kernel_rfl) (fun _ _ _ h => h) (by rfl) (by intro w' hw; rw [HSd.out] at hw; obtain ⟨h0, h1, h2, h3, h4, h5, h6, h7, h8, h9⟩ := hw; go_simp; try (with_reducible rfl)) hS ?_
                  simp only [List.getElem_toArray, List.getElem_cons_succ, List.getElem_cons_zero, Act.put, List.setIfInBounds_toArray, List.set_cons_zero, List.set_cons_succ]
                  refine s_take (fun _ => trivial) (by kernel_rfl) 4 rfl (by kernel_rfl) (by kernel_rfl) (by kernel_rfl) (by kernel_rfl) (fun _ _ _ h => h) (by rfl) (by intro w' hw; rw [HSd.out] at hw; obtain ⟨h0, h1, h2, h3, h4, h5, h6, h7, h8, h9⟩ := hw; go_simp; try (with_reducible rfl)) hS ?_
                  simp only [List.getElem_toArray, List.getElem_cons_succ, List.getElem_cons_zero, Act.put, List.setIfInBounds_toArray, List.set_cons_zero, List.set_cons_succ]
                  refine s_take (fun _ => trivial) (by kernel_rfl) 5 rfl (by kernel_rfl) (by kernel_rfl) (by kernel_rfl) (by kernel_rfl) (fun _ _ _ h => h) (by rfl) (by intro w' hw; rw [HSd.out] at hw; obtain ⟨h0, h1, h2, h3, h4, h5, h6, h7, h8, h9⟩ := hw; go_simp; try (with_reducible rfl)) hS ?_
                  simp only [List.getElem_toArray, List.getElem_cons_succ, List.getElem_cons_zero, Act.put, List.setIfInBounds_toArray, List.set_cons_zero, List.set_cons_succ]
                  refine s_take (fun _ => trivial) (by kernel_rfl) 6 rfl (by kernel_rfl) (by kernel_rfl) (by kernel_rfl) (by kernel_rfl) (fun _ _ _ h => h) (by rfl) (by intro w' hw; rw [HSd.out] at hw; obtain ⟨h0, h1, h2, h3, h4, h5, h6, h7, h8, h9⟩ := hw; go_simp; try (with_reducible rfl)) hS ?_
                  simp only [List.getElem_toArray, List.getElem_cons_succ, List.getElem_cons_zero, Act.put, List.setIfInBounds_toArray, List.set_cons_zero, List.set_cons_succ]
                  refine s_one 7 (by kernel_rfl) rfl (by rfl) (fun K hK => ?_)
                  go_simp
                  have hsm := rsame_calls (w := wr.drew) dStale Ab (some ⟨g, 0, none⟩) cb 4 4 rfl (by obtain ⟨A', c', hv', hr', -⟩ := HAX.out.below HBL.out; cases hv'; exact hr') (by obtain ⟨A', c', hv', hr', -⟩ := HRX.out.below HBL.out; cases hv'; exact hr')
                  refine ⟨trivial, rfl, (callsIn_wide.2 hsm).mono ?_⟩
                  rintro e U5 ⟨rfl, b5⟩
                  have hS5 : S U5 := by
                    rw [HSd.out] at hS ⊢
                    obtain ⟨t0, t1, t2, t3, t4, t5, t6, t7, t8, t9⟩ := hS
                    exact ⟨stays_ b5 t0, stays_ b5 t1, stays_ b5 t2, stays_ b5 t3, stays_ b5 t4, stays_ b5 t5, stays_ b5 t6, stays_ b5 t7, stays_ b5 t8, stays_ b5 t9⟩
                  refine hK.out _ _ (fun _ => hS5) ?_
                  clear hK K hS hsm
                  have hS := hS5
                  clear hS5
                  refine s_take (fun _ => trivial) (by kernel_rfl) 8 rfl (by kernel_rfl) (by kernel_rfl) (by kernel_rfl) (by kernel_rfl) (fun _ _ _ h => h) (by rfl) (by intro w' hw; rw [HSd.out] at hw; obtain ⟨h0, h1, h2, h3, h4, h5, h6, h7, h8, h9⟩ := hw; go_simp; try (with_reducible rfl)) hS ?_
                  simp only [List.getElem_toArray, List.getElem_cons_succ, List.getElem_cons_zero, Act.put, List.setIfInBounds_toArray, List.set_cons_zero, List.set_cons_succ]
                  refine s_take (fun _ => trivial) (by kernel_rfl) 9 rfl (by kernel_rfl) (by kernel_rfl) (by kernel_rfl) (by kernel_rfl) (fun _ _ _ h => h) (by rfl) (by intro w' hw; rw [HSd.out] at hw; obtain ⟨h0, h1, h2, h3, h4, h5, h6, h7, h8, h9⟩ := hw; go_simp; try (with_reducible rfl)) hS ?_
                  simp only [List.getElem_toArray, List.getElem_cons_succ, List.getElem_cons_zero, Act.put, List.setIfInBounds_toArray, List.set_cons_zero, List.set_cons_succ]
                  refine s_done (by kernel_rfl) ?_ _
                  have B5 := Lib.hid (below_then HBL.out HBL.out.size (below_of_drew b5))
                  clear b5 hS
                  go_wp2_with fail
                  go_roundw
                  case rel => exact ⟨1, by omega, by go_num, rfl, B5.out⟩
                  case measure => simp [intOf]; omega
                · have hd : decide (0 < j) = true := decide_eq_true (by omega)
                  have hd2 : decide (0 < j + 1) = true := decide_eq_true (by omega)
                  rw [hd]
                  have HD2 := Lib.hid hd2
                  clear hd hd2
                  go_wp2_with fail
                  obtain ⟨S, hSd⟩ : ∃ S : World → Prop, S = fun W' : World => Below wr.heap.size wr W' := ⟨_, rfl⟩
                  have hS : S wr.drew := by rw [hSd]; exact below_drew wr
                  have HSd := Lib.hid hSd
                  clear hSd
                  refine (wpIn_wide (n := 0)).1 ?_
                  refine s_region [] S (by kernel_rfl) ?_
                  refine s_take (fun _ => trivial) (by kernel_rfl) 0 rfl (by kernel_rfl) (by kernel_rfl) (by kernel_rfl) (by kernel_rfl) (fun _ _ _ h => h) (by rfl) (by intro w' hw; rw [HSd.out] at hw; go_simp; try (with_reducible rfl)) hS ?_
                  simp only [List.getElem_toArray, List.getElem_cons_succ, List.getElem_cons_zero, Act.put, List.setIfInBounds_toArray, List.set_cons_zero, List.set_cons_succ]
                  refine s_take (fun _ => trivial) (by kernel_rfl) 1 rfl (by kernel_rfl) (by kernel_rfl) (by kernel_rfl) (by kernel_rfl) (fun _ _ _ h => h) (by rfl) (by intro w' hw; rw [HSd.out] at hw; go_simp; try (with_reducible rfl)) hS ?_
                  simp only [List.getElem_toArray, List.getElem_cons_succ, List.getElem_cons_zero, Act.put, List.setIfInBounds_toArray, List.set_cons_zero, List.set_cons_succ]
                  refine s_pass (fun _ => trivial) (by kernel_rfl) 2 rfl (by kernel_rfl) (by kernel_rfl) (by kernel_rfl) (by kernel_rfl) (fun _ _ _ h => h) (by rfl) hS ?_
                  simp only [List.getElem_toArray, List.getElem_cons_succ, List.getElem_cons_zero, Act.put, List.setIfInBounds_toArray, List.set_cons_zero, List.set_cons_succ]
                  refine s_pass (fun _ => trivial) (by kernel_rfl) 3 rfl (by kernel_rfl) (by kernel_rfl) (by kernel_rfl) (by kernel_rfl) (fun _ _ _ h => h) (by rfl) hS ?_
                  simp only [List.getElem_toArray, List.getElem_cons_succ, List.getElem_cons_zero, Act.put, List.setIfInBounds_toArray, List.set_cons_zero, List.set_cons_succ]
                  refine s_pass (fun _ => trivial) (by kernel_rfl) 4 rfl (by kernel_rfl) (by kernel_rfl) (by kernel_rfl) (by kernel_rfl) (fun _ _ _ h => h) (by rfl) hS ?_
                  simp only [List.getElem_toArray, List.getElem_cons_succ, List.getElem_cons_zero, Act.put, List.setIfInBounds_toArray, List.set_cons_zero, List.set_cons_succ]
                  refine s_pass (fun _ => trivial) (by kernel_rfl) 5 rfl (by kernel_rfl) (by kernel_rfl) (by kernel_rfl) (by kernel_rfl) (fun _ _ _ h => h) (by rfl) hS ?_
                  simp only [List.getElem_toArray, List.getElem_cons_succ, List.getElem_cons_zero, Act.put, List.setIfInBounds_toArray, List.set_cons_zero, List.set_cons_succ]
                  refine s_pass (fun _ => trivial) (by kernel_rfl) 6 rfl (by kernel_rfl) (by kernel_rfl) (by kernel_rfl) (by kernel_rfl) (fun _ _ _ h => h) (by rfl) hS ?_
                  simp only [List.getElem_toArray, List.getElem_cons_succ, List.getElem_cons_zero, Act.put, List.setIfInBounds_toArray, List.set_cons_zero, List.set_cons_succ]
                  refine s_pass (fun _ => trivial) (by kernel_rfl) 7 rfl (by kernel_rfl) (by kernel_rfl) (by kernel_rfl) (by kernel_rfl) (fun _ _ _ h => h) (by rfl) hS ?_
                  simp only [List.getElem_toArray, List.getElem_cons_succ, List.getElem_cons_zero, Act.put, List.setIfInBounds_toArray, List.set_cons_zero, List.set_cons_succ]
                  refine s_take (fun _ => trivial) (by kernel_rfl) 8 rfl (by kernel_rfl) (by kernel_rfl) (by kernel_rfl) (by kernel_rfl) (fun _ _ _ h => h) (by rfl) (by intro w' hw; rw [HSd.out] at hw; go_simp; try (with_reducible rfl)) hS ?_
                  simp only [List.getElem_toArray, List.getElem_cons_succ, List.getElem_cons_zero, Act.put, List.setIfInBounds_toArray, List.set_cons_zero, List.set_cons_succ]
                  refine s_take (fun _ => trivial) (by kernel_rfl) 9 rfl (by kernel_rfl) (by kernel_rfl) (by kernel_rfl) (by kernel_rfl) (fun _ _ _ h => h) (by rfl) (by intro w' hw; rw [HSd.out] at hw; go_simp; try (with_reducible rfl)) hS ?_
                  simp only [List.getElem_toArray, List.getElem_cons_succ, List.getElem_cons_zero, Act.put, List.setIfInBounds_toArray, List.set_cons_zero, List.set_cons_succ]
                  refine s_done (by kernel_rfl) ?_ _
                  go_wp2_with fail
                  exact ⟨⟨j + 1, by omega, by go_num, by rw [HD2.out], HBL.out.drew⟩, by simp [intOf]; omega⟩
              · obtain rfl : j = N := by omega
                have hd : decide (0 < j) = true := decide_eq_true hN0
                rw [hd]
                clear hd
                have HFJ := Lib.hid (HFX.out.below HBL.out)
                have HLO := Lib.hid (hlost_calls (HFX.out.below HBL.out))
                have hNk := HNK.out
                subst hNk
                go_wp2_with fail
                refine HLO.out.mono ?_
                rintro e U6 ⟨rfl, rfl⟩
                go_wp2_with fail
                refine (works_calls _).mono ?_
                rintro e U7 ⟨rfl, b7⟩
                have B7 := Lib.hid b7
                clear b7
                go_wp2_with fail
                go_ret
                exact ⟨rfl, below_then HFJ.out.blw HFJ.out.blw.size B7.out⟩
end Go.Proofs.Ytklgndmndnmdpaa

import Derived.Test.YtklgndmndnmdpaaHAcq
set_option linter.unusedVariables false
set_option linter.unusedSimpArgs false
namespace Go.Proofs.Ytklgndmndnmdpaa
open Go.RowKit Go.Shelf

theorem Try.info_string : (Try.prog.info? 9).map (fun i => (i.zero, i.size, i.bytes)) = some (some (.string ⟨#[]⟩), 1, 16) := by kernel_rfl
set_option maxRecDepth 100000 in
set_option maxHeartbeats 1000000 in
/-- The closure of Names: a name more. -/
theorem hname1_calls {w : World} {base g k : Nat} {v : Value} {l : List (List UInt8)} (hb : Bx w g 58 [v]) (ho : OwnC 9 1 (fun _ => True) w base v k (l.map str)) (hg : base ≤ g) (hk : k ≤ 100) (name : List UInt8) :
    Calls Try.prog 43 #[str name, .pointer (some ⟨g, 0, none⟩)] w fun e w' => (∃ u, e = .returned u) ∧ ∃ v', Bx w' g 58 [v'] ∧ OwnC 9 1 (fun _ => True) w' base v' (k + 1) ((l ++ [name]).map str) ∧ Below base w w' := by
  obtain ⟨A, c, rfl⟩ := ho.slice
  have HO := Lib.hid ho
  have HB := Lib.hid hb
  have c0 := hb.cell 0 _ rfl
  have hgl := hb.lt
  clear ho hb
  unfold str
  obtain ⟨i0, hi, hz0, hz1, hz2⟩ := info_parts Try.info_string
  go_enter Try.func43, Try.ntmps43
  go_wp2_with (at_builtin; refine wpList_appC _ rfl _ _ _ rfl base i0 _ 16 Try.underlying58 hi hz0 hz1 hz2 rfl (by decide) (fun _ _ => trivial) (.slice A k c) k (l.map str) rfl ?own (some ⟨w.heap.size, 0, none⟩) 1 1 [.string ⟨name.toArray⟩] rfl ?rd ?hb ?h63 ?hbase ?_)
  case own => exact HO.out.alloc _
  case rd => exact rdc_box [.string ⟨name.toArray⟩] 1 1 rfl (by simp [Value.oneCell']) (by decide)
  case hb => omega
  case h63 => omega
  case hbase => simp; omega
  intro v1 w2 k1 k2 k3 k4
  have hne : (Value.slice A k c).ownBlock ≠ some g := HO.out.ne_bx HB.out (by decide)
  obtain ⟨A1, c1, rfl⟩ := k1.slice
  have hb2 := (HB.out.alloc (.cells #[.string ⟨name.toArray⟩] 9)).grown k2 hne
  have d0 := hb2.cell 0 _ rfl
  have f0 := hb2.froz 0
  have K1 := Lib.hid k1
  have B2 := Lib.hid (below_grown (((Below.refl base w).alloc (by omega) (.cells #[.string ⟨name.toArray⟩] 9))) (by simp; omega) k2 (fun q hq => (HO.out.lt q hq).1))
  have HB2 := Lib.hid hb2
  clear k1 k2 k3 k4 hb2 c0
  go_wp2_with fail
  have hv := K1.out.tch (tch_set w2 g 0 (.slice A1 (k + 1) c1)) fun q hq hm => by
    simp only [List.mem_singleton] at hm
    subst hm
    exact K1.out.ne_bx HB2.out (by decide) hq
  refine bodyPost_end (results_none rfl _ _ _) rfl ⟨⟨_, rfl⟩, _, HB2.out.set 0 _, ?_, B2.out.setCell hg _⟩
  rw [List.map_append]
  exact hv

set_option maxRecDepth 100000 in
set_option maxHeartbeats 1000000 in
theorem heachN_calls {w0 w : World} {G : List Nat} {h lost : Nat} {C : List Cf} {Qs : List Qu} (hf : HF w0 w G h C Qs lost) :
    Calls Try.prog 42 #[.pointer (some ⟨h, 0, none⟩), .func (.func 43) #[] #[.pointer (some ⟨w.heap.size, 0, none⟩)]] (w.alloc (.cells #[.slice none 0 0] 58)) fun e w' => (∃ u, e = .returned u) ∧ ∃ v, Bx w' w.heap.size 58 [v] ∧ OwnC 9 1 (fun _ => True) w' w.heap.size v C.length ((C.map (·.name)).map str) ∧ Below w.heap.size w w' := by
  obtain ⟨⟨cv, r, D, h1, h2, h3, h4, h5⟩, -, -, h8⟩ := hf
  obtain ⟨A, c, rfl, hr⟩ := h2.rd
  obtain ⟨n, hn⟩ : ∃ n, C.length = n := ⟨_, rfl⟩
  rw [hn] at h1 hr h8 ⊢
  have hlt := h1.lt
  have c0 := stays_ (below_alloc w (.cells #[.slice none 0 0] 58)) (h1.cell 0 _ rfl)
  have HR := Lib.hid hr
  have HN := Lib.hid hn
  have hlc := hr.2.1
  have hmx := hr.2.2.1
  obtain ⟨g, hg⟩ : ∃ g, w.heap.size = g := ⟨_, rfl⟩
  have HB0 := Lib.hid (Bx.new' w 58 [.slice none 0 0] hg.symm)
  rw [hg] at hlt ⊢
  have HG := Lib.hid hg
  clear h1 h2 h3 h4 h5 hr hn hg
  go_enter Try.func42, Try.ntmps42
  go_wp2_with fail
  go_loopw [5, 13] (fun _ i wr => ∃ (k : Nat) (v : Value), k ≤ n ∧ i = .int .i64 k ∧ Hid (Bx wr g 58 [v] ∧ OwnC 9 1 (fun _ => True) wr g v k (((C.take k).map (·.name)).map str) ∧ Below g w wr)) (fun _ i _ => n - (intOf i).toNat)
  case atStart => exact ⟨0, .slice none 0 0, by omega, rfl, Lib.hid ⟨HB0.out, OwnC.nil_, by rw [← HG.out]; exact below_alloc w _⟩⟩
  case round =>
    obtain ⟨k, v, hk, rfl, HJ⟩ := hrel
    by_cases hkn : k < n
    · have hkn' : (k : Int) < n := by omega
      have hkl : k < C.length := by rw [HN.out]; exact hkn
      obtain ⟨b0, o0, e, hcell⟩ := flat_cells cfs 4 (by decide) cfs_length (HR.out.below (by rw [HG.out]; exact HJ.out.2.2)) k hkl
      subst e
      obtain ⟨p, hp⟩ : ∃ p, C[k] = p := ⟨_, rfl⟩
      rw [hp] at hcell
      have g0 := hcell 0 (.string ⟨p.name.toArray⟩) rfl
      have g1 := hcell 1 (.int .i64 p.room) rfl
      have g2 := hcell 2 (.int .i64 p.limit) rfl
      have g3 := hcell 3 (.string ⟨p.dead.toArray⟩) rfl
      simp only [← Nat.add_assoc, Nat.add_zero] at g0 g1 g2 g3
      have HP := Lib.hid hp
      have HST := Lib.hid (show ((C.take (k + 1)).map (·.name)).map str = ((C.take k).map (·.name) ++ [p.name]).map str by rw [List.take_succ_eq_append_getElem hkl, hp, List.map_append]; rfl)
      have hgs : g ≤ wr.heap.size := by have := HJ.out.1.lt; omega
      clear hp hcell
      go_wp2_with fail
      refine (hname1_calls (base := g) (HJ.out.1.alloc _) (HJ.out.2.1.alloc _) (Nat.le_refl _) (by omega) p.name).mono ?_
      rintro e w2 ⟨⟨u, rfl⟩, v', j1, j2, j3⟩
      have HJ2 := Lib.hid (And.intro j1 (And.intro j2 (((HJ.out.2.2).alloc hgs (.cells #[.string ⟨p.name.toArray⟩, .int .i64 p.room, .int .i64 p.limit, .string ⟨p.dead.toArray⟩] 23)).trans j3)))
      clear j1 j2 j3 g0 g1 g2 g3
      go_wp2_with fail
      exact ⟨⟨k + 1, v', by omega, by go_num, Lib.hid ⟨HJ2.out.1, by rw [HST.out]; exact HJ2.out.2.1, HJ2.out.2.2⟩⟩, by simp [intOf]; omega⟩
    · obtain rfl : k = n := by omega
      go_wp2_with fail
      refine bodyPost_end (results_none rfl _ _ _) rfl ⟨⟨_, rfl⟩, v, HJ.out.1, ?_, HJ.out.2.2⟩
      have h1 := HJ.out.2.1
      rw [← HN.out, List.take_length] at h1
      rw [← HN.out]
      exact h1

set_option maxRecDepth 100000 in
set_option maxHeartbeats 1000000 in
theorem hnames_calls {w0 w : World} {G : List Nat} {h lost : Nat} {C : List Cf} {Qs : List Qu} (hf : HF w0 w G h C Qs lost) :
    Calls Try.prog 17 #[.pointer (some ⟨h, 0, none⟩)] w fun e w' => ∃ v, e = .returned v ∧ OwnC 9 1 (fun _ => True) w' w.heap.size v C.length ((C.map (·.name)).map str) ∧ Below w.heap.size w w' := by
  have HCL := Lib.hid (heachN_calls hf)
  have hmk : ∀ W, (Instr.makeFunc (Fn.func 43) #[] #[.pointer (some ⟨w.heap.size, 0, none⟩)]).run Try.prog W = .ok (.func (.func 43) #[] #[.pointer (some ⟨w.heap.size, 0, none⟩)]) W := fun W => rfl
  clear hf
  go_enter Try.func17, Try.ntmps17
  go_wp2_with fail
  refine HCL.out.mono ?_
  rintro e w2 ⟨⟨u, rfl⟩, v, j1, j2, j3⟩
  obtain ⟨A, c, rfl⟩ := j2.slice
  have d0 := j1.cell 0 _ rfl
  have f0 := j1.froz 0
  have J1 := Lib.hid j1
  have J2 := Lib.hid j2
  have J3 := Lib.hid j3
  clear j1 j2 j3 hmk
  go_wp2_with fail
  refine bodyPost_ret (results_c rfl rfl ((J1.out.set 0 _).load1 (by kernel_rfl))) rfl ⟨_, rfl, ?_, J3.out.setCell (Nat.le_refl _) _⟩
  exact J2.out.tch (tch_set w2 w.heap.size 0 (.slice A C.length c)) fun q hq hm => by
    simp only [List.mem_singleton] at hm
    subst hm
    exact J2.out.ne_bx J1.out (by decide) hq
set_option maxRecDepth 100000 in
theorem heachN_nil (g : Nat) (w : World) :
    Calls Try.prog 42 #[.pointer none, .func (.func 43) #[] #[.pointer (some ⟨g, 0, none⟩)]] w fun e w' => (∃ u, e = .returned u) ∧ w = w' := by
  go_enter Try.func42, Try.ntmps42
  go_wp2_with fail
  refine bodyPost_ret (results_none rfl _ _ _) rfl ⟨⟨_, rfl⟩, rfl⟩
set_option maxRecDepth 100000 in
theorem hnames_nil (w : World) :
    Calls Try.prog 17 #[.pointer none] w fun e w' => e = .returned (.slice none 0 0) ∧ Below w.heap.size w w' := by
  have HCL := Lib.hid (fun g W => heachN_nil g W)
  have hmk : ∀ W, (Instr.makeFunc (Fn.func 43) #[] #[.pointer (some ⟨w.heap.size, 0, none⟩)]).run Try.prog W = .ok (.func (.func 43) #[] #[.pointer (some ⟨w.heap.size, 0, none⟩)]) W := fun W => rfl
  go_enter Try.func17, Try.ntmps17
  go_wp2_with fail
  refine (HCL.out _ _).mono ?_
  rintro e w2 ⟨⟨u, rfl⟩, rfl⟩
  clear hmk
  have j1 := Bx.new w 58 [.slice none 0 0]
  have d0 := j1.cell 0 _ rfl
  have f0 := j1.froz 0
  have J1 := Lib.hid j1
  clear j1
  go_wp2_with fail
  refine bodyPost_ret (results_c rfl rfl (J1.out.load1 (by kernel_rfl))) rfl ⟨rfl, below_alloc w _⟩
end Go.Proofs.Ytklgndmndnmdpaa

import Derived.Test.YtkoihcfdchcgdaaRList
import Derived.Test.YtkoihcfdchcgdaaHeld
set_option linter.unusedVariables false
set_option linter.unusedSimpArgs false
namespace Go.Proofs.Ytkoihcfdchcgdaa
open Go.RowKit Go.Shelf

set_option maxRecDepth 100000 in
set_option maxHeartbeats 4000000 in
theorem rput_bad {w : World} (r : Nat) (m : Mg) (A : Option Addr) (c n : Nat) (hn : m.body.length = n) (hbad : okMg m = false) (now : Int) :
    Calls Try.prog 32 #[.pointer (some ⟨r, 0, none⟩), mgv m (.slice A n c), .int .i64 now] w fun e w' => e = .returned (.tuple #[.int .i64 0, .int .i64 1]) ∧ Below w.heap.size w w' := by
  rw [mgv_eq]
  unfold okMg at hbad
  have hb : 9 < m.pr ∨ 64 < m.ids.length ∨ 2048 < n := by
    rw [hn] at hbad
    have := of_decide_eq_false hbad
    omega
  clear hbad
  obtain ⟨p, hp⟩ : ∃ p, m.pr = p := ⟨_, rfl⟩
  obtain ⟨k, hk⟩ : ∃ k, m.ids.length = k := ⟨_, rfl⟩
  rw [hp, hk] at hb
  rw [hp]
  have HK := Lib.hid hk
  clear hp hn
  go_enter Try.func32, Try.ntmps32
  go_wp2_with fail
  all_goals exact bodyPost_ret (results_tt rfl rfl rfl) rfl ⟨rfl, below_alloc w _⟩

set_option maxRecDepth 100000 in
set_option maxHeartbeats 4000000 in
theorem rput_full {w : World} {Z : List Nat} {r room limit last : Nat} {L : List En} (h : Rq w Z r room limit last L) (m : Mg) (A : Option Addr) (c n : Nat) (hn : m.body.length = n) (hok : okMg m = true) (hr : L.length = room) (now : Int) :
    Calls Try.prog 32 #[.pointer (some ⟨r, 0, none⟩), mgv m (.slice A n c), .int .i64 now] w fun e w' => e = .returned (.tuple #[.int .i64 0, .int .i64 4]) ∧ Below w.heap.size w w' := by
  rw [mgv_eq]
  unfold okMg at hok
  have hb := of_decide_eq_true hok
  rw [hn] at hb
  clear hok
  obtain ⟨p, hp⟩ : ∃ p, m.pr = p := ⟨_, rfl⟩
  obtain ⟨k, hk⟩ : ∃ k, m.ids.length = k := ⟨_, rfl⟩
  rw [hp, hk] at hb
  rw [hp]
  have HK := Lib.hid hk
  obtain ⟨⟨lv, bv, h1, h2, h3, h4⟩, h5, h6⟩ := h
  obtain ⟨B, d, rfl, -⟩ := h2.rd
  rw [hr] at h1
  have h1 := h1.alloc (.cells #[.int .u8 p, .int .u32 m.ttl, .int .u32 m.cnt, .string ⟨m.ids.toArray⟩, .slice A n c] 32)
  have d0 := h1.cell 0 _ rfl
  have d2 := h1.cell 2 _ rfl
  have hroom := h6.room2
  clear hp hn h1 h2 h3 h4 h5 h6 hr
  go_enter Try.func32, Try.ntmps32
  go_wp2_with fail
  go_quiet (fail)
  go_wp2_with fail
  exact bodyPost_ret (results_tt rfl rfl rfl) rfl ⟨rfl, (below_alloc w _).trans ((below_drewN _ nq).mono (by simp))⟩

set_option maxRecDepth 100000 in
set_option maxHeartbeats 4000000 in
theorem rput_ok {w : World} {Z : List Nat} {r room limit last : Nat} {L : List En} (h : Rq w Z r room limit last L) (m : Mg) (A : Option Addr) (c n : Nat) (hn : m.body.length = n) (hrd : Rd w A c m.body) (hm : WfM m) (hlen : L.length < room) (hlast : last < 1000000) (now : Int) :
    Calls Try.prog 32 #[.pointer (some ⟨r, 0, none⟩), mgv m (.slice A n c), .int .i64 now] w fun e w' => e = .returned (.tuple #[.int .i64 ((last + 1 : Nat) : Int), .int .i64 0]) ∧ ∃ N, (∀ k ∈ N, w.heap.size ≤ k ∧ k < w'.heap.size) ∧ Rq w' (N ++ Z) r room limit (last + 1) (L ++ [newE last m now]) ∧ RStep Z w w' := by
  have HMg := Lib.hid (mgv_eq m)
  rw [HMg.out]
  have hok : m.pr ≤ 9 ∧ m.ids.length ≤ 64 ∧ n ≤ 2048 := by have h1 := hm.pr; have h2 := hm.ids; have h3 := hm.body; rw [hn] at h3; omega
  obtain ⟨p, hp⟩ : ∃ p, m.pr = p := ⟨_, rfl⟩
  obtain ⟨k, hk⟩ : ∃ k, m.ids.length = k := ⟨_, rfl⟩
  rw [hp, hk] at hok
  rw [hp] at HMg ⊢
  have HK := Lib.hid hk
  have HPE := Lib.hid hp
  obtain ⟨⟨lv, bv, h1, h2, h3, h4⟩, h5, h6⟩ := h
  obtain ⟨B, d, rfl, hr⟩ := h2.rd
  obtain ⟨l, hl⟩ : ∃ l, L.length = l := ⟨_, rfl⟩
  rw [hl] at h1 h2 hlen hr
  obtain ⟨g, hg⟩ : ∃ g, w.heap.size = g := ⟨_, rfl⟩
  have hb1 := h1.alloc (.cells #[.int .u8 p, .int .u32 m.ttl, .int .u32 m.cnt, .string ⟨m.ids.toArray⟩, .slice A n c] 32)
  have hb2 := Bx.new' w (b := g) 32 [.int .u8 p, .int .u32 m.ttl, .int .u32 m.cnt, .string ⟨m.ids.toArray⟩, .slice A n c] hg.symm
  have d0 := hb1.cell 0 _ rfl
  have d2 := hb1.cell 2 _ rfl
  have hroom := h6.room2
  have H1 := Lib.hid h1
  have H2 := Lib.hid h2
  have H3 := Lib.hid h3
  have H4 := Lib.hid h4
  have H5 := Lib.hid h5
  have H6 := Lib.hid h6
  have HB1 := Lib.hid hb1
  have HB2 := Lib.hid hb2
  have HN := Lib.hid hn
  have HL := Lib.hid hl
  have HM := Lib.hid hm
  have HG := Lib.hid hg
  have HRd := Lib.hid hrd
  clear hp hn h1 h2 h3 h4 h5 h6 hr hb1 hb2 hl hm hg hrd
  go_enter Try.func32, Try.ntmps32
  go_wp2_with fail
  go_quiet (fail)
  rw [HG.out]
  refine forgetX (fun W => Bx W r 90 (rcs room limit last (.slice B l d)) ∧ Bx W g 32 [.int .u8 p, .int .u32 m.ttl, .int .u32 m.cnt, .string ⟨m.ids.toArray⟩, .slice A n c] ∧ Below w.heap.size w W) ⟨?_, ?_, ?_⟩ ?_
  · exact (HB1.out.keep rfl : Bx _ r _ _)
  · exact (HB2.out.keep rfl : Bx _ g _ _)
  · exact (below_alloc w _).trans ((below_drewN _ nq).mono (by simp))
  rintro W1 ⟨k1, k2, b1⟩
  have c3 := k1.cell 3 _ rfl
  have f3 := k1.froz 3
  have K1 := Lib.hid k1
  have K2 := Lib.hid k2
  have B1 := Lib.hid b1
  clear k1 k2 b1 d0 d2 HB1 HB2
  go_wp2_with fail
  refine forget (fun W => Bx W r 90 (rcs room limit (last + 1) (.slice B l d)) ∧ Bx W g 32 [.int .u8 p, .int .u32 m.ttl, .int .u32 m.cnt, .string ⟨m.ids.toArray⟩, .slice A n c] ∧ Tch [r] w W) ⟨?_, ?_, ?_⟩ ?_
  · exact (K1.out.set 3 _).to (by simp [rcs])
  · exact K2.out.off (K2.out.ne K1.out (by decide))
  · exact (Tch.of_below _ B1.out).setCell _ (.inl (by simp))
  rintro W2 ⟨k3, k4, t2⟩
  have d0 := k4.cell 0 _ rfl
  have d1 := k4.cell 1 _ rfl
  have d2 := k4.cell 2 _ rfl
  have d3 := k4.cell 3 _ rfl
  have d4 := k4.cell 4 _ rfl
  have d5 := k3.cell 2 _ rfl
  have d6 := k3.cell 3 _ rfl
  obtain ⟨S, hSd⟩ : ∃ S : World → Prop, S = fun W' : World => W'.cell? ⟨g, 0, none⟩ = some (.int .u8 p) ∧ W'.cell? ⟨g, 1, none⟩ = some (.int .u32 m.ttl) ∧ W'.cell? ⟨g, 2, none⟩ = some (.int .u32 m.cnt) ∧ W'.cell? ⟨g, 3, none⟩ = some (.string ⟨m.ids.toArray⟩) ∧ W'.cell? ⟨g, 4, none⟩ = some (.slice A n c) ∧ W'.cell? ⟨r, 2, none⟩ = some (.slice B l d) ∧ W'.cell? ⟨r, 3, none⟩ = some (.int .i64 ((last + 1 : Nat) : Int)) := ⟨_, rfl⟩
  have hSk : ∀ A' W' : World, S A' → (∀ b o v, b = g ∨ b = r → A'.cell? ⟨b, o, none⟩ = some v → W'.cell? ⟨b, o, none⟩ = some v) → S W' := fun A' W' h hk => by
    rw [hSd] at h ⊢
    obtain ⟨e0, e1, e2, e3, e4, e5, e6⟩ := h
    exact ⟨hk _ _ _ (.inl rfl) e0, hk _ _ _ (.inl rfl) e1, hk _ _ _ (.inl rfl) e2, hk _ _ _ (.inl rfl) e3, hk _ _ _ (.inl rfl) e4, hk _ _ _ (.inr rfl) e5, hk _ _ _ (.inr rfl) e6⟩
  have hS : S W2.drew := by rw [hSd]; exact ⟨d0, d1, d2, d3, d4, d5, d6⟩
  have HSd := Lib.hid hSd
  have HSk := Lib.hid hSk
  have K3 := Lib.hid k3
  have K4 := Lib.hid k4
  have T2 := Lib.hid t2
  clear hSd hSk d0 d1 d2 d3 d4 d5 d6 k3 k4 t2 c3 f3
  refine (wpIn_wide (n := 0)).1 ?_
  refine s_region [18] S (by kernel_rfl) ?_
  refine s_take (fun _ => trivial) (by kernel_rfl) 0 rfl (by kernel_rfl) (by kernel_rfl) (by kernel_rfl) (by kernel_rfl) (fun _ _ _ h => h) (by rfl) (by intro w' hw; rw [HSd.out] at hw; obtain ⟨h0, h1, h2, h3, h4, h5, h6⟩ := hw; go_simp; try (with_reducible rfl)) hS ?_
  simp only [List.getElem_toArray, List.getElem_cons_succ, List.getElem_cons_zero, Act.put, List.setIfInBounds_toArray, List.set_cons_zero, List.set_cons_succ]
  refine s_take (fun _ => trivial) (by kernel_rfl) 1 rfl (by kernel_rfl) (by kernel_rfl) (by kernel_rfl) (by kernel_rfl) (fun _ _ _ h => h) (by rfl) (by intro w' hw; rw [HSd.out] at hw; obtain ⟨h0, h1, h2, h3, h4, h5, h6⟩ := hw; go_simp; try (with_reducible rfl)) hS ?_
  simp only [List.getElem_toArray, List.getElem_cons_succ, List.getElem_cons_zero, Act.put, List.setIfInBounds_toArray, List.set_cons_zero, List.set_cons_succ]
  refine s_take (fun _ => trivial) (by kernel_rfl) 2 rfl (by kernel_rfl) (by kernel_rfl) (by kernel_rfl) (by kernel_rfl) (fun _ _ _ h => h) (by rfl) (by intro w' hw; rw [HSd.out] at hw; obtain ⟨h0, h1, h2, h3, h4, h5, h6⟩ := hw; go_simp; try (with_reducible rfl)) hS ?_
  simp only [List.getElem_toArray, List.getElem_cons_succ, List.getElem_cons_zero, Act.put, List.setIfInBounds_toArray, List.set_cons_zero, List.set_cons_succ]
  refine s_take (fun _ => trivial) (by kernel_rfl) 3 rfl (by kernel_rfl) (by kernel_rfl) (by kernel_rfl) (by kernel_rfl) (fun _ _ _ h => h) (by rfl) (by intro w' hw; rw [HSd.out] at hw; obtain ⟨h0, h1, h2, h3, h4, h5, h6⟩ := hw; go_simp; try (with_reducible rfl)) hS ?_
  simp only [List.getElem_toArray, List.getElem_cons_succ, List.getElem_cons_zero, Act.put, List.setIfInBounds_toArray, List.set_cons_zero, List.set_cons_succ]
  refine s_take (fun _ => trivial) (by kernel_rfl) 4 rfl (by kernel_rfl) (by kernel_rfl) (by kernel_rfl) (by kernel_rfl) (fun _ _ _ h => h) (by rfl) (by intro w' hw; rw [HSd.out] at hw; obtain ⟨h0, h1, h2, h3, h4, h5, h6⟩ := hw; go_simp; try (with_reducible rfl)) hS ?_
  simp only [List.getElem_toArray, List.getElem_cons_succ, List.getElem_cons_zero, Act.put, List.setIfInBounds_toArray, List.set_cons_zero, List.set_cons_succ]
  refine s_take (fun _ => trivial) (by kernel_rfl) 5 rfl (by kernel_rfl) (by kernel_rfl) (by kernel_rfl) (by kernel_rfl) (fun _ _ _ h => h) (by rfl) (by intro w' hw; rw [HSd.out] at hw; obtain ⟨h0, h1, h2, h3, h4, h5, h6⟩ := hw; go_simp; try (with_reducible rfl)) hS ?_
  simp only [List.getElem_toArray, List.getElem_cons_succ, List.getElem_cons_zero, Act.put, List.setIfInBounds_toArray, List.set_cons_zero, List.set_cons_succ]
  refine s_take (fun _ => trivial) (by kernel_rfl) 6 rfl (by kernel_rfl) (by kernel_rfl) (by kernel_rfl) (by kernel_rfl) (fun _ _ _ h => h) (by rfl) (by intro w' hw; rw [HSd.out] at hw; obtain ⟨h0, h1, h2, h3, h4, h5, h6⟩ := hw; go_simp; try (with_reducible rfl)) hS ?_
  simp only [List.getElem_toArray, List.getElem_cons_succ, List.getElem_cons_zero, Act.put, List.setIfInBounds_toArray, List.set_cons_zero, List.set_cons_succ]
  refine s_take (fun _ => trivial) (by kernel_rfl) 7 rfl (by kernel_rfl) (by kernel_rfl) (by kernel_rfl) (by kernel_rfl) (fun _ _ _ h => h) (by rfl) (by intro w' hw; rw [HSd.out] at hw; obtain ⟨h0, h1, h2, h3, h4, h5, h6⟩ := hw; go_simp; try (with_reducible rfl)) hS ?_
  simp only [List.getElem_toArray, List.getElem_cons_succ, List.getElem_cons_zero, Act.put, List.setIfInBounds_toArray, List.set_cons_zero, List.set_cons_succ]
  refine s_take (fun _ => trivial) (by kernel_rfl) 8 rfl (by kernel_rfl) (by kernel_rfl) (by kernel_rfl) (by kernel_rfl) (fun _ _ _ h => h) (by rfl) (by intro w' hw; rw [HSd.out] at hw; obtain ⟨h0, h1, h2, h3, h4, h5, h6⟩ := hw; go_simp; try (with_reducible rfl)) hS ?_
  simp only [List.getElem_toArray, List.getElem_cons_succ, List.getElem_cons_zero, Act.put, List.setIfInBounds_toArray, List.set_cons_zero, List.set_cons_succ]
  refine s_take (fun _ => trivial) (by kernel_rfl) 9 rfl (by kernel_rfl) (by kernel_rfl) (by kernel_rfl) (by kernel_rfl) (fun _ _ _ h => h) (by rfl) (by intro w' hw; rw [HSd.out] at hw; obtain ⟨h0, h1, h2, h3, h4, h5, h6⟩ := hw; go_simp; try (with_reducible rfl)) hS ?_
  simp only [List.getElem_toArray, List.getElem_cons_succ, List.getElem_cons_zero, Act.put, List.setIfInBounds_toArray, List.set_cons_zero, List.set_cons_succ]
  refine s_take (fun _ => trivial) (by kernel_rfl) 11 rfl (by kernel_rfl) (by kernel_rfl) (by kernel_rfl) (by kernel_rfl) (fun _ _ _ h => h) (by rfl) (by intro w' hw; rw [HSd.out] at hw; obtain ⟨h0, h1, h2, h3, h4, h5, h6⟩ := hw; go_simp; try (with_reducible rfl)) hS ?_
  simp only [List.getElem_toArray, List.getElem_cons_succ, List.getElem_cons_zero, Act.put, List.setIfInBounds_toArray, List.set_cons_zero, List.set_cons_succ]
  refine s_one 10 (by kernel_rfl) rfl (by rfl) (fun K hK => ?_)
  go_simp
  have hrd2 : Rd W2 A c m.body := HRd.out.tchB H1.out (by intro u hu x e; subst e; simp [rcs, u8] at hu) T2.out
  have hcl := rcopy_calls (w := W2.drew) m A c n HN.out hrd2 (by omega)
  rw [HMg.out] at hcl
  refine ⟨trivial, rfl, (callsIn_wide.2 hcl).mono ?_⟩
  rintro e w3 ⟨v1, rfl, o1, b1⟩
  obtain ⟨A1, c1, rfl, -⟩ := o1.rd
  have hS1 := HSk.out _ _ hS fun b o v _ h => stays_ b1 h
  refine hK.out _ _ (fun _ => hS1) ?_
  clear hK K hS hcl hrd2
  have hS := hS1
  clear hS1
  rw [HMg.out]
  rw [HN.out] at o1 ⊢
  refine s_one 12 (by kernel_rfl) rfl (by rfl) (fun K hK => ?_)
  go_simp
  refine ⟨trivial, rfl, (callsIn_wide.2 (rat_calls now w3)).mono ?_⟩
  rintro e w4 ⟨rfl, rfl⟩
  refine hK.out _ _ (fun _ => hS) ?_
  clear hK K
  refine s_take (fun _ => trivial) (by kernel_rfl) 13 rfl (by kernel_rfl) (by kernel_rfl) (by kernel_rfl) (by kernel_rfl) (fun _ _ _ h => h) (by rfl) (by intro w' hw; rw [HSd.out] at hw; obtain ⟨h0, h1, h2, h3, h4, h5, h6⟩ := hw; go_simp; try (with_reducible rfl)) hS ?_
  simp only [List.getElem_toArray, List.getElem_cons_succ, List.getElem_cons_zero, Act.put, List.setIfInBounds_toArray, List.set_cons_zero, List.set_cons_succ]
  refine s_one 14 (by kernel_rfl) rfl (by rfl) (fun K hK => ?_)
  go_simp
  have hS2 := HSk.out _ _ hS fun b o v _ h => keeps_alloc h (.cells #[.int .i64 ((last : Int) + 1), .int .u8 p, .int .u32 m.ttl, .int .u32 m.cnt, .string ⟨m.ids.toArray⟩, .slice A1 n c1, .int .i64 (mom now), .bool false] 64)
  refine hK.out _ _ (fun _ => hS2) ?_
  clear hK K hS
  refine s_one 15 (by kernel_rfl) rfl (by rfl) (fun K hK => ?_)
  obtain ⟨i0, hi, hz0, hz1, hz2⟩ := info_parts Try.info_ritem
  have hr3 : Bx w3 r 90 (rcs room limit (last + 1) (.slice B l d)) := Bx.below (W := W2.drew) K3.out b1
  have hg3 : Bx w3 g 32 [.int .u8 p, .int .u32 m.ttl, .int .u32 m.cnt, .string ⟨m.ids.toArray⟩, .slice A n c] := Bx.below (W := W2.drew) K4.out b1
  have hown2 := H2.out.tch T2.out fun q hq hm => by
    simp only [List.mem_singleton] at hm
    subst hm
    exact H2.out.ne_bx H1.out (by decide) hq
  have hown3 := (OwnC.below (w := W2.drew) hown2 b1).alloc (.cells #[.int .i64 ((last : Int) + 1), .int .u8 p, .int .u32 m.ttl, .int .u32 m.cnt, .string ⟨m.ids.toArray⟩, .slice A1 n c1, .int .i64 (mom now), .bool false] 64)
  refine wpIn_appC (fun _ => trivial) _ _ _ rfl 0 i0 _ 80 Try.underlying61 hi hz0 hz1 hz2 rfl (by decide) (fun _ _ => trivial) (.slice B l d) l (eits (L.map fun e => (e, bv e.id))) rfl hown3 (some ⟨w3.heap.size, 0, none⟩) 1 1 [.int .i64 ((last : Int) + 1), .int .u8 p, .int .u32 m.ttl, .int .u32 m.cnt, .string ⟨m.ids.toArray⟩, .slice A1 n c1, .int .i64 (mom now), .bool false] rfl ?rd ?hb ?h63 ?hbase ?_
  case rd => exact rdc_box (w := w3) [.int .i64 ((last : Int) + 1), .int .u8 p, .int .u32 m.ttl, .int .u32 m.cnt, .string ⟨m.ids.toArray⟩, .slice A1 n c1, .int .i64 (mom now), .bool false] 1 8 rfl (by simp [Value.oneCell']) (by decide)
  case hb => omega
  case h63 => omega
  case hbase => omega
  rintro v' w' ho' hg' - hob'
  have hnr := hown3.ne_bx (hr3.alloc _) (by decide)
  have hng := hown3.ne_bx (hg3.alloc _) (by decide)
  have hS3 := HSk.out _ _ hS2 fun b o v hb h => grown_cell hg' (by rcases hb with rfl | rfl; exact hng; exact hnr) h
  refine hK.out _ _ (fun _ => hS3) ?_
  clear hK K
  simp only [Act.put, List.setIfInBounds_toArray, List.set_cons_zero, List.set_cons_succ]
  obtain ⟨A3, c3, rfl, -⟩ := ho'.rd
  have hr4 := (hr3.alloc (.cells #[.int .i64 ((last : Int) + 1), .int .u8 p, .int .u32 m.ttl, .int .u32 m.cnt, .string ⟨m.ids.toArray⟩, .slice A1 n c1, .int .i64 (mom now), .bool false] 64)).grown hg' hnr
  have q0 := hr4.cell 2 _ rfl
  have q1 := hr4.froz 2
  refine s_one 16 (by kernel_rfl) rfl (by rfl) (fun K hK => ?_)
  go_simp
  refine hK.out _ _ (fun _ => hS3) ?_
  clear hK K
  refine s_one 17 (by kernel_rfl) rfl (by rfl) (fun K hK => ?_)
  go_simp
  refine hK.out _ _ (fun _ => hS3) ?_
  clear hK K
  refine s_one 18 (by kernel_rfl) rfl (by rfl) (fun K hK => ?_)
  go_simp
  refine hK.out _ _ (fun h => absurd (by simp) h) ?_
  clear hK K
  refine s_done (by kernel_rfl) ?_ _
  obtain ⟨IT, hIT⟩ : ∃ IT : Obj, IT = .cells #[.int .i64 ((last : Int) + 1), .int .u8 p, .int .u32 m.ttl, .int .u32 m.cnt, .string ⟨m.ids.toArray⟩, .slice A1 n c1, .int .i64 (mom now), .bool false] 64 := ⟨_, rfl⟩
  rw [← hIT] at hg' hown3
  obtain ⟨F, hF⟩ : ∃ F, r :: (Value.slice B l d).ownBlock.toList = F := ⟨_, rfl⟩
  have t3 : Tch F w w3 := (T2.out.mono (fun q hq => by rw [← hF]; simp at hq; simp [hq])).trans (Tch.of_drew (Tch.of_below [] b1)) (by simp)
  have t4 : Tch F w w' := (t3.alloc IT).grown hg' fun q hq => .inl (by rw [← hF]; simp [hq])
  have t5 : Tch F w (w'.setCell ⟨r, 2, none⟩ (.slice A3 (l + 1) c3)) := t4.setCell _ (.inl (by rw [← hF]; simp))
  have hr5 := hr4.set 2 (.slice A3 (l + 1) c3)
  have hsz : (w'.setCell ⟨r, 2, none⟩ (.slice A3 (l + 1) c3)).heap.size = w'.heap.size := by simp [World.setCell]
  obtain ⟨W5, hW5⟩ : ∃ W5, w'.setCell ⟨r, 2, none⟩ (.slice A3 (l + 1) c3) = W5 := ⟨_, rfl⟩
  have hv5 : OwnC 64 8 (fun _ => True) W5 0 (.slice A3 (l + 1) c3) (l + 1) (eits (L.map fun e => (e, bv e.id)) ++ [.int .i64 ((last : Int) + 1), .int .u8 p, .int .u32 m.ttl, .int .u32 m.cnt, .string ⟨m.ids.toArray⟩, .slice A1 n c1, .int .i64 (mom now), .bool false]) := by
    rw [← hW5]
    exact ho'.tch (tch_set w' r 2 _) fun q hq hm => by
      simp only [List.mem_singleton] at hm
      subst hm
      exact ho'.ne_bx hr4 (by decide) hq
  rw [hW5] at t5 hr5 hsz ⊢
  have e3 := hr5.cell 3 _ rfl
  have hFn : ∀ q ∈ F, q ∈ Z ∧ ∃ o, w.heap[q]? = some o ∧ ∀ (cs : Array Value) (fr : Nat × Nat), o ≠ Obj.cells cs 5 fr := fun q hq => by
    rw [← hF] at hq
    rcases List.mem_cons.1 hq with rfl | hq
    · exact ⟨H5.out, _, H1.out, by simp⟩
    · refine ⟨H3.out q (by rw [HL.out]; simpa using hq), ?_⟩
      rcases H2.out.2.2 with ⟨e, _⟩ | ⟨g', cap, sp, e, _, hh, _⟩
      · rw [e] at hq; simp [Value.ownBlock] at hq
      · rw [e] at hq
        simp only [Value.ownBlock, Option.toList_some, List.mem_singleton] at hq
        subst hq
        exact ⟨_, hh, by simp⟩
  have T5 := Lib.hid t5
  have HR5 := Lib.hid hr5
  have HV5 := Lib.hid hv5
  have HFN := Lib.hid hFn
  have HO1 := Lib.hid o1
  have HZ := Lib.hid hsz
  have HGG := Lib.hid hg'
  have HOB := Lib.hid hob'
  have HB1 := Lib.hid b1
  clear t5 hr5 hv5 hFn o1 hsz hg' hob' t3 t4 hown2 hown3 ho' hr3 hg3 hr4 q0 q1 hnr hng hS2 hS3 b1
  go_wp2_with fail
  refine bodyPost_ret (results_tt rfl rfl rfl) rfl ⟨rfl, ?_⟩
  have hr0 := H1.out.lt
  have hz2 := T2.out.size
  have hz4 := HGG.out.size
  have hz3 : W2.heap.size ≤ w3.heap.size := HB1.out.size
  simp only [World.size_alloc] at hz4
  have ho5 : OwnB W5 W2.heap.size (.slice A1 n c1) m.body := OwnC.keep HO1.out fun q hq => by
    have hl := HO1.out.lt q hq
    have hl1 : W2.heap.size ≤ q := hl.1
    have hq1 : some q ≠ (Value.slice B l d).ownBlock := fun e => by have := (H2.out.lt q e.symm).2; omega
    rw [← hW5, Below.heap_setCell w' ⟨r, 2, none⟩ _ q (by show q ≠ r; omega), HGG.out.block q (by simp; omega) hq1]
    exact heap_alloc_old _ _ hl.2
  have hid : ∀ e ∈ L, upd bv (last + 1) (.slice A1 n c1) e.id = bv e.id := fun e he => by unfold upd; rw [if_neg (by have := (H6.out.ids e he).2; omega)]
  have hmap : eits ((L ++ [newE last m now]).map fun e => (e, upd bv (last + 1) (.slice A1 n c1) e.id)) = eits (L.map fun e => (e, bv e.id)) ++ [.int .i64 ((last : Int) + 1), .int .u8 p, .int .u32 m.ttl, .int .u32 m.cnt, .string ⟨m.ids.toArray⟩, .slice A1 n c1, .int .i64 (mom now), .bool false] := by
    rw [List.map_append, List.map_congr_left (fun e he => by rw [hid e he])]
    unfold eits
    rw [List.flatMap_append]
    congr 1
    simp [eit, ecs, newE, upd, str]
    rw [HPE.out]
  refine ⟨(((Value.slice A1 n c1).ownBlock.toList ++ (Value.slice A3 (l + 1) c3).ownBlock.toList).filter fun q => decide (w.heap.size ≤ q)), fun q hq => ?_, ⟨⟨.slice A3 (l + 1) c3, upd bv (last + 1) (.slice A1 n c1), HR5.out, ?_, fun q hq => ?_, fun e he => ?_⟩, List.mem_append_right _ H5.out, H6.out.put m now HM.out (by rw [HL.out]; exact hlen)⟩, F, T5.out, HFN.out⟩
  · obtain ⟨h1, h2⟩ := List.mem_filter.1 hq
    refine ⟨of_decide_eq_true h2, ?_⟩
    rcases List.mem_append.1 h1 with h | h
    · exact (ho5.lt q (by simpa using h)).2
    · exact (HV5.out.lt q (by simpa using h)).2
  · rw [hmap, List.length_append, HL.out]; exact HV5.out
  · rcases HOB.out with h | h
    · rw [h] at hq
      exact List.mem_append_right _ (H3.out q (by rw [HL.out]; exact hq))
    · have hq2 := hq
      rw [h] at hq2
      simp only [World.size_alloc, Option.some.injEq] at hq2
      exact List.mem_append_left _ (List.mem_filter.2 ⟨List.mem_append_right _ (by simpa using hq), decide_eq_true (by omega)⟩)
  · rcases List.mem_append.1 he with he | he
    · rw [hid e he]
      exact ⟨(H4.out e he).1.tch T5.out fun q hq => (HFN.out q hq).2, fun q hq => List.mem_append_right _ ((H4.out e he).2 q hq)⟩
    · rw [List.mem_singleton.1 he]
      have : upd bv (last + 1) (.slice A1 n c1) (newE last m now).id = .slice A1 n c1 := by unfold upd newE; simp
      rw [this]
      refine ⟨Bdv.of_own ho5, fun q hq => ?_⟩
      have hq2 := bblk_own ho5 hq
      exact List.mem_append_left _ (List.mem_filter.2 ⟨List.mem_append_left _ (by simpa using hq2), decide_eq_true (by have := (ho5.lt q hq2).1; omega)⟩)

theorem find_upto {α : Type} (p : α → Bool) : ∀ (l : List α) (k : Nat) (hk : k < l.length), (∀ x ∈ l.take k, p x = false) → p l[k] = true → l.find? p = some l[k]
  | x :: l, 0, _, _, h => by simp at h ⊢; simp [h]
  | x :: l, k + 1, hk, h1, h2 => by
    have hx := h1 x (by simp)
    rw [List.find?_cons, hx]
    simp only [List.getElem_cons_succ] at h2 ⊢
    exact find_upto p l k (by simpa using hk) (fun y hy => h1 y (by simp [hy])) h2
/-- What waits, by its places: the first that is not old. -/
theorem acq_at {L : List En} {now : Int} {k : Nat} (hk : k < (idxs L).length) (h1 : ∀ i ∈ (idxs L).take k, oldE (L.getD i zEn) now = true) (h2 : oldE (L.getD (idxs L)[k] zEn) now = false) : acqQ L now = some (L.getD (idxs L)[k] zEn) := by
  unfold acqQ
  rw [← idx_map]
  have := find_upto (fun e => !oldE e now) ((idxs L).map fun i => L.getD i zEn) k (by simpa using hk) (by
    intro x hx
    rw [← List.map_take] at hx
    obtain ⟨i, hi, rfl⟩ := List.mem_map.1 hx
    show (!oldE (L.getD i zEn) now) = false
    rw [h1 i hi]; rfl) (by simpa using h2)
  rw [this]
  simp
theorem Rq.below {w w' : World} {Z : List Nat} {r room limit last : Nat} {L : List En} (h : Rq w Z r room limit last L) (hz : ∀ k ∈ Z, k < w.heap.size) (hb : Below w.heap.size w w') : Rq w' Z r room limit last L := h.keep fun k hk => hb.block k (hz k hk)
theorem acq_no {L : List En} {now : Int} (h1 : ∀ i ∈ idxs L, oldE (L.getD i zEn) now = true) : acqQ L now = none := by
  unfold acqQ
  rw [← idx_map, List.find?_eq_none]
  intro x hx
  obtain ⟨i, hi, rfl⟩ := List.mem_map.1 hx
  show ¬ (!oldE (L.getD i zEn) now) = true
  rw [h1 i hi]; simp
/-- One cell of an item is written. -/
theorem eits_set {its : List (En × Value)} {j t : Nat} (hj : j < its.length) (ht : t < 8) (u : Value) (y : En × Value) (hy : eit y = (eit its[j]).set t u) : (eits its).set (j * 8 + t) u = eits (its.set j y) := by
  induction its generalizing j with
  | nil => simp at hj
  | cons x its ih =>
    have hl : (eit x).length = 8 := eit_length x
    unfold eits at ih ⊢
    cases j with
    | zero =>
      simp only [List.getElem_cons_zero] at hy
      rw [List.set_cons_zero, List.flatMap_cons, List.flatMap_cons, hy, List.set_append_left _ _ (by omega)]
      simp
    | succ j =>
      simp only [List.getElem_cons_succ] at hy
      rw [List.set_cons_succ, List.flatMap_cons, List.flatMap_cons, List.set_append_right _ _ (by omega), hl, show (j + 1) * 8 + t - 8 = j * 8 + t by omega, ih (by simpa using hj) hy]
theorem modL_set {L : List En} {j : Nat} (hj : j < L.length) (e' : En) (hid : e'.id = (L[j]).id) (hs : L.Pairwise fun a b => a.id < b.id) : modL e' L = L.set j e' := by
  apply List.ext_getElem
  · simp [modL]
  · intro i h1 h2
    have hi : i < L.length := by simpa using h2
    have hm : (modL e' L)[i] = if (L[i]).id = e'.id then e' else L[i] := by simp [modL]
    rw [hm, List.getElem_set]
    by_cases hij : j = i
    · subst hij; rw [if_pos rfl, if_pos hid.symm]
    · rw [if_neg hij, if_neg]
      intro h
      rw [hid] at h
      rcases Nat.lt_or_gt_of_ne hij with hh | hh
      · have := List.pairwise_iff_getElem.1 hs j i hj hi hh; omega
      · have := List.pairwise_iff_getElem.1 hs i j hi hj hh; omega
end Go.Proofs.Ytkoihcfdchcgdaa

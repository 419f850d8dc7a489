import Derived.Test.YtklgndmndnmdpaaQPut
import Derived.Deep.RegionHeld3
set_option linter.unusedVariables false
set_option linter.unusedSimpArgs false
namespace Go.Proofs.Ytklgndmndnmdpaa
open Go.RowKit Go.Shelf

theorem qlen_q {w : World} {B : Nat} {F : List Nat} {q room limit last : Nat} {L : List En} {bk : Nat → Nat} {bv rv : Nat → Value} (h : Qq w B F q room limit last L bk bv rv) :
    Calls Try.prog 48 #[.pointer (some ⟨q, 0, none⟩)] w fun e w' => e = .returned (.tuple #[.int .i64 (ordQ false L).length, .int .i64 (ordQ true L).length]) ∧ Below w.heap.size w w' :=
  qlen_calls w _ _ _ (seqP_q h) fun b => Nat.le_trans (ord_len h.wf) (by omega)
/-- Bytes do not lie in a block that holds none. -/
theorem Rd.tchB {w w' : World} {A : Option Addr} {c b : Nat} {t : TypeId} {l : List UInt8} {cs : List Value} (h : Rd w A c l) (hb : Bx w b t cs) (hno : ∀ u ∈ cs, ∀ x, u ≠ u8 x) (ht : Tch [b] w w') : Rd w' A c l := by
  obtain ⟨h1, h2, h3, h4, h5, h6⟩ := h
  refine ⟨h1, h2, h3, h4, h5, fun ad ha j u hj => ?_⟩
  have hc := h6 ad ha j u hj
  refine ht.cell hc fun hm => ?_
  simp only [List.mem_singleton] at hm
  unfold World.cell? at hc
  rw [hm, show w.heap[b]? = some (.cells cs.toArray t (0, 0)) from hb] at hc
  simp only at hc
  split at hc
  · cases hc
  · have hu : u ∈ cs := by
      rw [List.getElem?_toArray] at hc
      exact List.mem_of_getElem? hc
    obtain ⟨hj', rfl⟩ := u8s_get l j u hj
    exact hno _ hu _ rfl
theorem hcs_nob {w : World} {B : Nat} {F : List Nat} {q room limit last : Nat} {L : List En} {bk : Nat → Nat} {bv rv : Nat → Value} (h : Qq w B F q room limit last L bk bv rv) : ∀ u ∈ hcs room limit last rv, ∀ x, u ≠ u8 x := by
  intro u hu x e
  subst e
  unfold hcs at hu
  rcases List.mem_append.1 hu with hu | hu
  · simp [u8] at hu
  · obtain ⟨p, hp, he⟩ := List.mem_map.1 hu
    obtain ⟨A, c, h1⟩ := (h.rows p (List.mem_range.1 hp)).slice
    rw [h1] at he
    cases he
/-- May a message be put? -/
def okMg (m : Mg) : Bool := decide (m.pr ≤ 9 ∧ m.ids.length ≤ 64 ∧ m.body.length ≤ 2048)

set_option maxRecDepth 100000 in
set_option maxHeartbeats 2000000 in
theorem qput_nil (w : World) (m : Mg) (v : Value) (hv : v.oneCell' = true) (now : Int) :
    Calls Try.prog 51 #[.pointer none, mgv m v, .int .i64 now] w fun r w' => r = .returned (.tuple #[.int .i64 0, .int .i64 2]) ∧ Below w.heap.size w w' := by
  unfold mgv
  go_enter Try.func51, Try.ntmps51
  go_wp2_with fail
  refine (qlen_calls (α := Nat) _ none ev _ (seqP_nil _ ev) (fun _ => by simp)).mono ?_
  rintro r w1 ⟨rfl, b1⟩
  have hb := Lib.hid (below_then (below_alloc w _) (by simp) b1)
  clear b1
  go_wp2_with fail
  refine bodyPost_ret (results_tt rfl rfl rfl) rfl ?_
  exact ⟨rfl, hb.out⟩

set_option maxRecDepth 100000 in
set_option maxHeartbeats 2000000 in
theorem qput_bad {w : World} {B : Nat} {F : List Nat} {q room limit last : Nat} {L : List En} {bk : Nat → Nat} {bv rv : Nat → Value} (h : Qq w B F q room limit last L bk bv rv) (m : Mg) (A : Option Addr) (c n : Nat) (hn : m.body.length = n) (hbad : okMg m = false) (now : Int) :
    Calls Try.prog 51 #[.pointer (some ⟨q, 0, none⟩), mgv m (.slice A n c), .int .i64 now] w fun r w' => r = .returned (.tuple #[.int .i64 0, .int .i64 1]) ∧ Below w.heap.size w w' := by
  unfold mgv str
  have hbad' := of_decide_eq_false hbad
  have H := Lib.hid h
  rw [hn] at hbad'
  clear h hbad hn
  obtain ⟨N, hN⟩ : ∃ N, m.ids.length = N := ⟨_, rfl⟩
  obtain ⟨P, hP⟩ : ∃ P, m.pr = P := ⟨_, rfl⟩
  have hsz : ((⟨m.ids.toArray⟩ : ByteArray).size : Nat) = N := by show m.ids.toArray.size = N; simpa using hN
  rw [hN, hP] at hbad'
  rw [hP]
  obtain ⟨I, hI⟩ : ∃ I : ByteArray, ⟨m.ids.toArray⟩ = I := ⟨_, rfl⟩
  rw [hI] at hsz ⊢
  clear hI hN hP
  have walk : ∀ (hc : (9 < P) ∨ (¬ 9 < P ∧ 64 < N) ∨ (¬ 9 < P ∧ ¬ 64 < N ∧ 2048 < n)), Calls Try.prog 51 #[.pointer (some ⟨q, 0, none⟩), .agg #[.int .u8 P, .int .u32 m.ttl, .int .u32 m.cnt, .string I, .slice A n c], .int .i64 now] w fun r w' => r = .returned (.tuple #[.int .i64 0, .int .i64 1]) ∧ Below w.heap.size w w' := by
    clear hbad'
    rintro (hc | ⟨hc1, hc⟩ | ⟨hc1, hc2, hc⟩)
    · have hc' : (10 : Int) ≤ (P : Int) := by omega
      go_enter Try.func51, Try.ntmps51
      go_wp2_with fail
      refine (qlen_q (H.out.below (below_alloc w _))).mono ?_
      rintro r w1 ⟨rfl, b1⟩
      have k := Lib.hid ((Bx.new w 41 [_, _, _, _, _]).below b1)
      have hb := Lib.hid (below_then (below_alloc w _) (by simp) b1)
      have d0 := k.out.cell 0 _ rfl
      clear b1
      go_wp2_with fail
      refine bodyPost_ret (results_tt rfl rfl rfl) rfl ?_
      exact ⟨rfl, hb.out⟩
    · have hc1' : ¬ (10 : Int) ≤ (P : Int) := by omega
      have hc' : (64 : Int) < (N : Int) := by omega
      go_enter Try.func51, Try.ntmps51
      go_wp2_with fail
      refine (qlen_q (H.out.below (below_alloc w _))).mono ?_
      rintro r w1 ⟨rfl, b1⟩
      have k := Lib.hid ((Bx.new w 41 [_, _, _, _, _]).below b1)
      have hb := Lib.hid (below_then (below_alloc w _) (by simp) b1)
      have d0 := k.out.cell 0 _ rfl
      have d3 := k.out.cell 3 _ rfl
      clear b1
      go_wp2_with fail
      refine bodyPost_ret (results_tt rfl rfl rfl) rfl ?_
      exact ⟨rfl, hb.out⟩
    · have hc1' : ¬ (10 : Int) ≤ (P : Int) := by omega
      have hc2' : ¬ (64 : Int) < (N : Int) := by omega
      have hc' : (2048 : Int) < (n : Int) := by omega
      go_enter Try.func51, Try.ntmps51
      go_wp2_with fail
      refine (qlen_q (H.out.below (below_alloc w _))).mono ?_
      rintro r w1 ⟨rfl, b1⟩
      have k := Lib.hid ((Bx.new w 41 [_, _, _, _, _]).below b1)
      have hb := Lib.hid (below_then (below_alloc w _) (by simp) b1)
      have d0 := k.out.cell 0 _ rfl
      have d3 := k.out.cell 3 _ rfl
      have d4 := k.out.cell 4 _ rfl
      clear b1
      go_wp2_with fail
      refine bodyPost_ret (results_tt rfl rfl rfl) rfl ?_
      exact ⟨rfl, hb.out⟩
  exact walk (by omega)

set_option maxRecDepth 100000 in
set_option maxHeartbeats 2000000 in
theorem qput_full {w : World} {B : Nat} {F : List Nat} {q room limit last : Nat} {L : List En} {bk : Nat → Nat} {bv rv : Nat → Value} (h : Qq w B F q room limit last L bk bv rv) (m : Mg) (A : Option Addr) (c n : Nat) (hn : m.body.length = n) (hok : okMg m = true) (hr : L.length = room) (now : Int) :
    Calls Try.prog 51 #[.pointer (some ⟨q, 0, none⟩), mgv m (.slice A n c), .int .i64 now] w fun r w' => r = .returned (.tuple #[.int .i64 0, .int .i64 4]) ∧ Below w.heap.size w w' := by
  unfold mgv str
  have hok' := of_decide_eq_true hok
  have H := Lib.hid h
  have hsum := ord_both fun e he => (h.wf.ok e he).pr
  have hl1 := ord_len (b := false) h.wf
  have hl2 := ord_len (b := true) h.wf
  rw [hn] at hok'
  clear h hok hn
  obtain ⟨N, hN⟩ : ∃ N, m.ids.length = N := ⟨_, rfl⟩
  obtain ⟨P, hP⟩ : ∃ P, m.pr = P := ⟨_, rfl⟩
  have hsz : ((⟨m.ids.toArray⟩ : ByteArray).size : Nat) = N := by show m.ids.toArray.size = N; simpa using hN
  rw [hN, hP] at hok'
  rw [hP]
  obtain ⟨I, hI⟩ : ∃ I : ByteArray, ⟨m.ids.toArray⟩ = I := ⟨_, rfl⟩
  rw [hI] at hsz ⊢
  have HL1 := Lib.hid (qlen_q (H.out.below (below_alloc w (.cells #[.int .u8 P, .int .u32 m.ttl, .int .u32 m.cnt, .string I, .slice A n c] 41))))
  obtain ⟨X, hX⟩ : ∃ X, (ordQ false L).length = X := ⟨_, rfl⟩
  obtain ⟨Y, hY⟩ : ∃ Y, (ordQ true L).length = Y := ⟨_, rfl⟩
  rw [hX, hY] at hsum HL1
  rw [hX] at hl1
  rw [hY] at hl2
  have hc1 : ¬ (10 : Int) ≤ (P : Int) := by omega
  have hc2 : ¬ (64 : Int) < (N : Int) := by omega
  have hc3 : ¬ (2048 : Int) < (n : Int) := by omega
  have hc4 : (room : Int) ≤ (X : Int) + (Y : Int) := by omega
  clear hI hN hP hX hY hok' hsum hr
  go_enter Try.func51, Try.ntmps51
  go_wp2_with fail
  refine HL1.out.mono ?_
  rintro r w1 ⟨rfl, b1⟩
  have k := Lib.hid ((Bx.new w 41 [_, _, _, _, _]).below b1)
  have hb := Lib.hid (below_then (below_alloc w _) (by simp) b1)
  have d0 := k.out.cell 0 _ rfl
  have d3 := k.out.cell 3 _ rfl
  have d4 := k.out.cell 4 _ rfl
  have d5 := (H.out.below hb.out).c0
  clear b1
  go_wp2_with fail
  refine bodyPost_ret (results_tt rfl rfl rfl) rfl ?_
  exact ⟨rfl, hb.out⟩

set_option maxRecDepth 100000 in
set_option maxHeartbeats 2000000 in
theorem qput_ok {w : World} {B : Nat} {F : List Nat} {q room limit last : Nat} {L : List En} {bk : Nat → Nat} {bv rv : Nat → Value} (h : Qq w B F q room limit last L bk bv rv) (m : Mg) (A : Option Addr) (c n : Nat) (hn : m.body.length = n) (hrd : Rd w A c m.body) (hm : WfM m) (hr : L.length < room) (hlast : last < 1000000) (hBw : B ≤ w.heap.size) (now : Int) :
    Calls Try.prog 51 #[.pointer (some ⟨q, 0, none⟩), mgv m (.slice A n c), .int .i64 now] w fun r w' => r = .returned (.tuple #[.int .i64 ((last + 1 : Nat) : Int), .int .i64 0]) ∧
      (∃ F' bk' bd rv', Qq w' B F' q room limit (last + 1) (L ++ [newE last m now]) bk' (upd bv (last + 1) bd) rv' ∧ (∀ k ∈ F', k ∈ F ∨ w.heap.size ≤ k) ∧ ∀ ad n' c', bd = .slice (some ad) n' c' → w.heap.size ≤ ad.block) ∧ Tch F w w' := by
  unfold mgv str
  have H := Lib.hid h
  have hsum := ord_both fun e he => (h.wf.ok e he).pr
  have hl1 := ord_len (b := false) h.wf
  have hl2 := ord_len (b := true) h.wf
  have hrm := h.wf.room2
  have hp1 := hm.pr
  have hp2 := hm.ids
  have hp3 := hm.body
  have HM := Lib.hid hm
  have HRd := Lib.hid hrd
  have HNn := Lib.hid hn
  rw [hn] at hp3
  clear h hn hm hrd
  obtain ⟨N, hN⟩ : ∃ N, m.ids.length = N := ⟨_, rfl⟩
  obtain ⟨P, hP⟩ : ∃ P, m.pr = P := ⟨_, rfl⟩
  have hsz : ((⟨m.ids.toArray⟩ : ByteArray).size : Nat) = N := by show m.ids.toArray.size = N; simpa using hN
  rw [hN] at hp2
  rw [hP] at hp1
  rw [hP]
  obtain ⟨I, hI⟩ : ∃ I : ByteArray, ⟨m.ids.toArray⟩ = I := ⟨_, rfl⟩
  rw [hI] at hsz ⊢
  have HL1 := Lib.hid (qlen_q (H.out.below (below_alloc w (.cells #[.int .u8 P, .int .u32 m.ttl, .int .u32 m.cnt, .string I, .slice A n c] 41))))
  obtain ⟨X, hX⟩ : ∃ X, (ordQ false L).length = X := ⟨_, rfl⟩
  obtain ⟨Y, hY⟩ : ∃ Y, (ordQ true L).length = Y := ⟨_, rfl⟩
  rw [hX, hY] at hsum HL1
  rw [hX] at hl1
  rw [hY] at hl2
  have hc1 : ¬ (10 : Int) ≤ (P : Int) := by omega
  have hc2 : ¬ (64 : Int) < (N : Int) := by omega
  have hc3 : ¬ (2048 : Int) < (n : Int) := by omega
  have hc4 : ¬ (room : Int) ≤ (X : Int) + (Y : Int) := by omega
  have hPP : (P : Int) < 10 := by omega
  have HI := Lib.hid hI
  have HP := Lib.hid hP
  have HR := Lib.hid hr
  clear hI hN hP hX hY hsum hr hrm
  obtain ⟨M6, hM6⟩ : ∃ M6 : Nat, M6 = 1000000 := ⟨_, rfl⟩
  have hl6 : (last : Int) < M6 := by omega
  have hM7 : M6 ≤ 1000000 := by omega
  clear hM6
  go_enter Try.func51, Try.ntmps51
  go_wp2_with fail
  refine HL1.out.mono ?_
  rintro r w1 ⟨rfl, b1⟩
  have k := Lib.hid ((Bx.new w 41 [_, _, _, _, _]).below b1)
  have hb := Lib.hid (below_then (below_alloc w _) (by simp) b1)
  have d0 := k.out.cell 0 _ rfl
  have d1 := k.out.cell 1 _ rfl
  have d2 := k.out.cell 2 _ rfl
  have d3 := k.out.cell 3 _ rfl
  have d4 := k.out.cell 4 _ rfl
  have HQ1 := Lib.hid (H.out.below hb.out)
  have d5 := HQ1.out.c0
  have d6 := HQ1.out.c2
  have f6 := (show Bx w1 q 125 _ from HQ1.out.hd).froz 2
  clear b1
  go_wp2_with fail
  obtain ⟨g, hg⟩ : ∃ g, w.heap.size = g := ⟨_, rfl⟩
  rw [hg]
  rw [hg] at hBw
  have hqg : q < g := by rw [← hg]; exact H.out.lt q H.out.fq
  have hqb1 : Bx w1 q 125 (hcs room limit last rv) := HQ1.out.hd
  have hkk := k.out
  rw [hg] at hkk
  refine forget (fun W => Bx W q 125 (hcs room limit (last + 1) rv) ∧ Bx W g 41 [.int .u8 P, .int .u32 m.ttl, .int .u32 m.cnt, .string I, .slice A n c] ∧ Tch [q] w W) ⟨hqb1.set 2 _, hkk.off (by omega), (Tch.of_below _ hb.out).setCell _ (.inl (by simp))⟩ ?_
  clear d0 d1 d2 d3 d4 d5 d6 f6 hqb1 hkk k hb HQ1 w1
  rintro W2 ⟨hq2, hm2, ht2⟩
  obtain ⟨v7, hv7⟩ : ∃ v7, rv P = v7 := ⟨_, rfl⟩
  have d0 := hm2.cell 0 _ rfl
  have HQ2 := Lib.hid hq2
  have HM2 := Lib.hid hm2
  have HT2 := Lib.hid ht2
  have HG := Lib.hid hg
  have HV7 := Lib.hid hv7
  clear hq2 hm2 ht2 hg hv7
  go_quiet (fail)
  refine forgetX (fun W => Bx W q 125 (hcs room limit (last + 1) rv) ∧ Bx W g 41 [.int .u8 P, .int .u32 m.ttl, .int .u32 m.cnt, .string I, .slice A n c] ∧ Tch [q] w W) ⟨HQ2.out, HM2.out, HT2.out.drewN nq⟩ ?_
  clear d0 HQ2 HM2 HT2 nq W2
  rintro W2 ⟨hq2, hm2, ht2⟩
  go_wp2_with fail
  have hown := H.out.rows P hp1
  have hrl := Nat.le_trans (rowp_len L P) (Nat.le_trans H.out.wf.len H.out.wf.room2)
  obtain ⟨n7, hn7⟩ : ∃ n7, (rowp L P).length = n7 := ⟨_, rfl⟩
  obtain ⟨A7, c7, hA7, -⟩ := hown.rd
  rw [hn7] at hown hA7 hrl
  rw [HV7.out] at hA7
  subst hA7
  rw [HV7.out] at hown
  have hn7' := Lib.hid hn7
  have d0 := hm2.cell 0 _ rfl
  have d1 := hm2.cell 1 _ rfl
  have d2 := hm2.cell 2 _ rfl
  have d3 := hm2.cell 3 _ rfl
  have d4 := hm2.cell 4 _ rfl
  have d5 : W2.cell? ⟨q, 2, none⟩ = some (.int .i64 ((last : Int) + 1)) := hq2.cell 2 _ rfl
  have d6 : W2.cell? ⟨q, 3 + P, none⟩ = some (.slice A7 n7 c7) := hq2.cell (3 + P) _ (by
    unfold hcs
    rw [List.getElem?_append_right (by simp)]
    simp [hp1, HV7.out])
  have hown2 := hown.tch ht2 fun k hk hm => by
    simp only [List.mem_singleton] at hm
    subst hm
    exact hown.ne_bx (show Bx w k 125 _ from H.out.hd) (by decide) hk
  have HQ2 := Lib.hid hq2
  have HM2 := Lib.hid hm2
  have HT2 := Lib.hid ht2
  have HO2 := Lib.hid hown2
  have hrd2 : Rd W2 A c m.body := HRd.out.tchB (show Bx w q 125 _ from H.out.hd) (hcs_nob H.out) ht2
  have HRd2 := Lib.hid hrd2
  obtain ⟨S, hSd⟩ : ∃ S : World → Prop, S = fun W' : World => W'.cell? ⟨g, 0, none⟩ = some (.int .u8 P) ∧ W'.cell? ⟨g, 1, none⟩ = some (.int .u32 m.ttl) ∧ W'.cell? ⟨g, 2, none⟩ = some (.int .u32 m.cnt) ∧ W'.cell? ⟨g, 3, none⟩ = some (.string I) ∧ W'.cell? ⟨g, 4, none⟩ = some (.slice A n c) ∧ W'.cell? ⟨q, 2, none⟩ = some (.int .i64 ((last : Int) + 1)) ∧ W'.cell? ⟨q, 3 + P, none⟩ = some (.slice A7 n7 c7) := ⟨_, rfl⟩
  have hSk : ∀ A' W' : World, S A' → (∀ b o v, (b = g ∨ b = q) → A'.cell? ⟨b, o, none⟩ = some v → W'.cell? ⟨b, o, none⟩ = some v) → S W' := fun A' W' h hk => by
    rw [hSd] at h ⊢
    exact ⟨hk _ _ _ (.inl rfl) h.1, hk _ _ _ (.inl rfl) h.2.1, hk _ _ _ (.inl rfl) h.2.2.1, hk _ _ _ (.inl rfl) h.2.2.2.1, hk _ _ _ (.inl rfl) h.2.2.2.2.1, hk _ _ _ (.inr rfl) h.2.2.2.2.2.1, hk _ _ _ (.inr rfl) h.2.2.2.2.2.2⟩
  have hS : S W2.drew := by rw [hSd]; exact ⟨d0, d1, d2, d3, d4, d5, d6⟩
  have HSd := Lib.hid hSd
  have HSk := Lib.hid hSk
  clear hSd hSk d0 d1 d2 d3 d4 d5 d6 hq2 hm2 ht2 hown hown2 hrd2 hn7 hqg
  refine (wpIn_wide (n := 0)).1 ?_
  refine s_region [18] S (by kernel_rfl) ?_
  refine s_take (fun _ => trivial) (by kernel_rfl) 0 rfl (by kernel_rfl) (by kernel_rfl) (by kernel_rfl) (by kernel_rfl) (fun _ _ _ h => h) (by rfl) (by intro w' hw; rw [HSd.out] at hw; obtain ⟨h0, h1, h2, h3, h4, h5, h6⟩ := hw; go_simp; try (with_reducible rfl)) hS ?_
  simp only [Act.put, List.setIfInBounds_toArray, List.set_cons_zero, List.set_cons_succ]
  refine s_take (fun _ => trivial) (by kernel_rfl) 1 rfl (by kernel_rfl) (by kernel_rfl) (by kernel_rfl) (by kernel_rfl) (fun _ _ _ h => h) (by rfl) (by intro w' hw; rw [HSd.out] at hw; obtain ⟨h0, h1, h2, h3, h4, h5, h6⟩ := hw; go_simp; try (with_reducible rfl)) hS ?_
  simp only [Act.put, List.setIfInBounds_toArray, List.set_cons_zero, List.set_cons_succ]
  refine s_take (fun _ => trivial) (by kernel_rfl) 2 rfl (by kernel_rfl) (by kernel_rfl) (by kernel_rfl) (by kernel_rfl) (fun _ _ _ h => h) (by rfl) (by intro w' hw; rw [HSd.out] at hw; obtain ⟨h0, h1, h2, h3, h4, h5, h6⟩ := hw; go_simp; try (with_reducible rfl)) hS ?_
  simp only [Act.put, List.setIfInBounds_toArray, List.set_cons_zero, List.set_cons_succ]
  refine s_take (fun _ => trivial) (by kernel_rfl) 3 rfl (by kernel_rfl) (by kernel_rfl) (by kernel_rfl) (by kernel_rfl) (fun _ _ _ h => h) (by rfl) (by intro w' hw; rw [HSd.out] at hw; obtain ⟨h0, h1, h2, h3, h4, h5, h6⟩ := hw; go_simp; try (with_reducible rfl)) hS ?_
  simp only [Act.put, List.setIfInBounds_toArray, List.set_cons_zero, List.set_cons_succ]
  refine s_take (fun _ => trivial) (by kernel_rfl) 4 rfl (by kernel_rfl) (by kernel_rfl) (by kernel_rfl) (by kernel_rfl) (fun _ _ _ h => h) (by rfl) (by intro w' hw; rw [HSd.out] at hw; obtain ⟨h0, h1, h2, h3, h4, h5, h6⟩ := hw; go_simp; try (with_reducible rfl)) hS ?_
  simp only [Act.put, List.setIfInBounds_toArray, List.set_cons_zero, List.set_cons_succ]
  refine s_take (fun _ => trivial) (by kernel_rfl) 5 rfl (by kernel_rfl) (by kernel_rfl) (by kernel_rfl) (by kernel_rfl) (fun _ _ _ h => h) (by rfl) (by intro w' hw; rw [HSd.out] at hw; obtain ⟨h0, h1, h2, h3, h4, h5, h6⟩ := hw; go_simp; try (with_reducible rfl)) hS ?_
  simp only [Act.put, List.setIfInBounds_toArray, List.set_cons_zero, List.set_cons_succ]
  refine s_take (fun _ => trivial) (by kernel_rfl) 6 rfl (by kernel_rfl) (by kernel_rfl) (by kernel_rfl) (by kernel_rfl) (fun _ _ _ h => h) (by rfl) (by intro w' hw; rw [HSd.out] at hw; obtain ⟨h0, h1, h2, h3, h4, h5, h6⟩ := hw; go_simp; try (with_reducible rfl)) hS ?_
  simp only [Act.put, List.setIfInBounds_toArray, List.set_cons_zero, List.set_cons_succ]
  refine s_take (fun _ => trivial) (by kernel_rfl) 7 rfl (by kernel_rfl) (by kernel_rfl) (by kernel_rfl) (by kernel_rfl) (fun _ _ _ h => h) (by rfl) (by intro w' hw; rw [HSd.out] at hw; obtain ⟨h0, h1, h2, h3, h4, h5, h6⟩ := hw; go_simp; try (with_reducible rfl)) hS ?_
  simp only [Act.put, List.setIfInBounds_toArray, List.set_cons_zero, List.set_cons_succ]
  refine s_take (fun _ => trivial) (by kernel_rfl) 8 rfl (by kernel_rfl) (by kernel_rfl) (by kernel_rfl) (by kernel_rfl) (fun _ _ _ h => h) (by rfl) (by intro w' hw; rw [HSd.out] at hw; obtain ⟨h0, h1, h2, h3, h4, h5, h6⟩ := hw; go_simp; try (with_reducible rfl)) hS ?_
  simp only [Act.put, List.setIfInBounds_toArray, List.set_cons_zero, List.set_cons_succ]
  refine s_take (fun _ => trivial) (by kernel_rfl) 11 rfl (by kernel_rfl) (by kernel_rfl) (by kernel_rfl) (by kernel_rfl) (fun _ _ _ h => h) (by rfl) (by intro w' hw; rw [HSd.out] at hw; obtain ⟨h0, h1, h2, h3, h4, h5, h6⟩ := hw; go_simp; try (with_reducible rfl)) hS ?_
  simp only [Act.put, List.setIfInBounds_toArray, List.set_cons_zero, List.set_cons_succ]
  refine s_one 9 (by kernel_rfl) rfl (by rfl) (fun K hK => ?_)
  go_simp
  have hmg : ∀ v, mgv m v = .agg #[.int .u8 P, .int .u32 m.ttl, .int .u32 m.cnt, .string I, v] := fun v => by unfold mgv str; rw [HP.out, HI.out]
  have hcl := qclone_calls (w := W2.drew) m A c n HNn.out HRd2.out (by omega)
  rw [hmg] at hcl
  refine ⟨trivial, rfl, (callsIn_wide.2 hcl).mono ?_⟩
  rintro r w3 ⟨v1, rfl, o1, b1⟩
  obtain ⟨A1, c1, rfl, -⟩ := o1.rd
  have hS1 := HSk.out _ _ hS fun b o v _ h => stays_ b1 h
  refine hK.out _ _ (fun _ => hS1) ?_
  clear hK K hS hcl
  have hS := hS1
  clear hS1
  rw [hmg]
  rw [HNn.out] at o1 ⊢
  refine s_take (fun _ => trivial) (by kernel_rfl) 10 rfl (by kernel_rfl) (by kernel_rfl) (by kernel_rfl) (by kernel_rfl) (fun _ _ _ h => h) (by rfl) (by intro w' hw; rw [HSd.out] at hw; obtain ⟨h0, h1, h2, h3, h4, h5, h6⟩ := hw; go_simp; try (with_reducible rfl)) hS ?_
  simp only [Act.put, List.setIfInBounds_toArray, List.set_cons_zero, List.set_cons_succ]
  refine s_one 12 (by kernel_rfl) rfl (by rfl) (fun K hK => ?_)
  go_simp
  refine ⟨trivial, rfl, (callsIn_wide.2 (mom_calls now w3)).mono ?_⟩
  rintro r w4 ⟨rfl, rfl⟩
  refine hK.out _ _ (fun _ => hS) ?_
  clear hK K
  refine s_take (fun _ => trivial) (by kernel_rfl) 13 rfl (by kernel_rfl) (by kernel_rfl) (by kernel_rfl) (by kernel_rfl) (fun _ _ _ h => h) (by rfl) (by intro w' hw; rw [HSd.out] at hw; obtain ⟨h0, h1, h2, h3, h4, h5, h6⟩ := hw; go_simp; try (with_reducible rfl)) hS ?_
  simp only [Act.put, List.setIfInBounds_toArray, List.set_cons_zero, List.set_cons_succ]
  refine s_one 14 (by kernel_rfl) rfl (by rfl) (fun K hK => ?_)
  go_simp
  have hS2 := HSk.out _ _ hS fun b o v _ h => keeps_alloc h (.cells #[.int .i64 ((last : Int) + 1), .int .u8 P, .int .u32 m.ttl, .int .u32 m.cnt, .string I, .slice A1 n c1, .int .i64 (mom now), .bool false] 145)
  refine hK.out _ _ (fun _ => hS2) ?_
  clear hK K
  refine s_one 15 (by kernel_rfl) rfl (by rfl) (fun K hK => ?_)
  go_simp
  have hS3 := HSk.out _ _ hS2 fun b o v _ h => keeps_alloc h (.cells #[.pointer (some ⟨w3.heap.size, 0, none⟩)] 143)
  refine hK.out _ _ (fun _ => hS3) ?_
  clear hK K
  refine s_one 16 (by kernel_rfl) rfl (by rfl) (fun K hK => ?_)
  obtain ⟨i0, hi, hz0, hz1', hz2'⟩ := info_parts Try.info_ep
  have hown3 := ((OwnC.below (w := W2.drew) HO2.out b1).alloc (.cells #[.int .i64 ((last : Int) + 1), .int .u8 P, .int .u32 m.ttl, .int .u32 m.cnt, .string I, .slice A1 n c1, .int .i64 (mom now), .bool false] 145)).alloc (.cells #[.pointer (some ⟨w3.heap.size, 0, none⟩)] 143)
  refine wpIn_appC (fun _ => trivial) _ _ _ rfl B i0 _ 8 Try.underlying122 hi hz0 hz1' hz2' rfl (by decide) (fun _ _ => trivial) (.slice A7 n7 c7) n7 ((rowp L P).map fun x => ev (bk x.id)) rfl hown3 (some ⟨w3.heap.size + 1, 0, none⟩) 1 1 [ev w3.heap.size] rfl ?rd ?hb ?h63 ?hbase ?_
  case rd =>
    have := rdc_box (w := w3.alloc (.cells #[.int .i64 ((last : Int) + 1), .int .u8 P, .int .u32 m.ttl, .int .u32 m.cnt, .string I, .slice A1 n c1, .int .i64 (mom now), .bool false] 145)) (e := 143) [ev w3.heap.size] 1 1 rfl (by simp [ev, Value.oneCell']) (by omega)
    rw [World.size_alloc] at this
    exact this
  case hb => omega
  case h63 => omega
  case hbase => have h1 := HT2.out.size; have h2 := b1.size; have h3 := HG.out; simp only [World.size_alloc]; rw [show W2.drew.heap.size = W2.heap.size from rfl] at h2; omega
  rintro v' w' ho' hg' - hob'
  have hq3 : Bx w3 q 125 (hcs room limit (last + 1) rv) := Bx.below (W := W2.drew) HQ2.out b1
  have hm3 : Bx w3 g 41 [.int .u8 P, .int .u32 m.ttl, .int .u32 m.cnt, .string I, .slice A n c] := Bx.below (W := W2.drew) HM2.out b1
  have hnq := hown3.ne_bx ((hq3.alloc _).alloc _) (by decide)
  have hng := hown3.ne_bx ((hm3.alloc _).alloc _) (by decide)
  have hS4 := HSk.out _ _ hS3 fun b o v hb h => grown_cell hg' (by rcases hb with rfl | rfl; exact hng; exact hnq) h
  refine hK.out _ _ (fun _ => hS4) ?_
  clear hK K
  simp only [Act.put, List.setIfInBounds_toArray, List.set_cons_zero, List.set_cons_succ]
  have hS := hS4
  have hq4 := ((hq3.alloc (.cells #[.int .i64 ((last : Int) + 1), .int .u8 P, .int .u32 m.ttl, .int .u32 m.cnt, .string I, .slice A1 n c1, .int .i64 (mom now), .bool false] 145)).alloc (.cells #[.pointer (some ⟨w3.heap.size, 0, none⟩)] 143)).grown hg' hnq
  obtain ⟨A3, c3, rfl, -⟩ := ho'.rd
  have q0 : w'.cell? ⟨q, 3 + P, none⟩ = some (.slice A7 n7 c7) := by have := hS4; rw [HSd.out] at this; exact this.2.2.2.2.2.2
  have q1 := hq4.froz (3 + P)
  refine s_take (fun _ => trivial) (by kernel_rfl) 17 rfl (by kernel_rfl) (by kernel_rfl) (by kernel_rfl) (by kernel_rfl) (fun _ _ _ h => h) (by rfl) (by intro w' hw; rw [HSd.out] at hw; obtain ⟨h0, h1, h2, h3, h4, h5, h6⟩ := hw; go_simp; try (with_reducible rfl)) hS ?_
  simp only [Act.put, List.setIfInBounds_toArray, List.set_cons_zero, List.set_cons_succ]
  refine s_one 18 (by kernel_rfl) rfl (by rfl) (fun K hK => ?_)
  go_simp
  refine hK.out _ _ (fun h => absurd (by simp) h) ?_
  clear hK K
  refine s_done (by kernel_rfl) ?_ _
  obtain ⟨E, hE⟩ : ∃ E : Obj, E = .cells #[.int .i64 ((last : Int) + 1), .int .u8 P, .int .u32 m.ttl, .int .u32 m.cnt, .string I, .slice A1 n c1, .int .i64 (mom now), .bool false] 145 := ⟨_, rfl⟩
  obtain ⟨E2, hE2⟩ : ∃ E2 : Obj, E2 = .cells #[.pointer (some ⟨w3.heap.size, 0, none⟩)] 143 := ⟨_, rfl⟩
  have hbe : Bx w3 q 125 (hcs room limit (last + 1) rv) := hq3
  have he3 : Bx (w3.alloc E) w3.heap.size 145 [.int .i64 ((last : Int) + 1), .int .u8 P, .int .u32 m.ttl, .int .u32 m.cnt, .string I, .slice A1 n c1, .int .i64 (mom now), .bool false] := by rw [hE]; exact Bx.new w3 _ [_, _, _, _, _, _, _, _]
  rw [← hE, ← hE2] at hg' hown3
  have he4 := (he3.alloc E2).grown hg' (hown3.ne_bx (he3.alloc E2) (by decide))
  have hbod3 := Bdv.of_own o1
  obtain ⟨W5, hW5⟩ : ∃ W5, w'.setCell ⟨q, 3 + P, none⟩ (.slice A3 (n7 + 1) c3) = W5 := ⟨_, rfl⟩
  have hb5 : ∀ k, k ≠ q → W5.heap[k]? = w'.heap[k]? := fun k hk => by rw [← hW5]; exact Below.heap_setCell _ ⟨q, 3 + P, none⟩ _ k hk
  have hq5 : Bx W5 q 125 (hcs room limit (last + 1) (rvSet rv P (.slice A3 (n7 + 1) c3))) := by
    rw [← hcs_set _ _ _ _ _ _ hp1, ← hW5]
    exact hq4.set (3 + P) _
  have he5 := he4.keep (hb5 _ (he4.ne hq4 (by decide)))
  have ho5 := ho'.keep (w' := W5) fun k hk => hb5 k fun e => by subst e; exact ho'.ne_bx hq4 (by decide) hk
  have hlow : ∀ k, k ≠ q → some k ≠ (Value.slice A7 n7 c7).ownBlock → k < w3.heap.size → W5.heap[k]? = w3.heap[k]? := fun k h1 h2 h3 => by
    rw [hb5 k h1, hg'.block k (by simp; omega) h2]
    exact (heap_alloc_old _ _ (by simp; omega)).trans (heap_alloc_old _ _ h3)
  have hz2 := HT2.out.size
  have hz3 : W2.heap.size ≤ w3.heap.size := b1.size
  have hz4 := hg'.size
  simp only [World.size_alloc] at hz4
  have hz5 : W5.heap.size = w'.heap.size := by rw [← hW5]; simp
  have hF5 : Tch F w W5 := by
    have t1 : Tch F w w3 := (HT2.out.mono (fun k hk => by simp at hk; rw [hk]; exact H.out.fq)).trans (Tch.of_drew (Tch.of_below [] b1)) (by simp)
    have t2 := ((t1.alloc E).alloc E2).grown hg' fun k hk => .inl (H.out.fr P hp1 k (by rw [HV7.out]; exact hk))
    rw [← hW5]
    exact t2.setCell _ (.inl H.out.fq)
  have hbd5 : Bdv W5 (.slice A1 n c1) m.body := hbod3.keep fun k cs fr hh => hlow k (fun e => by
      subst e
      have := hq3
      unfold Bx at this
      rw [hh] at this
      simp only [Option.some.injEq, Obj.cells.injEq] at this
      exact absurd this.2.1 (by decide)) (fun e => by
      rcases HO2.out.2.2 with ⟨e1, _⟩ | ⟨g2, cap2, sp2, e1, _, hh2, _⟩
      · rw [e1] at e; simp [Value.ownBlock] at e
      · rw [e1] at e
        have : k = g2 := by simpa [Value.ownBlock] using e
        subst this
        have h2 : w3.heap[k]? = _ := (Below.block b1 k (heap_lt hh2)).trans hh2
        rw [hh] at h2
        simp only [Option.some.injEq, Obj.cells.injEq] at h2
        exact absurd h2.2.1 (by decide)) (heap_lt hh)
  have hkw : ∀ k, k ≠ q → some k ≠ (Value.slice A7 n7 c7).ownBlock → k < w.heap.size → W5.heap[k]? = w.heap[k]? := fun k h1 h2 h3 => by
    rw [hlow k h1 h2 (by omega)]
    exact (Below.block b1 k (by show k < W2.heap.size; omega)).trans (HT2.out.block k h3 (by simpa using h1))
  have hput := Qq.put (W' := W5) (m := m) (now := now) (b := w3.heap.size) (bd := .slice A1 n c1) (v' := .slice A3 (n7 + 1) c3) H.out HM.out HR.out (by rw [HG.out]; exact hBw) (by
      rw [HP.out, hn7'.out]; exact ho5) (by
      rw [HP.out, HV7.out]
      rcases hob' with h | h
      · exact .inl h
      · exact .inr ⟨_, h, by simp only [World.size_alloc]; omega⟩) (by rw [HP.out]; exact hq5) (by
      have : ecs (newE last m now) (.slice A1 n c1) = [.int .i64 ((last : Int) + 1), .int .u8 P, .int .u32 m.ttl, .int .u32 m.cnt, .string I, .slice A1 n c1, .int .i64 (mom now), .bool false] := by
        unfold ecs newE str
        simp only [HP.out, HI.out]
        rfl
      rw [this]; exact he5) (by omega) hbd5 (by rw [HP.out, HV7.out]; exact hkw)
  rw [hW5]
  have HPUT := Lib.hid hput
  have HF5 := Lib.hid hF5
  have HQ5 := Lib.hid hq5
  have dl : W5.cell? ⟨q, 2, none⟩ = some (.int .i64 ((last : Int) + 1)) := hq5.cell 2 _ rfl
  have HKN := Lib.hid (show ∀ k ∈ w3.heap.size :: ((Value.slice A3 (n7 + 1) c3).ownBlock.toList ++ F.filter fun k => decide (some k ≠ (rv m.pr).ownBlock)), k ∈ F ∨ w.heap.size ≤ k from fun k hk => by
    simp only [List.mem_cons, List.mem_append, Option.mem_toList, List.mem_filter] at hk
    rcases hk with rfl | hk | hk
    · right; omega
    · rcases hob' with h | h
      · left
        rw [h] at hk
        exact H.out.fr P hp1 k (by rw [HV7.out]; exact hk)
      · right
        rw [h] at hk
        simp only [World.size_alloc, Option.some.injEq] at hk
        omega
    · exact .inl hk.1)
  have HNew := Lib.hid (show ∀ ad n' c', (Value.slice A1 n c1) = .slice (some ad) n' c' → w.heap.size ≤ ad.block from fun ad n' c' e => by
    rcases o1.2.2 with ⟨e1, _⟩ | ⟨g2, cap2, sp2, e1, hg2, _⟩
    · rw [e1] at e; cases e
    · rw [e1] at e
      simp only [Value.slice.injEq, Option.some.injEq] at e
      rw [← e.1]
      have : W2.heap.size ≤ g2 := hg2
      show w.heap.size ≤ g2
      omega)
  clear hput hF5 hq5 hE hE2 hbe he3 he4 hbod3 hb5 he5 ho5 hlow hz2 hz3 hz4 hz5 hbd5 hkw hS hS4 hS3 hS2 q0 q1 hq4 hq3 hm3 hnq hng hown3 hg' ho' hob' o1 b1 hW5
  go_wp2_with fail
  refine bodyPost_ret (results_tt rfl rfl rfl) rfl ?_
  exact ⟨rfl, ⟨_, _, _, _, HPUT.out, HKN.out, HNew.out⟩, HF5.out⟩
end Go.Proofs.Ytklgndmndnmdpaa

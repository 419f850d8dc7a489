import Derived.Test.YtkoihcfdchcgdaaRWait
set_option linter.unusedVariables false
set_option linter.unusedSimpArgs false
namespace Go.Proofs.Ytkoihcfdchcgdaa
open Go.RowKit Go.Shelf

theorem rat_calls (now : Int) (w : World) : Calls Try.prog 45 #[.int .i64 now] w fun e w' => e = .returned (.int .i64 (mom now : Nat)) ∧ w = w' := by
  by_cases h1 : now < 0
  · have hm : ((mom now : Nat) : Int) = 0 := by unfold mom; omega
    rw [hm]
    go_enter Try.func45, Try.ntmps45
    go_wp2_with fail
    go_ret
    exact ⟨rfl, rfl⟩
  · by_cases h2 : 2305843009213693952 < now
    · have hm : ((mom now : Nat) : Int) = 2305843009213693952 := by unfold mom; omega
      rw [hm]
      go_enter Try.func45, Try.ntmps45
      go_wp2_with fail
      go_ret
      exact ⟨rfl, rfl⟩
    · have hm : ((mom now : Nat) : Int) = now := by unfold mom; omega
      rw [hm]
      go_enter Try.func45, Try.ntmps45
      go_wp2_with fail
      all_goals
        go_ret
        refine ⟨?_, rfl⟩
        first | rfl | (obtain rfl : now = 0 := by omega
                       rfl)

set_option maxRecDepth 100000 in
set_option maxHeartbeats 1000000 in
theorem rold_calls {w : World} {e : En} {bv : Value} (hbv : bv.oneCell' = true) (hm : e.m.ttl ≤ 4294967295) (ht : e.tm ≤ 2305843009213693952) (now : Int) :
    Calls Try.prog 46 #[.agg (ecs e bv).toArray, .int .i64 now] w fun r w' => r = .returned (.bool (oldE e now)) ∧ Below w.heap.size w w' := by
  obtain ⟨T, hTe⟩ : ∃ T, e.m.ttl = T := ⟨_, rfl⟩
  obtain ⟨A, hA⟩ : ∃ A, e.tm = A := ⟨_, rfl⟩
  have hO := Lib.hid (show oldE e now = decide (T ≠ 0 ∧ A + T ≤ mom now) by unfold oldE; rw [hTe, hA])
  have hq := mom_le now
  rw [hTe] at hm
  rw [hA] at ht
  have hcs : (ecs e bv).toArray = #[.int .i64 e.id, .int .u8 e.m.pr, .int .u32 T, .int .u32 e.m.cnt, .string ⟨e.m.ids.toArray⟩, bv, .int .i64 A, .bool e.held] := by unfold ecs str; rw [hTe, hA]
  rw [hcs]
  clear hTe hA hcs
  obtain ⟨M, hM⟩ : ∃ M, mom now = M := ⟨_, rfl⟩
  rw [hM] at hq hO
  have HM := Lib.hid hM
  clear hM
  by_cases hz : T = 0
  · subst hz
    go_enter Try.func46, Try.ntmps46
    go_wp2_with fail
    go_quiet (fail)
    go_wp2_with fail
    go_ret
    refine ⟨?_, (below_alloc w _).trans ((below_drewN _ nq).mono (by simp))⟩
    rw [hO.out]; simp
  · have hz3 : 0 < T := by omega
    have hz1 : decide (0 < T) = true := decide_eq_true hz3
    have HC : ∀ W : World, Calls Try.prog 45 #[.int .i64 now] W fun e w' => e = .returned (.int .i64 (M : Nat)) ∧ w' = W := fun W => (rat_calls now W).mono fun r w' ⟨h1, h2⟩ => ⟨by rw [h1, HM.out], h2.symm⟩
    have HCC := Lib.hid HC
    clear HC HM
    go_enter Try.func46, Try.ntmps46
    go_wp2_with fail
    go_quiet ((go_at_call 45; exact Calls.quiet_of_same (HCC.out _)))
    go_wp2_with fail
    go_ret
    refine ⟨?_, (below_alloc w _).trans ((below_drewN _ nq).mono (by simp))⟩
    rw [hO.out]
    show Ending.returned (.bool (decide ((A : Int) + T ≤ M))) = _
    congr 2
    rw [decide_eq_decide]
    omega
def finO (o : Oc) : Bool := decide (2 ≤ o.k ∧ o.k ≤ 5)
set_option maxHeartbeats 1000000 in
theorem rfin_calls (o : Oc) (w : World) : Calls Try.prog 47 #[.agg (occ o).toArray] w fun e w' => e = .returned (.bool (finO o)) ∧ Below w.heap.size w w' := by
  obtain ⟨k, a, b, c⟩ := o
  have hoc : (occ ⟨k, a, b, c⟩).toArray = #[.int .u8 k, .int .u64 a, .int .u64 b, .string ⟨c.toArray⟩] := by unfold occ str; rfl
  rw [hoc]
  clear hoc
  have HF := Lib.hid (show finO ⟨k, a, b, c⟩ = decide (2 ≤ k ∧ k ≤ 5) from rfl)
  rw [HF.out]
  clear HF
  by_cases h2 : k = 2
  · subst h2
    go_enter Try.func47, Try.ntmps47
    go_wp2_with fail
    go_ret
    exact ⟨rfl, below_alloc w _⟩
  by_cases h3 : k = 3
  · subst h3
    go_enter Try.func47, Try.ntmps47
    go_wp2_with fail
    go_ret
    exact ⟨rfl, below_alloc w _⟩
  by_cases h4 : k = 4
  · subst h4
    go_enter Try.func47, Try.ntmps47
    go_wp2_with fail
    go_ret
    exact ⟨rfl, below_alloc w _⟩
  by_cases h5 : k = 5
  · subst h5
    go_enter Try.func47, Try.ntmps47
    go_wp2_with fail
    go_ret
    exact ⟨rfl, below_alloc w _⟩
  · have e2 : ((k : Int) == 2) = false := by simp; omega
    have e3 : ((k : Int) == 3) = false := by simp; omega
    have e4 : ((k : Int) == 4) = false := by simp; omega
    have e5 : ((k : Int) == 5) = false := by simp; omega
    have hf := Lib.hid (show decide (2 ≤ k ∧ k ≤ 5) = false from decide_eq_false (by omega))
    rw [hf.out]
    have H := Lib.hid (And.intro h2 (And.intro h3 (And.intro h4 h5)))
    have h2' : ¬ (k : Int) = 2 := by omega
    have h3' : ¬ (k : Int) = 3 := by omega
    have h4' : ¬ (k : Int) = 4 := by omega
    have h5' : ¬ (k : Int) = 5 := by omega
    clear hf h2 h3 h4 h5
    go_enter Try.func47, Try.ntmps47
    go_wp2_with fail
    go_ret
    exact ⟨rfl, below_alloc w _⟩

theorem rnew_calls (room limit : Int) (w : World) (hr : (Lit.int .i64 room).wf = true) (hl : (Lit.int .i64 limit).wf = true) :
    Calls Try.prog 16 #[.int .i64 room, .int .i64 limit] w fun r w' =>
      (okNew room limit = false ∧ r = .returned (.tuple #[.pointer none, .int .i64 1]) ∧ w = w') ∨
      (okNew room limit = true ∧ r = .returned (.tuple #[.pointer (some ⟨w.heap.size, 0, none⟩), .int .i64 0]) ∧ w' = w.alloc (.cells #[.int .i64 room, .int .i64 limit, .slice none 0 0, .int .i64 0] 90)) := by
  go_enter Try.func16, Try.ntmps16
  go_wp2_with fail
  all_goals refine bodyPost_ret (results_tt rfl rfl rfl) rfl ?_
  all_goals first | exact .inl ⟨by unfold okNew; exact decide_eq_false (by omega), rfl, rfl⟩ | exact .inr ⟨by unfold okNew; exact decide_eq_true (by omega), rfl, rfl⟩

/-- The document's queue in memory; all its blocks are in Z. -/
structure Rq (w : World) (Z : List Nat) (r room limit last : Nat) (L : List En) : Prop where
  ex : ∃ (lv : Value) (bv : Nat → Value), Bx w r 90 (rcs room limit last lv) ∧ OwnC 64 8 (fun _ => True) w 0 lv L.length (eits (L.map fun e => (e, bv e.id))) ∧ (∀ k, lv.ownBlock = some k → k ∈ Z) ∧ ∀ e ∈ L, Bdv w (bv e.id) e.m.body ∧ ∀ k, bblk (bv e.id) e.m.body = some k → k ∈ Z
  rz : r ∈ Z
  wf : WfQ room limit last L
theorem Rq.keep {w w' : World} {Z : List Nat} {r room limit last : Nat} {L : List En} (h : Rq w Z r room limit last L) (hk : ∀ k ∈ Z, w'.heap[k]? = w.heap[k]?) : Rq w' Z r room limit last L := by
  obtain ⟨⟨lv, bv, h1, h2, h3, h4⟩, h5, h6⟩ := h
  exact ⟨⟨lv, bv, h1.keep (hk r h5), h2.keep fun k hv => hk k (h3 k hv), h3, fun e he => ⟨(h4 e he).1.keepK fun k hb => hk k ((h4 e he).2 k hb), (h4 e he).2⟩⟩, h5, h6⟩
theorem Rq.kz {w0 w w' : World} {Z : List Nat} {r room limit last : Nat} {L : List En} (h : Rq w Z r room limit last L) (hk : Kz Z w0 w w') : Rq w' Z r room limit last L := h.keep fun k hz => hk.block k (.inl hz)
theorem Rq.more {w : World} {Z Z' : List Nat} {r room limit last : Nat} {L : List En} (h : Rq w Z r room limit last L) (hs : ∀ k ∈ Z, k ∈ Z') : Rq w Z' r room limit last L := by
  obtain ⟨⟨lv, bv, h1, h2, h3, h4⟩, h5, h6⟩ := h
  exact ⟨⟨lv, bv, h1, h2, fun k hk => hs k (h3 k hk), fun e he => ⟨(h4 e he).1, fun k hk => hs k ((h4 e he).2 k hk)⟩⟩, hs r h5, h6⟩
/-- What a function of the document's turns: blocks of its own, no bytes. -/
def RStep (Z : List Nat) (w w' : World) : Prop := ∃ F, Tch F w w' ∧ ∀ k ∈ F, k ∈ Z ∧ ∃ o, w.heap[k]? = some o ∧ ∀ (cs : Array Value) (fr : Nat × Nat), o ≠ Obj.cells cs 5 fr
theorem RStep.of_below {Z : List Nat} {w w' : World} (h : Below w.heap.size w w') : RStep Z w w' := ⟨[], Tch.of_below [] h, by simp⟩
theorem RStep.tch {Z : List Nat} {w w' : World} (h : RStep Z w w') : Tch Z w w' := by
  obtain ⟨F, t, hF⟩ := h
  exact t.mono fun k hk => (hF k hk).1
theorem RStep.bdv {Z : List Nat} {w w' : World} (h : RStep Z w w') {v : Value} {l : List UInt8} (hb : Bdv w v l) : Bdv w' v l := by
  obtain ⟨F, t, hF⟩ := h
  exact hb.tch t fun k hk => (hF k hk).2
theorem Rq.lt {w : World} {Z : List Nat} {r room limit last : Nat} {L : List En} (h : Rq w Z r room limit last L) : r < w.heap.size := by
  obtain ⟨⟨lv, bv, h1, h2, h3, h4⟩, h5, h6⟩ := h
  exact h1.lt
theorem less_one (id : Nat) (L : List En) (k : Nat) (hk : k < L.length) : less [id] (L.take (k + 1)) = less [id] (L.take k) ++ (if (L[k]).id = id then [] else [L[k]]) := by
  rw [List.take_succ_eq_append_getElem hk]
  unfold less
  rw [List.filter_append]
  congr 1
  by_cases h : (L[k]).id = id
  · rw [if_pos h]; simp [h]
  · rw [if_neg h]; simp [h]
theorem Try.info_ritem : (Try.prog.info? 64).map (fun i => (i.zero, i.size, i.bytes)) = some (some (.agg #[.int .i64 0, .int .u8 0, .int .u32 0, .int .u32 0, .string ⟨#[]⟩, .slice none 0 0, .int .i64 0, .bool false]), 8, 80) := by kernel_rfl

set_option maxRecDepth 100000 in
set_option maxHeartbeats 4000000 in
theorem rgoes_calls {w : World} {Z : List Nat} {r room limit last : Nat} {L : List En} (h : Rq w Z r room limit last L) (id : Nat) :
    Calls Try.prog 48 #[.pointer (some ⟨r, 0, none⟩), .int .i64 id] w fun e w' => (∃ v, e = .returned v) ∧ ∃ N, (∀ k ∈ N, w.heap.size ≤ k ∧ k < w'.heap.size) ∧ Rq w' (N ++ Z) r room limit last (less [id] L) ∧ RStep Z w w' := by
  obtain ⟨⟨lv, bv, h1, h2, h3, h4⟩, h5, h6⟩ := h
  obtain ⟨A, c, rfl, hr⟩ := h2.rd
  obtain ⟨n, hn⟩ : ∃ n, L.length = n := ⟨_, rfl⟩
  rw [hn] at h1 h2 hr
  have hn64 : n ≤ 64 := by have := h6.len; have := h6.room2; omega
  have hlm : (L.map fun e => (e, bv e.id)).length = n := by rw [List.length_map, hn]
  have c2 := h1.cell 2 _ rfl
  have H1 := Lib.hid h1
  have H2 := Lib.hid h2
  have HR := Lib.hid hr
  have HN := Lib.hid hn
  have HLM := Lib.hid hlm
  have H3 := Lib.hid h3
  have H4 := Lib.hid h4
  have H6 := Lib.hid h6
  have hlc := hr.2.1
  have hmx := hr.2.2.1
  clear h1 h2 h3 h4 h6 hr hn hlm
  go_enter Try.func48, Try.ntmps48
  go_wp2_with fail
  go_loopw [4, 5] (fun v i wr => ∃ (j : Nat), j ≤ n ∧ i = .int .i64 j ∧ OwnC 64 8 (fun _ => True) wr w.heap.size v (less [id] (L.take j)).length (eits ((less [id] (L.take j)).map fun e => (e, bv e.id))) ∧ Below w.heap.size w wr) (fun _ i _ => n - (intOf i).toNat)
  case atStart => exact ⟨0, by omega, rfl, OwnC.nil_, Below.refl _ _⟩
  case round =>
    obtain ⟨j, hj, rfl, ho, hb⟩ := hrel
    have HO := Lib.hid ho
    have HB := Lib.hid hb
    have c3 : wr.cell? ⟨r, 2, none⟩ = some (.slice A n c) := stays hb c2 H1.out.lt
    clear ho hb
    by_cases hjn : j < n
    · have hjL : j < L.length := by rw [HN.out]; exact hjn
      have hjn' : (j : Int) < n := by omega
      obtain ⟨b0, o0, hA, hcell⟩ := flat_cells eit 8 (by decide) eit_length (HR.out.below HB.out) j (by rw [HLM.out]; exact hjn)
      subst hA
      rw [List.getElem_map] at hcell
      obtain ⟨e, he⟩ : ∃ e, L[j] = e := ⟨_, rfl⟩
      rw [he] at hcell
      have hmem : e ∈ L := by rw [← he]; exact List.getElem_mem _
      obtain ⟨Ab, cb, hbv, -⟩ := (H4.out e hmem).1
      have hst := less_one id L j hjL
      rw [he] at hst
      have HST := Lib.hid hst
      have HBV := Lib.hid hbv
      have HMEM := Lib.hid hmem
      have g0 := hcell 0 (.int .i64 e.id) rfl
      have g1 := hcell 1 (.int .u8 e.m.pr) rfl
      have g2 := hcell 2 (.int .u32 e.m.ttl) rfl
      have g3 := hcell 3 (.int .u32 e.m.cnt) rfl
      have g4 := hcell 4 (.string ⟨e.m.ids.toArray⟩) rfl
      have g5 := hcell 5 (.slice Ab e.m.body.length cb) (by show some (bv e.id) = _; rw [hbv])
      have g6 := hcell 6 (.int .i64 e.tm) rfl
      have g7 := hcell 7 (.bool e.held) rfl
      simp only [← Nat.add_assoc, Nat.add_zero] at g0 g1 g2 g3 g4 g5 g6 g7
      clear hcell he hst hbv hmem
      by_cases hid : e.id = id
      · have HX := Lib.hid (show less [id] (L.take (j + 1)) = less [id] (L.take j) by rw [HST.out, if_pos hid, List.append_nil])
        have hid' : (e.id : Int) = id := by omega
        clear HST
        go_wp2_with fail
        go_roundw
        case rel => exact ⟨j + 1, by omega, by go_num, by rw [HX.out]; exact HO.out, HB.out⟩
        case measure => simp [intOf]; omega
      · have HX := Lib.hid (show less [id] (L.take (j + 1)) = less [id] (L.take j) ++ [e] by rw [HST.out, if_neg hid])
        have hid' : ¬ (e.id : Int) = id := by omega
        have HLN := Lib.hid (show (less [id] (L.take j)).length ≤ 64 by
          have h1 : (less [id] (L.take j)).length ≤ (L.take j).length := List.length_filter_le _ _
          rw [List.length_take] at h1
          omega)
        clear HST
        obtain ⟨i0, hi, hz0, hz1, hz2⟩ := info_parts Try.info_ritem
        go_wp2_with (at_builtin; refine wpList_appC _ rfl _ _ _ rfl w.heap.size i0 _ 80 Try.underlying61 hi hz0 hz1 hz2 rfl (by decide) (fun _ _ => trivial) u4 (less [id] (L.take j)).length (eits ((less [id] (L.take j)).map fun e => (e, bv e.id))) rfl ?own (some ⟨wr.heap.size, 0, none⟩) 1 1 (eit (e, bv e.id)) rfl ?rd ?hb ?h63 ?hbase ?_)
        case own => exact HO.out.alloc _
        case rd =>
          have : eit (e, bv e.id) = [.int .i64 e.id, .int .u8 e.m.pr, .int .u32 e.m.ttl, .int .u32 e.m.cnt, .string ⟨e.m.ids.toArray⟩, .slice Ab e.m.body.length cb, .int .i64 e.tm, .bool e.held] := by unfold eit ecs str; rw [HBV.out]
          rw [this]
          exact rdc_box [.int .i64 e.id, .int .u8 e.m.pr, .int .u32 e.m.ttl, .int .u32 e.m.cnt, .string ⟨e.m.ids.toArray⟩, .slice Ab e.m.body.length cb, .int .i64 e.tm, .bool e.held] 1 8 rfl (by simp [Value.oneCell']) (by decide)
        case hb => have := HLN.out; omega
        case h63 => have := HLN.out; omega
        case hbase => have := HB.out.size; simp; omega
        intro v1 w2 k1 k2 k3 k4
        have K1 := Lib.hid k1
        have K2 := Lib.hid (below_grown (HB.out.alloc HB.out.size _) (by have := HB.out.size; simp; omega) k2 (fun k hk => (HO.out.lt k hk).1))
        clear k1 k2 k3 k4
        go_wp2_with fail
        go_roundw
        case rel => exact ⟨j + 1, by omega, by go_num, by have := K1.out; rw [HX.out]; unfold eits at this ⊢; simpa [List.append_assoc, Nat.add_assoc] using this, K2.out⟩
        case measure => simp [intOf]; omega
    · obtain rfl : j = n := by omega
      obtain ⟨A', c', rfl, -⟩ := HO.out.rd
      have f2 : wr.frozen? ⟨r, 2, none⟩ = false := (H1.out.below HB.out).froz 2
      go_wp2_with fail
      have hv := HO.out
      rw [← HN.out, List.take_length] at hv
      have hb := HB.out
      rw [show List.take j L = L by rw [← HN.out, List.take_length]]
      obtain ⟨v, hvv⟩ : ∃ v, Value.slice A' (less [id] L).length c' = v := ⟨_, rfl⟩
      rw [hvv] at hv ⊢
      have hvr : ∀ k, v.ownBlock = some k → k ≠ r := fun k hk he => by have := (hv.lt k hk).1; have := H1.out.lt; omega
      have t1 : Tch [r] w (wr.setCell ⟨r, 2, none⟩ v) := (Tch.of_below _ hb).setCell _ (.inl (by simp))
      have hsz : (wr.setCell ⟨r, 2, none⟩ v).heap.size = wr.heap.size := by simp [World.setCell]
      refine bodyPost_end (results_none rfl _ _ _) rfl ⟨⟨_, rfl⟩, v.ownBlock.toList, fun k hk => ?_, ⟨⟨v, bv, (H1.out.below hb).set 2 _, OwnC.base (hv.tch (tch_set wr r 2 v) fun k hk hm => hvr k hk (by simpa using hm)) (Nat.zero_le _), fun k hk => by simp [hk], fun e he => ?_⟩, by simp [h5], H6.out.less [id]⟩, [r], t1, fun k hk => ?_⟩
      · have := hv.lt k (by simpa using hk)
        rw [hsz]; exact this
      · have he := mem_less_sub he
        exact ⟨(H4.out e he).1.tch t1 fun k hk => ⟨_, by simp only [List.mem_singleton] at hk; subst hk; exact H1.out, by simp⟩, fun k hk => by simp [(H4.out e he).2 k hk]⟩
      · simp only [List.mem_singleton] at hk
        subst hk
        exact ⟨h5, _, H1.out, by simp⟩

theorem filterMap_len {α β : Type} (f : α → Option β) : ∀ l : List α, (∀ x ∈ l, (f x).isSome = true) → (l.filterMap f).length = l.length
  | [], _ => rfl
  | x :: l, h => by
    have h1 := h x (by simp)
    cases hf : f x with
    | none => rw [hf] at h1; cases h1
    | some y => rw [List.filterMap_cons_some hf, List.length_cons, List.length_cons, filterMap_len f l fun z hz => h z (by simp [hz])]
theorem idx_len (L : List En) : (idxs L).length = (ordQ false L).length := by
  rw [← idx_ord, filterMap_len]
  intro i hi
  rw [List.getElem?_eq_getElem (idx_lt hi)]
  rfl
theorem rwait {w : World} {Z : List Nat} {r room limit last : Nat} {L : List En} (h : Rq w Z r room limit last L) :
    Calls Try.prog 36 #[.pointer (some ⟨r, 0, none⟩)] w fun e w' => ∃ v, e = .returned v ∧ OwnC 3 1 (fun _ => True) w' w.heap.size v (idxs L).length ((idxs L).map iv) ∧ Below w.heap.size w w' := by
  obtain ⟨⟨lv, bv, h1, h2, h3, h4⟩, h5, h6⟩ := h
  obtain ⟨A, c, rfl, hr⟩ := h2.rd
  have := wait_calls w r room limit last A L.length c (L.map fun e => (e, bv e.id)) h1 hr (by have := h6.len; have := h6.room2; omega) (by
    intro x hx
    obtain ⟨e, he, rfl⟩ := List.mem_map.1 hx
    exact (h6.ok e he).pr)
  rw [List.map_map, show ((fun x : En × Value => x.1) ∘ fun e => (e, bv e.id)) = id from rfl, List.map_id] at this
  exact this
set_option maxRecDepth 100000 in
set_option maxHeartbeats 1000000 in
theorem rlen_calls {w : World} {Z : List Nat} {r room limit last : Nat} {L : List En} (h : Rq w Z r room limit last L) :
    Calls Try.prog 23 #[.pointer (some ⟨r, 0, none⟩)] w fun e w' => e = .returned (.tuple #[.int .i64 (ordQ false L).length, .int .i64 (ordQ true L).length]) ∧ Below w.heap.size w w' := by
  have HW := Lib.hid (rwait h)
  obtain ⟨⟨lv, bv, h1, h2, h3, h4⟩, h5, h6⟩ := h
  obtain ⟨A, c, rfl, hr⟩ := h2.rd
  have hb := ord_both fun e he => (h6.ok e he).pr
  have hl := h6.len
  have hr2 := h6.room2
  have hi := idx_len L
  have H1 := Lib.hid h1
  clear h1 h2 h3 h4 h5 h6 hr
  obtain ⟨a, ha⟩ : ∃ a, (ordQ false L).length = a := ⟨_, rfl⟩
  obtain ⟨b, hb'⟩ : ∃ b, (ordQ true L).length = b := ⟨_, rfl⟩
  obtain ⟨n, hn⟩ : ∃ n, L.length = n := ⟨_, rfl⟩
  rw [ha] at hi hb
  rw [hb', hn] at hb
  rw [hn] at hl H1
  rw [ha, hb']
  have HI := Lib.hid hi
  clear ha hb' hn hi
  go_enter Try.func23, Try.ntmps23
  go_wp2_with fail
  refine HW.out.mono ?_
  rintro e w1 ⟨v, rfl, o1, b1⟩
  obtain ⟨A1, c1, rfl, -⟩ := o1.rd
  rw [HI.out]
  have c2 : w1.cell? ⟨r, 2, none⟩ = some (.slice A n c) := (H1.out.below b1).cell 2 _ rfl
  have B1 := Lib.hid b1
  clear o1 b1
  go_wp2_with fail
  go_quiet (fail)
  go_wp2_with fail
  refine bodyPost_ret (results_tt rfl rfl rfl) rfl ⟨?_, ?_⟩
  · rw [show (b : Int) = n - a by omega]; rfl
  · exact B1.out.trans ((below_drewN w1 nq).mono B1.out.size)
end Go.Proofs.Ytkoihcfdchcgdaa

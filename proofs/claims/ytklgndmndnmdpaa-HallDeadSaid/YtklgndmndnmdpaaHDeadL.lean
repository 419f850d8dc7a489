import Derived.Test.YtklgndmndnmdpaaHWorks
import Derived.Test.YtklgndmndnmdpaaHSame
import Derived.Test.YtklgndmndnmdpaaHeld
set_option linter.unusedVariables false
set_option linter.unusedSimpArgs false
namespace Go.Proofs.Ytklgndmndnmdpaa
open Go.RowKit Go.Shelf

/-- The configs: with a dead queue, or without; n: its room. -/
def dC (dd : List UInt8) (n : Nat) : List Cf := [⟨[97], 3, 2, dd⟩, ⟨[100], n, 0, []⟩]
def dM (i : Nat) : Mg := ⟨0, 0, 0, [], [UInt8.ofNat i]⟩
/-- So many messages ahead in the dead queue. -/
def dL (k : Nat) : List En := (List.range k).map fun i => ⟨i + 1, dM i, 0, false⟩
def dMsg : Mg := ⟨7, 50, 1, [105, 100], [98, 111, 100, 121]⟩
def dStale : Mg := ⟨7, 0, 0, [105, 100], [98, 111, 100, 121]⟩
theorem dM_arr (k : Nat) (hk : k < 256) : #[Value.int .u8 (k : Int)] = (u8s (dM k).body).toArray := by
  have h : (UInt8.ofNat k).toNat = k := by simp; omega
  unfold dM u8s
  simp only [List.map_cons, List.map_nil, u8, h]
theorem dL_len (k : Nat) : (dL k).length = k := by unfold dL; simp
theorem dL_succ (k : Nat) : dL (k + 1) = dL k ++ [⟨k + 1, dM k, 0, false⟩] := by unfold dL; rw [List.range_succ, List.map_append]; rfl
section
variable {dd : List UInt8} {n q0 q1 : Nat} {x0 : Qu}
theorem dAt_a : atC (dC dd n) [97] = some 0 := by kernel_rfl
theorem dAt_d : atC (dC dd n) [100] = some 1 := by kernel_rfl
theorem dAt_e : atC (dC dd n) [] = none := by kernel_rfl
theorem dCfg_a : (cfgAt (dC dd n) [97]).dead = dd := by unfold cfgAt; rw [dAt_a]; rfl
theorem dNew (hn : 1 ≤ n) (hn6 : n ≤ 6) (hd : dd = [] ∨ dd = [100]) : newH (dC dd n) = 0 := by
  unfold newH
  rw [if_neg (by unfold dC; simp), if_neg, if_pos, if_pos]
  · unfold dC
    simp only [List.all_cons, List.all_nil, Bool.and_true, Bool.and_eq_true]
    refine ⟨?_, rfl⟩
    rcases hd with rfl | rfl
    · rfl
    · kernel_rfl
  · show ([[97], [100]] : List (List UInt8)).Nodup
    decide
  · have h1 : okCf ⟨[97], 3, 2, dd⟩ = true := by kernel_rfl
    have h2 : okCf ⟨[100], n, 0, []⟩ = true := by
      unfold okCf
      exact decide_eq_true (show (1:Nat) ≤ 1 ∧ (1:Nat) ≤ 64 ∧ (1:Int) ≤ n ∧ (n:Int) ≤ 64 ∧ (0:Int) ≤ 0 ∧ (0:Int) ≤ 1000 from by omega)
    unfold dC
    simp [h1, h2]
theorem d_put (k : Nat) (hk : k < n) : hputR (dC dd n) [x0, ⟨q1, n, 0, k, dL k⟩] [100] (dM k) 0 = ([x0, ⟨q1, n, 0, k + 1, dL (k + 1)⟩], 0) := by
  unfold hputR
  rw [dAt_d]
  simp only [Option.bind_some, List.getElem?_cons_succ, List.getElem?_cons_zero, Option.map_some]
  have hp : putQ n k (dL k) (dM k) 0 = ((k + 1, dL k ++ [newE k (dM k) 0]), 0) := by
    unfold putQ
    rw [if_neg (by simp [okMg, dM]), if_neg (by rw [dL_len]; omega)]
  rw [hp, dL_succ]
  rfl
theorem d_putm (x1 : Qu) : hputR (dC dd n) [⟨q0, 3, 2, 0, []⟩, x1] [97] dMsg 10 = ([⟨q0, 3, 2, 1, [⟨1, dMsg, 10, false⟩]⟩, x1], 0) := by
  unfold hputR
  rw [dAt_a]
  rfl
theorem d_acq (x1 : Qu) : hacqR (dC dd n) [⟨q0, 3, 2, 1, [⟨1, dMsg, 10, false⟩]⟩, x1] [97] 20 = ([⟨q0, 3, 2, 1, [⟨1, dMsg, 10, true⟩]⟩, x1], some ⟨1, dMsg, 10, false⟩) := by
  unfold hacqR
  rw [dAt_a]
  rfl
/-- The end: the message went to the dead queue, or is lost. -/
def dEnd (dd : List UInt8) (n q0 q1 full : Nat) (now : Int) : List Qu × Nat :=
  if dd = [] ∨ full = n then ([⟨q0, 3, 2, 1, []⟩, ⟨q1, n, 0, full, dL full⟩], 1) else ([⟨q0, 3, 2, 1, []⟩, ⟨q1, n, 0, full + 1, dL full ++ [⟨full + 1, dStale, mom now, false⟩]⟩], 0)
theorem d_bury (full : Nat) (hd : dd = [] ∨ dd = [100]) (m : Mg) (hm : stale m = dStale) (now : Int) : hburyR (dC dd n) [⟨q0, 3, 2, 1, []⟩, ⟨q1, n, 0, full, dL full⟩] 0 [97] m now = dEnd dd n q0 q1 full now := by
  unfold hburyR dEnd
  rw [dCfg_a, hm]
  rcases hd with rfl | rfl
  · have h : hputR (dC [] n) [⟨q0, 3, 2, 1, []⟩, ⟨q1, n, 0, full, dL full⟩] [] dStale now = ([⟨q0, 3, 2, 1, []⟩, ⟨q1, n, 0, full, dL full⟩], 5) := by unfold hputR; rw [dAt_e]; rfl
    rw [h, if_neg (show ¬ (5:Nat) = 0 by decide), if_pos (.inl rfl)]
  · by_cases hf : full = n
    · have h : hputR (dC [100] n) [⟨q0, 3, 2, 1, []⟩, ⟨q1, n, 0, full, dL full⟩] [100] dStale now = ([⟨q0, 3, 2, 1, []⟩, ⟨q1, n, 0, full, dL full⟩], 4) := by
        unfold hputR
        rw [dAt_d]
        simp only [Option.bind_some, List.getElem?_cons_succ, List.getElem?_cons_zero, Option.map_some]
        have hp : putQ n full (dL full) dStale now = ((full, dL full), 4) := by
          unfold putQ
          rw [if_neg (by simp [okMg, dStale]), if_pos (by rw [dL_len]; exact hf)]
        rw [hp]
        rfl
      rw [h, if_neg (show ¬ (4:Nat) = 0 by decide), if_pos (.inr hf)]
    · have h : hputR (dC [100] n) [⟨q0, 3, 2, 1, []⟩, ⟨q1, n, 0, full, dL full⟩] [100] dStale now = ([⟨q0, 3, 2, 1, []⟩, ⟨q1, n, 0, full + 1, dL full ++ [⟨full + 1, dStale, mom now, false⟩]⟩], 0) := by
        unfold hputR
        rw [dAt_d]
        simp only [Option.bind_some, List.getElem?_cons_succ, List.getElem?_cons_zero, Option.map_some]
        have hp : putQ n full (dL full) dStale now = ((full + 1, dL full ++ [newE full dStale now]), 0) := by
          unfold putQ
          rw [if_neg (by simp [okMg, dStale]), if_neg (by rw [dL_len]; exact hf)]
        rw [hp]
        rfl
      rw [h, if_pos rfl, if_neg (by simp [hf])]
theorem d_set (full : Nat) (hd : dd = [] ∨ dd = [100]) (o : Oc) (ho : o = ⟨3, 0, 0, []⟩ ∨ o = ⟨5, 0, 1, []⟩ ∨ o = ⟨5, 1, 0, []⟩) : hsetR (dC dd n) [⟨q0, 3, 2, 1, [⟨1, dMsg, 10, true⟩]⟩, ⟨q1, n, 0, full, dL full⟩] 0 [97] 1 o 21 = (dEnd dd n q0 q1 full 21, 0) := by
  have hs : ∃ m, stale m = dStale ∧ setQ 2 [⟨1, dMsg, 10, true⟩] 1 o = ([], 0, some ⟨1, m, 10, true⟩) := by
    rcases ho with rfl | rfl | rfl
    · exact ⟨dMsg, rfl, by kernel_rfl⟩
    · exact ⟨dMsg, rfl, by kernel_rfl⟩
    · exact ⟨{ dMsg with cnt := 2 }, rfl, by kernel_rfl⟩
  obtain ⟨m, hm, hs⟩ := hs
  unfold hsetR
  rw [dAt_a]
  simp only [Option.bind_some, List.getElem?_cons_zero, Option.map_some, hs]
  rw [← d_bury (n := n) (q0 := q0) (q1 := q1) full hd m hm 21]
  rfl
theorem exp_no {L : List En} (h : ∀ e ∈ L, e.m.ttl = 0) (now : Int) : expL L now = [] ∧ expQ L now = L := by
  have h1 : expL L now = [] := by
    unfold expL
    rw [List.filter_eq_nil_iff]
    intro e he
    have := h e (mem_ord he).1
    simp [oldE, this]
  exact ⟨h1, by unfold expQ; rw [h1]; exact less_nil L⟩
theorem dL_ttl (k : Nat) : ∀ e ∈ dL k, e.m.ttl = 0 := fun e he => by
  obtain ⟨i, _, rfl⟩ := List.mem_map.1 he
  rfl
theorem tick1_no {now : Int} {C : List Cf} {Qs : List Qu} {lost i : Nat} {x : Qu} (hx : Qs[i]? = some x) (h1 : expL x.L now = []) (h2 : expQ x.L now = x.L) (name : List UInt8) : htick1R C Qs lost i name now = (Qs, lost) := by
  unfold htick1R
  rw [hx]
  simp only [h1, h2]
  obtain ⟨hi, rfl⟩ := List.getElem?_eq_some_iff.1 hx
  show (Qs.set i Qs[i], lost) = _
  rw [List.set_getElem_self]
theorem d_tick59 (full : Nat) : htickL (dC dd n) ([⟨q0, 3, 2, 1, [⟨1, dMsg, 10, false⟩]⟩, ⟨q1, n, 0, full, dL full⟩], 0) 59 (dC dd n).length = ([⟨q0, 3, 2, 1, [⟨1, dMsg, 10, false⟩]⟩, ⟨q1, n, 0, full, dL full⟩], 0) := by
  have h0 : htickL (dC dd n) ([⟨q0, 3, 2, 1, [⟨1, dMsg, 10, false⟩]⟩, ⟨q1, n, 0, full, dL full⟩], 0) 59 (dC dd n).length = htick1R (dC dd n) (htick1R (dC dd n) [⟨q0, 3, 2, 1, [⟨1, dMsg, 10, false⟩]⟩, ⟨q1, n, 0, full, dL full⟩] 0 0 [97] 59).1 (htick1R (dC dd n) [⟨q0, 3, 2, 1, [⟨1, dMsg, 10, false⟩]⟩, ⟨q1, n, 0, full, dL full⟩] 0 0 [97] 59).2 1 [100] 59 := rfl
  have h1 := tick1_no (now := 59) (C := dC dd n) (Qs := [⟨q0, 3, 2, 1, [⟨1, dMsg, 10, false⟩]⟩, ⟨q1, n, 0, full, dL full⟩]) (lost := 0) (i := 0) (x := ⟨q0, 3, 2, 1, [⟨1, dMsg, 10, false⟩]⟩) rfl (by kernel_rfl) (by kernel_rfl) [97]
  rw [h0, h1]
  exact tick1_no (x := ⟨q1, n, 0, full, dL full⟩) rfl (exp_no (dL_ttl full) 59).1 (exp_no (dL_ttl full) 59).2 _
theorem d_tick60 (full : Nat) (hd : dd = [] ∨ dd = [100]) : htickL (dC dd n) ([⟨q0, 3, 2, 1, [⟨1, dMsg, 10, false⟩]⟩, ⟨q1, n, 0, full, dL full⟩], 0) 60 (dC dd n).length = dEnd dd n q0 q1 full 60 := by
  have h1 : htick1R (dC dd n) [⟨q0, 3, 2, 1, [⟨1, dMsg, 10, false⟩]⟩, ⟨q1, n, 0, full, dL full⟩] 0 0 [97] 60 = dEnd dd n q0 q1 full 60 := by
    rw [← d_bury full hd dMsg rfl 60]
    unfold htick1R
    simp only [List.getElem?_cons_zero]
    rw [show expL [⟨1, dMsg, 10, false⟩] 60 = [⟨1, dMsg, 10, false⟩] from by kernel_rfl, show expQ [⟨1, dMsg, 10, false⟩] 60 = [] from by kernel_rfl]
    rfl
  have h0 : htickL (dC dd n) ([⟨q0, 3, 2, 1, [⟨1, dMsg, 10, false⟩]⟩, ⟨q1, n, 0, full, dL full⟩], 0) 60 (dC dd n).length = htick1R (dC dd n) (htick1R (dC dd n) [⟨q0, 3, 2, 1, [⟨1, dMsg, 10, false⟩]⟩, ⟨q1, n, 0, full, dL full⟩] 0 0 [97] 60).1 (htick1R (dC dd n) [⟨q0, 3, 2, 1, [⟨1, dMsg, 10, false⟩]⟩, ⟨q1, n, 0, full, dL full⟩] 0 0 [97] 60).2 1 [100] 60 := rfl
  rw [h0, h1]
  have h2 : ∃ x, (dEnd dd n q0 q1 full 60).1[1]? = some x ∧ ∀ e ∈ x.L, e.m.ttl = 0 := by
    unfold dEnd
    split
    · exact ⟨_, rfl, dL_ttl full⟩
    · refine ⟨_, rfl, fun e he => ?_⟩
      rcases List.mem_append.1 he with he | he
      · exact dL_ttl full e he
      · simp at he; subst he; rfl
  obtain ⟨x, hx, ht⟩ := h2
  exact tick1_no hx (exp_no ht 60).1 (exp_no ht 60).2 _
end
theorem d_row (k p : Nat) : ask false (rowp (dL k) p) = if p = 0 then dL k else [] := by
  unfold ask rowp
  by_cases hp : p = 0
  · rw [if_pos hp, List.filter_filter, List.filter_eq_self]
    intro e he
    obtain ⟨i, _, rfl⟩ := List.mem_map.1 he
    simp [dM, hp]
  · rw [if_neg hp, List.filter_filter, List.filter_eq_nil_iff]
    intro e he
    obtain ⟨i, _, rfl⟩ := List.mem_map.1 he
    simp [dM, Ne.symm hp]
theorem d_order (k : Nat) : ordQ false (dL k) = dL k := by
  unfold ordQ prs
  simp [d_row]
theorem d_order7 (k : Nat) (e : En) (he : e.m.pr = 7) (hh : e.held = false) : ordQ false (dL k ++ [e]) = e :: dL k := by
  have h1 : ∀ p, ask false (rowp [e] p) = if p = 7 then [e] else [] := fun p => by
    by_cases hp : p = 7
    · subst hp; simp [ask, rowp, he, hh]
    · simp [ask, rowp, he, Ne.symm hp, hp]
  have h : ∀ p, ask false (rowp (dL k ++ [e]) p) = (if p = 0 then dL k else []) ++ if p = 7 then [e] else [] := fun p => by
    rw [← d_row k p, ← h1 p]
    unfold ask rowp
    rw [List.filter_append, List.filter_append]
  unfold ordQ prs
  simp [h]
theorem rdc_bx {W : World} {b : Nat} {t : TypeId} {cs : List Value} (h : Bx W b t cs) (n sz : Nat) (hl : cs.length = n * sz) (ho : ∀ u ∈ cs, u.oneCell' = true) (hn : n ≤ 9223372036854775807) : RdC sz W (some ⟨b, 0, none⟩) n n cs :=
  ⟨hl, Nat.le_refl _, hn, fun e => (by cases e), ho, fun ad ha j u hj => by
    cases ha
    rw [plain_add, Nat.zero_add]
    exact h.cell j u hj⟩
theorem cfs_one' (c : Cf) : ∀ u ∈ cfs c, u.oneCell' = true := by
  intro u hu
  simp only [cfs, List.mem_cons, List.not_mem_nil, or_false] at hu
  rcases hu with rfl | rfl | rfl | rfl <;> rfl
theorem dC_arr (dd : List UInt8) (n : Nat) : ((dC dd n).flatMap cfs).toArray = #[.string ⟨#[97]⟩, .int .i64 3, .int .i64 2, .string ⟨dd.toArray⟩, .string ⟨#[100]⟩, .int .i64 n, .int .i64 0, .string ⟨#[]⟩] := by
  unfold dC cfs str
  rfl
theorem d_wf (dd : List UInt8) {n : Nat} (hn : n ≤ 6) : ∀ x ∈ dC dd n, (Lit.int .i64 x.room).wf = true ∧ (Lit.int .i64 x.limit).wf = true := by
  intro x hx
  unfold dC at hx
  simp only [List.mem_cons, List.not_mem_nil, or_false] at hx
  rcases hx with rfl | rfl
  · exact ⟨show (Lit.int .i64 3).wf = true by decide, show (Lit.int .i64 2).wf = true by decide⟩
  · refine ⟨?_, show (Lit.int .i64 0).wf = true by decide⟩
    simp only [Lit.wf, Bool.and_eq_true, decide_eq_true_eq, show IntKind.i64.min = -9223372036854775808 from rfl, show IntKind.i64.max = 9223372036854775807 from rfl]
    omega
theorem d_nd (dd : List UInt8) (n : Nat) : ((dC dd n).map (·.name)).Nodup := by
  show ([[97], [100]] : List (List UInt8)).Nodup
  decide
theorem d_start {w0 w : World} {G : List Nat} {h lost : Nat} {dd : List UInt8} {n : Nat} {Qs : List Qu} (hf : HF w0 w G h (dC dd n) Qs lost) (hn : ∀ x ∈ Qs, x.last = 0 ∧ x.L = []) : ∃ q0 q1, Qs = [⟨q0, 3, 2, 0, []⟩, ⟨q1, n, 0, 0, dL 0⟩] := by
  obtain ⟨qs, hql, rfl⟩ := startQ_of hf hn
  match qs, hql with
  | [a, b], _ =>
    refine ⟨a, b, ?_⟩
    unfold startQ dC dL
    simp
end Go.Proofs.Ytklgndmndnmdpaa

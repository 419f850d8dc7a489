import Derived.Test.YtklgndmndnmdpaaQLen
set_option linter.unusedVariables false
set_option linter.unusedSimpArgs false
namespace Go.Proofs.Ytklgndmndnmdpaa
open Go.RowKit

/-- A moment that may be. -/
def mom (now : Int) : Nat := (min (max now 0) 2305843009213693952).toNat
theorem mom_le (now : Int) : mom now ≤ 2305843009213693952 := by unfold mom; omega
/-- Whether an entry is old. -/
def oldE (e : En) (now : Int) : Bool := decide (e.m.ttl ≠ 0 ∧ e.tm + e.m.ttl ≤ mom now)

theorem mom_calls (now : Int) (w : World) : Calls Try.prog 71 #[.int .i64 now] w fun e w' => e = .returned (.int .i64 (mom now : Nat)) ∧ w = w' := by
  by_cases h1 : now < 0
  · have hm : ((mom now : Nat) : Int) = 0 := by unfold mom; omega
    rw [hm]
    go_enter Try.func71, Try.ntmps71
    go_wp2_with fail
    go_ret
    exact ⟨rfl, rfl⟩
  · by_cases h2 : 2305843009213693952 < now
    · have hm : ((mom now : Nat) : Int) = 2305843009213693952 := by unfold mom; omega
      rw [hm]
      go_enter Try.func71, Try.ntmps71
      go_wp2_with fail
      go_ret
      exact ⟨rfl, rfl⟩
    · have hm : ((mom now : Nat) : Int) = now := by unfold mom; omega
      rw [hm]
      go_enter Try.func71, Try.ntmps71
      go_wp2_with fail
      go_ret
      exact ⟨rfl, rfl⟩

set_option maxRecDepth 100000 in
set_option maxHeartbeats 1000000 in
theorem old_calls {w : World} {b : Nat} {e : En} {bv : Value} (h : Bx w b 145 (ecs e bv)) (hm : WfM e.m) (ht : e.tm ≤ 2305843009213693952) (now : Int) :
    Calls Try.prog 73 #[.pointer (some ⟨b, 0, none⟩), .int .i64 now] w fun r w' => r = .returned (.bool (oldE e now)) ∧ Below w.heap.size w w' := by
  have c2 := h.cell 2 _ rfl
  have c6 := h.cell 6 _ rfl
  have hT := hm.ttl
  obtain ⟨T, hTe⟩ : ∃ T, e.m.ttl = T := ⟨_, rfl⟩
  obtain ⟨A, hA⟩ : ∃ A, e.tm = A := ⟨_, rfl⟩
  have hO := Lib.hid (show oldE e now = decide (T ≠ 0 ∧ A + T ≤ mom now) by unfold oldE; rw [hTe, hA])
  have hq := mom_le now
  rw [hTe] at c2 hT
  rw [hA] at c6 ht
  clear h hm hTe hA
  obtain ⟨M, hM⟩ : ∃ M, mom now = M := ⟨_, rfl⟩
  rw [hM] at hq hO
  have HM := Lib.hid hM
  clear hM
  by_cases hz : T = 0
  · subst hz
    go_enter Try.func73, Try.ntmps73
    go_wp2_with fail
    go_quiet (fail)
    go_wp2_with fail
    go_ret
    refine ⟨?_, below_drewN w nq⟩
    rw [hO.out]; simp
  · have hz1 : ((T : Int) == 0) = false := by simp [hz]
    have hz2 : ((T : Int) != 0) = true := by simp [hz]
    have hz3 : ¬ (T : Int) = 0 := by omega
    have HC : ∀ n, Calls Try.prog 71 #[.int .i64 now] (w.drewN n) fun e w' => e = .returned (.int .i64 (M : Nat)) ∧ w' = w.drewN n := fun n => (mom_calls now (w.drewN n)).mono fun r w' ⟨h1, h2⟩ => ⟨by rw [h1, HM.out], h2.symm⟩
    have HCC := Lib.hid HC
    clear HC HM
    go_enter Try.func73, Try.ntmps73
    go_wp2_with fail
    go_quiet ((go_at_call 71; exact Calls.quiet_of_same (HCC.out _)))
    go_wp2_with fail
    go_ret
    refine ⟨?_, below_drewN w nq⟩
    rw [hO.out]
    show Ending.returned (.bool (decide ((A : Int) + T ≤ M))) = _
    congr 2
    rw [decide_eq_decide]
    omega

theorem clone_n {A : Option Addr} {n c : Nat} {l : List UInt8} {w : World} (h : Rd w A c l) (hn : l.length = n) (hb : n ≤ 140737488351232) :
    Calls Try.prog 83 #[.slice A n c] w fun e w' => ∃ v, e = .returned v ∧ OwnB w' w.heap.size v l ∧ Below w.heap.size w w' ∧ (v = .slice none 0 0 ↔ A = none) := by
  subst hn; exact clone_calls A c l w h hb
/-- A message as a value. -/
def mgv (m : Mg) (bv : Value) : Value := .agg #[.int .u8 m.pr, .int .u32 m.ttl, .int .u32 m.cnt, str m.ids, bv]

set_option maxRecDepth 100000 in
set_option maxHeartbeats 1000000 in
theorem qclone_calls {w : World} (m : Mg) (A : Option Addr) (c n : Nat) (hn : m.body.length = n) (h : Rd w A c m.body) (hb : n ≤ 1000000) :
    Calls Try.prog 70 #[mgv m (.slice A n c)] w fun e w' => ∃ v, e = .returned (mgv m v) ∧ OwnB w' w.heap.size v m.body ∧ Below w.heap.size w w' := by
  have HR := Lib.hid h
  have HN := Lib.hid hn
  unfold mgv
  obtain ⟨P, hP⟩ : ∃ P : Nat, m.pr = P := ⟨_, rfl⟩
  obtain ⟨T, hT⟩ : ∃ T : Nat, m.ttl = T := ⟨_, rfl⟩
  obtain ⟨C, hC⟩ : ∃ C : Nat, m.cnt = C := ⟨_, rfl⟩
  obtain ⟨I, hI⟩ : ∃ I, m.ids = I := ⟨_, rfl⟩
  rw [hP, hT, hC, hI]
  unfold str
  clear hP hT hC hI h hn
  go_enter Try.func70, Try.ntmps70
  go_wp2_with fail
  refine (clone_n (HR.out.below (((Below.refl _ _).alloc (Nat.le_refl _) _).alloc (by simp) _)) HN.out (by omega)).mono ?_
  rintro e w1 ⟨v, rfl, h1, h2, -⟩
  obtain ⟨A', c', rfl, -⟩ := h1.rd
  have H1 := Lib.hid h1
  have H2 := Lib.hid h2
  clear h1 h2
  have K1 := Lib.hid (((Bx.new w 41 [_, _, _, _, _]).alloc _).below H2.out)
  have K2 := Lib.hid ((Bx.new' (w.alloc _) (b := w.heap.size + 1) 41 [_, _, _, _, _] (by simp)).below H2.out)
  have d0 := K1.out.cell 0 _ rfl
  have d1 := K1.out.cell 1 _ rfl
  have d2 := K1.out.cell 2 _ rfl
  have d3 := K1.out.cell 3 _ rfl
  have d4 := K1.out.cell 4 _ rfl
  have f4 := K1.out.froz 4
  have e0 := K2.out.cell 0 _ rfl
  have e1 := K2.out.cell 1 _ rfl
  have e2 := K2.out.cell 2 _ rfl
  have e3 := K2.out.cell 3 _ rfl
  have e4 := K2.out.cell 4 _ rfl
  have g0 := K2.out.froz 0
  have g1 := K2.out.froz 1
  have g2 := K2.out.froz 2
  have g3 := K2.out.froz 3
  have g4 := K2.out.froz 4
  go_wp2_with fail
  refine forgetX (fun W => Bx W (w.heap.size + 1) 41 [.int .u8 P, .int .u32 T, .int .u32 C, .string ⟨I.toArray⟩, .slice A' m.body.length c'] ∧ Tch [w.heap.size, w.heap.size + 1] w1 W) ⟨?_, ?_⟩ ?_
  · (with_reducible refine Bx.to ((((((K2.out.off (g := w.heap.size) (by omega)).set 0 _).set 1 _).set 2 _).set 3 _).set 4 _) ?_); rfl
  · with_reducible repeat first | exact Tch.refl _ _ | refine Tch.setCell ?_ _ (.inl (by simp))
  rintro W ⟨hB, hT⟩
  refine bodyPost_ret (results_c rfl rfl (hB.loadAgg (by kernel_rfl) (by kernel_rfl))) rfl ?_
  refine ⟨_, rfl, ?_, ?_⟩
  · have h1 := H1.out
    simp only [World.size_alloc] at h1
    exact OwnC.base (OwnC.tch h1 hT fun k hk hm => by have := (h1.lt k hk).1; simp at hm; omega) (by omega)
  · have h2 := H2.out
    simp only [World.size_alloc] at h2
    have h3 : Below w.heap.size w w1 := ((below_alloc w _).alloc (by simp) _).trans (h2.mono (by omega))
    exact h3.trans (hT.below (h3.size) (by simp))
end Go.Proofs.Ytklgndmndnmdpaa

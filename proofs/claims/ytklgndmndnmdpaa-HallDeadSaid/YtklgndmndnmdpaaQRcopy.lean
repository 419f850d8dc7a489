import Derived.Test.YtklgndmndnmdpaaQOwn
set_option linter.unusedVariables false
set_option linter.unusedSimpArgs false
namespace Go.Proofs.Ytklgndmndnmdpaa
open Go.RowKit Go.Shelf

theorem copy_n {A : Option Addr} {n c : Nat} {l : List UInt8} {w : World} (h : Rd w A c l) (hn : l.length = n) (hb : n ≤ 20000) :
    Calls Try.prog 60 #[.slice A n c] w fun e w' => ∃ v, e = .returned v ∧ OwnB w' w.heap.size v l ∧ Below w.heap.size w w' := by
  subst hn; exact copy_calls A c l w h hb
set_option maxRecDepth 100000 in
set_option maxHeartbeats 1000000 in
theorem rcopy_calls {w : World} (m : Mg) (A : Option Addr) (c n : Nat) (hn : m.body.length = n) (h : Rd w A c m.body) (hb : n ≤ 20000) :
    Calls Try.prog 31 #[mgv m (.slice A n c)] w fun e w' => ∃ v, e = .returned (mgv m v) ∧ OwnB w' w.heap.size v m.body ∧ Below w.heap.size w w' := by
  have HR := Lib.hid h
  have HN := Lib.hid hn
  unfold mgv
  obtain ⟨P, hP⟩ : ∃ P : Nat, m.pr = P := ⟨_, rfl⟩
  obtain ⟨T, hT⟩ : ∃ T : Nat, m.ttl = T := ⟨_, rfl⟩
  obtain ⟨C, hC⟩ : ∃ C : Nat, m.cnt = C := ⟨_, rfl⟩
  obtain ⟨I, hI⟩ : ∃ I, m.ids = I := ⟨_, rfl⟩
  rw [hP, hT, hC, hI]
  unfold str
  clear hP hT hC hI h hn
  go_enter Try.func31, Try.ntmps31
  go_wp2_with fail
  refine (copy_n (HR.out.below (((Below.refl _ _).alloc (Nat.le_refl _) _).alloc (by simp) _)) HN.out (by omega)).mono ?_
  rintro e w1 ⟨v, rfl, h1, h2⟩
  obtain ⟨A', c', rfl, -⟩ := h1.rd
  have H1 := Lib.hid h1
  have H2 := Lib.hid h2
  clear h1 h2
  have K1 := Lib.hid (((Bx.new w 41 [_, _, _, _, _]).alloc _).below H2.out)
  have K2 := Lib.hid ((Bx.new' (w.alloc _) (b := w.heap.size + 1) 41 [_, _, _, _, _] (by simp)).below H2.out)
  have d0 := K1.out.cell 0 _ rfl
  have d1 := K1.out.cell 1 _ rfl
  have d2 := K1.out.cell 2 _ rfl
  have d3 := K1.out.cell 3 _ rfl
  have d4 := K1.out.cell 4 _ rfl
  have f4 := K1.out.froz 4
  have e0 := K2.out.cell 0 _ rfl
  have e1 := K2.out.cell 1 _ rfl
  have e2 := K2.out.cell 2 _ rfl
  have e3 := K2.out.cell 3 _ rfl
  have e4 := K2.out.cell 4 _ rfl
  have g0 := K2.out.froz 0
  have g1 := K2.out.froz 1
  have g2 := K2.out.froz 2
  have g3 := K2.out.froz 3
  have g4 := K2.out.froz 4
  go_wp2_with fail
  refine forgetX (fun W => Bx W (w.heap.size + 1) 41 [.int .u8 P, .int .u32 T, .int .u32 C, .string ⟨I.toArray⟩, .slice A' m.body.length c'] ∧ Tch [w.heap.size, w.heap.size + 1] w1 W) ⟨?_, ?_⟩ ?_
  · (with_reducible refine Bx.to ((((((K2.out.off (g := w.heap.size) (by omega)).set 0 _).set 1 _).set 2 _).set 3 _).set 4 _) ?_); rfl
  · with_reducible repeat first | exact Tch.refl _ _ | refine Tch.setCell ?_ _ (.inl (by simp))
  rintro W ⟨hB, hT⟩
  refine bodyPost_ret (results_c rfl rfl (hB.loadAgg (by kernel_rfl) (by kernel_rfl))) rfl ?_
  refine ⟨_, rfl, ?_, ?_⟩
  · have h1 := H1.out
    simp only [World.size_alloc] at h1
    exact OwnC.base (OwnC.tch h1 hT fun k hk hm => by have := (h1.lt k hk).1; simp at hm; omega) (by omega)
  · have h2 := H2.out
    simp only [World.size_alloc] at h2
    have h3 : Below w.heap.size w w1 := ((below_alloc w _).alloc (by simp) _).trans (h2.mono (by omega))
    exact h3.trans (hT.below (h3.size) (by simp))
end Go.Proofs.Ytklgndmndnmdpaa

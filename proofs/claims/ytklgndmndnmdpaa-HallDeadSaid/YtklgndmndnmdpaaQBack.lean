import Derived.Test.YtklgndmndnmdpaaQLaw
set_option linter.unusedVariables false
set_option linter.unusedSimpArgs false
namespace Go.Proofs.Ytklgndmndnmdpaa
open Go.RowKit Go.Shelf
attribute [local go_sem] Oper.semAt_some

/-- Rows of a slice that are not yet come to. -/
structure BkR (len cap Bs b off : Nat) (hv : Nat → Value) (pre : List Nat) (W : World) : Prop where
  box : W.cell? ⟨Bs, 0, none⟩ = some (.slice (some ⟨b, off, none⟩) len cap)
  rows : ∀ i, i + pre.length < len → W.cell? ⟨b, off + i, none⟩ = some (hv i)

set_option maxRecDepth 100000 in
set_option maxHeartbeats 2000000 in
/-- slices.Backward's closure. -/
theorem back_sq (F : Fence) (hd : F.depth = none) (h1 : F.fn 86) (hro : F.round = none) (Bs b off len cap : Nat) (hv : Nat → Value) (hlen : len ≤ 1000) (w : World) :
    SqZ F Try.prog 86 #[.pointer (some ⟨Bs, 0, none⟩)] (fun i : Nat => #[.int .i64 i, hv i]) (BkR len cap Bs b off hv) (fun pre i => i + pre.length + 1 = len) (fun xs => xs.length = len) w := by
  intro n l J Jx W hb hJ hJx hR hY h0
  have hbox := (hR _ _ _ h0).box
  have hdd : ∀ k : Nat, (F.depth.isSome = true → 1 ≤ k) := fun k h => by rw [hd] at h; cases h
  refine callsIn_of_wp Try.func86 rfl h1 ?_ hro
  simp only [Try.ntmps86, List.size_toArray, List.length_cons, List.length_nil, Nat.reduceAdd, Nat.reduceSub, Array.replicate_succ, Array.replicate_zero, List.push_toArray, List.append_toArray, List.nil_append, List.cons_append]
  gi_wp2
  gi_loopw [3] (fun p wr => ∃ (pre : List Nat) (z : Int), p = .int .i64 z ∧ -1 ≤ z ∧ z + pre.length + 1 = len ∧ J pre [] wr) (fun p _ => (intOf p + 1).toNat)
  case atStart => exact ⟨[], (len : Int) - 1, by first | rfl | go_num, by omega, by simp, h0⟩
  case round =>
    obtain ⟨pre, z, rfl, hz1, hz, hJs⟩ := hrel
    have hbx := (hR _ _ _ hJs).box
    by_cases hneg : z < 0
    · gi_wp2
      go_end0
      exact ⟨⟨_, rfl⟩, .inl ⟨pre, by omega, hJs⟩⟩
    · obtain ⟨i, rfl⟩ : ∃ i : Nat, z = (i : Int) := ⟨z.toNat, by omega⟩
      have hi : i + pre.length + 1 = len := by omega
      have hcx := (hR _ _ _ hJs).rows i (by omega)
      have hi2 : (i : Int) < len := by omega
      obtain ⟨fn, tmps, assign, body, hy, hRd⟩ := hY (n - 1) pre i [] wr hJs hi
      gi_wp2_with ((try refine ⟨hdd _, ?_⟩); refine hRd.mono ?_; clear hRd; rintro e W3 ⟨hkf, ⟨rfl, hJ3⟩ | ⟨rfl, hJx3⟩⟩)
      · exact ⟨⟨pre ++ [i], (i : Int) - 1, rfl, by omega, by simp; omega, hJ3⟩, by first | (simp [intOf]; done) | (simp [intOf]; omega)⟩
      · refine bodyPost_ret (results_none rfl _ _ _) rfl ?_
        exact ⟨⟨_, rfl⟩, .inr ⟨_, hJx3⟩⟩
end Go.Proofs.Ytklgndmndnmdpaa

import Derived.Test.YtgmoodcojpbbdaaSettle
set_option linter.unusedVariables false
set_option linter.unusedSimpArgs false
namespace Go.Proofs.Ytgmoodcojpbbdaa
open Go.RowKit

/-- A mark's five cells. -/
def mc (p : List UInt8 × Outc) : List Value := str p.1 :: ocs p.2
def mcs (ms : Ms) : List Value := ms.flatMap mc
theorem mcs_snoc (ms : Ms) (p : List UInt8 × Outc) : mcs (ms ++ [p]) = mcs ms ++ mc p := by simp [mcs]
theorem mcs_length (ms : Ms) : (mcs ms).length = ms.length * 5 := by
  induction ms with
  | nil => rfl
  | cons p ms ih =>
    have : mcs (p :: ms) = mc p ++ mcs ms := rfl
    rw [this, List.length_append, ih, List.length_cons]
    simp [mc, ocs]
    omega
theorem mc_one (p : List UInt8 × Outc) : ∀ u ∈ mc p, u.oneCell' = true := by
  intro u hu
  simp only [mc, List.mem_cons] at hu
  rcases hu with rfl | hu
  · rfl
  · exact ov_one p.2 u hu
theorem mcs_at (ms : Ms) (i : Nat) (hi : i < ms.length) (j : Nat) (hj : j < 5) : (mcs ms)[i * 5 + j]? = (mc ms[i])[j]? := by
  induction ms generalizing i with
  | nil => simp at hi
  | cons p ms ih =>
    have h0 : mcs (p :: ms) = mc p ++ mcs ms := rfl
    have hl : (mc p).length = 5 := by simp [mc, ocs]
    rw [h0]
    cases i with
    | zero => rw [List.getElem?_append_left (by omega)]; simp
    | succ i =>
      rw [List.getElem?_append_right (by omega), hl, show (i + 1) * 5 + j - 5 = i * 5 + j by omega, ih i (by simpa using hi)]
      rfl
theorem Try.info_mark : (Try.prog.info? 47).map (fun i => (i.zero, i.size, i.bytes)) = some (some (.agg #[.string ⟨#[]⟩, .int .u8 0, .int .u64 0, .int .u64 0, .string ⟨#[]⟩]), 5, 56) := by kernel_rfl

theorem Mk.tags {w : World} {a : Nat} {F : List Nat} {ms : Ms} (h : Mk w a F ms) : ∃ A c, w.cell? ⟨a, 1, none⟩ = some (.slice A ms.length c) ∧ RdC 1 w A ms.length c ((ms.map (·.1)).map str) := by
  obtain ⟨⟨r, tv, D, h1, h2, h3, h4, h5, h6⟩, hm, hn, _⟩ := h
  obtain ⟨A, c, rfl, hr⟩ := h4.rd
  refine ⟨A, c, cell_of_heap (l := [.map (some r), .slice A ms.length c]) h1 1 _ rfl, ?_⟩
  rw [List.map_map]
  exact hr
/-- A mark's state, looked up. -/
theorem Mk.state {w : World} {a : Nat} {F : List Nat} {ms : Ms} (h : Mk w a F ms) : ∃ r, w.cell? ⟨a, 0, none⟩ = some (.map (some r)) ∧ ∀ t, (Instr.lookup 48 (.map (some r)) (str t) false).run Try.prog w = .ok (ov (getM ms t).1) w := by
  obtain ⟨⟨r, tv, D, h1, h2, h3, h4, h5, h6⟩, hm, hn, _⟩ := h
  refine ⟨r, cell_of_heap (l := [.map (some r), tv]) h1 0 _ rfl, fun t => ?_⟩
  have := h2.look Try.underlying48 keyStr t _ (zero_out _) false
  rw [this, h3]
  cases hmt : mat ms t with
  | none => simp [getM, hmt]
  | some o => simp [getM, hmt]

set_option maxHeartbeats 400000 in
theorem list_nil (w : World) :
    Calls Try.prog 18 #[.pointer none] w fun e w' => e = .returned (.slice none 0 0) ∧ w = w' := by
  go_enter Try.func18, Try.ntmps18
  go_wp2
  go_ret
  exact ⟨rfl, rfl⟩

def ListPost (ms : Ms) (w : World) (e : Ending) (w' : World) : Prop :=
  ∃ v, e = .returned v ∧ OwnC 47 5 (fun _ => True) w' w.heap.size v ms.length (mcs ms) ∧ Below w.heap.size w w'

set_option maxRecDepth 100000 in
set_option maxHeartbeats 1000000 in
theorem list_calls (a : Nat) (F : List Nat) (ms : Ms) (w : World) (h : Mk w a F ms) (hb : ms.length ≤ 1000000) :
    Calls Try.prog 18 #[.pointer (some ⟨a, 0, none⟩)] w (ListPost ms w) := by
  have HM := Lib.hid h
  obtain ⟨A, c, hc1, hr⟩ := h.tags
  have HR := Lib.hid hr
  have hmx := hr.2.2.1
  have hlc := hr.2.1
  have HN := Lib.hid h.nodup
  obtain ⟨N, hN⟩ : ∃ N, ms.length = N := ⟨_, rfl⟩
  rw [hN] at hb hc1 hlc
  have HL := Lib.hid hN
  clear h hr hN
  go_enter Try.func18, Try.ntmps18
  go_wp2_with fail
  go_loopw [2, 4, 12] (fun l _ i wr => ∃ k : Nat, k ≤ N ∧ i = .int .i64 k ∧ OwnC 47 5 (fun _ => True) wr w.heap.size l k (mcs (ms.take k)) ∧ Below w.heap.size w wr) (fun _ _ i _ => N - (intOf i).toNat)
  case atStart => exact ⟨0, by omega, rfl, OwnC.nil_, Below.refl _ _⟩
  case round =>
    obtain ⟨k, hk, rfl, ho, hbl⟩ := hrel
    have HO := Lib.hid ho
    have HB := Lib.hid hbl
    clear ho hbl
    by_cases hkN : k < N
    · have hkl : k < ms.length := by rw [HL.out]; exact hkN
      obtain ⟨b0, o0, e, g1⟩ := tag_at (HR.out.below HB.out) k (by rw [List.length_map]; exact hkl)
      subst e
      obtain ⟨p, hp⟩ : ∃ p, ms[k] = p := ⟨_, rfl⟩
      rw [List.getElem_map, hp] at g1
      obtain ⟨r, hc0, hlk⟩ := (HM.out.below HB.out).state
      have hst : (getM ms p.1).1 = p.2 := by
        have : mat ms p.1 = some p.2 := mat_of_mem HN.out (by rw [← hp]; exact List.getElem_mem _)
        simp [getM, this]
      have hl1 := hlk p.1
      rw [hst] at hl1
      have HT := Lib.hid (show ms.take (k + 1) = ms.take k ++ [p] by rw [List.take_succ_eq_append_getElem hkl, hp])
      have hkN' : (k : Int) < N := by omega
      unfold ov str at hl1
      obtain ⟨i0, hi, hz0, hz1, hz2⟩ := info_parts Try.info_mark
      clear hlk hp hst hkl
      go_wp2_with (at_builtin; refine wpList_appC _ rfl _ _ _ rfl w.heap.size i0 _ 56 Try.underlying39 hi hz0 hz1 hz2 rfl (by decide) (fun _ _ => trivial) u2 k (mcs (ms.take k)) rfl (HO.out.alloc _) (some ⟨wr.heap.size, 0, none⟩) 1 1 (mc p) rfl ?rd ?hb ?h63 ?hbase ?_)
      case rd => exact rdc_box (mc p) 1 5 rfl (mc_one p) (by decide)
      case hb => omega
      case h63 => omega
      case hbase => have := HB.out.size; simp; omega
      intro v2 w2 o2 g2 _ _
      rw [← mcs_snoc, ← HT.out] at o2
      have O2 := Lib.hid o2
      have B2 := Lib.hid (below_then HB.out HB.out.size (below_alloc wr _) |>.grown g2 (by have := HB.out.size; simp; omega) (fun k hk => (HO.out.lt k hk).1))
      clear o2 g2
      go_wp2_with fail
      exact ⟨⟨k + 1, by omega, by go_num, O2.out, B2.out⟩, by simp [intOf]; omega⟩
    · obtain rfl : k = N := by omega
      have ht : ms.take k = ms := by rw [← HL.out, List.take_length]
      have HO2 := Lib.hid (show OwnC 47 5 (fun _ => True) wr w.heap.size u2 ms.length (mcs ms) by rw [HL.out, ← ht]; rw [ht]; have := HO.out; rwa [ht] at this)
      clear HO ht
      go_wp2_with fail
      go_ret
      exact ⟨_, rfl, HO2.out, HB.out⟩
end Go.Proofs.Ytgmoodcojpbbdaa

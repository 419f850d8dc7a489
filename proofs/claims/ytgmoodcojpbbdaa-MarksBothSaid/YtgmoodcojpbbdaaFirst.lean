import Derived.Test.YtgmoodcojpbbdaaList
set_option linter.unusedVariables false
set_option linter.unusedSimpArgs false
namespace Go.Proofs.Ytgmoodcojpbbdaa
open Go.RowKit

theorem mv_is (p : List UInt8 × Outc) : Value.agg (mc p).toArray = .agg #[.string ⟨p.1.toArray⟩, .int .u8 p.2.k, .int .u64 p.2.a, .int .u64 p.2.b, .string ⟨p.2.c.toArray⟩] := rfl

set_option maxHeartbeats 400000 in
theorem same_mark (p : List UInt8 × Outc) (t : List UInt8) (b : Nat) (w : World) (h : w.cell? ⟨b, 0, none⟩ = some (str t)) :
    Calls Try.prog 40 #[.agg (mc p).toArray, .pointer (some ⟨b, 0, none⟩)] w fun e w' => e = .returned (.bool (decide (p.1 = t))) ∧ Below w.heap.size w w' := by
  unfold str at h
  rw [mv_is]
  have hlt := World.block_lt_of_cell? _ _ h
  have h2 := stays_ (below_alloc w (.cells #[.string ⟨p.1.toArray⟩, .int .u8 p.2.k, .int .u64 p.2.a, .int .u64 p.2.b, .string ⟨p.2.c.toArray⟩] 47)) h
  go_enter Try.func40, Try.ntmps40
  go_wp2
  go_ret
  refine ⟨?_, below_alloc w _⟩
  rw [← lbeq]
  rfl

/-- A mark that lies in a block. -/
def MAt (W : World) (b off : Nat) (p : List UInt8 × Outc) : Prop :=
  W.cell? ⟨b, off, none⟩ = some (.string ⟨p.1.toArray⟩) ∧ W.cell? ⟨b, off + 1, none⟩ = some (.int .u8 p.2.k) ∧ W.cell? ⟨b, off + 2, none⟩ = some (.int .u64 p.2.a) ∧ W.cell? ⟨b, off + 3, none⟩ = some (.int .u64 p.2.b) ∧ W.cell? ⟨b, off + 4, none⟩ = some (.string ⟨p.2.c.toArray⟩)
theorem mark_at {w : World} {A : Option Addr} {n c : Nat} {th : Ms} (h : RdC 5 w A n c (mcs th)) (i : Nat) (hi : i < th.length) : ∃ b o, A = some ⟨b, o, none⟩ ∧ MAt w b (o + i * 5) th[i] := by
  have hc : ∀ j u, (mc th[i])[j]? = some u → ∃ ad, A = some ad ∧ w.cell? (ad.add (i * 5 + j)) = some u := fun j u hj => by
    refine h.cell (i * 5 + j) u ?_
    have hj5 : j < 5 := by
      have := (List.getElem?_eq_some_iff.1 hj).1
      simpa [mc, ocs] using this
    rw [mcs_at th i hi j hj5]
    exact hj
  obtain ⟨ad, rfl, h0⟩ := hc 0 _ rfl
  obtain ⟨a1, e1, h1⟩ := hc 1 _ rfl
  obtain ⟨a2, e2, h2⟩ := hc 2 _ rfl
  obtain ⟨a3, e3, h3⟩ := hc 3 _ rfl
  obtain ⟨a4, e4, h4⟩ := hc 4 _ rfl
  cases e1; cases e2; cases e3; cases e4
  have hz : ∃ u, w.cell? ad = some u := by
    obtain ⟨a5, e5, h5⟩ := h.cell 0 (str (th[0]'(by omega)).1) (by
      have := mcs_at th 0 (by omega) 0 (by omega)
      simpa [mc] using this)
    cases e5
    exact ⟨_, h5⟩
  obtain ⟨u, hu⟩ := hz
  have hs : ad.spot = none := by
    cases hs : ad.spot with
    | none => rfl
    | some s =>
      exfalso
      unfold World.cell? at hu
      simp only [hs] at hu
      split at hu <;> simp at hu
  obtain ⟨b, o, sp⟩ := ad
  cases hs
  rw [plain_add] at h0 h1 h2 h3 h4
  exact ⟨b, o, rfl, h0, by rw [Nat.add_assoc]; exact h1, by rw [Nat.add_assoc]; exact h2, by rw [Nat.add_assoc]; exact h3, by rw [Nat.add_assoc]; exact h4⟩

set_option maxHeartbeats 800000 in
theorem idxm_calls (A : Option Addr) (n c b : Nat) (th : Ms) (t : List UInt8) (w : World) (h : RdC 5 w A n c (mcs th)) (hc : w.cell? ⟨b, 0, none⟩ = some (str t)) :
    Calls Try.prog 39 #[.slice A n c, .func (.func 40) #[] #[.pointer (some ⟨b, 0, none⟩)]] w fun e w' => e = .returned (.int .i64 (whereT (th.map (·.1)) t)) ∧ Below w.heap.size w w' := by
  have hl : n = th.length := by have := h.1; rw [mcs_length] at this; omega
  subst hl
  have H := Lib.hid h
  have HC := Lib.hid hc
  have hmx := h.2.2.1
  have hlc := h.2.1
  obtain ⟨N, hN⟩ : ∃ N, th.length = N := ⟨_, rfl⟩
  rw [hN] at hlc ⊢
  have HN := Lib.hid hN
  clear h hc hN
  go_enter Try.func39, Try.ntmps39
  go_wp2_with fail
  go_loopw [5, 8] (fun _ i wr => ∃ k : Nat, k ≤ N ∧ i = .int .i64 k ∧ Below w.heap.size w wr ∧ Hid (∀ j (hj : j < (th.map (·.1)).length), j < k → (th.map (·.1))[j] ≠ t)) (fun _ i _ => N - (intOf i).toNat)
  case atStart => exact ⟨0, by omega, rfl, Below.refl _ _, Lib.hid (fun j _ hj => by omega)⟩
  case round =>
    obtain ⟨k, hk, rfl, hbl, HB⟩ := hrel
    have HBL := Lib.hid hbl
    clear hbl
    by_cases hkN : k < N
    · have hkl : k < th.length := by rw [HN.out]; exact hkN
      obtain ⟨b0, o0, e, g0, g1, g2, g3, g4⟩ := mark_at (H.out.below HBL.out) k hkl
      subst e
      obtain ⟨p, hp⟩ : ∃ p, th[k] = p := ⟨_, rfl⟩
      rw [hp] at g0 g1 g2 g3 g4
      have HP := Lib.hid (show (th.map (·.1))[k]'(by simpa using hkl) = p.1 by rw [List.getElem_map, hp])
      have hkN' : (k : Int) < N := by omega
      clear hp
      go_wp2_with fail
      refine (same_mark p t b _ (stays_ HBL.out HC.out)).mono ?_
      rintro e w1 ⟨rfl, b1⟩
      have B1 := Lib.hid (below_then HBL.out HBL.out.size b1)
      clear b1
      by_cases hxt : p.1 = t
      · rw [decide_eq_true hxt]
        have HW := Lib.hid (show whereT (th.map (·.1)) t = k from where_at (by simpa using hkl) (HP.out.trans hxt) HB.out)
        clear hxt
        go_wp2_with fail
        go_ret
        exact ⟨by rw [HW.out]; rfl, B1.out⟩
      · rw [decide_eq_false hxt]
        have HXT := Lib.hid hxt
        clear hxt
        go_wp2_with fail
        refine ⟨⟨k + 1, by omega, by go_num, B1.out, Lib.hid (fun j hj hjk => ?_)⟩, by simp [intOf]; omega⟩
        by_cases h' : j < k
        · exact HB.out j hj h'
        · obtain rfl : j = k := by omega
          rw [HP.out]; exact HXT.out
    · obtain rfl : k = N := by omega
      have HW := Lib.hid (show whereT (th.map (·.1)) t = -1 from where_none fun j hj => HB.out j hj (by have := HN.out; simp at hj; omega))
      go_wp2_with fail
      go_ret
      exact ⟨by rw [HW.out]; rfl, HBL.out⟩

/-- The first mark of a tag, as the walk finds it. -/
theorem where_mat (th : Ms) (t : List UInt8) : (mat th t = none ∧ whereT (th.map (·.1)) t = -1) ∨ ∃ k o, mat th t = some o ∧ whereT (th.map (·.1)) t = (k : Nat) ∧ th[k]? = some (t, o) := by
  induction th with
  | nil => exact .inl ⟨rfl, rfl⟩
  | cons p th ih =>
    rw [mat_cons]
    by_cases hp : p.1 = t
    · right
      subst hp
      refine ⟨0, p.2, by simp, ?_, rfl⟩
      simp [whereT, List.findIdx?_cons]
    · simp only [hp, if_false]
      have hw : whereT ((p :: th).map (·.1)) t = match (th.map (·.1)).findIdx? (fun x => decide (x = t)) with | some i => ((i + 1 : Nat) : Int) | none => -1 := by
        simp only [whereT, List.map_cons, List.findIdx?_cons, hp, decide_false]
        cases (th.map (·.1)).findIdx? (fun x => decide (x = t)) <;> simp
      rw [hw]
      rcases ih with ⟨h1, h2⟩ | ⟨k, o, h1, h2, h3⟩
      · left
        refine ⟨h1, ?_⟩
        unfold whereT at h2
        revert h2
        cases (th.map (·.1)).findIdx? (fun x => decide (x = t)) with
        | none => simp
        | some i => intro h2; simp at h2
      · right
        refine ⟨k + 1, o, h1, ?_, by simpa using h3⟩
        unfold whereT at h2
        revert h2
        cases (th.map (·.1)).findIdx? (fun x => decide (x = t)) with
        | none => intro h2; simp at h2
        | some i => intro h2; simp at h2 ⊢; omega

set_option maxHeartbeats 800000 in
theorem first_calls (A : Option Addr) (n c : Nat) (th : Ms) (t : List UInt8) (w : World) (h : RdC 5 w A n c (mcs th)) :
    Calls Try.prog 36 #[.slice A n c, str t] w fun e w' => e = .returned (.tuple #[ov (getM th t).1, .bool (getM th t).2]) ∧ Below w.heap.size w w' := by
  have H := Lib.hid h
  have hl : n = th.length := by have := h.1; rw [mcs_length] at this; omega
  have hmx := h.2.2.1
  have hlc := h.2.1
  unfold str
  have hal := (below_alloc w (.cells #[.string ⟨t.toArray⟩] 9)).trans ((below_alloc _ (.cells #[.int .u8 0, .int .u64 0, .int .u64 0, .string ⟨#[]⟩] 33)).mono (by simp))
  have HAL := Lib.hid hal
  have HL := Lib.hid hl
  clear h hl hal
  go_enter Try.func36, Try.ntmps36
  go_wp2_with fail
  refine (idxm_calls A n c w.heap.size th t _ (H.out.below HAL.out) (by go_simp; rfl)).mono ?_
  rintro e w1 ⟨rfl, b1⟩
  have B1 := Lib.hid (below_then HAL.out (by simp; omega) b1)
  have HZ := Lib.hid (show w1.heap[w.heap.size + 1]? = some (.cells #[.int .u8 0, .int .u64 0, .int .u64 0, .string ⟨#[]⟩] 33 (0, 0)) by
    have h1 := heap_alloc_new (w.alloc (.cells #[.string ⟨t.toArray⟩] 9)) (.cells #[.int .u8 0, .int .u64 0, .int .u64 0, .string ⟨#[]⟩] 33)
    simp only [World.size_alloc] at h1
    exact (b1.block _ (by simp)).trans h1)
  have hz : w.heap.size + 1 < w1.heap.size := by have := b1.size; simp at this; omega
  clear b1
  obtain ⟨z0, z6⟩ := out_froz (o := oz) HZ.out
  have HO := Lib.hid z0
  obtain ⟨z1, z2, z3, z4⟩ := z0
  rcases where_mat th t with ⟨hm, hw⟩ | ⟨k, o, hm, hw, hk⟩
  · have HG := Lib.hid (show getM th t = (oz, false) by simp [getM, hm])
    rw [hw]
    clear hw hm
    go_wp2_with fail
    exact bodyPost_ret (results_out rfl rfl rfl (HO.out.set4 oz)) rfl ⟨by rw [HG.out]; rfl, (((B1.out.setCell (by simp) _).setCell (by simp) _).setCell (by simp) _).setCell (by simp) _⟩
  · have HG := Lib.hid (show getM th t = (o, true) by simp [getM, hm])
    rw [hw]
    obtain ⟨hkl, hke⟩ := List.getElem?_eq_some_iff.1 hk
    obtain ⟨b0, o0, e, g0, g1, g2, g3, g4⟩ := mark_at (H.out.below B1.out) k hkl
    subst e
    rw [hke] at g0 g1 g2 g3 g4
    simp only at g0 g1 g2 g3 g4
    have hkn : (k : Int) < n := by rw [HL.out]; omega
    have e1 : decide ((k : Int) < 0) = false := by simp
    clear hw hm hke hk hkl
    go_wp2_with fail
    exact bodyPost_ret (results_out rfl rfl rfl (HO.out.set4 o)) rfl ⟨by rw [HG.out]; rfl, (((B1.out.setCell (by simp) _).setCell (by simp) _).setCell (by simp) _).setCell (by simp) _⟩
end Go.Proofs.Ytgmoodcojpbbdaa

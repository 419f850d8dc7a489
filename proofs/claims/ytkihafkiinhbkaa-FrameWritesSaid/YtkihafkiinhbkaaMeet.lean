import Derived.Test.YtkihafkiinhbkaaKept
set_option linter.unusedVariables false
set_option linter.unusedSimpArgs false
namespace Go.Proofs.Ytkihafkiinhbkaa
open Go.RowKit

/-- Every byte turned. -/
def turn (l : List UInt8) (k : Nat) : List UInt8 := (l.take k).map (· + 128) ++ l.drop k
theorem turn_length (l : List UInt8) (k : Nat) : (turn l k).length = l.length := by simp [turn]; omega
theorem turn_at (l : List UInt8) (k : Nat) (h : k < l.length) : (turn l k)[k]? = some l[k] := by
  rw [turn, List.getElem?_append_right (by simp; omega)]
  simp [Nat.min_eq_left (Nat.le_of_lt h), h]
theorem turn_set (l : List UInt8) (k : Nat) (h : k < l.length) : (turn l k).set k (l[k] + 128) = turn l (k + 1) := by
  have hl : ((l.take k).map (· + 128)).length = k := by simp; omega
  rw [turn, turn, List.set_append_right _ _ (by omega), hl, Nat.sub_self, List.take_succ_eq_append_getElem h, List.map_append, List.append_assoc]
  congr 1
  rw [List.drop_eq_getElem_cons h, List.set_cons_zero]
  rfl
theorem turn_turn (l : List UInt8) : turn (turn l l.length) l.length = l := by
  have h : turn l l.length = l.map (· + 128) := by simp [turn]
  rw [h, turn, List.take_of_length_le (by simp), List.drop_of_length_le (by simp), List.append_nil, List.map_map]
  conv => rhs; rw [← List.map_id l]
  apply List.map_congr_left
  intro x _
  show x + 128 + 128 = x
  rw [UInt8.add_assoc]
  simp

/-- A block of bytes that may be written. -/
def BlkB (w : World) (g : Nat) (l : List UInt8) : Prop := ∃ e, w.heap[g]? = some (.cells (u8s l).toArray e (0, 0))
theorem BlkB.at_ {w : World} {g : Nat} {l : List UInt8} (h : BlkB w g l) (j : Nat) (x : UInt8) (hj : l[j]? = some x) : w.cell? ⟨g, j, none⟩ = some (.int .u8 (x.toNat : Int)) ∧ w.frozen? ⟨g, j, none⟩ = false := by
  obtain ⟨e, h⟩ := h
  exact ⟨cell_of_heap h j _ (by rw [u8s, List.getElem?_map, hj]; rfl), froz_of_heap h j⟩
theorem BlkB.set {w : World} {g : Nat} {l : List UInt8} (h : BlkB w g l) (j : Nat) (x : UInt8) (z : Int) (hz : z = (x.toNat : Int)) : BlkB (w.setCell ⟨g, j, none⟩ (.int .u8 z)) g (l.set j x) := by
  subst hz
  obtain ⟨e, h⟩ := h
  refine ⟨e, ?_⟩
  have := heap_setCell_same h j (u8 x)
  rw [u8s, List.map_set]
  exact this
theorem BlkB.other {w : World} {g g' j : Nat} {l : List UInt8} {u : Value} (h : BlkB w g l) (hne : g ≠ g') : BlkB (w.setCell ⟨g', j, none⟩ u) g l := by
  obtain ⟨e, h⟩ := h
  exact ⟨e, (Below.heap_setCell w _ u g hne).trans h⟩

theorem grown_set (w : World) (g j : Nat) (u : Value) : w.grownBy (w.setCell ⟨g, j, none⟩ u) (some g) := by
  refine ⟨rfl, rfl, rfl, by simp, fun k hk hne => Below.heap_setCell w _ u k (fun e => hne (by rw [e]))⟩
theorem grown_trans {a b c : World} {row : Option Nat} (h : a.grownBy b row) (k : b.grownBy c row) : a.grownBy c row :=
  ⟨k.os.trans h.os, k.tape.trans h.tape, k.output.trans h.output, Nat.le_trans h.size k.size, fun j hj hne => (k.block j (Nat.lt_of_lt_of_le hj h.size) hne).trans (h.block j hj hne)⟩
theorem grown_refl (w : World) (row : Option Nat) : w.grownBy w row := ⟨rfl, rfl, rfl, Nat.le_refl _, fun _ _ _ => rfl⟩
theorem below_back {w w' : World} {g : Nat} (h : w.grownBy w' (some g)) (hg : w'.heap[g]? = w.heap[g]?) : Below w.heap.size w w' :=
  ⟨h.os, h.tape, h.output, h.size, fun k hk => by
    by_cases e : k = g
    · rw [e]; exact hg
    · exact h.block k hk (fun he => e (Option.some.inj he))⟩

def Cs (w : World) (g : Nat) (e : TypeId) (l : List UInt8) : Prop := w.heap[g]? = some (.cells (u8s l).toArray e (0, 0))
theorem Cs.at_ {w : World} {g : Nat} {e : TypeId} {l : List UInt8} (h : Cs w g e l) (j : Nat) (x : UInt8) (hj : l[j]? = some x) : w.cell? ⟨g, j, none⟩ = some (.int .u8 (x.toNat : Int)) ∧ w.frozen? ⟨g, j, none⟩ = false :=
  ⟨cell_of_heap h j _ (by rw [u8s, List.getElem?_map, hj]; rfl), froz_of_heap h j⟩
theorem Cs.set {w : World} {g : Nat} {e : TypeId} {l : List UInt8} (h : Cs w g e l) (j : Nat) (x : UInt8) (z : Int) (hz : z = (x.toNat : Int)) : Cs (w.setCell ⟨g, j, none⟩ (.int .u8 z)) g e (l.set j x) := by
  subst hz
  have := heap_setCell_same h j (u8 x)
  unfold Cs
  rw [u8s, List.map_set]
  exact this

set_option maxRecDepth 100000 in
set_option maxHeartbeats 800000 in
theorem meet_calls (g : Nat) (e0 : TypeId) (F : List UInt8) (B : Option Addr) (d : Nat) (m : List UInt8) (w : World) (hF : Cs w g e0 F) (hr : Rd w B d m) (hne : ∀ ad, B = some ad → ad.block ≠ g) (hb : F.length ≤ 9223372036854775807) :
    Calls Try.prog 37 #[.slice (some ⟨g, 0, none⟩) F.length F.length, .slice B m.length d] w fun e w' => e = .returned (.bool false) ∧ Below w.heap.size w w' := by
  obtain ⟨S, hS⟩ : ∃ S : ByteArray, (⟨m.toArray⟩ : ByteArray) = S := ⟨_, rfl⟩
  have hs : ∀ W, w.grownBy W (some g) → (convert 23 9 (.slice B m.length d)).run Try.prog W = .ok (.string S) W := fun W hW => by
    rw [← hS]
    exact conv_bytes (hr.grown hW (fun ad ha e => hne ad ha (Option.some.inj e)))
  have HS := Lib.hid hs
  have s1 := hs w (grown_refl w _)
  have HF := Lib.hid hF
  obtain ⟨n, hn⟩ : ∃ n, F.length = n := ⟨_, rfl⟩
  obtain ⟨k0, hk0⟩ : ∃ k0, m.length = k0 := ⟨_, rfl⟩
  rw [hk0] at HS s1 ⊢
  rw [hn] at hb ⊢
  have HN := Lib.hid hn
  clear hF hr hne hS hs hn hk0
  go_enter Try.func37, Try.ntmps37
  go_wp2_with fail
  go_loopw [6] (fun i wr => ∃ k : Nat, k ≤ n ∧ i = .int .i64 k ∧ w.grownBy wr (some g) ∧ Cs wr g e0 (turn F k)) (fun i _ => n - (intOf i).toNat)
  case atStart => exact ⟨0, by omega, rfl, grown_refl w _, by rw [show turn F 0 = F from by simp [turn]]; exact HF.out⟩
  case round =>
    obtain ⟨k, hk, rfl, hg, hc⟩ := hrel
    have HG := Lib.hid hg
    have HC := Lib.hid hc
    by_cases hkn : k < n
    · have hkF : k < F.length := by rw [HN.out]; exact hkn
      obtain ⟨x, hx⟩ : ∃ x, F[k]? = some x := ⟨_, List.getElem?_eq_getElem hkF⟩
      obtain ⟨c1, c2⟩ := hc.at_ k x (by rw [turn_at F k hkF, ← List.getElem?_eq_getElem hkF]; exact hx)
      have HTs := Lib.hid (show (turn F k).set k (x + 128) = turn F (k + 1) by
        obtain ⟨_, rfl⟩ := List.getElem?_eq_some_iff.1 hx
        exact turn_set F k hkF)
      have hxb := x.toNat_lt
      have hkn' : (k : Int) < n := by omega
      clear hg hc hx hkF
      go_wp2_with fail
      refine ⟨⟨k + 1, by omega, by go_num, grown_trans HG.out (grown_set _ _ _ _), ?_⟩, by simp [intOf]; omega⟩
      rw [← HTs.out]
      exact HC.out.set k (x + 128) _ (by simp)
    · obtain rfl : k = n := by omega
      have s2 := HS.out wr hg
      have HT := Lib.hid (show (turn F k).length = k by rw [turn_length]; exact HN.out)
      obtain ⟨T, hT⟩ : ∃ T, turn F k = T := ⟨_, rfl⟩
      have HTT := Lib.hid (show turn T k = F by have := turn_turn F; rw [HN.out, hT] at this; exact this)
      have HC1 : Hid (Cs wr g e0 T) := Lib.hid (by rw [← hT]; exact hc)
      rw [hT] at HT
      clear hc hg hT HC s1
      go_wp2_with fail
      go_loopw [8] (fun i wq => ∃ j : Nat, j ≤ k ∧ i = .int .i64 j ∧ w.grownBy wq (some g) ∧ Cs wq g e0 (turn T j)) (fun i _ => k - (intOf i).toNat)
      case atStart => exact ⟨0, by omega, rfl, HG.out, by rw [show turn T 0 = T from by simp [turn]]; exact HC1.out⟩
      case round =>
        obtain ⟨j, hj, rfl, hg, hc⟩ := hrel
        have HG2 := Lib.hid hg
        have HC := Lib.hid hc
        by_cases hkn : j < k
        · have hkF : j < T.length := by rw [HT.out]; exact hkn
          obtain ⟨x, hx⟩ : ∃ x, T[j]? = some x := ⟨_, List.getElem?_eq_getElem hkF⟩
          obtain ⟨c1, c2⟩ := hc.at_ j x (by rw [turn_at T j hkF, ← List.getElem?_eq_getElem hkF]; exact hx)
          have HTs := Lib.hid (show (turn T j).set j (x + 128) = turn T (j + 1) by
            obtain ⟨_, rfl⟩ := List.getElem?_eq_some_iff.1 hx
            exact turn_set T j hkF)
          have hxb := x.toNat_lt
          have hkn' : (j : Int) < k := by omega
          clear hg hc hx hkF
          go_wp2_with fail
          refine ⟨⟨j + 1, by omega, by go_num, grown_trans HG2.out (grown_set _ _ _ _), ?_⟩, by simp [intOf]; omega⟩
          rw [← HTs.out]
          exact HC.out.set j (x + 128) _ (by simp)
        · obtain rfl : j = k := by omega
          clear hg hc
          go_wp2
          go_ret
          refine ⟨rfl, below_back HG2.out ?_⟩
          have h1 := HC.out
          rw [HTT.out] at h1
          exact Eq.trans h1 HF.out.symm
end Go.Proofs.Ytkihafkiinhbkaa

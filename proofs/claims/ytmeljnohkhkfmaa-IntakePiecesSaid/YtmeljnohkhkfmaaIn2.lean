import Derived.Test.YtmeljnohkhkfmaaIn
set_option linter.unusedVariables false
set_option linter.unusedSimpArgs false
namespace Go.Proofs.Ytmeljnohkhkfmaa
open Go.RowKit

theorem RdC.tchN {sz : Nat} {F : List Nat} {w w' : World} {A : Option Addr} {n c : Nat} {cs : List Value} (h : RdC sz w A n c cs) (ht : Tch F w w') (hne : ∀ u, cs[0]? = some u → ∀ ad, A = some ad → ad.block ∉ F) : RdC sz w' A n c cs := by
  cases cs with
  | nil =>
    obtain ⟨h1, h2, h3, h4, h5, h6⟩ := h
    exact ⟨h1, h2, h3, h4, h5, fun ad _ j u hj => by simp at hj⟩
  | cons u cs => exact h.tch ht (hne u rfl)
def PtP (n : Nat) (w : World) (a : Nat) (F : List Nat) (most : Nat) (l : List UInt8) (ph : Nat) (e : Ending) (w' : World) : Prop :=
  ∃ F', e = .returned (.int .i64 n) ∧ In w' a F' most l ph ∧ Tch F w w' ∧ ∀ k ∈ F', k ∈ F ∨ w.heap.size ≤ k

/-- A new row is laid in. -/
theorem in_store {w w' : World} {a : Nat} {F : List Nat} {most ph : Nat} {l' : List UInt8} {v' hv0 : Value} (H1 : w'.heap[a]? = some (.cells #[.int .u32 most, hv0, .bool (decide (ph = 2)), fnv a ph] 61 (0, 0)))
    (HO : OwnB w' 0 v' l') (ha : a ∈ F) (hne : ∀ g, v'.ownBlock = some g → g ≠ a) (hv' : ∀ g, v'.ownBlock = some g → g ∈ F ∨ w.heap.size ≤ g) (ht : Tch F w w') (hF : ∀ k ∈ F, k < w.heap.size) (hk : OkI most l' ph) :
    w'.cell? ⟨a, 1, none⟩ = some hv0 ∧ w'.frozen? ⟨a, 1, none⟩ = false ∧ Hid (∃ F', In (w'.setCell ⟨a, 1, none⟩ v') a F' most l' ph ∧ Tch F w (w'.setCell ⟨a, 1, none⟩ v') ∧ (∀ k ∈ F', k ∈ F ∨ w.heap.size ≤ k) ∧ ∀ k ∈ F', k = a ∨ v'.ownBlock = some k) := by
  have hs : (w'.setCell ⟨a, 1, none⟩ v').heap.size = w'.heap.size := by simp
  obtain ⟨F', f1, f2, f3⟩ := in_close (w := w) (w2 := w'.setCell ⟨a, 1, none⟩ v') (F := F) (hv := v') (l := l') (heap_setCell_same (l := [.int .u32 most, hv0, .bool (decide (ph = 2)), fnv a ph]) H1 1 v')
    (OwnC.keep HO fun k hk => Below.heap_setCell _ _ _ _ (hne k hk)) ha hv' hk hF (by rw [hs]; exact ht.size)
  exact ⟨cell_of_heap (l := [.int .u32 most, hv0, .bool (decide (ph = 2)), fnv a ph]) H1 1 _ rfl, froz_of_heap H1 1, Lib.hid ⟨F', f1, ht.setCell _ (.inl ha), f2, f3⟩⟩
theorem in_append {w w1 X w' : World} {a : Nat} {F : List Nat} {most ph : Nat} {l m : List UInt8} {A : Option Addr} {c n : Nat} {v' : Value} (H1 : w1.heap[a]? = some (.cells #[.int .u32 most, .slice A n c, .bool (decide (ph = 2)), fnv a ph] 61 (0, 0)))
    (ha : a ∈ F) (hr : ∀ g, (Value.slice A n c).ownBlock = some g → g ∈ F ∧ g ≠ a) (t : Tch F w w1) (hF : ∀ k ∈ F, k < w.heap.size) (tX : Tch [] w1 X) (gw : X.grownBy w' (Value.slice A n c).ownBlock) (ow : OwnB w' 0 v' (l ++ m))
    (hv : v'.ownBlock = (Value.slice A n c).ownBlock ∨ v'.ownBlock = some X.heap.size) (hk : OkI most (l ++ m) ph) :
    w'.cell? ⟨a, 1, none⟩ = some (.slice A n c) ∧ w'.frozen? ⟨a, 1, none⟩ = false ∧ Hid (∃ F', In (w'.setCell ⟨a, 1, none⟩ v') a F' most (l ++ m) ph ∧ Tch F w (w'.setCell ⟨a, 1, none⟩ v') ∧ (∀ k ∈ F', k ∈ F ∨ w.heap.size ≤ k) ∧ ∀ k ∈ F', k = a ∨ v'.ownBlock = some k) := by
  have h1 := heap_lt H1
  have h2 : w'.heap[a]? = some (.cells #[.int .u32 most, .slice A n c, .bool (decide (ph = 2)), fnv a ph] 61 (0, 0)) := by
    rw [gw.block a (Nat.lt_of_lt_of_le h1 tX.size) (fun e => (hr a e.symm).2 rfl), tX.block a h1 (by simp)]
    exact H1
  refine in_store h2 ow ha (fun g hg => ?_) (fun g hg => ?_) ((t.trans tX (fun j hj => by cases hj)).grown gw (fun k hk => .inl (hr k hk).1)) hF hk
  · rcases hv with h | h
    · exact (hr g (by rw [← h]; exact hg)).2
    · rw [h] at hg
      cases hg
      have := tX.size
      omega
  · rcases hv with h | h
    · exact .inl (hr g (by rw [← h]; exact hg)).1
    · rw [h] at hg
      cases hg
      have := tX.size
      have := t.size
      exact .inr (by omega)

theorem slice_to (A : Option Addr) (n c m : Nat) (h : m ≤ c) (W : World) : (Instr.slice 24 (.slice A n c) none (some (.int .i64 (m : Int))) none).run Try.prog W = .ok (.slice A m c) W := by
  rw [run_slice_h W 24 A n c Try.underlying24 .i64 m (by omega) (by omega), size_u8]
  simp [Result.andThen, sliced]
  intro _
  cases A <;> rfl
theorem took_le (most : Nat) (l : List UInt8) (ph : Nat) (b : List UInt8) (h : OkI most l ph) : OkI most (l ++ b.take (tookI most l ph b)) ph ∧ tookI most l ph b ≤ b.length ∧ tookI most l ph b ≤ 4104 := by
  obtain ⟨h1, h2, h3, h4, h5⟩ := h
  unfold tookI roomI
  refine ⟨⟨h1, h2, ?_, h4, fun hp => ?_⟩, by omega, by split <;> omega⟩
  · rw [List.length_append, List.length_take]
    split <;> omega
  · rw [if_pos hp, h5 hp]; simp

set_option maxHeartbeats 1600000 in
theorem iput_calls {w : World} {a : Nat} {F : List Nat} {most ph : Nat} {l b : List UInt8} {B : Option Addr} {d : Nat} (h : In w a F most l ph) (hb : Rd w B d b) :
    Calls Try.prog 14 #[.pointer (some ⟨a, 0, none⟩), .slice B b.length d] w (PtP (tookI most l ph b) w a F most (l ++ b.take (tookI most l ph b)) ph) := by
  have H := Lib.hid h
  have HB := Lib.hid hb
  obtain ⟨hb1, hb2⟩ := hb.len
  obtain ⟨k1, k2, k3, k4, k5⟩ := h.ok
  obtain ⟨R, hR⟩ : ∃ R, roomI most l ph = R := ⟨_, rfl⟩
  have HR := Lib.hid hR
  have hRb : R ≤ most + 8 - l.length := by rw [← hR, roomI]; split <;> omega
  obtain ⟨T, hT⟩ : ∃ T, tookI most l ph b = T := ⟨_, rfl⟩
  have HT := Lib.hid hT
  have hTe : T = min R b.length := by rw [← hT, tookI, hR]
  have HK := Lib.hid (show OkI most (l ++ b.take T) ph ∧ T ≤ b.length ∧ T ≤ 4104 by rw [← hT]; exact took_le most l ph b h.ok)
  rw [hT]
  obtain ⟨N, hN⟩ : ∃ N, b.length = N := ⟨_, rfl⟩
  have HN := Lib.hid hN
  rw [hN] at hb1 hTe ⊢
  obtain ⟨lb, hlb⟩ : ∃ lb, l.length = lb := ⟨_, rfl⟩
  have HL := Lib.hid hlb
  rw [hlb] at k3 hRb
  clear h hb hR hT hN hlb k5
  have HC := Lib.hid (show (N < R ∧ T = N) ∨ (¬ N < R ∧ T = R) by omega)
  clear hTe
  rcases HC.out with ⟨hNR, rfl⟩ | ⟨hNR, rfl⟩
  all_goals
    by_cases hz : T = 0
    · subst hz
      rw [List.take_zero, List.append_nil]
      go_enter Try.func14, Try.ntmps14
      go_wp2_with fail
      refine (iroom_calls H.out).mono ?_
      rintro e w1 ⟨rfl, b1⟩
      rw [HR.out]
      have B1 := Lib.hid b1
      clear b1
      go_wp2_with fail
      go_ret
      exact ⟨F, rfl, H.out.below B1.out, Tch.of_below F B1.out, fun k hk => .inl hk⟩
    · have hz' : 0 < T := by omega
      have hTN : T ≤ d := by omega
      go_enter Try.func14, Try.ntmps14
      go_wp2_with fail
      refine (iroom_calls H.out).mono ?_
      rintro e w1 ⟨rfl, b1⟩
      rw [HR.out]
      have B1 := Lib.hid b1
      have HR1 := Lib.hid (HB.out.below b1)
      obtain ⟨A, c, h1, ho, hr, ⟨c0, c1, c2, c3⟩, hfz, hne⟩ := (H.out.below b1).row
      rw [HL.out] at c1 h1 hne ho
      have H1 := Lib.hid h1
      have HO := Lib.hid ho
      have HNE := Lib.hid hne
      have hb1' := b1.size
      clear b1 h1 ho hr hne
      have hsl := fun n => slice_to B n d T hTN
      go_wp2_with fail
      go_region_law (refine wp_appB _ (.tmp 17) (.tmp 20) rfl 0 (.slice A lb c) l rfl ?_ B T d (b.take T) rfl ?_ ?_ ?_ ?_ ?_; (· repeat (first | exact HO.out | refine OwnC.alloc ?_ _ | refine OwnC.drew ?_)); (· rw [List.length_take, HN.out]; omega); (· repeat (first | exact HR1.out.take0 (by rw [HN.out]; omega) | refine Rd.below ?_ (below_drew _))); (· rw [HL.out, List.length_take, HN.out]; omega); (· simp); (intro v' w' ow gw y1 y2; (try clear y1); obtain ⟨k0, k1', HFIN⟩ := in_append H1.out H.out.mem HNE.out (Tch.of_below F B1.out) H.out.lts (by repeat (first | exact Tch.refl _ _ | refine Tch.drew ?_)) gw ow y2 HK.out.1; obtain ⟨A5, c5, rfl⟩ := OwnC.slice ow; obtain ⟨z5, hz5⟩ : ∃ z, (l ++ b.take T).length = z := ⟨_, rfl⟩; rw [hz5] at HFIN ⊢; clear ow gw y2 hz5))
      all_goals
        go_wp2_with fail
        go_ret
        obtain ⟨F', f1, f2, f3, -⟩ := HFIN.out
        exact ⟨F', rfl, f1, f2, f3⟩
end Go.Proofs.Ytmeljnohkhkfmaa

import Derived.Test.YtmeljnohkhkfmaaRIn
set_option linter.unusedVariables false
set_option linter.unusedSimpArgs false
namespace Go.Proofs.Ytmeljnohkhkfmaa
open Go.RowKit

/-- A new row is laid in. -/
theorem rin_store {w w' : World} {a : Nat} {F : List Nat} {most ph : Nat} {l' : List UInt8} {v' hv0 : Value} {wt : Bool} (H1 : w'.heap[a]? = some (.cells #[.int .u32 most, hv0, .bool wt, .bool (decide (ph = 2))] 45 (0, 0)))
    (HO : OwnO w' 0 v' l') (ha : a ∈ F) (hne : ∀ g, v'.ownBlock = some g → g ≠ a) (hv' : ∀ g, v'.ownBlock = some g → g ∈ F ∨ w.heap.size ≤ g) (ht : Tch F w w') (hk : OkI most l' ph) (h0 : ph = 0 → wt = false) (h1 : ph = 1 → wt = true) :
    w'.cell? ⟨a, 1, none⟩ = some hv0 ∧ w'.frozen? ⟨a, 1, none⟩ = false ∧ Hid (∃ F', RIn (w'.setCell ⟨a, 1, none⟩ v') a F' most l' ph ∧ Tch F w (w'.setCell ⟨a, 1, none⟩ v') ∧ (∀ k ∈ F', k ∈ F ∨ w.heap.size ≤ k) ∧ ∀ k ∈ F', k = a ∨ v'.ownBlock = some k) := by
  have hs : (w'.setCell ⟨a, 1, none⟩ v').heap.size = w'.heap.size := by simp
  obtain ⟨F', f1, f2, f3⟩ := rin_close (w := w) (w2 := w'.setCell ⟨a, 1, none⟩ v') (F := F) (bv := v') (l := l') (heap_setCell_same (l := [.int .u32 most, hv0, .bool wt, .bool (decide (ph = 2))]) H1 1 v')
    (OwnO.keep HO fun k hk => Below.heap_setCell _ _ _ _ (hne k hk)) ha hne hv' hk (by rw [hs]; exact ht.size) h0 h1
  exact ⟨cell_of_heap (l := [.int .u32 most, hv0, .bool wt, .bool (decide (ph = 2))]) H1 1 _ rfl, froz_of_heap H1 1, Lib.hid ⟨F', f1, ht.setCell _ (.inl ha), f2, f3⟩⟩
theorem rin_append {w w1 X w' : World} {a : Nat} {F : List Nat} {most ph : Nat} {l m : List UInt8} {A : Option Addr} {c n : Nat} {v' : Value} {wt : Bool} (H1 : w1.heap[a]? = some (.cells #[.int .u32 most, .slice A n c, .bool wt, .bool (decide (ph = 2))] 45 (0, 0)))
    (ha : a ∈ F) (hr : ∀ g, (Value.slice A n c).ownBlock = some g → g ∈ F ∧ g ≠ a) (t : Tch F w w1) (tX : Tch [] w1 X) (gw : X.grownBy w' (Value.slice A n c).ownBlock) (ow : OwnO w' 0 v' (l ++ m))
    (hv : v'.ownBlock = (Value.slice A n c).ownBlock ∨ v'.ownBlock = some X.heap.size) (hk : OkI most (l ++ m) ph) (h0 : ph = 0 → wt = false) (h1 : ph = 1 → wt = true) :
    w'.cell? ⟨a, 1, none⟩ = some (.slice A n c) ∧ w'.frozen? ⟨a, 1, none⟩ = false ∧ Hid (∃ F', RIn (w'.setCell ⟨a, 1, none⟩ v') a F' most (l ++ m) ph ∧ Tch F w (w'.setCell ⟨a, 1, none⟩ v') ∧ (∀ k ∈ F', k ∈ F ∨ w.heap.size ≤ k) ∧ ∀ k ∈ F', k = a ∨ v'.ownBlock = some k) := by
  have ha1 := heap_lt H1
  have h2 : w'.heap[a]? = some (.cells #[.int .u32 most, .slice A n c, .bool wt, .bool (decide (ph = 2))] 45 (0, 0)) := by
    rw [gw.block a (Nat.lt_of_lt_of_le ha1 tX.size) (fun e => (hr a e.symm).2 rfl), tX.block a ha1 (by simp)]
    exact H1
  refine rin_store h2 ow ha (fun g hg => ?_) (fun g hg => ?_) ((t.trans tX (fun j hj => by cases hj)).grown gw (fun k hk => .inl (hr k hk).1)) hk h0 h1
  · rcases hv with h | h
    · exact (hr g (by rw [← h]; exact hg)).2
    · rw [h] at hg
      cases hg
      have := tX.size
      omega
  · rcases hv with h | h
    · exact .inl (hr g (by rw [← h]; exact hg)).1
    · rw [h] at hg
      cases hg
      have := tX.size
      have := t.size
      exact .inr (by omega)
def RPtP (n : Nat) (w : World) (a : Nat) (F : List Nat) (most : Nat) (l : List UInt8) (ph : Nat) (e : Ending) (w' : World) : Prop :=
  ∃ F', e = .returned (.int .i64 n) ∧ RIn w' a F' most l ph ∧ Tch F w w' ∧ ∀ k ∈ F', k ∈ F ∨ w.heap.size ≤ k

set_option maxHeartbeats 1600000 in
theorem rput_calls {w : World} {a : Nat} {F : List Nat} {most ph : Nat} {l b : List UInt8} {B : Option Addr} {d : Nat} (h : RIn w a F most l ph) (hb : Rd w B d b) :
    Calls Try.prog 15 #[.pointer (some ⟨a, 0, none⟩), .slice B b.length d] w (RPtP (tookI most l ph b) w a F most (l ++ b.take (tookI most l ph b)) ph) := by
  have H := Lib.hid h
  have HB := Lib.hid hb
  obtain ⟨hb1, hb2⟩ := hb.len
  obtain ⟨k1, k2, k3, k4, k5⟩ := h.ok
  obtain ⟨R, hR⟩ : ∃ R, roomI most l ph = R := ⟨_, rfl⟩
  have HR := Lib.hid hR
  have hRb : R ≤ most + 8 - l.length := by rw [← hR, roomI]; split <;> omega
  obtain ⟨T, hT⟩ : ∃ T, tookI most l ph b = T := ⟨_, rfl⟩
  have HT := Lib.hid hT
  have hTe : T = min R b.length := by rw [← hT, tookI, hR]
  have HK := Lib.hid (show OkI most (l ++ b.take T) ph ∧ T ≤ b.length ∧ T ≤ 4104 by rw [← hT]; exact took_le most l ph b h.ok)
  rw [hT]
  obtain ⟨N, hN⟩ : ∃ N, b.length = N := ⟨_, rfl⟩
  have HN := Lib.hid hN
  rw [hN] at hb1 hTe ⊢
  obtain ⟨lb, hlb⟩ : ∃ lb, l.length = lb := ⟨_, rfl⟩
  have HL := Lib.hid hlb
  rw [hlb] at k3 hRb
  clear h hb hR hT hN hlb k5
  have HC := Lib.hid (show (R < N ∧ T = R) ∨ (¬ R < N ∧ T = N) by omega)
  clear hTe
  rcases HC.out with ⟨hNR, rfl⟩ | ⟨hNR, rfl⟩
  all_goals
    have hTN : T ≤ d := by omega
    go_enter Try.func15, Try.ntmps15
    go_wp2_with fail
    refine (rroom_calls H.out).mono ?_
    rintro e w1 ⟨rfl, b1⟩
    rw [HR.out]
    have B1 := Lib.hid b1
    have HR1 := Lib.hid (HB.out.below b1)
    obtain ⟨A, c, wt, h1, ho, hr, ⟨c0, c1, c2, c3⟩, hfz, hne, hw0, hw1⟩ := (H.out.below b1).row
    rw [HL.out] at c1 h1 hne ho
    have H1 := Lib.hid h1
    have HO := Lib.hid ho
    have HNE := Lib.hid hne
    have HW0 := Lib.hid hw0
    have HW1 := Lib.hid hw1
    have hb1' := b1.size
    clear b1 h1 ho hr hne hw0 hw1
    have hsl := fun n => slice_to B n d T hTN
    go_wp2_with fail
    go_region_law (refine wp_appO _ (.tmp 15) (.tmp 18) rfl 0 (.slice A lb c) l (b.take T) rfl ?_ B T d rfl ?_ ?_ ?_ ?_ ?_; (· repeat (first | exact HO.out | refine OwnO.keep ?_ (fun _ _ => rfl))); (· rw [List.length_take, HN.out]; omega); (· repeat (first | exact HR1.out.take0 (by rw [HN.out]; omega) | refine Rd.below ?_ (below_drew _))); (· rw [HL.out, List.length_take, HN.out]; omega); (· simp); (intro v' w' ow gw y2; obtain ⟨k0, k1', HFIN⟩ := rin_append H1.out H.out.mem HNE.out (Tch.of_below F B1.out) (by repeat (first | exact Tch.refl _ _ | refine Tch.drew ?_)) gw ow y2 HK.out.1 HW0.out HW1.out; obtain ⟨A5, c5, rfl, -⟩ := OwnO.rd ow; obtain ⟨z5, hz5⟩ : ∃ z, (l ++ b.take T).length = z := ⟨_, rfl⟩; rw [hz5] at HFIN ⊢; clear ow gw y2 hz5))
    all_goals
      go_wp2_with fail
      go_ret
      obtain ⟨F', f1, f2, f3, -⟩ := HFIN.out
      exact ⟨F', rfl, f1, f2, f3⟩
end Go.Proofs.Ytmeljnohkhkfmaa

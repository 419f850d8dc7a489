import Derived.Test.YtgmoodcojpbbdaaVast
import Derived.StillTailTactics
set_option linter.unusedVariables false
set_option linter.unusedSimpArgs false
namespace Go.Proofs.Ytgmoodcojpbbdaa
open Go.RowKit

/-- The cells of the i-th of a row of records. -/
theorem rec_at {α : Type} (f : α → List Value) {sz : Nat} (h0 : 0 < sz) {w : World} {A : Option Addr} {n c : Nat} {l : List α} (hf : ∀ x, (f x).length = sz) (h : RdC sz w A n c (l.flatMap f)) (i : Nat) (hi : i < l.length) :
    ∃ b o, A = some ⟨b, o, none⟩ ∧ ∀ j u, (f l[i])[j]? = some u → w.cell? ⟨b, o + i * sz + j, none⟩ = some u := by
  have hc : ∀ j u, (f l[i])[j]? = some u → ∃ ad, A = some ad ∧ w.cell? (ad.add (i * sz + j)) = some u := fun j u hj => by
    refine h.cell (i * sz + j) u ?_
    have hj5 : j < sz := by
      have := (List.getElem?_eq_some_iff.1 hj).1
      rwa [hf] at this
    rw [flat_at f sz l (fun x _ => hf x) i hi j hj5]
    exact hj
  have hz0 : ∃ u, (l.flatMap f)[0]? = some u := by
    have := flat_at f sz l (fun x _ => hf x) 0 (by omega) 0 h0
    rw [Nat.zero_mul] at this
    refine ⟨(f (l[0]'(by omega)))[0]'(by rw [hf]; exact h0), ?_⟩
    rw [this]
    exact List.getElem?_eq_getElem _
  obtain ⟨u, hu⟩ := hz0
  obtain ⟨ad, rfl, hu⟩ := h.cell 0 u hu
  have had : ad.add 0 = ad := by
    unfold Addr.add
    split <;> simp_all
  rw [had] at hu
  have hs : ad.spot = none := by
    cases hs : ad.spot with
    | none => rfl
    | some s =>
      exfalso
      unfold World.cell? at hu
      simp only [hs] at hu
      split at hu <;> simp at hu
  obtain ⟨b, o, sp⟩ := ad
  cases hs
  refine ⟨b, o, rfl, fun j u hj => ?_⟩
  obtain ⟨ad, e, hu⟩ := hc j u hj
  cases e
  rw [plain_add] at hu
  rw [Nat.add_assoc]
  exact hu
/-- A step that lies in a block. -/
def SAt (W : World) (b off : Nat) (s : St) : Prop :=
  W.cell? ⟨b, off, none⟩ = some (.string ⟨s.1.toArray⟩) ∧ W.cell? ⟨b, off + 1, none⟩ = some (.int .i64 s.2.1) ∧ W.cell? ⟨b, off + 2, none⟩ = some (.int .u8 s.2.2.k) ∧ W.cell? ⟨b, off + 3, none⟩ = some (.int .u64 s.2.2.a) ∧ W.cell? ⟨b, off + 4, none⟩ = some (.int .u64 s.2.2.b) ∧ W.cell? ⟨b, off + 5, none⟩ = some (.string ⟨s.2.2.c.toArray⟩)
theorem step_at {w : World} {A : Option Addr} {n c : Nat} {l : List St} (h : RdC 6 w A n c (scs l)) (i : Nat) (hi : i < l.length) : ∃ b o, A = some ⟨b, o, none⟩ ∧ SAt w b (o + i * 6) l[i] := by
  obtain ⟨b, o, e, hc⟩ := rec_at sc (by decide) (fun _ => rfl) h i hi
  exact ⟨b, o, e, hc 0 _ rfl, hc 1 _ rfl, hc 2 _ rfl, hc 3 _ rfl, hc 4 _ rfl, hc 5 _ rfl⟩

/-- Marks as they can be. -/
structure GoodM (N : Nat) (ms : Ms) : Prop where
  few : ms.length ≤ N
  most : N ≤ 32
  tags : ∀ p ∈ ms, 1 ≤ p.1.length ∧ p.1.length ≤ 32
  fins : ∀ p ∈ ms, p.2 = oz ∨ fin p.2 = true
theorem GoodM.nil : GoodM 0 [] := ⟨by simp, by decide, by simp, by simp⟩
theorem GoodM.add {N : Nat} {ms ms' : Ms} {t : List UInt8} {n : Nat} (h : GoodM N ms) (hN : N + 1 ≤ 32) (r : addM ms t = (n, ms')) : GoodM (N + 1) ms' := by
  unfold addM at r
  split at r
  · cases r
    exact ⟨by have := h.few; omega, hN, h.tags, h.fins⟩
  · rename_i h1
    split at r
    · cases r
      exact ⟨by have := h.few; omega, hN, h.tags, h.fins⟩
    · split at r
      · cases r
        exact ⟨by have := h.few; omega, hN, h.tags, h.fins⟩
      · cases r
        refine ⟨by have := h.few; simp; omega, hN, fun p hp => ?_, fun p hp => ?_⟩
        · rcases List.mem_append.1 hp with e | e
          · exact h.tags p e
          · simp at e
            subst e
            simp only
            omega
        · rcases List.mem_append.1 hp with e | e
          · exact h.fins p e
          · simp at e
            subst e
            exact .inl rfl
theorem GoodM.tell {N : Nat} {ms ms' : Ms} {t : List UInt8} {o : Outc} {b : Bool} (h : GoodM N ms) (r : tellM ms t o = (b, ms')) : GoodM N ms' := by
  have hs : fin o = true → GoodM N (setM ms t o) := fun ho => by
    refine ⟨by simpa [setM] using h.few, h.most, fun p hp => ?_, fun p hp => ?_⟩
    · have hk : p.1 ∈ (setM ms t o).map (·.1) := List.mem_map.2 ⟨p, hp, rfl⟩
      rw [keys_set] at hk
      obtain ⟨q, hq, e⟩ := List.mem_map.1 hk
      rw [← e]
      exact h.tags q hq
    · obtain ⟨q, hq, e⟩ := List.mem_map.1 hp
      split at e
      · subst e
        exact .inr ho
      · subst e
        exact h.fins q hq
  unfold tellM at r
  split at r
  · cases r; exact h
  · split at r
    · cases r; exact h
    · rename_i hh
      cases r
      exact hs (by simp at hh; exact hh.2)

set_option maxRecDepth 100000 in
set_option maxHeartbeats 1000000 in
theorem fill_calls (a : Nat) (F : List Nat) (ms : Ms) (B : Option Addr) (n c : Nat) (l : Ms) (w0 w : World) (hm : MkF w0 w a F ms) (hg : GoodM 0 ms) (hr : RdC 5 w0 B n c (mcs l)) (hn : n ≤ 32) :
    Calls Try.prog 29 #[.pointer (some ⟨a, 0, none⟩), .slice B n c] w fun e w' => ∃ F' ms', e = .returned (.tuple #[]) ∧ MkF w0 w' a F' ms' ∧ GoodM n ms' ∧ Tch F w w' ∧ ∀ k ∈ F', k ∈ F ∨ w.heap.size ≤ k := by
  have hl : n = l.length := by have := hr.1; rw [mcs_length] at this; omega
  subst hl
  have HR := Lib.hid hr
  have HM := Lib.hid hm
  have HG := Lib.hid hg
  have hmx := hr.2.2.1
  have hlc := hr.2.1
  obtain ⟨N, hN⟩ : ∃ N, l.length = N := ⟨_, rfl⟩
  rw [hN] at hlc hn ⊢
  have HN := Lib.hid hN
  clear hr hm hg hN
  go_enter Try.func29, Try.ntmps29
  go_wp2_with fail
  go_loopw [4] (fun i wr => ∃ (k : Nat) (F' : List Nat) (ms' : Ms), k ≤ N ∧ i = .int .i64 k ∧ MkF w0 wr a F' ms' ∧ GoodM k ms' ∧ Tch F w wr ∧ ∀ j ∈ F', j ∈ F ∨ w.heap.size ≤ j) (fun i _ => N - (intOf i).toNat)
  case atStart => exact ⟨0, F, ms, by omega, rfl, HM.out, HG.out, Tch.refl _ _, fun j hj => .inl hj⟩
  case round =>
    obtain ⟨k, F', ms', hk, rfl, hm, hg, ht, hf⟩ := hrel
    have HM1 := Lib.hid hm
    have HG1 := Lib.hid hg
    have HT1 := Lib.hid ht
    have HF1 := Lib.hid hf
    clear hm hg ht hf
    by_cases hkN : k < N
    · have hkl : k < l.length := by rw [HN.out]; exact hkN
      have hkN' : (k : Int) < N := by omega
      obtain ⟨b0, o0, e, g0, _, _, _, _⟩ := mark_at (HR.out.below HM1.out.old) k hkl
      subst e
      obtain ⟨p, hp⟩ : ∃ p, l[k] = p := ⟨_, rfl⟩
      rw [hp] at g0
      obtain ⟨nn, ms2, hadd⟩ : ∃ nn ms2, addM ms' p.1 = (nn, ms2) := ⟨_, _, rfl⟩
      go_wp2_with fail
      refine (mf_add p.1 HM1.out hadd).mono ?_
      rintro e w2 ⟨F2, rfl, m2, t2, f2⟩
      have M2 := Lib.hid m2
      have G2 := Lib.hid (HG1.out.add (by omega) hadd)
      have T2 := Lib.hid (HT1.out.trans t2 (fun j hj => HF1.out j hj))
      have F2' := Lib.hid (show ∀ j ∈ F2, j ∈ F ∨ w.heap.size ≤ j from fun j hj => by
        rcases f2 j hj with h | h
        · exact HF1.out j h
        · right; have := HT1.out.size; omega)
      clear m2 t2 f2 g0
      by_cases hnn : nn = 0
      · subst hnn
        obtain ⟨b0', o0', e, g0, g1, g2, g3, g4⟩ := mark_at (HR.out.below M2.out.old) k hkl
        cases e
        rw [hp] at g0 g1 g2 g3 g4
        obtain ⟨bb, ms3, htell⟩ : ∃ bb ms3, tellM ms2 p.1 p.2 = (bb, ms3) := ⟨_, _, rfl⟩
        go_wp2_with fail
        go_still_tail 11, (by kernel_rfl)
        change wpList _ _ _ _ _ w2.drew
        go_wp2_with fail
        refine (mf_tell p.1 p.2 (M2.out.below (below_drew w2)) htell).mono ?_
        rintro e w3 ⟨F3, rfl, m3, t3, f3⟩
        have M3 := Lib.hid m3
        have G3 := Lib.hid (G2.out.tell htell)
        have T3 := Lib.hid (T2.out.trans (Tch.of_drew t3) (fun j hj => F2'.out j hj))
        have F3' := Lib.hid (show ∀ j ∈ F3, j ∈ F ∨ w.heap.size ≤ j from fun j hj => by
          rcases f3 j hj with h | h
          · exact F2'.out j h
          · right
            have := T2.out.size
            have h' : w2.heap.size ≤ j := h
            omega)
        clear m3 t3 f3
        go_wp2_with fail
        exact ⟨⟨k + 1, F3, ms3, by omega, by go_num, M3.out, G3.out, T3.out, F3'.out⟩, by simp [intOf]; omega⟩
      · have e0 : ((nn : Int) == 0) = false := by simp [hnn]
        go_wp2_with fail
        exact ⟨⟨k + 1, F2, ms2, by omega, by go_num, M2.out, G2.out, T2.out, F2'.out⟩, by simp [intOf]; omega⟩
    · obtain rfl : k = N := by omega
      go_wp2_with fail
      go_end0
      exact ⟨F', ms', rfl, HM1.out, HG1.out, HT1.out, HF1.out⟩
end Go.Proofs.Ytgmoodcojpbbdaa

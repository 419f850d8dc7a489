import Derived.Test.YtafmhpcfjmannaaIBoth
import Derived.Test.YtafmhpcfjmannaaIFull
set_option linter.unusedVariables false
set_option linter.unusedSimpArgs false
namespace Go.Proofs.Ytafmhpcfjmannaa
open Go.RowKit

def cntB (l : List Nat) (x : Nat) (b : Bool) : Nat := if b then l.count x else 0
theorem cntB_le (l : List Nat) (x : Nat) (b : Bool) : cntB l x b ≤ l.length := by
  unfold cntB
  split
  · exact List.count_le_length
  · omega
theorem cntB_succ (l : List Nat) (x : Nat) (b : Bool) (j : Nat) (hj : j < l.length) : cntB (l.take (j + 1)) x b = cntB (l.take j) x b + if l[j] = x ∧ b = true then 1 else 0 := by
  unfold cntB
  rw [List.take_succ_eq_append_getElem hj, List.count_append]
  cases b
  · simp
  · by_cases h : l[j] = x <;> simp [h]
theorem stp_add (f n : Nat) (hf : f < 4294967296) (hn : n < 4294967296) : stp f (mod32 (f + n)) = n := by unfold stp mod32; omega
theorem filter_two {α : Type} (l : List α) (p q r : α → Bool) (h : ∀ x ∈ l, p x = (q x || r x)) (hd : ∀ x ∈ l, ¬ (q x = true ∧ r x = true)) : (l.filter p).length = (l.filter q).length + (l.filter r).length := by
  induction l with
  | nil => rfl
  | cons a l ih =>
    have ih' := ih (fun x hx => h x (by simp [hx])) (fun x hx => hd x (by simp [hx]))
    have h1 := h a (by simp)
    have h2 := hd a (by simp)
    simp only [List.filter_cons, h1]
    cases hq : q a <;> cases hr : r a <;> simp [hq, hr] at h2 ⊢ <;> omega
/-- A range that is cut. -/
theorem cut_law (es : Is) (hg : GoodI es) (f n k : Nat) (hf : f < 4294967296) (hn : n < 1073741824) (hk : k ≤ n) (A B : List Nat)
    (hA : rangeI es f (mod32 (f + k)) = A) (hB : (k < n ∧ rangeI es (mod32 (f + k + 1)) (mod32 (f + n)) = B) ∨ (k = n ∧ B = [])) :
    (rangeI es f (mod32 (f + n))).length = A.length + B.length ∧ ∀ x ∈ rangeI es f (mod32 (f + n)), cntB A x (decide (stp f x ≤ k)) + cntB B x (!decide (stp f x ≤ k)) = 1 := by
  have h1 : ∀ m, m ≤ n → rangeI es f (mod32 (f + m)) = (es.filter fun p => decide (stp f p.1 ≤ m)).map (·.1) := fun m hm => by
    have : stp f (mod32 (f + m)) = m := stp_add f m hf (by omega)
    rw [rangeI, this, if_pos (by omega)]
    simp only [inR, this]
  have hB' : B = (es.filter fun p => decide (k < stp f p.1 ∧ stp f p.1 ≤ n)).map (·.1) := by
    rcases hB with ⟨hkn, hB⟩ | ⟨hkn, hB⟩
    · rw [← hB]
      have h2 : stp (mod32 (f + k + 1)) (mod32 (f + n)) = n - k - 1 := by unfold stp mod32; omega
      rw [rangeI, h2, if_pos (by omega)]
      congr 1
      apply List.filter_congr
      intro p hp
      have hs := hg.sm p hp
      simp only [inR, h2]
      rw [decide_eq_decide]
      unfold stp mod32
      omega
    · subst hkn hB
      symm
      rw [List.map_eq_nil_iff, List.filter_eq_nil_iff]
      intro p hp
      simp only [decide_eq_true_eq]
      omega
  rw [h1 n (Nat.le_refl _)]
  rw [h1 k hk] at hA
  subst hA hB'
  refine ⟨?_, fun x hx => ?_⟩
  · simp only [List.length_map]
    refine filter_two _ _ _ _ (fun p _ => ?_) (fun p _ => ?_)
    · rw [Bool.eq_iff_iff]
      simp
      omega
    · simp
      omega
  · obtain ⟨p, hp, rfl⟩ := List.mem_map.1 hx
    have hpm := List.mem_filter.1 hp
    have hps : stp f p.1 ≤ n := by simpa using hpm.2
    have hnd : ∀ q : Nat × Ky → Bool, (((es.filter q).map (·.1))).Nodup := fun q => hg.ids.sublist (List.filter_sublist.map _)
    by_cases hl : stp f p.1 ≤ k
    · have hm : p.1 ∈ (es.filter fun p => decide (stp f p.1 ≤ k)).map (·.1) := List.mem_map.2 ⟨p, List.mem_filter.2 ⟨hpm.1, by simpa using hl⟩, rfl⟩
      have hc : ((es.filter fun p => decide (stp f p.1 ≤ k)).map (·.1)).count p.1 = 1 := by
        rw [List.Nodup.count (hnd _), if_pos hm]
      simp [cntB, hl, hc]
    · have hm : p.1 ∈ (es.filter fun p => decide (k < stp f p.1 ∧ stp f p.1 ≤ n)).map (·.1) := List.mem_map.2 ⟨p, List.mem_filter.2 ⟨hpm.1, by simp; omega⟩, rfl⟩
      have hc : ((es.filter fun p => decide (k < stp f p.1 ∧ stp f p.1 ≤ n)).map (·.1)).count p.1 = 1 := by
        rw [List.Nodup.count (hnd _), if_pos hm]
      have hdl : decide (stp f p.1 ≤ k) = false := decide_eq_false hl
      rw [hdl]
      simp only [cntB, Bool.not_false, if_true, Bool.false_eq_true, if_false, Nat.zero_add]
      exact hc
theorem one_law (es : Is) (hg : GoodI es) (f : Nat) (hf : f < 4294967296) : (∃ k, getA es f = (k, true) ∧ rangeI es f f = [f]) ∨ (∃ k, getA es f = (k, false) ∧ rangeI es f f = []) := by
  have h0 : stp f f = 0 := by unfold stp; omega
  have hr : rangeI es f f = (es.map (·.1)).filter fun x => decide (x = f) := by
    rw [rangeI, h0, if_pos (by omega), List.filter_map]
    congr 1
    apply List.filter_congr
    intro p hp
    have hs := hg.sm p hp
    simp only [inR, h0, Function.comp]
    rw [decide_eq_decide]
    unfold stp
    omega
  rcases getA_cases es f with ⟨k, h1, h2⟩ | ⟨h1, h2⟩
  · refine .inl ⟨k, h1, ?_⟩
    rw [hr]
    have hm : f ∈ es.map (·.1) := List.mem_map.2 ⟨_, h2, rfl⟩
    have hn := hg.ids
    clear hr h1 h2 hg
    generalize es.map (·.1) = l at hm hn ⊢
    induction l with
    | nil => cases hm
    | cons x l ih =>
      simp only [List.nodup_cons] at hn
      by_cases hx : x = f
      · subst hx
        rw [List.filter_cons_of_pos (by simp), List.filter_eq_nil_iff.2]
        intro y hy
        simp
        intro e
        exact hn.1 (e ▸ hy)
      · rw [List.filter_cons_of_neg (by simpa using hx)]
        exact ih (by simpa [Ne.symm hx] using hm) hn.2
  · refine .inr ⟨kz, h1, ?_⟩
    rw [hr, List.filter_eq_nil_iff]
    intro x hx
    obtain ⟨p, hp, rfl⟩ := List.mem_map.1 hx
    simpa using geI_none.1 h2 p hp
theorem none_law (es : Is) (f : Nat) (hf : f < 4294967296) : rangeI es (mod32 (f + 1)) f = [] := by
  have : stp (mod32 (f + 1)) f = 4294967295 := by unfold stp mod32; omega
  rw [rangeI, this, if_neg (by omega)]
theorem range_small (es : Is) (hg : GoodI es) (f l : Nat) : (rangeI es f l).length ≤ 512 ∧ ∀ x ∈ rangeI es f l, x < 4294967296 := by
  unfold rangeI
  split
  · refine ⟨?_, fun x hx => ?_⟩
    · rw [List.length_map]; exact Nat.le_trans (List.length_filter_le _ _) hg.few
    · obtain ⟨p, hp, rfl⟩ := List.mem_map.1 hx
      exact hg.sm p (List.mem_filter.1 hp).1
  · simp
theorem OwnN.rd {w : World} {base : Nat} {v : Value} {l : List Nat} (h : OwnN w base v l) : ∃ A c, v = .slice A l.length c ∧ RdC 1 w A l.length c (l.map uv) := OwnC.rd h
end Go.Proofs.Ytafmhpcfjmannaa

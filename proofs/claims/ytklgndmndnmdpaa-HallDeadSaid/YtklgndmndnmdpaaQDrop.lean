import Derived.Test.YtklgndmndnmdpaaQDel
set_option linter.unusedVariables false
set_option linter.unusedSimpArgs false
namespace Go.Proofs.Ytklgndmndnmdpaa
open Go.RowKit Go.Shelf

def rvSet (rv : Nat → Value) (p : Nat) (v : Value) : Nat → Value := fun i => if i = p then v else rv i
theorem hcs_set (room limit last p : Nat) (rv : Nat → Value) (v : Value) (hp : p < 10) : (hcs room limit last rv).set (3 + p) v = hcs room limit last (rvSet rv p v) := by
  unfold hcs
  rw [List.set_append_right _ _ (by simp)]
  congr 1
  apply List.ext_getElem
  · simp
  · intro j h1 h2
    simp only [List.length_cons, List.length_nil, List.getElem_set, List.getElem_map, List.getElem_range, rvSet]
    by_cases hj : j = p
    · subst hj; simp
    · rw [if_neg (by omega), if_neg hj]
theorem rowp_less_self {L : List En} {e : En} (hs : L.Pairwise fun a b => a.id < b.id) (he : e ∈ L) : rowp (less [e.id] L) e.m.pr = (rowp L e.m.pr).filter fun x => decide (x.id ≠ e.id) := by
  unfold rowp less
  rw [List.filter_filter, List.filter_filter]
  refine List.filter_congr fun x hx => ?_
  by_cases h : x.id = e.id <;> simp [h]
theorem rowp_less_other {L : List En} {e : En} {p : Nat} (hs : L.Pairwise fun a b => a.id < b.id) (he : e ∈ L) (hp : p ≠ e.m.pr) : rowp (less [e.id] L) p = rowp L p :=
  rowp_less fun x hx hxp hm => hp (by
    have := sorted_uniq hs hx he (by simpa using hm)
    subst this
    exact hxp.symm)
theorem less_less (x : Nat) (D : List Nat) (L : List En) : less [x] (less D L) = less (x :: D) L := by
  unfold less
  rw [List.filter_filter]
  refine List.filter_congr fun e he => ?_
  by_cases h : e.id = x <;> simp [h]
theorem dropN_map (l : List En) (bk : Nat → Nat) (i : Nat) (h : ∀ x ∈ l, bk x.id = bk i → x.id = i) : dropN (l.map fun x => bk x.id) (bk i) = (l.filter fun x => decide (x.id ≠ i)).map fun x => bk x.id := by
  unfold dropN
  rw [List.filter_map]
  congr 1
  refine List.filter_congr fun x hx => ?_
  simp only [Function.comp]
  by_cases hi : x.id = i
  · simp [hi]
  · have : bk x.id ≠ bk i := fun e => hi (h x hx e)
    simp [hi, this]
theorem WfQ.less {room limit last : Nat} {L : List En} (h : WfQ room limit last L) (D : List Nat) : WfQ room limit last (less D L) :=
  ⟨h.room1, h.room2, h.lim, Nat.le_trans (List.length_filter_le _ _) h.len, h.sorted.filter _, fun e he => h.ids e (mem_less.1 he).1, fun e he => h.ok e (mem_less.1 he).1, fun e he => h.tm e (mem_less.1 he).1⟩
section
variable {W W' : World} {B : Nat} {F : List Nat} {q room limit last : Nat} {L : List En} {bk : Nat → Nat} {bv rv : Nat → Value}
theorem Qq.dropped {e : En} (h : Qq W B F q room limit last L bk bv rv) (he : e ∈ L) {v' : Value}
    (hv : OwnC 143 1 (fun _ => True) W' 0 v' (rowp (less [e.id] L) e.m.pr).length ((rowp (less [e.id] L) e.m.pr).map fun x => ev (bk x.id))) (hvo : v'.ownBlock = (rv e.m.pr).ownBlock)
    (hq : W'.heap[q]? = some (.cells (hcs room limit last (rvSet rv e.m.pr v')).toArray 125 (0, 0)))
    (hk : ∀ k, k ≠ q → some k ≠ (rv e.m.pr).ownBlock → k < W.heap.size → W'.heap[k]? = W.heap[k]?) : Qq W' B F q room limit last (less [e.id] L) bk bv (rvSet rv e.m.pr v') := by
  have hp := (h.wf.ok e he).pr
  have hqb : Bx W q 125 (hcs room limit last rv) := h.hd
  have hrb : ∀ k, (rv e.m.pr).ownBlock = some k → ∃ cs : Array Value, W.heap[k]? = some (Obj.cells cs 143 (0, 0)) := fun k hk => by
    rcases (h.rows _ hp).2.2 with ⟨e1, _⟩ | ⟨g, cap, sp, e1, _, hh, _⟩
    · rw [e1] at hk; simp [Value.ownBlock] at hk
    · rw [e1] at hk
      have : g = k := by simpa [Value.ownBlock] using hk
      subst this
      exact ⟨_, hh⟩
  have hkT : ∀ (k : Nat) (cs : Array Value) (t : TypeId), W.heap[k]? = some (Obj.cells cs t (0, 0)) → t ≠ 125 → t ≠ 143 → W'.heap[k]? = W.heap[k]? := fun k cs t hh h1 h2 => hk k (fun e1 => by
      subst e1
      rw [h.hd] at hh
      simp only [Option.some.injEq, Obj.cells.injEq] at hh
      exact h1 hh.2.1.symm) (fun e1 => by
      obtain ⟨cs', h3⟩ := hrb k e1.symm
      rw [h3] at hh
      simp only [Option.some.injEq, Obj.cells.injEq] at hh
      exact h2 hh.2.1.symm) (heap_lt hh)
  refine ⟨hq, fun p hp' => ?_, fun x hx => (hkT _ _ _ (h.ent x (mem_less.1 hx).1) (by decide) (by decide)).trans (h.ent x (mem_less.1 hx).1), fun x hx => (h.bod x (mem_less.1 hx).1).keep fun k cs fr hh => hk k (fun e1 => ?_) (fun e1 => ?_) (heap_lt hh), h.wf.less _, fun x hx y hy => h.inj x (mem_less.1 hx).1 y (mem_less.1 hy).1, fun p p' h1 h2 hne k => ?_, h.fq, fun p hp' k hk' => ?_, fun x hx => h.fe x (mem_less.1 hx).1, h.fB, fun k hk' => ?_⟩
  · by_cases hpe : p = e.m.pr
    · subst hpe
      simp only [rvSet, if_pos]
      obtain ⟨h1, h2, h3⟩ := hv
      refine ⟨h1, h2, h3.imp id fun ⟨g, cap, sp, e1, _, r⟩ => ⟨g, cap, sp, e1, ?_, r⟩⟩
      exact h.fB g (h.fr _ hp g (by rw [← hvo, e1]; rfl))
    · simp only [rvSet, if_neg hpe]
      rw [rowp_less_other h.wf.sorted he hpe]
      refine (h.rows p hp').keep fun k hk' => hk k (fun e1 => ?_) (fun e1 => h.rdis p e.m.pr hp' hp hpe k hk' e1.symm) ((h.rows p hp').lt k hk').2
      subst e1
      exact (h.rows p hp').ne_bx hqb (by decide) hk'
  · subst e1
    rw [h.hd] at hh
    simp only [Option.some.injEq, Obj.cells.injEq] at hh
    exact absurd hh.2.1 (by decide)
  · obtain ⟨cs', h3⟩ := hrb k e1.symm
    rw [h3] at hh
    simp only [Option.some.injEq, Obj.cells.injEq] at hh
    exact absurd hh.2.1 (by decide)
  · simp only [rvSet]
    by_cases h3 : p = e.m.pr <;> by_cases h4 : p' = e.m.pr
    · omega
    · rw [if_pos h3, if_neg h4, hvo, ← h3]; exact h.rdis p p' h1 h2 hne k
    · rw [if_neg h3, if_pos h4, hvo, ← h4]; exact h.rdis p p' h1 h2 hne k
    · rw [if_neg h3, if_neg h4]; exact h.rdis p p' h1 h2 hne k
  · simp only [rvSet] at hk'
    by_cases h3 : p = e.m.pr
    · rw [if_pos h3, hvo] at hk'; exact h.fr _ hp k hk'
    · rw [if_neg h3] at hk'; exact h.fr p hp' k hk'
  · obtain ⟨cs, t, h1, h2⟩ := h.ft k hk'
    by_cases h3 : k = q
    · subst h3; exact ⟨_, _, hq, .inl rfl⟩
    · by_cases h4 : some k = (rv e.m.pr).ownBlock
      · rw [← hvo] at h4
        rcases hv.2.2 with ⟨e1, _⟩ | ⟨g, cap, sp, e1, _, hh, _⟩
        · rw [e1] at h4; simp [Value.ownBlock] at h4
        · rw [e1] at h4
          have : k = g := by simpa [Value.ownBlock] using h4
          subst this
          exact ⟨_, _, hh, .inr (.inl rfl)⟩
      · exact ⟨cs, t, (hk k h3 h4 (heap_lt h1)).trans h1, h2⟩
end
end Go.Proofs.Ytklgndmndnmdpaa

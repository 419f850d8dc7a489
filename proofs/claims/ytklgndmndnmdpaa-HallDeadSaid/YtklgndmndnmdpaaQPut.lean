import Derived.Test.YtklgndmndnmdpaaQNew
set_option linter.unusedVariables false
set_option linter.unusedSimpArgs false
namespace Go.Proofs.Ytklgndmndnmdpaa
open Go.RowKit Go.Shelf

def newE (last : Nat) (m : Mg) (now : Int) : En := ⟨last + 1, m, mom now, false⟩
def upd {α : Type} (f : Nat → α) (i : Nat) (x : α) : Nat → α := fun j => if j = i then x else f j
theorem rowp_snoc (L : List En) (e : En) (p : Nat) : rowp (L ++ [e]) p = rowp L p ++ if e.m.pr = p then [e] else [] := by
  unfold rowp
  rw [List.filter_append]
  by_cases h : e.m.pr = p <;> simp [h]
theorem hcs_last (room limit last : Nat) (rv : Nat → Value) (n : Nat) : (hcs room limit last rv).set 2 (.int .i64 n) = hcs room limit n rv := rfl
theorem WfQ.put {room limit last : Nat} {L : List En} (h : WfQ room limit last L) (m : Mg) (now : Int) (hm : WfM m) (hr : L.length < room) : WfQ room limit (last + 1) (L ++ [newE last m now]) := by
  refine ⟨h.room1, h.room2, h.lim, by simp; omega, ?_, fun e he => ?_, fun e he => ?_, fun e he => ?_⟩
  · refine List.pairwise_append.2 ⟨h.sorted, List.pairwise_singleton _ _, fun a ha b hb => ?_⟩
    simp only [List.mem_singleton] at hb
    subst hb
    have := (h.ids a ha).2
    simp only [newE]
    omega
  · rcases List.mem_append.1 he with he | he
    · have := h.ids e he; omega
    · simp only [List.mem_singleton] at he; subst he; simp only [newE]; omega
  · rcases List.mem_append.1 he with he | he
    · exact h.ok e he
    · simp only [List.mem_singleton] at he; subst he; exact hm
  · rcases List.mem_append.1 he with he | he
    · exact h.tm e he
    · simp only [List.mem_singleton] at he; subst he; exact mom_le now
section
variable {W W' : World} {B : Nat} {F : List Nat} {q room limit last : Nat} {L : List En} {bk : Nat → Nat} {bv rv : Nat → Value}
theorem Qq.put (h : Qq W B F q room limit last L bk bv rv) {m : Mg} {now : Int} {b : Nat} {bd v' : Value} (hm : WfM m) (hr : L.length < room) (hBW : B ≤ W.heap.size)
    (hv : OwnC 143 1 (fun _ => True) W' B v' ((rowp L m.pr).length + 1) (((rowp L m.pr).map fun x => ev (bk x.id)) ++ [ev b])) (hvo : v'.ownBlock = (rv m.pr).ownBlock ∨ ∃ k, v'.ownBlock = some k ∧ W.heap.size ≤ k)
    (hq : Bx W' q 125 (hcs room limit (last + 1) (rvSet rv m.pr v'))) (he : Bx W' b 145 (ecs (newE last m now) bd)) (hb : W.heap.size ≤ b) (hbd : Bdv W' bd m.body)
    (hk : ∀ k, k ≠ q → some k ≠ (rv m.pr).ownBlock → k < W.heap.size → W'.heap[k]? = W.heap[k]?) :
    Qq W' B (b :: (v'.ownBlock.toList ++ F.filter fun k => decide (some k ≠ (rv m.pr).ownBlock))) q room limit (last + 1) (L ++ [newE last m now]) (upd bk (last + 1) b) (upd bv (last + 1) bd) (rvSet rv m.pr v') := by
  have hp := hm.pr
  have hqb : Bx W q 125 (hcs room limit last rv) := h.hd
  have hold : ∀ x ∈ L, x.id ≠ last + 1 := fun x hx => by have := (h.wf.ids x hx).2; omega
  have hub : ∀ x ∈ L, upd bk (last + 1) b x.id = bk x.id := fun x hx => by simp [upd, hold x hx]
  have huv : ∀ x ∈ L, upd bv (last + 1) bd x.id = bv x.id := fun x hx => by simp [upd, hold x hx]
  have hrb : ∀ p, p < 10 → ∀ k, (rv p).ownBlock = some k → ∃ cs : Array Value, W.heap[k]? = some (Obj.cells cs 143 (0, 0)) := fun p hp k hk => by
    rcases (h.rows p hp).2.2 with ⟨e1, _⟩ | ⟨g, cap, sp, e1, _, hh, _⟩
    · rw [e1] at hk; simp [Value.ownBlock] at hk
    · rw [e1] at hk
      have : g = k := by simpa [Value.ownBlock] using hk
      subst this
      exact ⟨_, hh⟩
  have hkT : ∀ (k : Nat) (cs : Array Value) (t : TypeId) (fr : Nat × Nat), W.heap[k]? = some (Obj.cells cs t fr) → t ≠ 125 → t ≠ 143 → W'.heap[k]? = W.heap[k]? := fun k cs t fr hh h1 h2 => hk k (fun e1 => by
      subst e1
      rw [h.hd] at hh
      simp only [Option.some.injEq, Obj.cells.injEq] at hh
      exact h1 hh.2.1.symm) (fun e1 => by
      obtain ⟨cs', h3⟩ := hrb _ hp k e1.symm
      rw [h3] at hh
      simp only [Option.some.injEq, Obj.cells.injEq] at hh
      exact h2 hh.2.1.symm) (heap_lt hh)
  have hrow : ∀ p, (rowp L p).map (fun x => ev (upd bk (last + 1) b x.id)) = (rowp L p).map fun x => ev (bk x.id) := fun p => List.map_congr_left fun x hx => by rw [hub x (mem_rowp.1 hx).1]
  refine ⟨hq, fun p hp' => ?_, fun x hx => ?_, fun x hx => ?_, h.wf.put m now hm hr, fun x hx y hy hxy => ?_, fun p p' h1 h2 hne k => ?_, ?_, fun p hp' k hk' => ?_, fun x hx => ?_, fun k hk' => ?_, fun k hk' => ?_⟩
  · rw [rowp_snoc]
    by_cases hpe : p = m.pr
    · subst hpe
      simp only [rvSet, if_pos, newE, List.length_append, List.map_append, List.length_singleton, List.map_cons, List.map_nil, hrow]
      rw [show upd bk (last + 1) b (last + 1) = b by simp [upd]]
      exact hv
    · have : ¬ (newE last m now).m.pr = p := fun e => hpe e.symm
      simp only [rvSet, if_neg hpe, if_neg this, List.append_nil, hrow]
      refine (h.rows p hp').keep fun k hk' => hk k (fun e1 => ?_) (fun e1 => h.rdis p m.pr hp' hp hpe k hk' e1.symm) ((h.rows p hp').lt k hk').2
      subst e1
      exact (h.rows p hp').ne_bx hqb (by decide) hk'
  · rcases List.mem_append.1 hx with hx | hx
    · rw [hub x hx, huv x hx]
      exact (hkT _ _ _ _ (h.ent x hx) (by decide) (by decide)).trans (h.ent x hx)
    · simp only [List.mem_singleton] at hx
      subst hx
      rw [show upd bk (last + 1) b (newE last m now).id = b by simp [upd, newE], show upd bv (last + 1) bd (newE last m now).id = bd by simp [upd, newE]]
      exact he
  · rcases List.mem_append.1 hx with hx | hx
    · rw [huv x hx]
      exact (h.bod x hx).keep fun k cs fr hh => hkT _ _ _ _ hh (by decide) (by decide)
    · simp only [List.mem_singleton] at hx
      subst hx
      rw [show upd bv (last + 1) bd (newE last m now).id = bd by simp [upd, newE]]
      exact hbd
  · rcases List.mem_append.1 hx with hx | hx <;> rcases List.mem_append.1 hy with hy | hy
    · rw [hub x hx, hub y hy] at hxy
      exact h.inj x hx y hy hxy
    · simp only [List.mem_singleton] at hy
      subst hy
      rw [hub x hx, show upd bk (last + 1) b (newE last m now).id = b by simp [upd, newE]] at hxy
      have := h.lt _ (h.fe x hx)
      omega
    · simp only [List.mem_singleton] at hx
      subst hx
      rw [hub y hy, show upd bk (last + 1) b (newE last m now).id = b by simp [upd, newE]] at hxy
      have := h.lt _ (h.fe y hy)
      omega
    · simp only [List.mem_singleton] at hx hy
      subst hx hy
      rfl
  · simp only [rvSet]
    by_cases h3 : p = m.pr <;> by_cases h4 : p' = m.pr
    · omega
    · rw [if_pos h3, if_neg h4]
      intro hk1 hk2
      rcases hvo with hvo | ⟨k', hvo, hk'⟩
      · rw [hvo, ← h3] at hk1; exact h.rdis p p' h1 h2 hne k hk1 hk2
      · rw [hvo] at hk1
        have := h.lt k (h.fr p' h2 k hk2)
        simp only [Option.some.injEq] at hk1
        omega
    · rw [if_neg h3, if_pos h4]
      intro hk1 hk2
      rcases hvo with hvo | ⟨k', hvo, hk'⟩
      · rw [hvo, ← h4] at hk2; exact h.rdis p p' h1 h2 hne k hk1 hk2
      · rw [hvo] at hk2
        have := h.lt k (h.fr p h1 k hk1)
        simp only [Option.some.injEq] at hk2
        omega
    · rw [if_neg h3, if_neg h4]; exact h.rdis p p' h1 h2 hne k
  · have : some q ≠ (rv m.pr).ownBlock := fun e => (h.rows _ hp).ne_bx hqb (by decide) e.symm
    simp [h.fq, this]
  · simp only [rvSet] at hk'
    by_cases h3 : p = m.pr
    · rw [if_pos h3] at hk'; simp [hk']
    · rw [if_neg h3] at hk'
      have : some k ≠ (rv m.pr).ownBlock := fun e => h.rdis p m.pr hp' hp h3 k hk' e.symm
      simp [h.fr p hp' k hk', this]
  · rcases List.mem_append.1 hx with hx | hx
    · rw [hub x hx]
      have : some (bk x.id) ≠ (rv m.pr).ownBlock := fun e => (h.rows _ hp).ne_bx (show Bx W (bk x.id) 145 _ from h.ent x hx) (by decide) e.symm
      simp [h.fe x hx, this]
    · simp only [List.mem_singleton] at hx
      subst hx
      simp [upd, newE]
  · simp only [List.mem_cons, List.mem_append, Option.mem_toList, List.mem_filter] at hk'
    rcases hk' with rfl | hk' | hk'
    · omega
    · exact (hv.lt k hk').1
    · exact h.fB k hk'.1
  · simp only [List.mem_cons, List.mem_append, Option.mem_toList, List.mem_filter, decide_eq_true_eq] at hk'
    have hown : ∀ k, v'.ownBlock = some k → ∃ cs t, W'.heap[k]? = some (.cells cs t (0, 0)) ∧ (t = 125 ∨ t = 143 ∨ t = 145) := fun k hk' => by
      rcases hv.2.2 with ⟨e1, _⟩ | ⟨g, cap, sp, e1, _, hh, _⟩
      · rw [e1] at hk'; simp [Value.ownBlock] at hk'
      · rw [e1] at hk'
        have : g = k := by simpa [Value.ownBlock] using hk'
        subst this
        exact ⟨_, _, hh, .inr (.inl rfl)⟩
    rcases hk' with rfl | hk' | hk'
    · exact ⟨_, _, he, .inr (.inr rfl)⟩
    · exact hown k hk'
    · obtain ⟨cs, t, h1, h2⟩ := h.ft k hk'.1
      by_cases h3 : k = q
      · subst h3; exact ⟨_, _, hq, .inl rfl⟩
      · exact ⟨cs, t, (hk k h3 hk'.2 (heap_lt h1)).trans h1, h2⟩
end
end Go.Proofs.Ytklgndmndnmdpaa

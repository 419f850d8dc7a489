import Derived.Test.YtklgndmndnmdpaaQPut2
set_option linter.unusedVariables false
set_option linter.unusedSimpArgs false
namespace Go.Proofs.Ytklgndmndnmdpaa
open Go.RowKit Go.Shelf

/-- An entry is another one. -/
def modL (e' : En) (L : List En) : List En := L.map fun x => if x.id = e'.id then e' else x
theorem mem_modL {e' x : En} {L : List En} (h : x ∈ modL e' L) : x = e' ∨ (x ∈ L ∧ x.id ≠ e'.id) := by
  obtain ⟨y, hy, rfl⟩ := List.mem_map.1 h
  by_cases hh : y.id = e'.id
  · rw [if_pos hh]; exact .inl rfl
  · rw [if_neg hh]; exact .inr ⟨hy, hh⟩
theorem modL_ids (e' : En) (L : List En) : (modL e' L).map (·.id) = L.map (·.id) := by
  unfold modL
  rw [List.map_map]
  refine List.map_congr_left fun x _ => ?_
  simp only [Function.comp]
  split
  · rename_i h; exact h.symm
  · rfl
theorem less_modL (e' : En) (L : List En) : less [e'.id] (modL e' L) = less [e'.id] L := by
  unfold less modL
  induction L with
  | nil => rfl
  | cons x L ih =>
    simp only [List.map_cons, List.filter_cons]
    by_cases h : x.id = e'.id
    · simp [h]
      simpa using ih
    · simp [h]
      simpa using ih
theorem rowp_modL {e e' : En} {L : List En} (hs : L.Pairwise fun a b => a.id < b.id) (he : e ∈ L) (hid : e'.id = e.id) (hpr : e'.m.pr = e.m.pr) (p : Nat) : rowp (modL e' L) p = modL e' (rowp L p) := by
  unfold rowp modL
  rw [List.filter_map]
  congr 1
  refine List.filter_congr fun x hx => ?_
  simp only [Function.comp]
  by_cases h : x.id = e'.id
  · have := sorted_uniq hs hx he (h.trans hid)
    subst this
    rw [if_pos h, hpr]
  · rw [if_neg h]
theorem WfQ.mod {room limit last : Nat} {L : List En} {e e' : En} (h : WfQ room limit last L) (he : e ∈ L) (hid : e'.id = e.id) (hm : WfM e'.m) (ht : e'.tm ≤ 2305843009213693952) : WfQ room limit last (modL e' L) := by
  refine ⟨h.room1, h.room2, h.lim, by unfold modL; rw [List.length_map]; exact h.len, ?_, fun x hx => ?_, fun x hx => ?_, fun x hx => ?_⟩
  · have h1 : (L.map (·.id)).Pairwise (· < ·) := by rw [List.pairwise_map]; exact h.sorted
    rw [← modL_ids e' L, List.pairwise_map] at h1
    exact h1
  · rcases mem_modL hx with rfl | ⟨h1, _⟩
    · rw [hid]; exact h.ids e he
    · exact h.ids x h1
  · rcases mem_modL hx with rfl | ⟨h1, _⟩
    · exact hm
    · exact h.ok x h1
  · rcases mem_modL hx with rfl | ⟨h1, _⟩
    · exact ht
    · exact h.tm x h1
section
variable {W W' : World} {B : Nat} {F : List Nat} {q room limit last : Nat} {L : List En} {bk : Nat → Nat} {bv rv : Nat → Value}
theorem Qq.modified {e e' : En} (h : Qq W B F q room limit last L bk bv rv) (he : e ∈ L) (hid : e'.id = e.id) (hpr : e'.m.pr = e.m.pr) (hbo : e'.m.body = e.m.body) (hm : WfM e'.m) (ht : e'.tm ≤ 2305843009213693952)
    (hb : Bx W' (bk e.id) 145 (ecs e' (bv e.id))) (hk : ∀ k, k ≠ bk e.id → k < W.heap.size → W'.heap[k]? = W.heap[k]?) : Qq W' B F q room limit last (modL e' L) bk bv rv := by
  have hent : Bx W (bk e.id) 145 (ecs e (bv e.id)) := h.ent e he
  have hqb : Bx W q 125 (hcs room limit last rv) := h.hd
  have hu8 : ∀ (k : Nat) (cs : Array Value) (fr : Nat × Nat), W.heap[k]? = some (Obj.cells cs 5 fr) → W'.heap[k]? = W.heap[k]? := fun k cs fr hh => hk k (fun e1 => by
    subst e1
    unfold Bx at hent
    rw [hh] at hent
    simp only [Option.some.injEq, Obj.cells.injEq] at hent
    exact absurd hent.2.1 (by decide)) (heap_lt hh)
  refine ⟨(hk q (hqb.ne hent (by decide)) hqb.lt).trans h.hd, fun p hp => ?_, fun x hx => ?_, fun x hx => ?_, h.wf.mod he hid hm ht, fun x hx y hy hxy => ?_, h.rdis, h.fq, h.fr, fun x hx => ?_, h.fB, fun k hk' => ?_⟩
  · rw [rowp_modL h.wf.sorted he hid hpr p]
    have h1 : (modL e' (rowp L p)).map (fun x => ev (bk x.id)) = (rowp L p).map fun x => ev (bk x.id) := by
      have := congrArg (List.map fun i => ev (bk i)) (modL_ids e' (rowp L p))
      rw [List.map_map, List.map_map] at this
      exact this
    have h2 : (modL e' (rowp L p)).length = (rowp L p).length := by unfold modL; rw [List.length_map]
    rw [h1, h2]
    exact (h.rows p hp).keep fun k hk' => hk k (fun e1 => by subst e1; exact (h.rows p hp).ne_bx hent (by decide) hk') ((h.rows p hp).lt k hk').2
  · rcases mem_modL hx with rfl | ⟨h1, h2⟩
    · rw [hid]; exact hb
    · have h3 : bk x.id ≠ bk e.id := fun e1 => h2 (by rw [hid]; exact h.inj x h1 e he e1)
      exact (hk _ h3 (heap_lt (h.ent x h1))).trans (h.ent x h1)
  · rcases mem_modL hx with rfl | ⟨h1, h2⟩
    · rw [hid, hbo]; exact (h.bod e he).keep hu8
    · exact (h.bod x h1).keep hu8
  · have hin : ∀ z ∈ modL e' L, ∃ z0 ∈ L, z0.id = z.id := fun z hz => by
      rcases mem_modL hz with rfl | ⟨h1, _⟩
      · exact ⟨e, he, hid.symm⟩
      · exact ⟨z, h1, rfl⟩
    obtain ⟨x0, hx0, hxi⟩ := hin x hx
    obtain ⟨y0, hy0, hyi⟩ := hin y hy
    rw [← hxi, ← hyi] at hxy ⊢
    exact h.inj x0 hx0 y0 hy0 hxy
  · rcases mem_modL hx with rfl | ⟨h1, _⟩
    · rw [hid]; exact h.fe e he
    · exact h.fe x h1
  · obtain ⟨cs, t, h1, h2⟩ := h.ft k hk'
    by_cases hke : k = bk e.id
    · subst hke; exact ⟨_, _, hb, .inr (.inr rfl)⟩
    · exact ⟨cs, t, (hk k hke (heap_lt h1)).trans h1, h2⟩
end
/-- The item that is acquired. -/
def acqQ (L : List En) (now : Int) : Option En := (ordQ false L).find? fun e => !oldE e now
theorem acq_mem {L : List En} {now : Int} {e : En} (h : acqQ L now = some e) : e ∈ L ∧ e.held = false := mem_ord (List.mem_of_find?_eq_some h)
theorem enOk_q {w : World} {B : Nat} {F : List Nat} {q room limit last : Nat} {L : List En} {bk : Nat → Nat} {bv rv : Nat → Value} (h : Qq w B F q room limit last L bk bv rv) {e : En} (he : e ∈ L) : EnOk w (bk e.id) (bv e.id) e := ⟨h.ent e he, h.bod e he, h.wf.ok e he, h.wf.tm e he⟩
theorem qacq_q {w : World} {B : Nat} {F : List Nat} {q room limit last : Nat} {L : List En} {bk : Nat → Nat} {bv rv : Nat → Value} (h : Qq w B F q room limit last L bk bv rv) (now : Int) :
    Calls Try.prog 53 #[.pointer (some ⟨q, 0, none⟩), .int .i64 now] w fun r w' =>
      (acqQ L now = none ∧ r = .returned (.tuple #[.agg zItem.toArray, .bool false]) ∧ Qq w' B F q room limit last L bk bv rv ∧ Below w.heap.size w w') ∨
      ∃ e v, acqQ L now = some e ∧ r = .returned (.tuple #[.agg (itc (e, v)).toArray, .bool true]) ∧ OwnB w' w.heap.size v e.m.body ∧ Qq w' B F q room limit last (modL (holdE e) L) bk bv rv ∧ Tch F w w' := by
  refine (qacq_calls w (some ⟨q, 0, none⟩) now (fun b => ordQ b L) bk bv (seqP_q h) fun e he => ⟨enOk_q h (mem_ord he).1, (mem_ord he).2⟩).mono ?_
  rintro r w' (⟨h1, h2, h3⟩ | ⟨e, v, h1, h2, h3, h4, h5⟩)
  · exact .inl ⟨h1, h2, h.below h3, h3⟩
  · have he := (acq_mem h1).1
    exact .inr ⟨e, v, h1, h2, h3, h.modified he rfl rfl rfl (h.wf.ok e he) (h.wf.tm e he) h4 (fun k hk hlt => h5.block k hlt (by simpa using hk)), h5.mono fun k hk => by simp at hk; rw [hk]; exact h.fe e he⟩
theorem qlist_q {w : World} {B : Nat} {F : List Nat} {q room limit last : Nat} {L : List En} {bk : Nat → Nat} {bv rv : Nat → Value} (h : Qq w B F q room limit last L bk bv rv) :
    Calls Try.prog 46 #[.pointer (some ⟨q, 0, none⟩)] w fun e w' => ∃ (v : Value) (its : List (En × Value)), e = .returned v ∧ its.map (·.1) = ordQ false L ∧ OwnC 104 6 (fun _ => True) w' w.heap.size v its.length (its.flatMap itc) ∧ (∀ x ∈ its, OwnB w' w.heap.size x.2 x.1.m.body) ∧ Below w.heap.size w w' :=
  qlist_calls w _ _ bk bv (seqP_q h) (Nat.le_trans (ord_len h.wf) (by omega)) fun e he => enOk_q h (mem_ord he).1
end Go.Proofs.Ytklgndmndnmdpaa

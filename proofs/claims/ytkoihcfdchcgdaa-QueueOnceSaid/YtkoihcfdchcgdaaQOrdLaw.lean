import Derived.Test.YtkoihcfdchcgdaaQNilL
set_option linter.unusedVariables false
set_option linter.unusedSimpArgs false
namespace Go.Proofs.Ytkoihcfdchcgdaa
open Go.RowKit Go.Shelf

theorem ord_sorted {L : List En} (b : Bool) (h : L.Pairwise fun a b => a.id < b.id) : (ordQ b L).Pairwise fun a c => c.m.pr < a.m.pr ∨ (c.m.pr = a.m.pr ∧ a.id < c.id) := by
  unfold ordQ
  rw [List.pairwise_flatMap]
  refine ⟨fun p _ => ?_, ?_⟩
  · unfold ask rowp
    refine List.Pairwise.imp_of_mem ?_ ((h.filter _).filter _)
    intro a c ha hc hac
    have h1 := (mem_rowp.1 (mem_ask.1 ha).1).2
    have h2 := (mem_rowp.1 (mem_ask.1 hc).1).2
    exact .inr ⟨by rw [h1, h2], hac⟩
  · have : prs.Pairwise fun a b => b < a := by decide
    refine this.imp fun {a c} hac x hx y hy => ?_
    have h1 := (mem_rowp.1 (mem_ask.1 hx).1).2
    have h2 := (mem_rowp.1 (mem_ask.1 hy).1).2
    exact .inl (by rw [h1, h2]; exact hac)
/-- A message that never is old. -/
structure Yng (e : En) : Prop where
  held : e.held = false
  ttl : e.m.ttl = 0
  body : e.m.body.length = 1
theorem old_yng {e : En} (h : e.m.ttl = 0) (now : Int) : oldE e now = false := by
  unfold oldE
  rw [h]
  simp
theorem acq_head {L : List En} (now : Int) (hy : ∀ e ∈ L, e.m.ttl = 0) : acqQ L now = (ordQ false L).head? := by
  unfold acqQ
  cases ho : ordQ false L with
  | nil => rfl
  | cons e r =>
    have : e ∈ L := (mem_ord (b := false) (by rw [ho]; simp)).1
    rw [List.find?_cons, old_yng (hy e this)]
    rfl
theorem acq_min {L : List En} {now : Int} {e : En} (ha : acqQ L now = some e) (hy : ∀ e ∈ L, Yng e) (hs : L.Pairwise fun a b => a.id < b.id) (hp : ∀ e ∈ L, e.m.pr < 10) :
    ∀ x ∈ L, x = e ∨ x.m.pr < e.m.pr ∨ (x.m.pr = e.m.pr ∧ e.id < x.id) := by
  rw [acq_head now fun e he => (hy e he).ttl] at ha
  intro x hx
  have hm := mem_ord_of hx (hy x hx).held (hp x hx)
  have ho := ord_sorted false hs
  cases hq : ordQ false L with
  | nil => rw [hq] at hm; cases hm
  | cons a r =>
    rw [hq] at ha hm ho
    cases ha
    rcases List.mem_cons.1 hm with rfl | hm
    · exact .inl rfl
    · exact .inr ((List.pairwise_cons.1 ho).1 x hm)
theorem acq_any {L : List En} (now : Int) (hy : ∀ e ∈ L, Yng e) (hp : ∀ e ∈ L, e.m.pr < 10) (h0 : L ≠ []) : ∃ e, acqQ L now = some e := by
  rw [acq_head now fun e he => (hy e he).ttl]
  cases L with
  | nil => exact absurd rfl h0
  | cons x L =>
    have hm := mem_ord_of (b := false) (List.mem_cons_self (a := x) (l := L)) (hy x (by simp)).held (hp x (by simp))
    cases hq : ordQ false (x :: L) with
    | nil => rw [hq] at hm; cases hm
    | cons a r => exact ⟨a, rfl⟩
theorem find_one {α : Type} {p : α → Bool} {l : List α} {x : α} (hx : x ∈ l) (hp : p x = true) (hu : ∀ y ∈ l, p y = true → y = x) : l.find? p = some x := by
  cases hf : l.find? p with
  | none => have := List.find?_eq_none.1 hf x hx; rw [hp] at this; exact absurd rfl this
  | some y => rw [hu y (List.mem_of_find?_eq_some hf) (List.find?_some hf)]
theorem findH_mod {L : List En} {e : En} (he : e ∈ L) : findH (modL (holdE e) L) (e.id : Int) = some (holdE e) := by
  unfold findH
  refine find_one (mem_modL_self he rfl) (by simp [holdE]) fun y hy hp => ?_
  have hp := of_decide_eq_true hp
  rcases mem_modL hy with h | ⟨_, h⟩
  · exact h
  · exact absurd (by have := hp.1; exact_mod_cast this) h
theorem mod_back {L : List En} {e : En} (he : e ∈ L) (hh : e.held = false) (hs : L.Pairwise fun a b => a.id < b.id) : modL (freeE (holdE e)) (modL (holdE e) L) = L := by
  unfold modL
  rw [List.map_map]
  have : ∀ x ∈ L, ((fun x => if x.id = (freeE (holdE e)).id then freeE (holdE e) else x) ∘ fun x => if x.id = (holdE e).id then holdE e else x) x = x := fun x hx => by
    have h1 : (freeE (holdE e)).id = e.id := rfl
    have h2 : (holdE e).id = e.id := rfl
    have h3 : freeE (holdE e) = e := by unfold freeE holdE; cases e; simp only at hh; rw [hh]
    simp only [Function.comp, h1, h2]
    by_cases hi : x.id = e.id
    · rw [if_pos hi, if_pos h2, h3]; exact (sorted_uniq hs hx he hi).symm
    · rw [if_neg hi, if_neg hi]
  rw [List.map_congr_left this, List.map_id']
theorem less_mod {L : List En} {e : En} : less [e.id] (modL (holdE e) L) = less [e.id] L := by
  unfold less modL
  induction L with
  | nil => rfl
  | cons x L ih =>
    rw [List.map_cons]
    by_cases hi : x.id = (holdE e).id
    · have h2 : x.id = e.id := hi
      rw [if_pos hi, List.filter_cons_of_neg (by simp [holdE]), List.filter_cons_of_neg (by simp [h2]), ih]
    · have h2 : ¬ x.id = e.id := hi
      rw [if_neg hi, List.filter_cons_of_pos (by simp [h2]), List.filter_cons_of_pos (by simp [h2]), ih]
theorem less_len {L : List En} {e : En} (he : e ∈ L) (hs : L.Pairwise fun a b => a.id < b.id) : (less [e.id] L).length + 1 = L.length := by
  induction L with
  | nil => cases he
  | cons x L ih =>
    have hs2 := List.pairwise_cons.1 hs
    unfold less at ih ⊢
    rcases List.mem_cons.1 he with rfl | he
    · rw [List.filter_cons_of_neg (by simp)]
      have : L.filter (fun y => !([e.id].contains y.id)) = L := List.filter_eq_self.2 fun y hy => by
        have := hs2.1 y hy
        simp
        omega
      rw [this]
      rfl
    · have := hs2.1 e he
      rw [List.filter_cons_of_pos (by simp; omega), List.length_cons, ih he hs2.2]
      rfl
theorem set_rel {L : List En} {e : En} (he : e ∈ L) (hh : e.held = false) (hs : L.Pairwise fun a b => a.id < b.id) (b : Nat) (c : List UInt8) : setQ 0 (modL (holdE e) L) (e.id : Int) ⟨4, 0, b, c⟩ = (L, 0, none) := by
  unfold setQ
  rw [findH_mod he]
  show ((modL (freeE (holdE e)) (modL (holdE e) L), 0, none) : List En × Nat × Option En) = _
  rw [mod_back he hh hs]
theorem set_acc {L : List En} {e : En} (he : e ∈ L) (b : Nat) (c : List UInt8) : setQ 0 (modL (holdE e) L) (e.id : Int) ⟨2, 0, b, c⟩ = (less [e.id] L, 0, none) := by
  unfold setQ
  rw [findH_mod he]
  show ((less [(holdE e).id] (modL (holdE e) L), 0, none) : List En × Nat × Option En) = _
  rw [show (holdE e).id = e.id from rfl, less_mod]
end Go.Proofs.Ytkoihcfdchcgdaa

import Derived.Test.YtkoihcfdchcgdaaQStep
import Derived.Test.YtkoihcfdchcgdaaQOrdLaw
set_option linter.unusedVariables false
set_option linter.unusedSimpArgs false
namespace Go.Proofs.Ytkoihcfdchcgdaa
open Go.RowKit Go.Shelf

theorem nodup_le : ∀ (l m : List Nat), l.Nodup → (∀ x ∈ l, x ∈ m) → l.length ≤ m.length
  | [], _, _, _ => Nat.zero_le _
  | x :: l, m, hn, hs => by
    have hx : x ∈ m := hs x (by simp)
    have h1 : ∀ y ∈ l, y ∈ m.erase x := fun y hy => by
      have hne : y ≠ x := fun e => by subst e; exact (List.nodup_cons.1 hn).1 hy
      exact (List.mem_erase_of_ne hne).2 (hs y (by simp [hy]))
    have h2 := nodup_le l (m.erase x) (List.nodup_cons.1 hn).2 h1
    have h3 := List.length_erase_of_mem hx
    have h4 : 0 < m.length := List.length_pos_of_mem hx
    simp only [List.length_cons]
    omega
theorem nodup_len {l m : List Nat} (hl : l.Nodup) (hm : m.Nodup) (h : ∀ x, x ∈ l ↔ x ∈ m) : l.length = m.length :=
  Nat.le_antisymm (nodup_le l m hl fun x hx => (h x).1 hx) (nodup_le m l hm fun x hx => (h x).2 hx)
theorem sorted_nodup {L : List En} (h : L.Pairwise fun a b => a.id < b.id) : (L.map (·.id)).Nodup := by
  rw [List.Nodup, List.pairwise_map]
  exact h.imp fun h => Nat.ne_of_lt h
theorem ord_nodup {L : List En} (b : Bool) (h : L.Pairwise fun a b => a.id < b.id) : ((ordQ b L).map (·.id)).Nodup := by
  rw [List.Nodup, List.pairwise_map]
  refine (ord_sorted b h).imp_of_mem fun {a c} ha hc hr he => ?_
  have := sorted_uniq h (mem_ord ha).1 (mem_ord hc).1 he
  subst this
  omega
theorem exp_nodup {L : List En} (now : Int) (h : L.Pairwise fun a b => a.id < b.id) : ((expL L now).map (·.id)).Nodup :=
  List.Nodup.sublist (List.Sublist.map _ List.filter_sublist) (ord_nodup false h)
theorem filt_both {α : Type} (p : α → Bool) (L : List α) : (L.filter p).length + (L.filter fun x => !p x).length = L.length := by
  induction L with
  | nil => rfl
  | cons x L ih =>
    simp only [List.filter_cons]
    cases p x <;> simp <;> omega
theorem exp_len {L : List En} (now : Int) (h : L.Pairwise fun a b => a.id < b.id) : (expQ L now).length + (expL L now).length = L.length := by
  have h1 := filt_both (fun e : En => ((expL L now).map (·.id)).contains e.id) L
  have h2 : (L.filter fun e => ((expL L now).map (·.id)).contains e.id).length = (expL L now).length := by
    have h3 := nodup_len (l := (L.filter fun e => ((expL L now).map (·.id)).contains e.id).map (·.id)) (m := (expL L now).map (·.id)) (List.Nodup.sublist (List.Sublist.map _ List.filter_sublist) (sorted_nodup h)) (exp_nodup now h) fun x => by
      constructor
      · intro hx
        obtain ⟨e, he, rfl⟩ := List.mem_map.1 hx
        simpa using (List.mem_filter.1 he).2
      · intro hx
        obtain ⟨e, he, rfl⟩ := List.mem_map.1 hx
        refine List.mem_map.2 ⟨e, List.mem_filter.2 ⟨(mem_ord (List.mem_filter.1 he).1).1, ?_⟩, rfl⟩
        simp only [List.contains_iff_mem]
        exact List.mem_map.2 ⟨e, he, rfl⟩
    simpa using h3
  unfold expQ less
  omega
theorem mem_keys {D : List (Nat × Value)} {k : Nat} : k ∈ D.map (·.1) ↔ luk D k ≠ none := by
  rw [ne_eq, luk_none]
  simp only [Classical.not_forall, Decidable.not_not, List.mem_map, exists_prop]
def one : Value := .int .i64 1
/-- A message that was put, and what it is now. -/
structure LikeM (m0 m : Mg) : Prop where
  body : m.body = m0.body
  ids : m.ids = m0.ids
  pr : m.pr = m0.pr
  ttl : m.ttl = m0.ttl
  cnt : m0.cnt ≤ m.cnt
def updF {α : Type} (f : Nat → α) (k : Nat) (v : α) : Nat → α := fun i => if i = k then v else f i
/-- The law's three maps, and what was counted. -/
structure OP (last : Nat) (L : List En) (D1 D2 D3 : List (Nat × Value)) (dead done : Nat) (M : Nat → Mg) (V : Nat → Value) : Prop where
  w1 : ∀ i, luk D1 i = if 1 ≤ i ∧ i ≤ last then some (mgv (M i) (V i)) else none
  w2 : ∀ e ∈ L, LikeM (M e.id) e.m
  h : ∀ i, (luk D2 i = some one ∧ ∃ e ∈ L, e.id = i ∧ e.held = true) ∨ (luk D2 i = none ∧ ∀ e ∈ L, e.id = i → e.held = false)
  g : ∀ i, luk D3 i = none ∨ (luk D3 i = some one ∧ i ≤ last ∧ ∀ e ∈ L, e.id ≠ i)
  c : L.length + done + dead = last
theorem OP.new : OP 0 [] [] [] [] 0 0 (fun _ => zMg) (fun _ => .slice none 0 0) :=
  ⟨fun i => by rw [if_neg (by omega)]; rfl, fun e he => (by cases he), fun i => .inr ⟨rfl, fun e he => (by cases he)⟩, fun i => .inl rfl, rfl⟩
section
variable {last : Nat} {L : List En} {D1 D2 D3 : List (Nat × Value)} {dead done : Nat} {M : Nat → Mg} {V : Nat → Value}
theorem OP.put (h : OP last L D1 D2 D3 dead done M V) (hi : ∀ e ∈ L, 1 ≤ e.id ∧ e.id ≤ last) (m : Mg) (now : Int) (v : Value) : OP (last + 1) (L ++ [newE last m now]) (mput D1 (last + 1) (mgv m v)) D2 D3 dead done (updF M (last + 1) m) (updF V (last + 1) v) where
  w1 := fun i => by
    rw [luk_put, h.w1]
    by_cases hi : i = last + 1
    · subst hi
      unfold updF
      rw [if_pos rfl, if_pos ⟨by omega, by omega⟩, if_pos rfl, if_pos rfl]
    · unfold updF
      rw [if_neg hi, if_neg hi, if_neg hi]
      by_cases h2 : 1 ≤ i ∧ i ≤ last
      · rw [if_pos h2, if_pos ⟨h2.1, by omega⟩]
      · rw [if_neg h2, if_neg (by omega)]
  w2 := fun e he => by
    rcases List.mem_append.1 he with he | he
    · have : updF M (last + 1) m e.id = M e.id := by unfold updF; rw [if_neg (by have := (hi e he).2; omega)]
      rw [this]; exact h.w2 e he
    · rw [List.mem_singleton.1 he]
      have : updF M (last + 1) m (newE last m now).id = m := by unfold updF newE; rw [if_pos rfl]
      rw [this]
      exact ⟨rfl, rfl, rfl, rfl, Nat.le_refl _⟩
  h := fun i => by
    rcases h.h i with ⟨h1, e, he, h2⟩ | ⟨h1, h2⟩
    · exact .inl ⟨h1, e, List.mem_append_left _ he, h2⟩
    · refine .inr ⟨h1, fun e he hid => ?_⟩
      rcases List.mem_append.1 he with he | he
      · exact h2 e he hid
      · rw [List.mem_singleton.1 he]; rfl
  g := fun i => by
    rcases h.g i with h1 | ⟨h1, h2, h3⟩
    · exact .inl h1
    · refine .inr ⟨h1, by omega, fun e he => ?_⟩
      rcases List.mem_append.1 he with he | he
      · exact h3 e he
      · rw [List.mem_singleton.1 he]
        show last + 1 ≠ i
        omega
  c := by rw [List.length_append, List.length_singleton]; have := h.c; omega
theorem OP.acq (h : OP last L D1 D2 D3 dead done M V) {e : En} (he : e ∈ L) : OP last (modL (holdE e) L) D1 (mput D2 e.id one) D3 dead done M V where
  w1 := h.w1
  w2 := fun x hx => by
    rcases mem_modL hx with rfl | ⟨h1, _⟩
    · exact h.w2 e he
    · exact h.w2 x h1
  h := fun i => by
    rw [luk_put]
    by_cases hi : i = e.id
    · subst hi
      rw [if_pos rfl]
      exact .inl ⟨rfl, holdE e, mem_modL_self (e1 := holdE e) he rfl, rfl, rfl⟩
    · rw [if_neg hi]
      rcases h.h i with ⟨h1, x, hx, h2, h3⟩ | ⟨h1, h2⟩
      · refine .inl ⟨h1, x, List.mem_map.2 ⟨x, hx, if_neg ?_⟩, h2, h3⟩
        show ¬ x.id = e.id
        omega
      · refine .inr ⟨h1, fun x hx hid => ?_⟩
        rcases mem_modL hx with rfl | ⟨h3, _⟩
        · exact absurd hid.symm hi
        · exact h2 x h3 hid
  g := fun i => by
    rcases h.g i with h1 | ⟨h1, h2, h3⟩
    · exact .inl h1
    · refine .inr ⟨h1, h2, fun x hx => ?_⟩
      rcases mem_modL hx with rfl | ⟨h4, _⟩
      · exact h3 e he
      · exact h3 x h4
  c := by have := h.c; unfold modL; rw [List.length_map]; exact this
theorem OP.gone (h : OP last L D1 D2 D3 dead done M V) {e : En} (he : e ∈ L) (hs : L.Pairwise fun a b => a.id < b.id) (hl : e.id ≤ last) {dead' done' : Nat} (hc : done' + dead' = done + dead + 1) : OP last (less [e.id] L) D1 (mdel D2 e.id) (mput D3 e.id one) dead' done' M V where
  w1 := h.w1
  w2 := fun x hx => h.w2 x (mem_less_sub hx)
  h := fun i => by
    rw [luk_del]
    by_cases hi : i = e.id
    · subst hi
      rw [if_pos rfl]
      exact .inr ⟨rfl, fun x hx hid => absurd hid (by have := (mem_less.1 hx).2; simpa using this)⟩
    · rw [if_neg hi]
      rcases h.h i with ⟨h1, x, hx, h2, h3⟩ | ⟨h1, h2⟩
      · exact .inl ⟨h1, x, mem_less.2 ⟨hx, by simp; omega⟩, h2, h3⟩
      · exact .inr ⟨h1, fun x hx hid => h2 x (mem_less_sub hx) hid⟩
  g := fun i => by
    rw [luk_put]
    by_cases hi : i = e.id
    · subst hi
      rw [if_pos rfl]
      exact .inr ⟨rfl, hl, fun x hx => by have := (mem_less.1 hx).2; simpa using this⟩
    · rw [if_neg hi]
      rcases h.g i with h1 | ⟨h1, h2, h3⟩
      · exact .inl h1
      · exact .inr ⟨h1, h2, fun x hx => h3 x (mem_less_sub hx)⟩
  c := by have := h.c; have := less_len he hs; omega
theorem OP.free (h : OP last L D1 D2 D3 dead done M V) {e e' : En} (he : e ∈ L) (hid : e'.id = e.id) (hh : e'.held = false) (hm : ∀ m0, LikeM m0 e.m → LikeM m0 e'.m) : OP last (modL e' L) D1 (mdel D2 e.id) D3 dead done M V where
  w1 := h.w1
  w2 := fun x hx => by
    rcases mem_modL hx with rfl | ⟨h1, _⟩
    · rw [hid]; exact hm _ (h.w2 e he)
    · exact h.w2 x h1
  h := fun i => by
    rw [luk_del]
    by_cases hi : i = e.id
    · subst hi
      rw [if_pos rfl]
      refine .inr ⟨rfl, fun x hx hx2 => ?_⟩
      rcases mem_modL hx with rfl | ⟨_, h1⟩
      · exact hh
      · rw [hid] at h1; exact absurd hx2 h1
    · rw [if_neg hi]
      rcases h.h i with ⟨h1, x, hx, h2, h3⟩ | ⟨h1, h2⟩
      · refine .inl ⟨h1, x, List.mem_map.2 ⟨x, hx, if_neg ?_⟩, h2, h3⟩
        rw [hid]
        omega
      · refine .inr ⟨h1, fun x hx hx2 => ?_⟩
        rcases mem_modL hx with rfl | ⟨h3, _⟩
        · exact hh
        · exact h2 x h3 hx2
  g := fun i => by
    rcases h.g i with h1 | ⟨h1, h2, h3⟩
    · exact .inl h1
    · refine .inr ⟨h1, h2, fun x hx => ?_⟩
      rcases mem_modL hx with rfl | ⟨h4, _⟩
      · rw [hid]; exact h3 e he
      · exact h3 x h4
  c := by have := h.c; unfold modL; rw [List.length_map]; exact this
theorem OP.exp (h : OP last L D1 D2 D3 dead done M V) (hs : L.Pairwise fun a b => a.id < b.id) (now : Int) : OP last (expQ L now) D1 D2 D3 (dead + (expL L now).length) done M V where
  w1 := h.w1
  w2 := fun x hx => h.w2 x (mem_less_sub hx)
  h := fun i => by
    rcases h.h i with ⟨h1, x, hx, h2, h3⟩ | ⟨h1, h2⟩
    · refine .inl ⟨h1, x, mem_less.2 ⟨hx, fun hm => ?_⟩, h2, h3⟩
      obtain ⟨y, hy, hyx⟩ := List.mem_map.1 hm
      have hyo := mem_ord (List.mem_filter.1 hy).1
      have := sorted_uniq hs hyo.1 hx hyx
      subst this
      rw [hyo.2] at h3
      cases h3
    · exact .inr ⟨h1, fun x hx hid => h2 x (mem_less_sub hx) hid⟩
  g := fun i => by
    rcases h.g i with h1 | ⟨h1, h2, h3⟩
    · exact .inl h1
    · exact .inr ⟨h1, h2, fun x hx => h3 x (mem_less_sub hx)⟩
  c := by have := h.c; have := exp_len now hs; omega
theorem OP.len1 (h : OP last L D1 D2 D3 dead done M V) (hn : (D1.map (·.1)).Nodup) : D1.length = last := by
  have h1 := nodup_len hn (m := (List.range last).map (· + 1)) (by
    rw [List.Nodup, List.pairwise_map]
    exact (List.nodup_range (n := last)).imp fun h => by omega) fun x => by
    rw [mem_keys, h.w1]
    by_cases hx : 1 ≤ x ∧ x ≤ last
    · rw [if_pos hx]
      simp only [ne_eq, reduceCtorEq, not_false_eq_true, true_iff, List.mem_map, List.mem_range]
      exact ⟨x - 1, by omega, by omega⟩
    · rw [if_neg hx]
      simp only [ne_eq, not_true_eq_false, List.mem_map, List.mem_range, false_iff, not_exists, not_and]
      omega
  simpa using h1
theorem OP.len2 (h : OP last L D1 D2 D3 dead done M V) (hn : (D2.map (·.1)).Nodup) (hs : L.Pairwise fun a b => a.id < b.id) (hp : ∀ e ∈ L, e.m.pr < 10) : D2.length = (ordQ true L).length := by
  have h1 := nodup_len hn (ord_nodup true hs) fun x => by
    rw [mem_keys]
    rcases h.h x with ⟨h1, e, he, h2, h3⟩ | ⟨h1, h2⟩
    · rw [h1]
      simp only [ne_eq, reduceCtorEq, not_false_eq_true, true_iff]
      exact List.mem_map.2 ⟨e, mem_ord_of he h3 (hp e he), h2⟩
    · rw [h1]
      simp only [ne_eq, not_true_eq_false, false_iff]
      intro hm
      obtain ⟨e, he, h3⟩ := List.mem_map.1 hm
      have h4 := mem_ord he
      rw [h2 e h4.1 h3] at h4
      cases h4.2
  simpa using h1
/-- What settling does, as far as the law asks. -/
theorem setQ_cases (limit : Nat) (L : List En) (id : Int) (o : Oc) : ((setQ limit L id o).2.1 ≠ 0 ∧ (setQ limit L id o).1 = L) ∨
    ∃ e ∈ L, (e.id : Int) = id ∧ e.held = true ∧ (setQ limit L id o).2.1 = 0 ∧ (((setQ limit L id o).1 = less [e.id] L ∧ ((setQ limit L id o).2.2.isSome = true ∨ ((setQ limit L id o).2.2.isSome = false ∧ o.k = 2))) ∨
      ((setQ limit L id o).2.2.isSome = false ∧ o.k ≠ 2 ∧ ∃ e' : En, e'.id = e.id ∧ e'.held = false ∧ (∀ m0, LikeM m0 e.m → LikeM m0 e'.m) ∧ (setQ limit L id o).1 = modL e' L)) := by
  unfold setQ
  cases hf : findH L id with
  | none => exact .inl ⟨by simp, rfl⟩
  | some e =>
    obtain ⟨h1, h2, h3⟩ := findH_mem hf
    simp only
    by_cases k2 : o.k = 2
    · rw [if_pos k2]
      exact .inr ⟨e, h1, h2, h3, rfl, .inl ⟨rfl, .inr ⟨rfl, k2⟩⟩⟩
    · rw [if_neg k2]
      by_cases k3 : o.k = 3
      · rw [if_pos k3]
        exact .inr ⟨e, h1, h2, h3, rfl, .inl ⟨rfl, .inl rfl⟩⟩
      · rw [if_neg k3]
        by_cases k4 : o.k = 4
        · rw [if_pos k4]
          exact .inr ⟨e, h1, h2, h3, rfl, .inr ⟨rfl, k2, freeE e, rfl, rfl, fun m0 h => h, rfl⟩⟩
        · rw [if_neg k4]
          by_cases k5 : o.k = 5
          · rw [if_pos k5]
            by_cases hd : deadE limit o (bumpE o e).m = true
            · rw [if_pos hd]
              exact .inr ⟨e, h1, h2, h3, rfl, .inl ⟨rfl, .inl rfl⟩⟩
            · rw [if_neg hd]
              refine .inr ⟨e, h1, h2, h3, rfl, .inr ⟨rfl, k2, freeE (bumpE o e), rfl, rfl, fun m0 h => ?_, rfl⟩⟩
              show LikeM m0 (bump o e.m)
              unfold bump
              by_cases hb : o.a = 1 ∧ e.m.cnt < 4294967295
              · rw [if_pos hb]
                exact ⟨h.body, h.ids, h.pr, h.ttl, by show m0.cnt ≤ e.m.cnt + 1; have := h.cnt; omega⟩
              · rw [if_neg hb]; exact h
          · rw [if_neg k5]
            exact .inl ⟨by simp, rfl⟩
end
end Go.Proofs.Ytkoihcfdchcgdaa

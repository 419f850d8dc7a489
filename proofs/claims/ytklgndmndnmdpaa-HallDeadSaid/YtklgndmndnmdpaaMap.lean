import Derived.Test.YtklgndmndnmdpaaFoot
import Derived.Maps.OwnOps
import Derived.Maps.OwnSet
set_option linter.unusedVariables false
set_option linter.unusedSimpArgs false
namespace Go.Proofs.Ytklgndmndnmdpaa
open Go.RowKit
variable {κ : Type} [DecidableEq κ]

/-- What a list of entries says of a key. -/
def luk (D : List (κ × Value)) (k : κ) : Option Value := (D.find? fun p => decide (p.1 = k)).map (·.2)
def mput (D : List (κ × Value)) (k : κ) (v : Value) : List (κ × Value) := if (luk D k).isSome then D.map (fun p => if p.1 = k then (p.1, v) else p) else D ++ [(k, v)]
def mdel (D : List (κ × Value)) (k : κ) : List (κ × Value) := D.filter fun p => decide (p.1 ≠ k)
theorem luk_none {D : List (κ × Value)} {k : κ} : luk D k = none ↔ ∀ p ∈ D, p.1 ≠ k := by
  simp [luk, List.find?_eq_none]
theorem luk_cons (p : κ × Value) (D : List (κ × Value)) (k : κ) : luk (p :: D) k = if p.1 = k then some p.2 else luk D k := by
  simp only [luk, List.find?_cons]
  split
  · rename_i h
    simp at h
    simp [h]
  · rename_i h
    simp at h
    simp [h]
theorem luk_append (D E : List (κ × Value)) (k : κ) : luk (D ++ E) k = (luk D k).or (luk E k) := by
  simp [luk, List.find?_append]
  cases List.find? (fun p => decide (p.1 = k)) D <;> rfl
theorem luk_put (D : List (κ × Value)) (k j : κ) (v : Value) : luk (mput D k v) j = if j = k then some v else luk D j := by
  unfold mput
  split
  · rename_i h
    induction D with
    | nil => simp [luk] at h
    | cons p D ih =>
      simp only [List.map_cons, luk_cons]
      rw [luk_cons] at h
      by_cases hp : p.1 = k
      · simp only [hp, if_true]
        by_cases hj : j = k
        · subst hj; simp
        · have hj' : ¬ k = j := fun e => hj e.symm
          simp only [hj, hj', if_false]
          clear ih h
          induction D with
          | nil => rfl
          | cons q D ih2 =>
            simp only [List.map_cons, luk_cons]
            by_cases hq : q.1 = k
            · simp [hq, hj', ih2]
            · simp [hq, ih2]
      · simp only [hp, if_false] at h ⊢
        by_cases hpj : p.1 = j
        · subst hpj; simp [hp]
        · simp only [hpj, if_false]
          exact ih h
  · rename_i h
    have h' : luk D k = none := by simpa using h
    rw [luk_append, luk_cons]
    by_cases hj : j = k
    · subst hj; simp [h']
    · have hj' : ¬ k = j := fun e => hj e.symm
      simp [hj, hj', luk]
theorem luk_del (D : List (κ × Value)) (k j : κ) : luk (mdel D k) j = if j = k then none else luk D j := by
  induction D with
  | nil => simp [mdel, luk]
  | cons p D ih =>
    simp only [mdel, List.filter_cons] at ih ⊢
    by_cases hp : p.1 = k
    · subst hp
      simp only [ne_eq, not_true, decide_false, Bool.false_eq_true, if_false]
      rw [ih, luk_cons]
      by_cases hj : j = p.1
      · simp [hj]
      · have hj' : ¬ p.1 = j := fun e => hj e.symm
        simp [hj, hj']
    · simp only [ne_eq, hp, not_false_eq_true, decide_true, if_true]
      rw [luk_cons, ih, luk_cons]
      by_cases hpj : p.1 = j
      · subst hpj; simp [hp]
      · simp [hpj]
theorem keys_put (D : List (κ × Value)) (k : κ) (v : Value) : (mput D k v).map (·.1) = if (luk D k).isSome then D.map (·.1) else D.map (·.1) ++ [k] := by
  unfold mput
  split
  · rw [List.map_map]
    apply List.map_congr_left
    intro p _
    simp only [Function.comp]
    split <;> rfl
  · simp
theorem keys_del (D : List (κ × Value)) (k : κ) : (mdel D k).map (·.1) = (D.map (·.1)).filter fun j => decide (j ≠ k) := by
  simp [mdel, List.filter_map]
  rfl
theorem nodup_put {D : List (κ × Value)} (h : (D.map (·.1)).Nodup) (k : κ) (v : Value) : ((mput D k v).map (·.1)).Nodup := by
  rw [keys_put]
  split
  · exact h
  · rename_i hk
    have hk' : luk D k = none := by simpa using hk
    rw [luk_none] at hk'
    refine List.nodup_append.2 ⟨h, by simp, ?_⟩
    intro a ha b hb e
    simp at hb
    subst hb e
    obtain ⟨p, hp, rfl⟩ := List.mem_map.1 ha
    exact hk' p hp rfl
theorem nodup_del {D : List (κ × Value)} (h : (D.map (·.1)).Nodup) (k : κ) : ((mdel D k).map (·.1)).Nodup := by
  rw [keys_del]
  exact h.filter _

/-- Keys of one kind that the model compares at once. -/
structure KeyOK (P : Program) (kt : TypeId) (kv : κ → Value) : Prop where
  kind : ∃ d, P.underlying kt = some d ∧ (∀ a b, Instr.sameNow d (kv a) (kv b) = some (decide (a = b))) ∧ ∀ em a w, (Instr.checkKey em 10000 kt (kv a)).run P w = .ok () w
  bits : ∀ a, Instr.sameBits 10000 (kv a) (kv a) = true

/-- Entries as they lie. -/
def EntsOf (kv : κ → Value) (es : List MapEntry) (D : List (κ × Value)) : Prop := es.map (fun e => (e.key, e.val)) = D.map fun p => (kv p.1, p.2)
/-- A map's block reads as D. -/
def MapS (kv : κ → Value) (w : World) (r : Nat) (D : List (κ × Value)) : Prop :=
  (D.map (·.1)).Nodup ∧ ∃ es clock, w.heap[r]? = some (.map es clock) ∧ EntsOf kv es.toList D

omit [DecidableEq κ] in
theorem ents_len {kv : κ → Value} {es : List MapEntry} {D : List (κ × Value)} (h : EntsOf kv es D) : es.length = D.length := by
  have := congrArg List.length h
  simpa using this

theorem find_ents {kv : κ → Value} {d : TypeDesc} (hs : ∀ a b, Instr.sameNow d (kv a) (kv b) = some (decide (a = b))) (k : κ) : ∀ (es : List MapEntry) (D : List (κ × Value)) (i : Nat), EntsOf kv es D →
    (luk D k = none ∧ Instr.findNow d (kv k) es i = some none) ∨ (∃ j v, luk D k = some v ∧ Instr.findNow d (kv k) es i = some (some (i + j, v)) ∧ D[j]? = some (k, v) ∧ ∀ j' p, j' < j → D[j']? = some p → p.1 ≠ k)
  | [], [], i, _ => .inl ⟨rfl, rfl⟩
  | [], _ :: _, _, h => by simp [EntsOf] at h
  | _ :: _, [], _, h => by simp [EntsOf] at h
  | e :: es, p :: D, i, h => by
    simp only [EntsOf, List.map_cons, List.cons.injEq, Prod.mk.injEq] at h
    obtain ⟨⟨h1, h2⟩, h3⟩ := h
    simp only [Instr.findNow, h1, hs, luk_cons]
    by_cases hk : p.1 = k
    · subst hk
      refine .inr ⟨0, p.2, by simp, ?_, by simp, fun j' q hj => by omega⟩
      simp [h2]
    · have hk' : ¬ k = p.1 := fun e => hk e.symm
      simp only [hk, hk', decide_false, if_false]
      rcases find_ents hs k es D (i + 1) h3 with ⟨g1, g2⟩ | ⟨j, v, g1, g2, g3, g4⟩
      · exact .inl ⟨g1, g2⟩
      · refine .inr ⟨j + 1, v, g1, by rw [g2]; congr 3; omega, by simpa using g3, fun j' q hj hq => ?_⟩
        cases j' with
        | zero => simp at hq; subst hq; exact hk
        | succ j' => exact g4 j' q (by omega) (by simpa using hq)

theorem map_erase {α β : Type} (f : α → β) : ∀ (l : List α) (j : Nat), (l.eraseIdx j).map f = (l.map f).eraseIdx j
  | [], j => by simp
  | a :: l, 0 => by simp
  | a :: l, j + 1 => by simp [map_erase f l j]
section run
variable {P : Program} {T kt et : TypeId} {kv : κ → Value}
theorem getObj_map {w : World} {r : Nat} {es : Array MapEntry} {clock : Nat} (h : w.heap[r]? = some (.map es clock)) : (getObj r).run P w = .ok (.map es clock) w := by
  simp [getObj, Sem.run, h]
theorem setObj_map {w : World} {r : Nat} {es : Array MapEntry} {clock : Nat} (h : w.heap[r]? = some (.map es clock)) (o : Obj) : (setObj r o).run P w = .ok () { w with heap := w.heap.setIfInBounds r o } := by
  simp [setObj, Sem.run, h]
theorem tch_setObj (w : World) (r : Nat) (o : Obj) : Tch [r] w { w with heap := w.heap.setIfInBounds r o } :=
  ⟨rfl, rfl, rfl, by simp, fun k hk hn => by
    have : r ≠ k := fun e => hn (by simp [e])
    simp [Array.getElem?_setIfInBounds, this]⟩
theorem heap_setObj {w : World} {r : Nat} {o' : Obj} (h : w.heap[r]? = some o') (o : Obj) : ({ w with heap := w.heap.setIfInBounds r o } : World).heap[r]? = some o := by
  have := heap_lt h
  simp [Array.getElem?_setIfInBounds, this]

theorem findKey_run (K : KeyOK P kt kv) {es : List MapEntry} {D : List (κ × Value)} (h : EntsOf kv es D) (k : κ) (w : World) :
    (luk D k = none ∧ (Instr.findKey kt (kv k) es).run P w = .ok none w) ∨ (∃ j v, luk D k = some v ∧ (Instr.findKey kt (kv k) es).run P w = .ok (some (j, v)) w ∧ D[j]? = some (k, v) ∧ ∀ j' p, j' < j → D[j']? = some p → p.1 ≠ k) := by
  obtain ⟨d, hd, hs, _⟩ := K.kind
  have hu : (underlying kt).run P w = .ok d w := run_underlying hd w
  rcases find_ents hs k es D 0 h with ⟨g1, g2⟩ | ⟨j, v, g1, g2, g3, g4⟩
  · exact .inl ⟨g1, by simp [Instr.findKey, Sem.run_bind, hu, Result.andThen, g2]⟩
  · exact .inr ⟨j, v, g1, by simp [Instr.findKey, Sem.run_bind, hu, Result.andThen, g2], g3, g4⟩

theorem MapS.look (ht : P.underlying T = some (.map kt et)) (K : KeyOK P kt kv) {w : World} {r : Nat} {D : List (κ × Value)} (h : MapS kv w r D) (k : κ) (z : Value) (hz : (zeroValue et).run P w = .ok z w) (ok : Bool) :
    (Instr.lookup T (.map (some r)) (kv k) ok).run P w = .ok (if ok then .tuple #[(luk D k).getD z, .bool (luk D k).isSome] else (luk D k).getD z) w := by
  obtain ⟨_, es, clock, hr, he⟩ := h
  obtain ⟨_, _, _, hc⟩ := K.kind
  have hu : (underlying T).run P w = .ok (.map kt et) w := run_underlying ht w
  have hg := getObj_map (P := P) hr
  rcases findKey_run K he k w with ⟨g1, g2⟩ | ⟨j, v, g1, g2, _, _⟩
  · simp [Instr.lookup, Sem.run_bind, hu, hg, Result.andThen, hc, g2, hz, g1]
  · simp [Instr.lookup, Sem.run_bind, hu, hg, Result.andThen, hc, g2, g1]

theorem ents_put {es : List MapEntry} {D : List (κ × Value)} (h : EntsOf kv es D) (hn : (D.map (·.1)).Nodup) (j : Nat) (k : κ) (v v' : Value) (hj : D[j]? = some (k, v)) :
    EntsOf kv (es.modify j fun e => { e with key := kv k, val := v' }) (D.map fun p => if p.1 = k then (p.1, v') else p) := by
  unfold EntsOf at h ⊢
  apply List.ext_getElem?
  intro i
  have hi := congrArg (fun l => l[i]?) h
  simp only [List.getElem?_map] at hi ⊢
  rw [List.getElem?_modify]
  by_cases hij : j = i
  · subst hij
    simp only [if_true]
    rw [hj] at hi ⊢
    cases he : es[j]? with
    | none => rw [he] at hi; simp at hi
    | some e => simp
  · simp only [hij, if_false]
    cases hD : D[i]? with
    | none => rw [hD] at hi; simpa using hi
    | some p =>
      have hp : p.1 ≠ k := by
        intro e
        have hl := (List.getElem?_eq_some_iff.1 hD).1
        have hl2 := (List.getElem?_eq_some_iff.1 hj).1
        have h1 : (D.map (·.1))[i]'(by simpa using hl) = (D.map (·.1))[j]'(by simpa using hl2) := by
          rw [List.getElem_map, List.getElem_map]
          rw [(List.getElem?_eq_some_iff.1 hD).2, (List.getElem?_eq_some_iff.1 hj).2]
          exact e
        have := (List.getElem_inj hn).1 h1
        omega
      rw [hD] at hi
      simp [hp, hi]

theorem MapS.update (ht : P.underlying T = some (.map kt et)) (K : KeyOK P kt kv) {w : World} {r : Nat} {D : List (κ × Value)} (h : MapS kv w r D) (k : κ) (v : Value) :
    ∃ w', (Instr.mapUpdate T (.map (some r)) (kv k) v).run P w = .ok () w' ∧ MapS kv w' r (mput D k v) ∧ Tch [r] w w' := by
  have hn := nodup_put h.1 k v
  obtain ⟨hn0, es, clock, hr, he⟩ := h
  obtain ⟨_, _, _, hc⟩ := K.kind
  have hu : (underlying T).run P w = .ok (.map kt et) w := run_underlying ht w
  have hg := getObj_map (P := P) hr
  have hs := fun o => setObj_map (P := P) hr o
  rcases findKey_run K he k w with ⟨g1, g2⟩ | ⟨j, v0, g1, g2, g3, _⟩
  · refine ⟨_, ?_, ⟨hn, _, _, heap_setObj hr (.map (es.push { key := kv k, val := v, born := clock }) (clock + 1)), ?_⟩, tch_setObj w r _⟩
    · simp [Instr.mapUpdate, Sem.run_bind, hu, hg, Result.andThen, hc, g2, hs]
    · have : mput D k v = D ++ [(k, v)] := by simp [mput, g1]
      rw [this]
      unfold EntsOf at he ⊢
      simp [he]
  · have hkey : ((es[j]?).map (·.key)).getD (kv k) = kv k := by
      have := congrArg (fun l => l[j]?) he
      simp only [List.getElem?_map, g3, Option.map_some] at this
      cases hj : es.toList[j]? with
      | none => rw [hj] at this; simp at this
      | some e =>
        rw [hj] at this
        simp at this
        have h2 : es[j]? = some e := by simpa using hj
        simp [h2, this.1]
    refine ⟨_, ?_, ⟨hn, _, _, heap_setObj hr (.map (es.modify j fun e => { e with key := kv k, val := v }) clock), ?_⟩, tch_setObj w r _⟩
    · simp [Instr.mapUpdate, Sem.run_bind, hu, hg, Result.andThen, hc, g2, hkey, Instr.keyThatStays, K.bits, hs]
    · have : mput D k v = D.map fun p => if p.1 = k then (p.1, v) else p := by simp [mput, g1]
      rw [this, Array.toList_modify]
      exact ents_put he hn0 j k v0 v g3

theorem MapS.drop (ht : P.underlying T = some (.map kt et)) (K : KeyOK P kt kv) {w : World} {r : Nat} {D : List (κ × Value)} (h : MapS kv w r D) (k : κ) (ty : TypeId) :
    ∃ w', (Builtin.delete_ #[T, kt] ty #[.map (some r), kv k]).run P w = .ok (.tuple #[]) w' ∧ MapS kv w' r (mdel D k) ∧ Tch [r] w w' := by
  have hn := nodup_del h.1 k
  obtain ⟨hn0, es, clock, hr, he⟩ := h
  obtain ⟨_, _, _, hc⟩ := K.kind
  have hu : (underlying T).run P w = .ok (.map kt et) w := run_underlying ht w
  have hg := getObj_map (P := P) hr
  have hs := fun o => setObj_map (P := P) hr o
  rcases findKey_run K he k w with ⟨g1, g2⟩ | ⟨j, v0, g1, g2, g3, g4⟩
  · refine ⟨_, ?_, ⟨hn, _, _, heap_setObj hr (.map es clock), ?_⟩, tch_setObj w r _⟩
    · simp [Builtin.delete_, Sem.run_bind, hu, hg, Result.andThen, hc, g2, hs]
    · have : mdel D k = D := by
        rw [mdel, List.filter_eq_self]
        intro p hp
        simpa using luk_none.1 g1 p hp
      rw [this]
      exact he
  · refine ⟨_, ?_, ⟨hn, _, _, heap_setObj hr (.map (es.eraseIdxIfInBounds j) clock), ?_⟩, tch_setObj w r _⟩
    · simp [Builtin.delete_, Sem.run_bind, hu, hg, Result.andThen, hc, g2, hs]
    · have : mdel D k = D.eraseIdx j := by
        clear he g2 hn
        induction D generalizing j with
        | nil => simp at g3
        | cons p D ih =>
          cases j with
          | zero =>
            simp at g3
            subst g3
            simp only [mdel, List.filter_cons, ne_eq, not_true, decide_false, Bool.false_eq_true, if_false, List.eraseIdx_cons_zero]
            rw [List.filter_eq_self]
            intro q hq
            simp only [List.map_cons, List.nodup_cons] at hn0
            have : q.1 ≠ k := fun e => hn0.1 (List.mem_map.2 ⟨q, hq, e⟩)
            simpa using this
          | succ j =>
            have hp : p.1 ≠ k := g4 0 p (by omega) rfl
            simp only [mdel, List.filter_cons, ne_eq, hp, not_false_eq_true, decide_true, if_true, List.eraseIdx_cons_succ]
            congr 1
            simp only [List.map_cons, List.nodup_cons] at hn0
            exact ih hn0.2 j (by rw [luk_cons] at g1; simpa [hp] using g1) (by simpa using g3) (fun j' q h1 h2 => g4 (j' + 1) q (by omega) (by simpa using h2))
      rw [this]
      unfold EntsOf at he ⊢
      have hj : j < es.size := by
        have := ents_len he
        have := (List.getElem?_eq_some_iff.1 g3).1
        simp at *
        omega
      rw [Array.eraseIdxIfInBounds, dif_pos hj, Array.toList_eraseIdx, map_erase, he, map_erase]

omit [DecidableEq κ] in
theorem MapS.len (ht : P.underlying T = some (.map kt et)) {w : World} {r : Nat} {D : List (κ × Value)} (h : MapS kv w r D) (ty : TypeId) :
    (Builtin.len_ #[T] ty #[.map (some r)]).run P w = .ok (.int .i64 D.length) w := by
  obtain ⟨_, es, clock, hr, he⟩ := h
  have hu : (underlying T).run P w = .ok (.map kt et) w := run_underlying ht w
  have hg := getObj_map (P := P) hr
  have hl := ents_len he
  simp at hl
  simp [Builtin.len_, Sem.run_bind, hu, hg, Result.andThen, goInt, hl]

omit [DecidableEq κ] in
theorem MapS.made (w : World) : MapS kv (w.alloc (.map #[] 0)) w.heap.size ([] : List (κ × Value)) :=
  ⟨by simp, #[], 0, heap_alloc_new w _, rfl⟩
end run
omit [DecidableEq κ] in
theorem MapS.keep {kv : κ → Value} {w w' : World} {r : Nat} {D : List (κ × Value)} (h : MapS kv w r D) (hk : w'.heap[r]? = w.heap[r]?) : MapS kv w' r D := by
  obtain ⟨h1, es, clock, h2, h3⟩ := h
  exact ⟨h1, es, clock, hk.trans h2, h3⟩
omit [DecidableEq κ] in
theorem MapS.lt {kv : κ → Value} {w : World} {r : Nat} {D : List (κ × Value)} (h : MapS kv w r D) : r < w.heap.size := by
  obtain ⟨h1, es, clock, h2, h3⟩ := h
  exact heap_lt h2
omit [DecidableEq κ] in
theorem MapS.tch {kv : κ → Value} {F : List Nat} {w w' : World} {r : Nat} {D : List (κ × Value)} (h : MapS kv w r D) (ht : Tch F w w') (hr : r ∉ F) : MapS kv w' r D := h.keep (ht.block r h.lt hr)

section wp
variable {P : Program} {T kt et : TypeId} {kv : κ → Value}
theorem wpList_mput (w : World) {ops : Array Oper} {rest : List Oper} {o : Oper} {a : Act} {Q : Exit → Act → World → Prop}
    (hg : o.guard = none) (m x v : Operand) (hop : o.op = Op.mapUpdate T m x v) (ht : P.underlying T = some (.map kt et)) (K : KeyOK P kt kv) (r : Nat) (D : List (κ × Value))
    (hm : a.eval m = .map (some r)) (h : MapS kv w r D) (k : κ) (hx : a.eval x = kv k) (u : Value) (hv : a.eval v = u)
    (hK : ∀ w', MapS kv w' r (mput D k u) → Tch [r] w w' → wpList P ops Q rest (a.put o.dst undef) w') : wpList P ops Q (o :: rest) a w := by
  refine wpList_plain hg fun K' hK' => ?_
  obtain ⟨w', hrun, r1, r2⟩ := h.update ht K k u
  unfold Oper.wp
  simp [execOp, hop, hm, hx, hv, hrun, Result.andThen]
  exact hK' _ _ (hK w' r1 r2)
theorem wpList_mdel (w : World) {ops : Array Oper} {rest : List Oper} {o : Oper} {a : Act} {Q : Exit → Act → World → Prop}
    (hg : o.guard = none) (m x : Operand) (hop : o.op = Op.call { callee := Callee.builtin Builtin.delete, args := #[m, x], argTypes := #[T, kt] }) (ht : P.underlying T = some (.map kt et)) (K : KeyOK P kt kv) (r : Nat) (D : List (κ × Value))
    (hm : a.eval m = .map (some r)) (h : MapS kv w r D) (k : κ) (hx : a.eval x = kv k)
    (hK : ∀ w', MapS kv w' r (mdel D k) → Tch [r] w w' → wpList P ops Q rest (a.put o.dst (.tuple #[])) w') : wpList P ops Q (o :: rest) a w := by
  refine wpList_plain hg fun K' hK' => ?_
  obtain ⟨w', hrun, r1, r2⟩ := h.drop ht K k o.type
  unfold Oper.wp
  simp [execOp, hop, resolve, invoke, builtin, hm, hx, hrun, Result.andThen]
  exact hK' _ _ (hK w' r1 r2)
end wp
end Go.Proofs.Ytklgndmndnmdpaa

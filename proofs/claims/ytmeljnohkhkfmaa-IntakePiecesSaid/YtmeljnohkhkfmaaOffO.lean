import Derived.Test.YtmeljnohkhkfmaaFoot
import Derived.ArgAppend
set_option linter.unusedVariables false
set_option linter.unusedSimpArgs false
namespace Go.Proofs.Ytmeljnohkhkfmaa
open Go.RowKit

/-- Bytes of one's own that begin somewhere in their block. -/
def OwnO (w : World) (base : Nat) (v : Value) (l : List UInt8) : Prop :=
  (v = .slice none 0 0 ∧ l = []) ∨ ∃ g cap pre tl, v = .slice (some ⟨g, (pre : List UInt8).length, none⟩) l.length cap ∧ base ≤ g ∧ w.heap[g]? = some (.cells (u8s (pre ++ l ++ tl)).toArray 5 (0, 0)) ∧ l.length ≤ cap ∧ cap ≤ l.length + (tl : List UInt8).length ∧ cap ≤ 9223372036854775807
theorem OwnO.nil_ {w : World} {base : Nat} : OwnO w base (.slice none 0 0) [] := .inl ⟨rfl, rfl⟩
theorem OwnB.off {w : World} {base : Nat} {v : Value} {l : List UInt8} (h : OwnB w base v l) : OwnO w base v l := by
  have hm := OwnC.rd h
  rcases h.open_ with ⟨rfl, rfl⟩ | ⟨g, cap, sp, rfl, h1, h2, h3⟩
  · exact .inl ⟨rfl, rfl⟩
  · obtain ⟨A, c, e, -, h4, h5, -⟩ := hm
    cases e
    exact .inr ⟨g, cap, [], sp, rfl, h1, h2, h4, by omega, h5⟩
theorem OwnO.rd {w : World} {base : Nat} {v : Value} {l : List UInt8} (h : OwnO w base v l) : ∃ A c, v = .slice A l.length c ∧ Rd w A c l := by
  rcases h with ⟨rfl, rfl⟩ | ⟨g, cap, pre, tl, rfl, h1, h2, h3, h4, h5⟩
  · exact ⟨none, 0, rfl, Rd.zero (by decide) (fun _ => rfl)⟩
  · refine ⟨_, _, rfl, by simp [u8s], h3, h5, (fun hh => by cases hh), u8s_one l, fun ad ha j u hj => ?_⟩
    cases ha
    rw [plain_add]
    refine cell_of_heap h2 _ u ?_
    rw [List.append_assoc, u8s_append, List.getElem?_append_right (by simp [u8s]), u8s_append, List.getElem?_append_left (by have := (List.getElem?_eq_some_iff.1 hj).1; simp [u8s] at this ⊢; omega)]
    simpa [u8s] using hj
theorem OwnO.keep {w w' : World} {base : Nat} {v : Value} {l : List UInt8} (h : OwnO w base v l) (hk : ∀ k, v.ownBlock = some k → w'.heap[k]? = w.heap[k]?) : OwnO w' base v l := by
  rcases h with h | ⟨g, cap, pre, tl, rfl, h1, h2, h3⟩
  · exact .inl h
  · exact .inr ⟨g, cap, pre, tl, rfl, h1, (hk g rfl).trans h2, h3⟩
theorem OwnO.lt {w : World} {base : Nat} {v : Value} {l : List UInt8} (h : OwnO w base v l) (k : Nat) (hk : v.ownBlock = some k) : base ≤ k ∧ k < w.heap.size := by
  rcases h with ⟨rfl, -⟩ | ⟨g, cap, pre, tl, rfl, h1, h2, h3⟩
  · cases hk
  · cases hk
    exact ⟨h1, heap_lt h2⟩
theorem OwnO.tch {F : List Nat} {w w' : World} {base : Nat} {v : Value} {l : List UInt8} (h : OwnO w base v l) (ht : Tch F w w') (hne : ∀ k, v.ownBlock = some k → k ∉ F) : OwnO w' base v l :=
  h.keep fun k hk => ht.block k (h.lt k hk).2 (hne k hk)
theorem OwnO.base {w : World} {base base' : Nat} {v : Value} {l : List UInt8} (h : OwnO w base v l) (hb : base' ≤ base) : OwnO w base' v l := by
  rcases h with h | ⟨g, cap, pre, tl, rfl, h1, h2, h3⟩
  · exact .inl h
  · exact .inr ⟨g, cap, pre, tl, rfl, by omega, h2, h3⟩
/-- What stands behind a cut. -/
theorem OwnO.cut {w : World} {base n c : Nat} {A : Option Addr} {l : List UInt8} (h : OwnO w base (.slice A n c) l) (k : Nat) (hk : k ≤ l.length) : OwnO w base (.slice (cutA A c k 1) (n - k) (c - k)) (l.drop k) ∧ (Value.slice (cutA A c k 1) (n - k) (c - k)).ownBlock = (Value.slice A n c).ownBlock := by
  rcases h with ⟨e, rfl⟩ | ⟨g, cap, pre, tl, e, h1, h2, h3, h4, h5⟩
  · cases e
    obtain rfl : k = 0 := by simpa using hk
    exact ⟨.inl ⟨rfl, rfl⟩, rfl⟩
  · cases e
    by_cases hc : c = k
    · subst hc
      have hl : l.length = c := by omega
      refine ⟨.inr ⟨g, 0, pre, l ++ tl, ?_, h1, ?_, by simp; omega, by simp, by decide⟩, ?_⟩
      · rw [cutA, if_pos rfl]
        simp
      · rw [List.drop_of_length_le (by omega), List.append_nil, ← List.append_assoc]
        exact h2
      · rw [cutA, if_pos rfl]
        rfl
    · refine ⟨.inr ⟨g, c - k, pre ++ l.take k, tl, ?_, h1, ?_, by simp; omega, by simp; omega, by omega⟩, ?_⟩
      · rw [cutA, if_neg hc, Option.map_some, Nat.mul_one, plain_add]
        simp
      · rw [List.append_assoc pre, List.take_append_drop]
        exact h2
      · rw [cutA, if_neg hc, Option.map_some, Nat.mul_one, plain_add]
        rfl

theorem heap_setCells_app {w : World} {g : Nat} {e : TypeId} {fr : Nat × Nat} : ∀ (vs : List Value) (w : World) (A B : List Value), w.heap[g]? = some (.cells (A ++ B).toArray e fr) → vs.length ≤ B.length → (w.setCells g A.length vs).heap[g]? = some (.cells (A ++ vs ++ B.drop vs.length).toArray e fr)
  | [], w, A, B, h, _ => by simpa [World.setCells] using h
  | v :: r, w, A, [], h, hl => by simp at hl
  | v :: r, w, A, b :: B, h, hl => by
    have h1 := heap_setCell_same h A.length v
    have e1 : (A ++ b :: B).set A.length v = (A ++ [v]) ++ B := by simp
    rw [e1] at h1
    have h2 := heap_setCells_app (w := w) r _ (A ++ [v]) B h1 (by simp at hl; omega)
    simp only [List.length_append, List.length_cons, List.length_nil, List.append_assoc, List.singleton_append] at h2
    rw [World.setCells]
    simpa using h2

theorem grown_setCells (g : Nat) : ∀ (vs : List Value) (o : Nat) (w : World), w.grownBy (w.setCells g o vs) (some g)
  | [], _, w => ⟨rfl, rfl, rfl, Nat.le_refl _, fun _ _ _ => rfl⟩
  | v :: r, o, w => by
    have h := grown_setCells g r (o + 1) (w.setCell ⟨g, o, none⟩ v)
    refine ⟨h.os, h.tape, h.output, ?_, fun k hk hne => ?_⟩
    · have := h.size
      simpa [World.setCell, World.setCells] using this
    · have := h.block k (by simpa [World.setCell] using hk) hne
      rw [World.setCells, this]
      exact Below.heap_setCell w _ v k (fun e => hne (by rw [e]))

/-- An append to bytes of one's own that begin somewhere in their block. -/
theorem run_append_O (w : World) (base : Nat) (ty : TypeId) (v : Value) (l m : List UInt8) (h : OwnO w base v l) (B : Option Addr) (k d : Nat) (hk : k = m.length) (hr : Rd w B d m) (hb : l.length + m.length ≤ 140737488355328) (hbase : base ≤ w.heap.size) :
    ∃ v' w', (Builtin.append_ #[24, 24] ty #[v, .slice B k d]).run Try.prog w = .ok v' w' ∧ OwnO w' base v' (l ++ m) ∧ w.grownBy w' v.ownBlock ∧ (v'.ownBlock = v.ownBlock ∨ v'.ownBlock = some w.heap.size) := by
  obtain ⟨i, hi, hz, hz1, hz2⟩ := info_parts Try.info_u8
  subst hk
  rcases h with ⟨rfl, rfl⟩ | ⟨g, cap, pre, tl, rfl, h1, h2, h3, h4, h5⟩
  · obtain ⟨v', w', hrun, ho, hg, -, hv⟩ := run_append_ownC (P := Try.prog) w base 24 ty i (.int .u8 0) 1 Try.underlying24 hi hz hz1 hz2 rfl (by decide) (okc := isU8) (fun u hu => ⟨0, by simpa [Value.cells, u8] using hu⟩) (.slice none 0 0) 0 [] OwnC.nil_ B m.length d (u8s m) hr (by simp at hb; omega) (by simp at hb; omega) hbase
    refine ⟨v', w', hrun, OwnB.off ?_, hg, hv⟩
    unfold OwnB
    simpa using ho
  · have hcell : ∀ j u, (u8s (l ++ tl))[j]? = some u → w.cell? ⟨g, pre.length + j, none⟩ = some u := fun j u hj => by
      refine cell_of_heap h2 _ u ?_
      rw [List.append_assoc, u8s_append, List.getElem?_append_right (by simp [u8s])]
      simpa [u8s] using hj
    have hl : ∀ j u, (u8s l)[j]? = some u → w.cell? ⟨g, pre.length + j, none⟩ = some u := fun j u hj => hcell j u (by rw [u8s_append, List.getElem?_append_left (List.getElem?_eq_some_iff.1 hj).1]; exact hj)
    have hsome : ∀ j, j < l.length + tl.length → (w.cell? ⟨g, pre.length + j, none⟩).isSome = true := fun j hj => by
      rw [hcell j _ (List.getElem?_eq_getElem (show j < (u8s (l ++ tl)).length by simpa [u8s] using hj))]
      rfl
    have hself : w.grownBy w (some g) := ⟨rfl, rfl, rfl, Nat.le_refl _, fun _ _ _ => rfl⟩
    cases B with
    | none =>
      obtain ⟨rfl, rfl⟩ := hr.nil_ rfl
      refine ⟨.slice (some ⟨g, pre.length, none⟩) l.length cap, w, ?_, .inr ⟨g, cap, pre, tl, by simp, h1, by simpa using h2, by simpa using h3, by simpa using h4, h5⟩, hself, .inl rfl⟩
      simp [Builtin.append_, run_underlying Try.underlying24, sizeOf, typeInfo, hi, Builtin.lenOf, Builtin.firstCells, storeCells, h3]
    | some ad =>
      obtain ⟨r1, r2, r3, r4, r5, r6⟩ := hr
      by_cases hroom : l.length + m.length ≤ cap
      · have hr := run_append_room_cells (P := Try.prog) w 24 ty 5 i Try.underlying24 hi g pre.length l.length cap ad m.length d (u8s m) (by rw [hz1]; simp [u8s]) (r6 ad rfl) r5 hroom
          (fun j hj => by
            have hj' : j < m.length := by simpa [u8s] using hj
            rw [hz1, Nat.mul_one, Nat.add_assoc]
            exact hsome _ (by omega))
          (fun j hj => froz_of_heap h2 _)
        rw [hz1, Nat.mul_one] at hr
        have hset := heap_setCells_app (w := w) (g := g) (u8s m) w (u8s (pre ++ l)) (u8s tl) (by rw [← u8s_append]; exact h2) (by simp [u8s]; omega)
        rw [show (u8s (pre ++ l)).length = pre.length + l.length by simp [u8s]] at hset
        refine ⟨_, _, hr, .inr ⟨g, cap, pre, tl.drop m.length, by simp, h1, ?_, by simp; omega, by simp; omega, h5⟩, grown_setCells g _ _ w, .inl rfl⟩
        rw [hset]
        congr 2
        simp [u8s, List.map_drop]
      · have hrun := run_append_grow (P := Try.prog) w 24 ty 5 i (.int .u8 0) Try.underlying24 hi hz ⟨g, pre.length, none⟩ l.length cap (u8s l) (by rw [hz1]; simp [u8s]) (fun j u hj => by rw [plain_add]; exact hl j u hj) ad m.length d (u8s m) (by rw [hz1]; simp [u8s]) (r6 ad rfl) (by omega) (by omega) (growslice_fits (by omega) (by rw [hz2]; omega))
        have hge := grownCap_ge w (l.length + m.length) cap 5
        have hcm : grownCap w (l.length + m.length) cap 5 ≤ maxLen := grownCap_le_maxLen w (l.length + m.length) cap 5 (by simp only [maxLen]; omega)
        obtain ⟨G, hG⟩ : ∃ G, grownCap w (l.length + m.length) cap 5 = G := ⟨_, rfl⟩
        rw [hG] at hrun hge hcm
        obtain ⟨sp, hsp⟩ := isU8_list (Builtin.zeroCells (Value.int .u8 0).cells (G - (l.length + m.length))).toList (fun u hu => ⟨0, by simpa [Value.cells, u8] using zeroCells_mem _ _ u hu⟩)
        have hsl : sp.length = G - (l.length + m.length) := by
          have := congrArg List.length hsp
          rw [Array.length_toList, size_zeroCells] at this
          simpa [u8s, Value.cells] using this.symm
        refine ⟨_, _, hrun, .inr ⟨w.heap.size, G, [], sp, by simp, hbase, ?_, by simp; omega, by simp; omega, by simp only [maxLen] at hcm; omega⟩, ⟨rfl, rfl, rfl, by simp, fun k hk _ => heap_alloc_old w.drew _ hk⟩, .inr rfl⟩
        have h0 := heap_alloc_new w.drew (.cells ((u8s l).toArray ++ (u8s m).toArray ++ Builtin.zeroCells (Value.int .u8 0).cells (G - (l.length + m.length))) 5)
        have he : (u8s ([] ++ (l ++ m) ++ sp)).toArray = (u8s l).toArray ++ (u8s m).toArray ++ Builtin.zeroCells (Value.int .u8 0).cells (G - (l.length + m.length)) := by
          apply Array.toList_inj.1
          simp [u8s_append, hsp]
        rw [he]
        exact h0
theorem wp_appO (w : World) {o : Oper} {a : Act} {K : Act → World → Prop} {Q : Exit → Act → World → Prop} (s x : Operand)
    (ho : o.op = .call { callee := .builtin .append, args := #[s, x], argTypes := #[24, 24] })
    (base : Nat) (v : Value) (l m : List UInt8) (hs : a.eval s = v) (hown : OwnO w base v l) (B : Option Addr) (k d : Nat) (hx : a.eval x = .slice B k d) (hk : k = m.length) (hr : Rd w B d m) (hb : l.length + m.length ≤ 140737488355328) (hbase : base ≤ w.heap.size)
    (h : ∀ v' w', OwnO w' base v' (l ++ m) → w.grownBy w' v.ownBlock → (v'.ownBlock = v.ownBlock ∨ v'.ownBlock = some w.heap.size) → K (a.put o.dst v') w') : o.wp Try.prog a w K Q := by
  obtain ⟨v', w', hr, h2, h3, h4⟩ := run_append_O w base o.type v l m hown B k d hk hr hb hbase
  unfold Oper.wp execOp
  simp only [ho, resolve, invoke, builtin, Sem.run_bind, Sem.run_pure, Result.andThen_ok, List.map_toArray, List.map_cons, List.map_nil, hs, hx, hr]
  exact h v' w' h2 h3 h4
theorem wpList_appO (w : World) {ops : Array Oper} {rest : List Oper} {o : Oper} {a : Act} {Q : Exit → Act → World → Prop} (hgd : o.guard = none) (s x : Operand)
    (ho : o.op = .call { callee := .builtin .append, args := #[s, x], argTypes := #[24, 24] })
    (base : Nat) (v : Value) (l m : List UInt8) (hs : a.eval s = v) (hown : OwnO w base v l) (B : Option Addr) (k d : Nat) (hx : a.eval x = .slice B k d) (hk : k = m.length) (hr : Rd w B d m) (hb : l.length + m.length ≤ 140737488355328) (hbase : base ≤ w.heap.size)
    (h : ∀ v' w', OwnO w' base v' (l ++ m) → w.grownBy w' v.ownBlock → (v'.ownBlock = v.ownBlock ∨ v'.ownBlock = some w.heap.size) → wpList Try.prog ops Q rest (a.put o.dst v') w') : wpList Try.prog ops Q (o :: rest) a w :=
  wpList_plain hgd fun _ hK => wp_appO w s x ho base v l m hs hown B k d hx hk hr hb hbase fun v' w' h2 h3 h4 => hK _ _ (h v' w' h2 h3 h4)
theorem step_appO (w : World) {ops : Array Oper} {o : Oper} {a : Act} {K : Act → World → Prop} {Q : Exit → Act → World → Prop} {E : Prop} (hgd : o.guard = none) (s x : Operand)
    (ho : o.op = .call { callee := .builtin .append, args := #[s, x], argTypes := #[24, 24] })
    (base : Nat) (v : Value) (l m : List UInt8) (hs : a.eval s = v) (hown : OwnO w base v l) (B : Option Addr) (k d : Nat) (hx : a.eval x = .slice B k d) (hk : k = m.length) (hr : Rd w B d m) (hb : l.length + m.length ≤ 140737488355328) (hbase : base ≤ w.heap.size)
    (h : ∀ v' w', OwnO w' base v' (l ++ m) → w.grownBy w' v.ownBlock → (v'.ownBlock = v.ownBlock ∨ v'.ownBlock = some w.heap.size) → K (a.put o.dst v') w') : if Region.wanted o (yielded ops a.tmps) = true then Oper.wp Try.prog o a w K Q else E := by
  have hw : Region.wanted o (yielded ops a.tmps) = true := by simp [Region.wanted, hgd]
  rw [if_pos hw]
  exact wp_appO w s x ho base v l m hs hown B k d hx hk hr hb hbase h
end Go.Proofs.Ytmeljnohkhkfmaa

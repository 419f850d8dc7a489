import Derived.Test.YtmeljnohkhkfmaaEq
set_option linter.unusedVariables false
set_option linter.unusedSimpArgs false
namespace Go.Proofs.Ytmeljnohkhkfmaa
open Go.RowKit

/-- New memory of bytes, with what stands behind its length; the block may be an array's. -/
def MemB (w : World) (base : Nat) (v : Value) (l sp : List UInt8) : Prop :=
  (v = .slice none 0 0 ∧ l = [] ∧ sp = []) ∨ ∃ g e, v = .slice (some ⟨g, 0, none⟩) l.length (l.length + sp.length) ∧ base ≤ g ∧ w.heap[g]? = some (.cells (u8s (l ++ sp)).toArray e (0, 0)) ∧ l.length + sp.length ≤ 9223372036854775807
theorem MemB.rd {w : World} {base : Nat} {v : Value} {l sp : List UInt8} (h : MemB w base v l sp) : ∃ A c, v = .slice A l.length c ∧ Rd w A c l := by
  rcases h with ⟨rfl, rfl, rfl⟩ | ⟨g, e, rfl, h1, h2, h3⟩
  · exact ⟨none, 0, rfl, Rd.zero (by decide) (fun _ => rfl)⟩
  · refine ⟨_, _, rfl, by simp [u8s], by omega, h3, (fun hh => by cases hh), u8s_one l, fun ad ha j u hj => ?_⟩
    cases ha
    rw [plain_add, Nat.zero_add]
    exact cell_of_heap h2 j u (by rw [u8s_append, List.getElem?_append_left (List.getElem?_eq_some_iff.1 hj).1]; exact hj)
theorem MemB.below {w w' : World} {base : Nat} {v : Value} {l sp : List UInt8} (h : MemB w base v l sp) (hb : Below w.heap.size w w') : MemB w' base v l sp := by
  rcases h with h | ⟨g, e, h0, h1, h2, h3⟩
  · exact .inl h
  · exact .inr ⟨g, e, h0, h1, (hb.block g (heap_lt h2)).trans h2, h3⟩
theorem MemB.base {w : World} {base base' : Nat} {v : Value} {l sp : List UInt8} (h : MemB w base v l sp) (hb : base' ≤ base) : MemB w base' v l sp := by
  rcases h with h | ⟨g, e, h0, h1, h2, h3⟩
  · exact .inl h
  · exact .inr ⟨g, e, h0, by omega, h2, h3⟩
theorem OwnB.mem {w : World} {base : Nat} {v : Value} {l : List UInt8} (h : OwnB w base v l) : ∃ sp, MemB w base v l sp := by
  rcases h.open_ with ⟨rfl, rfl⟩ | ⟨g, cap, sp, rfl, h1, h2, h3, h4⟩
  · exact ⟨[], .inl ⟨rfl, rfl, rfl⟩⟩
  · exact ⟨sp, .inr ⟨g, _, by rw [h3], h1, h2, by omega⟩⟩

/-- An append behind a slice that has no room. -/
theorem run_append_fullB (w : World) (base : Nat) (ty : TypeId) (ad : Addr) (l : List UInt8) (hl : Rd w (some ad) l.length l) (B : Option Addr) (d : Nat) (m : List UInt8) (hr : Rd w B d m)
    (hb : l.length + m.length ≤ 140737488355328) (hbase : base ≤ w.heap.size) :
    ∃ v' w', (Builtin.append_ #[24, 24] ty #[.slice (some ad) l.length l.length, .slice B m.length d]).run Try.prog w = .ok v' w' ∧
      ((m = [] ∧ v' = .slice (some ad) l.length l.length ∧ w' = w) ∨ OwnB w' base v' (l ++ m)) ∧ w.grownBy w' none := by
  obtain ⟨i, hi, hz, hz1, hz2⟩ := info_parts Try.info_u8
  have hself : w.grownBy w none := ⟨rfl, rfl, rfl, Nat.le_refl _, fun _ _ _ => rfl⟩
  by_cases hm : m = []
  · subst hm
    refine ⟨.slice (some ad) l.length l.length, w, ?_, .inl ⟨rfl, rfl, rfl⟩, hself⟩
    cases B with
    | none => simp [Builtin.append_, run_underlying Try.underlying24, sizeOf, typeInfo, hi, Builtin.lenOf, Builtin.firstCells, storeCells]
    | some b => simp [Builtin.append_, run_underlying Try.underlying24, sizeOf, typeInfo, hi, Builtin.lenOf, Builtin.firstCells, loadCells, loadCellsFrom, storeCells]
  · have hm0 : 0 < m.length := List.length_pos_iff.2 hm
    cases B with
    | none => exact absurd (hr.nil_ rfl).1 hm
    | some b =>
    have hge := grownCap_ge w (l.length + m.length) l.length 5
    have hcm : grownCap w (l.length + m.length) l.length 5 ≤ maxLen := grownCap_le_maxLen w (l.length + m.length) l.length 5 (by simp only [maxLen]; omega)
    have h := run_append_grow (P := Try.prog) w 24 ty 5 i (.int .u8 0) Try.underlying24 hi hz ad l.length l.length (u8s l) (by simp [u8s, hz1]) (fun j u hj => hl.2.2.2.2.2 ad rfl j u hj) b m.length d (u8s m) (by simp [u8s, hz1]) (fun j u hj => hr.2.2.2.2.2 b rfl j u hj) (by omega) (by omega) (growslice_fits (by omega) (by rw [hz2]; omega))
    refine ⟨_, _, h, .inr ?_, ⟨rfl, rfl, rfl, by simp, fun k hk _ => heap_alloc_old w.drew _ hk⟩⟩
    have hz : (Value.int .u8 0).cells = #[u8 0] := rfl
    have hsp : Builtin.zeroCells (Value.int .u8 0).cells (grownCap w (l.length + m.length) l.length 5 - (l.length + m.length)) = (u8s (List.replicate (grownCap w (l.length + m.length) l.length 5 - (l.length + m.length)) 0)).toArray := by
      rw [hz]
      apply Array.ext
      · simp [Builtin.zeroCells, u8s]
      · intro j h1 h2
        simp [Builtin.zeroCells, u8s, Nat.mod_one]
    have hx := heap_alloc_new w.drew (.cells ((u8s l).toArray ++ (u8s m).toArray ++ Builtin.zeroCells (Value.int .u8 0).cells (grownCap w (l.length + m.length) l.length 5 - (l.length + m.length))) 5)
    have := OwnB.made (w := w.drew.alloc (.cells ((u8s l).toArray ++ (u8s m).toArray ++ Builtin.zeroCells (Value.int .u8 0).cells (grownCap w (l.length + m.length) l.length 5 - (l.length + m.length))) 5)) (base := base) (g := w.heap.size) (l := l ++ m) (sp := List.replicate (grownCap w (l.length + m.length) l.length 5 - (l.length + m.length)) 0) (cap := grownCap w (l.length + m.length) l.length 5) hbase
      (by rw [hsp] at hx ⊢; simpa [u8s_append] using hx) (by simp; omega) (by simp only [maxLen] at hcm; omega)
    simpa using this

theorem step_app_full (w : World) {ops : Array Oper} {o : Oper} {a : Act} {K : Act → World → Prop} {Q : Exit → Act → World → Prop} {E : Prop} (hgd : o.guard = none) (s x : Operand)
    (ho : o.op = .call { callee := .builtin .append, args := #[s, x], argTypes := #[24, 24] })
    (base : Nat) (ad : Addr) (l : List UInt8) (n : Nat) (hs : a.eval s = .slice (some ad) n n) (hnl : n = l.length) (hl : Rd w (some ad) l.length l) (B : Option Addr) (k d : Nat) (m : List UInt8) (hx : a.eval x = .slice B k d) (hk : k = m.length) (hr : Rd w B d m)
    (hb : l.length + m.length ≤ 140737488355328) (hbase : base ≤ w.heap.size)
    (h : ∀ v' w', ((m = [] ∧ v' = .slice (some ad) l.length l.length ∧ w' = w) ∨ OwnB w' base v' (l ++ m)) → w.grownBy w' none → K (a.put o.dst v') w') : if Region.wanted o (yielded ops a.tmps) = true then Oper.wp Try.prog o a w K Q else E := by
  subst hnl hk
  have hw : Region.wanted o (yielded ops a.tmps) = true := by simp [Region.wanted, hgd]
  rw [if_pos hw]
  obtain ⟨v', w', h1, h2, h3⟩ := run_append_fullB w base o.type ad l hl B d m hr hb hbase
  unfold Oper.wp execOp
  simp only [ho, resolve, invoke, builtin, Sem.run_bind, Sem.run_pure, Result.andThen_ok, List.map_toArray, List.map_cons, List.map_nil, hs, hx, h1]
  exact h v' w' h2 h3
end Go.Proofs.Ytmeljnohkhkfmaa

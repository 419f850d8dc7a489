import Derived.Test.YtkihafkiinhbkaaOwn
import Derived.ArgAppend
set_option linter.unusedVariables false
set_option linter.unusedSimpArgs false
namespace Go.Proofs.Ytkihafkiinhbkaa
open Go.RowKit

theorem grown_setCells (g : Nat) : ∀ (vs : List Value) (o : Nat) (w : World), w.grownBy (w.setCells g o vs) (some g)
  | [], _, w => ⟨rfl, rfl, rfl, Nat.le_refl _, fun _ _ _ => rfl⟩
  | v :: r, o, w => by
    have h := grown_setCells g r (o + 1) (w.setCell ⟨g, o, none⟩ v)
    refine ⟨h.os, h.tape, h.output, ?_, fun k hk hne => ?_⟩
    · have := h.size
      simpa [World.setCell, World.setCells] using this
    · have := h.block k (by simpa [World.setCell] using hk) hne
      rw [World.setCells, this]
      exact Below.heap_setCell w _ v k (fun e => hne (by rw [e]))

/-- An append to a slice that begins within a block of one's own; of the old slice nothing is asked any more. -/
theorem run_append_offB (w : World) (ty : TypeId) (g n cap : Nat) (pre l sp m : List UInt8) (hh : w.heap[g]? = some (.cells (u8s (pre ++ l ++ sp)).toArray 5 (0, 0)))
    (hn : l.length = n) (hc : n + sp.length = cap) (hcm : cap ≤ 9223372036854775807) (B : Option Addr) (k d : Nat) (hk : k = m.length) (hr : Rd w B d m) (hb : n + m.length ≤ 140737488355328) :
    ∃ A c w', (Builtin.append_ #[23, 23] ty #[.slice (some ⟨g, pre.length, none⟩) n cap, .slice B k d]).run Try.prog w = .ok (.slice A (n + m.length) c) w' ∧ Rd w' A c (l ++ m) ∧ w.grownBy w' (some g) := by
  obtain ⟨i, hi, hz, hz1, hz2⟩ := info_parts Try.info_u8
  subst hn hk
  have hcell : ∀ j u, (u8s (l ++ sp))[j]? = some u → w.cell? ⟨g, pre.length + j, none⟩ = some u := fun j u hj => by
    refine cell_of_heap hh _ u ?_
    rw [List.append_assoc, u8s_append, List.getElem?_append_right (by simp [u8s])]
    simpa [u8s] using hj
  have hl : ∀ j u, (u8s l)[j]? = some u → w.cell? ⟨g, pre.length + j, none⟩ = some u := fun j u hj => hcell j u (by rw [u8s_append, List.getElem?_append_left (List.getElem?_eq_some_iff.1 hj).1]; exact hj)
  have hsome : ∀ j, j < l.length + sp.length → (w.cell? ⟨g, pre.length + j, none⟩).isSome = true := fun j hj => by
    rw [hcell j _ (List.getElem?_eq_getElem (show j < (u8s (l ++ sp)).length by simpa [u8s] using hj))]
    rfl
  cases B with
  | none =>
    obtain ⟨rfl, rfl⟩ := hr.nil_ rfl
    refine ⟨some ⟨g, pre.length, none⟩, cap, w, ?_, ?_, ⟨rfl, rfl, rfl, Nat.le_refl _, fun _ _ _ => rfl⟩⟩
    · simp [Builtin.append_, run_underlying Try.underlying23, sizeOf, typeInfo, hi, Builtin.lenOf, Builtin.firstCells, storeCells, show l.length ≤ cap by omega]
    · rw [List.append_nil]
      refine ⟨by simp [u8s], by omega, hcm, (fun hh => by cases hh), u8s_one l, fun ad ha j u hj => ?_⟩
      cases ha
      rw [plain_add]
      exact hl j u hj
  | some ad =>
    obtain ⟨r1, r2, r3, r4, r5, r6⟩ := hr
    by_cases hroom : l.length + m.length ≤ cap
    · have hr := run_append_room_cells (P := Try.prog) w 23 ty 5 i Try.underlying23 hi g pre.length l.length cap ad m.length d (u8s m) (by rw [hz1]; simp [u8s]) (r6 ad rfl) r5 hroom
        (fun j hj => by
          have hj' : j < m.length := by simpa [u8s] using hj
          rw [hz1, Nat.mul_one, Nat.add_assoc]
          exact hsome _ (by omega))
        (fun j hj => froz_of_heap hh _)
      rw [hz1, Nat.mul_one] at hr
      refine ⟨some ⟨g, pre.length, none⟩, cap, _, hr, ⟨by simp [u8s], by simp; omega, hcm, (fun hh => by cases hh), u8s_one _, fun ad' ha j u hj => ?_⟩, grown_setCells g _ _ w⟩
      cases ha
      rw [plain_add]
      by_cases hlt : j < l.length
      · rw [World.cell?_setCells_out g _ _ _ _ (fun _ _ => .inl (by show pre.length + j < _; omega))]
        exact hl j u (by rw [u8s_append, List.getElem?_append_left (by simpa [u8s] using hlt)] at hj; exact hj)
      · rw [u8s_append, List.getElem?_append_right (by simp [u8s]; omega)] at hj
        have hjl := (List.getElem?_eq_some_iff.1 hj).1
        have hin := World.cell?_setCells_in g (u8s m) (pre.length + l.length) w (fun q hq => by
          have hq' : q < m.length := by simpa [u8s] using hq
          rw [Nat.add_assoc]
          exact hsome _ (by omega)) (j - (u8s l).length) hjl
        rw [show pre.length + j = pre.length + l.length + (j - (u8s l).length) from by simp [u8s]; omega, hin]
        rw [List.getElem?_eq_getElem hjl] at hj
        exact hj
    · obtain ⟨v', w', hrun, hown, hg⟩ := run_append_arg_grows (P := Try.prog) w 23 ty 5 i (.int .u8 0) 1 1 Try.underlying23 hi hz hz1 hz2 rfl (by decide) ⟨g, pre.length, none⟩ l.length cap (u8s l) (by simp [u8s]) (fun j u hj => by rw [plain_add]; exact hl j u hj) ad m.length d (u8s m) (by simp [u8s]) (r6 ad rfl) (by omega) (by simp only [maxLen]; omega) (by omega)
      rcases hown.2 with ⟨rfl, h0⟩ | ⟨g', cap', cur, rfl, h2, h3, h4, h5, h6, h7⟩
      · exfalso; omega
      · refine ⟨_, cap', w', hrun, ⟨by simp [u8s], by simp; omega, by simp only [maxLen] at h5; omega, (fun hh => by cases hh), u8s_one _, fun ad' ha j u hj => ?_⟩, ⟨hg.os, hg.tape, hg.output, hg.size, fun k hk _ => hg.block k hk (by simp)⟩⟩
        cases ha
        exact hown.cells rfl j u (by rw [u8s_append] at hj; exact hj)

theorem wpList_app_offB (w : World) {ops : Array Oper} {rest : List Oper} {o : Oper} {a : Act} {Q : Exit → Act → World → Prop} (hgd : o.guard = none) (s x : Operand)
    (ho : o.op = .call { callee := .builtin .append, args := #[s, x], argTypes := #[23, 23] })
    (g n cap : Nat) (pre l sp m : List UInt8) (p : Nat) (hp : p = pre.length) (hs : a.eval s = .slice (some ⟨g, p, none⟩) n cap) (hh : w.heap[g]? = some (.cells (u8s (pre ++ l ++ sp)).toArray 5 (0, 0)))
    (hn : l.length = n) (hc : n + sp.length = cap) (hcm : cap ≤ 9223372036854775807) (B : Option Addr) (k d : Nat) (hx : a.eval x = .slice B k d) (hk : k = m.length) (hr : Rd w B d m) (hb : n + m.length ≤ 140737488355328)
    (h : ∀ A c w', Rd w' A c (l ++ m) → w.grownBy w' (some g) → wpList Try.prog ops Q rest (a.put o.dst (.slice A (n + m.length) c)) w') : wpList Try.prog ops Q (o :: rest) a w := by
  refine wpList_plain hgd fun _ hK => ?_
  subst hp
  obtain ⟨A, c, w', hr, h2, h3⟩ := run_append_offB w o.type g n cap pre l sp m hh hn hc hcm B k d hk hr hb
  unfold Oper.wp execOp
  simp only [ho, resolve, invoke, builtin, Sem.run_bind, Sem.run_pure, Result.andThen_ok, List.map_toArray, List.map_cons, List.map_nil, hs, hx, hr]
  exact hK _ _ (h A c w' h2 h3)
end Go.Proofs.Ytkihafkiinhbkaa

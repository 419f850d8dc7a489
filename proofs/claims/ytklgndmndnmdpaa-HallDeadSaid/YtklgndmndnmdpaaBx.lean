import Derived.Test.YtklgndmndnmdpaaCpy
set_option linter.unusedVariables false
set_option linter.unusedSimpArgs false
namespace Go.Proofs.Ytklgndmndnmdpaa
open Go.RowKit

/-- A block of cells, none frozen. -/
def Bx (W : World) (b : Nat) (t : TypeId) (cs : List Value) : Prop := W.heap[b]? = some (.cells cs.toArray t (0, 0))
theorem Bx.cell {W : World} {b : Nat} {t : TypeId} {cs : List Value} (h : Bx W b t cs) (j : Nat) (v : Value) (hj : cs[j]? = some v) : W.cell? ⟨b, j, none⟩ = some v := cell_of_heap h j v hj
theorem Bx.froz {W : World} {b : Nat} {t : TypeId} {cs : List Value} (h : Bx W b t cs) (j : Nat) : W.frozen? ⟨b, j, none⟩ = false := froz_of_heap h j
theorem Bx.lt {W : World} {b : Nat} {t : TypeId} {cs : List Value} (h : Bx W b t cs) : b < W.heap.size := heap_lt h
theorem Bx.new (W : World) (t : TypeId) (cs : List Value) : Bx (W.alloc (.cells cs.toArray t)) W.heap.size t cs := heap_alloc_new W _
theorem Bx.new' (W : World) {b : Nat} (t : TypeId) (cs : List Value) (hb : b = W.heap.size) : Bx (W.alloc (.cells cs.toArray t)) b t cs := by subst hb; exact heap_alloc_new W _
theorem Bx.alloc {W : World} {b : Nat} {t : TypeId} {cs : List Value} (h : Bx W b t cs) (o : Obj) : Bx (W.alloc o) b t cs := (heap_alloc_old W o (heap_lt h)).trans h
theorem Bx.keep {W W' : World} {b : Nat} {t : TypeId} {cs : List Value} (h : Bx W b t cs) (hk : W'.heap[b]? = W.heap[b]?) : Bx W' b t cs := hk.trans h
theorem Bx.tch {W W' : World} {b : Nat} {t : TypeId} {cs : List Value} {F : List Nat} (h : Bx W b t cs) (ht : Tch F W W') (hb : b ∉ F) : Bx W' b t cs := h.keep (ht.block b h.lt hb)
theorem Bx.below {W W' : World} {b : Nat} {t : TypeId} {cs : List Value} (h : Bx W b t cs) (ht : Below W.heap.size W W') : Bx W' b t cs := h.keep (ht.block b h.lt)
theorem Bx.to {W : World} {b : Nat} {t : TypeId} {cs cs' : List Value} (h : Bx W b t cs) (e : cs = cs') : Bx W b t cs' := e ▸ h
theorem Bx.set {W : World} {b : Nat} {t : TypeId} {cs : List Value} (h : Bx W b t cs) (j : Nat) (u : Value) : Bx (W.setCell ⟨b, j, none⟩ u) b t (cs.set j u) := heap_set_same h j u
theorem Bx.off {W : World} {b g j : Nat} {t : TypeId} {cs : List Value} {u : Value} (h : Bx W b t cs) (hne : b ≠ g) : Bx (W.setCell ⟨g, j, none⟩ u) b t cs := (Below.heap_setCell W ⟨g, j, none⟩ u b hne).trans h
theorem Bx.drew {W : World} {b : Nat} {t : TypeId} {cs : List Value} (h : Bx W b t cs) : Bx W.drew b t cs := h
theorem Bx.ne {W : World} {b b' : Nat} {t t' : TypeId} {cs cs' : List Value} (h : Bx W b t cs) (h' : Bx W b' t' cs') (ht : t ≠ t') : b ≠ b' := by
  rintro rfl
  unfold Bx at h h'
  rw [h] at h'
  simp only [Option.some.injEq, Obj.cells.injEq] at h'
  exact ht h'.2.1
theorem tch_set (W : World) (g j : Nat) (u : Value) : Tch [g] W (W.setCell ⟨g, j, none⟩ u) := (Tch.refl _ _).setCell u (.inl (by simp))
theorem cell_of_block {W W' : World} {k o : Nat} {v : Value} (h : W'.heap[k]? = W.heap[k]?) (hc : W.cell? ⟨k, o, none⟩ = some v) : W'.cell? ⟨k, o, none⟩ = some v := by
  rw [← hc]; unfold World.cell?; rw [h]
theorem Bx.load1 {W : World} {b : Nat} {t : TypeId} {v : Value} (h : Bx W b t [v]) (ha : (isAgg t).run Try.prog W = .ok false W) : (loadVar t ⟨b, 0, none⟩).run Try.prog W = .ok v W := by
  have hc := h.cell 0 v rfl
  simp [loadVar, Sem.run_bind, ha, Result.andThen, load, Sem.run, hc]
theorem Bx.loadAgg {W : World} {b : Nat} {t : TypeId} {cs : List Value} (h : Bx W b t cs) (ha : (isAgg t).run Try.prog W = .ok true W) (hs : (sizeOf t).run Try.prog W = .ok cs.length W) : (loadVar t ⟨b, 0, none⟩).run Try.prog W = .ok (.agg cs.toArray) W := by
  have h1 : ∀ (n j : Nat) (acc : Array Value), j + n = cs.length → (loadCellsFrom ⟨b, 0, none⟩ j n acc).run Try.prog W = .ok (acc ++ (cs.drop j).toArray) W := by
    intro n
    induction n with
    | zero => intro j acc hj; rw [List.drop_eq_nil_of_le (by omega)]; simp [loadCellsFrom]
    | succ n ih =>
      intro j acc hj
      have hjl : j < cs.length := by omega
      have hc := h.cell j (cs[j]) (List.getElem?_eq_getElem hjl)
      have h2 := ih (j + 1) (acc.push cs[j]) (by omega)
      have h3 : (load ((⟨b, 0, none⟩ : Addr).add j)).run Try.prog W = .ok cs[j] W := by
        rw [plain_add, Nat.zero_add]
        simp [load, Sem.run, hc]
      rw [List.drop_eq_getElem_cons hjl]
      unfold loadCellsFrom
      rw [Sem.run_bind, h3]
      simp only [Result.andThen]
      rw [h2]
      simp
  have h2 : (loadCells ⟨b, 0, none⟩ cs.length).run Try.prog W = .ok cs.toArray W := by
    unfold loadCells
    rw [h1 cs.length 0 #[] (by omega)]
    simp
  simp [loadVar, Sem.run_bind, ha, hs, Result.andThen, h2]
/-- What a function returns whose results are in memory. -/
theorem results_cc {fn : Func} {t u : Tmp} {ty ty' : TypeId} (h : fn.results = #[.cell t ty, .cell u ty']) {tmps : Array Value} {W : World} {a b : Addr} {v v' : Value} (ht : tmps.getD t undef = .pointer (some a)) (hu : tmps.getD u undef = .pointer (some b))
    (hl : (loadVar ty a).run Try.prog W = .ok v W) (hl' : (loadVar ty' b).run Try.prog W = .ok v' W) : (results fn tmps).run Try.prog W = .ok (.tuple #[v, v']) W := by
  simp only [Array.getD_eq_getD_getElem?] at ht hu
  simp [results, h, ht, hu, asAddr, Sem.run_bind, Sem.run, hl, hl', Result.andThen]
theorem results_c {fn : Func} {t : Tmp} {ty : TypeId} (h : fn.results = #[.cell t ty]) {tmps : Array Value} {W : World} {a : Addr} {v : Value} (ht : tmps.getD t undef = .pointer (some a))
    (hl : (loadVar ty a).run Try.prog W = .ok v W) : (results fn tmps).run Try.prog W = .ok v W := by
  simp only [Array.getD_eq_getD_getElem?] at ht
  simp [results, h, ht, asAddr, Sem.run_bind, Sem.run, hl, Result.andThen]
end Go.Proofs.Ytklgndmndnmdpaa

import Derived.Test.YtklgndmndnmdpaaBase
set_option linter.unusedVariables false
set_option linter.unusedSimpArgs false
namespace Go.Proofs.Ytklgndmndnmdpaa
open Go.RowKit

/-- A slice value reads as the cells cs (sz cells an element). -/
def RdC (sz : Nat) (w : World) (A : Option Addr) (n c : Nat) (cs : List Value) : Prop :=
  cs.length = n * sz ∧ n ≤ c ∧ c ≤ 9223372036854775807 ∧ (A = none → n = 0 ∧ c = 0) ∧ (∀ u ∈ cs, u.oneCell' = true) ∧ ∀ ad, A = some ad → ∀ j u, cs[j]? = some u → w.cell? (ad.add j) = some u

/-- A slice value of the call's own, from block base on; what stands behind its length is okc. -/
def OwnC (e : TypeId) (sz : Nat) (okc : Value → Prop) (w : World) (base : Nat) (v : Value) (n : Nat) (cs : List Value) : Prop :=
  cs.length = n * sz ∧ (∀ u ∈ cs, u.oneCell' = true) ∧ ((v = .slice none 0 0 ∧ n = 0) ∨
    ∃ g cap sp, v = .slice (some ⟨g, 0, none⟩) n cap ∧ base ≤ g ∧ w.heap[g]? = some (.cells (cs ++ sp).toArray e (0, 0)) ∧ n * sz + sp.length = cap * sz ∧ n ≤ cap ∧ cap ≤ 9223372036854775807 ∧ ∀ u ∈ sp, okc u)

theorem wf_u64 {x : Int} (h : (Lit.int .u64 x).wf = true) : 0 ≤ x ∧ x ≤ 18446744073709551615 := by
  simp only [Lit.wf, Bool.and_eq_true, decide_eq_true_eq] at h
  have h1 : IntKind.u64.min = 0 := rfl
  have h2 : IntKind.u64.max = 18446744073709551615 := rfl
  omega
theorem wf_u32 {x : Int} (h : (Lit.int .u32 x).wf = true) : 0 ≤ x ∧ x ≤ 4294967295 := by
  simp only [Lit.wf, Bool.and_eq_true, decide_eq_true_eq] at h
  have h1 : IntKind.u32.min = 0 := rfl
  have h2 : IntKind.u32.max = 4294967295 := rfl
  omega
theorem wf_u16 {x : Int} (h : (Lit.int .u16 x).wf = true) : 0 ≤ x ∧ x ≤ 65535 := by
  simp only [Lit.wf, Bool.and_eq_true, decide_eq_true_eq] at h
  have h1 : IntKind.u16.min = 0 := rfl
  have h2 : IntKind.u16.max = 65535 := rfl
  omega
theorem wf_u8 {x : Int} (h : (Lit.int .u8 x).wf = true) : 0 ≤ x ∧ x ≤ 255 := by
  simp only [Lit.wf, Bool.and_eq_true, decide_eq_true_eq] at h
  have h1 : IntKind.u8.min = 0 := rfl
  have h2 : IntKind.u8.max = 255 := rfl
  omega
theorem wf_i64 {x : Int} (h : (Lit.int .i64 x).wf = true) : -9223372036854775808 ≤ x ∧ x ≤ 9223372036854775807 := by
  simp only [Lit.wf, Bool.and_eq_true, decide_eq_true_eq] at h
  have h1 : IntKind.i64.min = -9223372036854775808 := rfl
  have h2 : IntKind.i64.max = 9223372036854775807 := rfl
  omega
theorem plain_add (g o j : Nat) : (⟨g, o, none⟩ : Addr).add j = ⟨g, o + j, none⟩ := by unfold Addr.add; split <;> simp_all

theorem cell_of_heap {w : World} {g : Nat} {l : List Value} {e : TypeId} {fr : Nat × Nat} (h : w.heap[g]? = some (.cells l.toArray e fr)) (j : Nat) (u : Value) (hj : l[j]? = some u) : w.cell? ⟨g, j, none⟩ = some u := by
  simp [World.cell?, h, hj]
theorem froz_of_heap {w : World} {g : Nat} {c : Array Value} {e : TypeId} (h : w.heap[g]? = some (.cells c e (0, 0))) (j : Nat) : w.frozen? ⟨g, j, none⟩ = false := by
  simp [World.frozen?, h]
theorem heap_lt {w : World} {g : Nat} {o : Obj} (h : w.heap[g]? = some o) : g < w.heap.size := (Array.getElem?_eq_some_iff.1 h).1

theorem heap_alloc_is (w : World) (o : Obj) : (w.alloc o).heap = w.heap.push o := rfl
theorem heap_drew_is (w : World) : w.drew.heap = w.heap := rfl
theorem OwnC.rd {e : TypeId} {sz : Nat} {okc : Value → Prop} {w : World} {base : Nat} {v : Value} {n : Nat} {cs : List Value} (h : OwnC e sz okc w base v n cs) : ∃ A c, v = .slice A n c ∧ RdC sz w A n c cs := by
  obtain ⟨h1, h1c, h2⟩ := h
  rcases h2 with ⟨rfl, rfl⟩ | ⟨g, cap, sp, rfl, hb, hh, hc, hn, hm, hs⟩
  · exact ⟨none, 0, rfl, h1, Nat.le_refl _, by omega, fun _ => ⟨rfl, rfl⟩, h1c, fun _ hh => by cases hh⟩
  · refine ⟨_, cap, rfl, h1, hn, hm, (fun hh => by cases hh), h1c, fun ad ha j u hj => ?_⟩
    cases ha
    rw [plain_add, Nat.zero_add]
    exact cell_of_heap hh j u (by rw [List.getElem?_append_left (List.getElem?_eq_some_iff.1 hj).1]; exact hj)
theorem OwnC.slice {e : TypeId} {sz : Nat} {okc : Value → Prop} {w : World} {base : Nat} {v : Value} {n : Nat} {cs : List Value} (h : OwnC e sz okc w base v n cs) : ∃ A c, v = .slice A n c :=
  let ⟨A, c, h, _⟩ := h.rd; ⟨A, c, h⟩

/-- Each cell of the block that it lies in stays. -/
theorem OwnC.keep {e : TypeId} {sz : Nat} {okc : Value → Prop} {w w' : World} {base : Nat} {v : Value} {n : Nat} {cs : List Value} (h : OwnC e sz okc w base v n cs) (hk : ∀ k, v.ownBlock = some k → w'.heap[k]? = w.heap[k]?) : OwnC e sz okc w' base v n cs := by
  obtain ⟨h1, h1c, h2⟩ := h
  refine ⟨h1, h1c, ?_⟩
  rcases h2 with h2 | ⟨g, cap, sp, rfl, hb, hh, r⟩
  · exact .inl h2
  · exact .inr ⟨g, cap, sp, rfl, hb, (hk g rfl).trans hh, r⟩
theorem OwnC.lt {e : TypeId} {sz : Nat} {okc : Value → Prop} {w : World} {base : Nat} {v : Value} {n : Nat} {cs : List Value} (h : OwnC e sz okc w base v n cs) (k : Nat) (hk : v.ownBlock = some k) : base ≤ k ∧ k < w.heap.size := by
  rcases h.2.2 with ⟨rfl, rfl⟩ | ⟨g, cap, sp, rfl, hb, hh, r⟩
  · simp [Value.ownBlock] at hk
  · have : g = k := by simpa [Value.ownBlock] using hk
    subst this
    exact ⟨hb, heap_lt hh⟩
theorem OwnC.below {e : TypeId} {sz : Nat} {okc : Value → Prop} {w w' : World} {base : Nat} {v : Value} {n : Nat} {cs : List Value} (h : OwnC e sz okc w base v n cs) (hb : Below w.heap.size w w') : OwnC e sz okc w' base v n cs :=
  h.keep fun k hk => hb.block k (h.lt k hk).2
theorem OwnC.grown {e : TypeId} {sz : Nat} {okc : Value → Prop} {w w' : World} {base : Nat} {v : Value} {n : Nat} {cs : List Value} {row : Option Nat} (h : OwnC e sz okc w base v n cs) (hg : w.grownBy w' row) (hne : ∀ k, v.ownBlock = some k → some k ≠ row) : OwnC e sz okc w' base v n cs :=
  h.keep fun k hk => hg.block k (h.lt k hk).2 (hne k hk)
theorem OwnC.drew {e : TypeId} {sz : Nat} {okc : Value → Prop} {w : World} {base : Nat} {v : Value} {n : Nat} {cs : List Value} (h : OwnC e sz okc w base v n cs) : OwnC e sz okc w.drew base v n cs := h.keep fun _ _ => rfl
theorem OwnC.drewN {e : TypeId} {sz : Nat} {okc : Value → Prop} {w : World} {base : Nat} {v : Value} {n : Nat} {cs : List Value} (m : Nat) (h : OwnC e sz okc w base v n cs) : OwnC e sz okc (w.drewN m) base v n cs := h.keep fun _ _ => rfl
theorem OwnC.alloc {e : TypeId} {sz : Nat} {okc : Value → Prop} {w : World} {base : Nat} {v : Value} {n : Nat} {cs : List Value} (h : OwnC e sz okc w base v n cs) (o : Obj) : OwnC e sz okc (w.alloc o) base v n cs :=
  h.keep fun k hk => heap_alloc_old w o (h.lt k hk).2
theorem OwnC.base {e : TypeId} {sz : Nat} {okc : Value → Prop} {w : World} {base base' : Nat} {v : Value} {n : Nat} {cs : List Value} (h : OwnC e sz okc w base v n cs) (hb : base' ≤ base) : OwnC e sz okc w base' v n cs := by
  obtain ⟨h1, h1c, h2⟩ := h
  refine ⟨h1, h1c, ?_⟩
  rcases h2 with h2 | ⟨g, cap, sp, rfl, hb', r⟩
  · exact .inl h2
  · exact .inr ⟨g, cap, sp, rfl, by omega, r⟩
theorem OwnC.nil_ {e : TypeId} {sz : Nat} {okc : Value → Prop} {w : World} {base : Nat} : OwnC e sz okc w base (.slice none 0 0) 0 [] := ⟨by simp, by simp, .inl ⟨rfl, rfl⟩⟩

theorem RdC.cell {sz : Nat} {w : World} {A : Option Addr} {n c : Nat} {cs : List Value} (h : RdC sz w A n c cs) (j : Nat) (u : Value) (hj : cs[j]? = some u) : ∃ ad, A = some ad ∧ w.cell? (ad.add j) = some u := by
  obtain ⟨h1, h2, h3, h4, h5, h6⟩ := h
  cases A with
  | none =>
    have := (h4 rfl).1
    have := (List.getElem?_eq_some_iff.1 hj).1
    subst_vars
    simp at h1
    subst h1
    simp at this
  | some ad => exact ⟨ad, rfl, h6 ad rfl j u hj⟩
theorem cell_lt {w : World} {a : Addr} {u : Value} (h : w.cell? a = some u) : a.block < w.heap.size := World.block_lt_of_cell? w a h
theorem RdC.below {sz : Nat} {w w' : World} {A : Option Addr} {n c : Nat} {cs : List Value} (h : RdC sz w A n c cs) (hb : Below w.heap.size w w') : RdC sz w' A n c cs := by
  obtain ⟨h1, h2, h3, h4, h5, h6⟩ := h
  refine ⟨h1, h2, h3, h4, h5, fun ad ha j u hj => ?_⟩
  have hc := h6 ad ha j u hj
  exact (hb.cell (cell_lt hc)).trans hc
theorem below_drewN (w : World) (n : Nat) : Below w.heap.size w (w.drewN n) := ⟨rfl, rfl, rfl, Nat.le_refl _, fun _ _ => rfl⟩
theorem below_of_grown {w w' : World} (h : w.grownBy w' none) : Below w.heap.size w w' := ⟨h.os, h.tape, h.output, h.size, fun k hk => h.block k hk (by simp)⟩
theorem RdC.drewN {sz : Nat} {w : World} {A : Option Addr} {n c : Nat} {cs : List Value} (m : Nat) (h : RdC sz w A n c cs) : RdC sz (w.drewN m) A n c cs := h.below (below_drewN w m)
/-- Cells in blocks that are not written stay. -/
theorem RdC.grown {sz : Nat} {w w' : World} {A : Option Addr} {n c : Nat} {cs : List Value} {row : Option Nat} (h : RdC sz w A n c cs) (hg : w.grownBy w' row) (hne : ∀ ad, A = some ad → some ad.block ≠ row) : RdC sz w' A n c cs := by
  obtain ⟨h1, h2, h3, h4, h5, h6⟩ := h
  refine ⟨h1, h2, h3, h4, h5, fun ad ha j u hj => ?_⟩
  have hc := h6 ad ha j u hj
  exact hg.cell hc (by rw [show (ad.add j).block = ad.block from by unfold Addr.add; split <;> rfl]; exact hne ad ha)

section
variable {P : Program} {e : TypeId} {sz : Nat} {okc : Value → Prop} (w : World)
theorem zeroCells_mem (z : Array Value) (n : Nat) : ∀ u ∈ (Builtin.zeroCells z n).toList, u ∈ z.toList := by
  intro u hu
  simp only [Builtin.zeroCells, Array.toList_map, List.mem_map] at hu
  obtain ⟨i, hi, rfl⟩ := hu
  have hp : 0 < z.size := by
    rcases Nat.eq_zero_or_pos z.size with h | h
    · simp [h] at hi
    · exact h
  have : i % z.size < z.size := Nat.mod_lt _ hp
  rw [getElem!_pos z (i % z.size) this]
  simp
theorem run_append_ownC (base : Nat) (t ty : TypeId) (i : TypeInfo) (z : Value) (bytes : Nat) (ht : P.underlying t = some (.slice e)) (hi : P.info? e = some i) (hz : i.zero = some z)
    (hsize : i.size = sz) (hby : i.bytes = bytes) (hzs : z.cells.size = sz) (hsz : 0 < sz) (hzo : ∀ u ∈ z.cells.toList, okc u)
    (v : Value) (n : Nat) (cs : List Value) (hown : OwnC e sz okc w base v n cs) (A : Option Addr) (m c : Nat) (news : List Value) (hr : RdC sz w A m c news)
    (hbytes : (n + m) * bytes ≤ 140737488355328) (h63 : n + m ≤ 9223372036854775807) (hbase : base ≤ w.heap.size) :
    ∃ v' w', (Builtin.append_ #[t, t] ty #[v, .slice A m c]).run P w = .ok v' w' ∧ OwnC e sz okc w' base v' (n + m) (cs ++ news) ∧ w.grownBy w' v.ownBlock ∧
      (v' = .slice none 0 0 ↔ v = .slice none 0 0 ∧ m = 0) ∧ (v'.ownBlock = v.ownBlock ∨ v'.ownBlock = some w.heap.size) := by
  subst hsize
  subst hby
  obtain ⟨r1, r2, r3, r4, r5, r6⟩ := hr
  obtain ⟨o1, o1c, o2⟩ := hown
  have hlen : (cs ++ news).length = (n + m) * i.size := by rw [List.length_append, o1, r1, Nat.add_mul]
  have hone : ∀ u ∈ cs ++ news, u.oneCell' = true := fun u hu => (List.mem_append.1 hu).elim (o1c u) (r5 u)
  have hself : w.grownBy w v.ownBlock := ⟨rfl, rfl, rfl, Nat.le_refl _, fun _ _ _ => rfl⟩
  have grown : ∀ (old : Nat), old < n + m → ∀ (row : Option Nat),
      OwnC e i.size okc (w.drew.alloc (.cells (cs.toArray ++ news.toArray ++ Builtin.zeroCells z.cells (grownCap w (n + m) old e - (n + m))) e)) base
        (.slice (some ⟨w.heap.size, 0, none⟩) (n + m) (grownCap w (n + m) old e)) (n + m) (cs ++ news) ∧
      w.grownBy (w.drew.alloc (.cells (cs.toArray ++ news.toArray ++ Builtin.zeroCells z.cells (grownCap w (n + m) old e - (n + m))) e)) row := by
    intro old ho row
    have hge := grownCap_ge w (n + m) old e
    have hcm : grownCap w (n + m) old e ≤ maxLen := grownCap_le_maxLen w (n + m) old e (by simp only [maxLen]; omega)
    refine ⟨⟨hlen, hone, .inr ⟨w.heap.size, _, (Builtin.zeroCells z.cells (grownCap w (n + m) old e - (n + m))).toList, rfl, hbase, ?_, ?_, hge, by simp only [maxLen] at hcm; omega, fun u hu => hzo u (zeroCells_mem _ _ u hu)⟩⟩, ⟨rfl, rfl, rfl, by simp, fun k hk _ => heap_alloc_old w.drew _ hk⟩⟩
    · have h0 := heap_alloc_new w.drew (.cells (cs.toArray ++ news.toArray ++ Builtin.zeroCells z.cells (grownCap w (n + m) old e - (n + m))) e)
      have he : (cs ++ news ++ (Builtin.zeroCells z.cells (grownCap w (n + m) old e - (n + m))).toList).toArray = cs.toArray ++ news.toArray ++ Builtin.zeroCells z.cells (grownCap w (n + m) old e - (n + m)) := by
        apply Array.toList_inj.1; simp
      rw [he]
      exact h0
    · rw [Array.length_toList, size_zeroCells, hzs, ← Nat.add_mul]
      congr 1
      omega
  rcases o2 with ⟨rfl, rfl⟩ | ⟨g, cap, sp, rfl, hbg, hg, hcs, hnc, hcm, hsp⟩
  · have hx : cs = [] := List.eq_nil_of_length_eq_zero (by simpa using o1)
    subst hx
    by_cases hm : m = 0
    · subst hm
      have hn : news = [] := List.eq_nil_of_length_eq_zero (by simpa using r1)
      subst hn
      refine ⟨.slice none 0 0, w, ?_, OwnC.nil_, hself, by simp, .inl rfl⟩
      cases A <;> simp [Builtin.append_, run_underlying ht, sizeOf, typeInfo, hi, Builtin.lenOf, Builtin.firstCells, loadCells, loadCellsFrom]
    · cases A with
      | none => have := (r4 rfl).1; omega
      | some a =>
      have hr := run_append_nil (P := P) w t ty e i z ht hi hz a m c news r1 (r6 a rfl) (by omega) (by omega) (by have hb := hbytes; simp only [Nat.zero_add] at hb; omega)
      have hgr := grown 0 (by omega) (Value.ownBlock (.slice none 0 0))
      simp only [Nat.zero_add, List.nil_append, Array.empty_append] at hgr ⊢
      exact ⟨_, _, hr, hgr.1, hgr.2, by simp [hm], .inr rfl⟩
  · have holds : ∀ j u, cs[j]? = some u → w.cell? ((⟨g, 0, none⟩ : Addr).add j) = some u := fun j u hj => by
      rw [plain_add, Nat.zero_add]
      exact cell_of_heap hg j u (by rw [List.getElem?_append_left (List.getElem?_eq_some_iff.1 hj).1]; exact hj)
    by_cases hroom : n + m ≤ cap
    · by_cases hm : m = 0 ∧ A = none
      · obtain ⟨rfl, rfl⟩ := hm
        have hn : news = [] := List.eq_nil_of_length_eq_zero (by simpa using r1)
        subst hn
        refine ⟨.slice (some ⟨g, 0, none⟩) n cap, w, ?_, ⟨hlen, hone, .inr ⟨g, cap, sp, rfl, hbg, by rw [List.append_nil]; exact hg, hcs, hnc, hcm, hsp⟩⟩, hself, by simp, .inl rfl⟩
        simp [Builtin.append_, run_underlying ht, sizeOf, typeInfo, hi, Builtin.lenOf, Builtin.firstCells, hnc, storeCells]
      · cases A with
        | none => exact absurd ⟨(r4 rfl).1, rfl⟩ hm
        | some a =>
        have hfit : n * i.size + news.length ≤ (cs ++ sp).toArray.size := by
          simp only [List.size_toArray, List.length_append, o1, r1]
          have : (n + m) * i.size ≤ cap * i.size := Nat.mul_le_mul_right _ hroom
          rw [Nat.add_mul] at this
          omega
        have hr := run_append_room (P := P) w t ty e i ht hi g n cap _ hg a m c news r1 (r6 a rfl) r5 hroom hfit
        have he : ((cs ++ sp).toArray.toList.take (n * i.size) ++ news ++ (cs ++ sp).toArray.toList.drop (n * i.size + news.length)) = cs ++ news ++ sp.drop news.length := by
          simp only [← o1]
          rw [List.take_left, List.drop_append, List.drop_eq_nil_of_le (by omega), List.nil_append]
          congr 2
          omega
        rw [he] at hr
        refine ⟨_, _, hr, ⟨hlen, hone, .inr ⟨g, cap, sp.drop news.length, rfl, hbg, setRow_heap w g _ _ e _ hg, ?_, hroom, hcm, fun u hu => hsp u (List.mem_of_mem_drop hu)⟩⟩, ⟨rfl, rfl, rfl, by simp, fun k _ hk => setRow_other w g k _ (fun e => hk (by simp [Value.ownBlock, e]))⟩, by simp, .inl rfl⟩
        have : (n + m) * i.size ≤ cap * i.size := Nat.mul_le_mul_right _ hroom
        rw [Nat.add_mul] at this ⊢
        rw [List.length_drop, r1]
        omega
    · cases A with
      | none => have := (r4 rfl).1; omega
      | some a =>
      have hr := run_append_grow (P := P) w t ty e i z ht hi hz ⟨g, 0, none⟩ n cap cs o1 holds a m c news r1 (r6 a rfl) (by omega) (by omega) (growslice_fits (by omega) hbytes)
      have hgr := grown cap (by omega) (Value.ownBlock (.slice (some ⟨g, 0, none⟩) n cap))
      exact ⟨_, _, hr, hgr.1, hgr.2, by simp, .inr rfl⟩

theorem wp_appC {o : Oper} {a : Act} {K : Act → World → Prop} {Q : Exit → Act → World → Prop} (s x : Operand) (t : TypeId)
    (ho : o.op = .call { callee := .builtin .append, args := #[s, x], argTypes := #[t, t] })
    (base : Nat) (i : TypeInfo) (z : Value) (bytes : Nat) (ht : P.underlying t = some (.slice e)) (hi : P.info? e = some i) (hz : i.zero = some z)
    (hsize : i.size = sz) (hby : i.bytes = bytes) (hzs : z.cells.size = sz) (hsz : 0 < sz) (hzo : ∀ u ∈ z.cells.toList, okc u)
    (v : Value) (n : Nat) (cs : List Value) (hs : a.eval s = v) (hown : OwnC e sz okc w base v n cs) (A : Option Addr) (m c : Nat) (news : List Value) (hx : a.eval x = .slice A m c) (hr : RdC sz w A m c news)
    (hbytes : (n + m) * bytes ≤ 140737488355328) (h63 : n + m ≤ 9223372036854775807) (hbase : base ≤ w.heap.size)
    (h : ∀ v' w', OwnC e sz okc w' base v' (n + m) (cs ++ news) → w.grownBy w' v.ownBlock → (v' = .slice none 0 0 ↔ v = .slice none 0 0 ∧ m = 0) → (v'.ownBlock = v.ownBlock ∨ v'.ownBlock = some w.heap.size) → K (a.put o.dst v') w') : o.wp P a w K Q := by
  obtain ⟨v', w', hr, h2, h3, h4, h5⟩ := run_append_ownC (P := P) w base t o.type i z bytes ht hi hz hsize hby hzs hsz hzo v n cs hown A m c news hr hbytes h63 hbase
  unfold Oper.wp execOp
  simp only [ho, resolve, invoke, builtin, Sem.run_bind, Sem.run_pure, Result.andThen_ok, List.map_toArray, List.map_cons, List.map_nil, hs, hx, hr]
  exact h v' w' h2 h3 h4 h5
theorem wpList_appC {ops : Array Oper} {rest : List Oper} {o : Oper} {a : Act} {Q : Exit → Act → World → Prop} (hgd : o.guard = none) (s x : Operand) (t : TypeId)
    (ho : o.op = .call { callee := .builtin .append, args := #[s, x], argTypes := #[t, t] })
    (base : Nat) (i : TypeInfo) (z : Value) (bytes : Nat) (ht : P.underlying t = some (.slice e)) (hi : P.info? e = some i) (hz : i.zero = some z)
    (hsize : i.size = sz) (hby : i.bytes = bytes) (hzs : z.cells.size = sz) (hsz : 0 < sz) (hzo : ∀ u ∈ z.cells.toList, okc u)
    (v : Value) (n : Nat) (cs : List Value) (hs : a.eval s = v) (hown : OwnC e sz okc w base v n cs) (A : Option Addr) (m c : Nat) (news : List Value) (hx : a.eval x = .slice A m c) (hr : RdC sz w A m c news)
    (hbytes : (n + m) * bytes ≤ 140737488355328) (h63 : n + m ≤ 9223372036854775807) (hbase : base ≤ w.heap.size)
    (h : ∀ v' w', OwnC e sz okc w' base v' (n + m) (cs ++ news) → w.grownBy w' v.ownBlock → (v' = .slice none 0 0 ↔ v = .slice none 0 0 ∧ m = 0) → (v'.ownBlock = v.ownBlock ∨ v'.ownBlock = some w.heap.size) → wpList P ops Q rest (a.put o.dst v') w') : wpList P ops Q (o :: rest) a w :=
  wpList_plain hgd fun _ hK => wp_appC w s x t ho base i z bytes ht hi hz hsize hby hzs hsz hzo v n cs hs hown A m c news hx hr hbytes h63 hbase fun v' w' h2 h3 h4 h5 => hK _ _ (h v' w' h2 h3 h4 h5)
end


/-- One cell of a row of the call's own is written. -/
theorem heap_set_same {w : World} {g : Nat} {l : List Value} {e : TypeId} {fr : Nat × Nat} (h : w.heap[g]? = some (.cells l.toArray e fr)) (j : Nat) (u : Value) : (w.setCell ⟨g, j, none⟩ u).heap[g]? = some (.cells (l.set j u).toArray e fr) := by
  simp [World.setCell, Array.getElem?_modify, h]
theorem OwnC.set_cell {e : TypeId} {sz : Nat} {okc : Value → Prop} {w : World} {base g n cap : Nat} {cs : List Value} (h : OwnC e sz okc w base (.slice (some ⟨g, 0, none⟩) n cap) n cs) (j : Nat) (hj : j < n * sz) (u : Value) (hu : u.oneCell' = true) :
    OwnC e sz okc (w.setCell ⟨g, j, none⟩ u) base (.slice (some ⟨g, 0, none⟩) n cap) n (cs.set j u) := by
  obtain ⟨h1, h1c, h2⟩ := h
  refine ⟨by rw [List.length_set]; exact h1, fun x hx => ?_, ?_⟩
  · rcases List.mem_or_eq_of_mem_set hx with h | rfl
    · exact h1c x h
    · exact hu
  · rcases h2 with ⟨e1, e2⟩ | ⟨g', cap', sp, e1, hb, hh, hc, hn, hm, hs⟩
    · cases e1
    · simp only [Value.slice.injEq, Option.some.injEq, Addr.mk.injEq, true_and, and_true] at e1
      obtain ⟨rfl, rfl⟩ := e1
      refine .inr ⟨g, cap, sp, rfl, hb, ?_, hc, hn, hm, hs⟩
      rw [heap_set_same hh j u, List.set_append_left _ _ (by omega)]
theorem OwnC.cell_at {e : TypeId} {sz : Nat} {okc : Value → Prop} {w : World} {base g n cap : Nat} {cs : List Value} (h : OwnC e sz okc w base (.slice (some ⟨g, 0, none⟩) n cap) n cs) (j : Nat) (u : Value) (hj : cs[j]? = some u) :
    w.cell? ⟨g, j, none⟩ = some u ∧ w.frozen? ⟨g, j, none⟩ = false := by
  obtain ⟨h1, h1c, h2⟩ := h
  rcases h2 with ⟨e1, e2⟩ | ⟨g', cap', sp, e1, hb, hh, hc, hn, hm, hs⟩
  · cases e1
  · simp only [Value.slice.injEq, Option.some.injEq, Addr.mk.injEq, true_and, and_true] at e1
    obtain ⟨rfl, rfl⟩ := e1
    exact ⟨cell_of_heap hh j u (by rw [List.getElem?_append_left (List.getElem?_eq_some_iff.1 hj).1]; exact hj), froz_of_heap hh j⟩
theorem OwnC.shrink {e : TypeId} {sz : Nat} {w : World} {base g n cap : Nat} {cs : List Value} (h : OwnC e sz (fun _ => True) w base (.slice (some ⟨g, 0, none⟩) n cap) n cs) (k : Nat) (hk : k ≤ n) :
    OwnC e sz (fun _ => True) w base (.slice (some ⟨g, 0, none⟩) k cap) k (cs.take (k * sz)) := by
  obtain ⟨h1, h1c, h2⟩ := h
  have hks : k * sz ≤ n * sz := Nat.mul_le_mul_right _ hk
  refine ⟨by rw [List.length_take, h1]; omega, fun x hx => h1c x (List.mem_of_mem_take hx), ?_⟩
  rcases h2 with ⟨e1, e2⟩ | ⟨g', cap', sp, e1, hb, hh, hc, hn, hm, hs⟩
  · cases e1
  · simp only [Value.slice.injEq, Option.some.injEq, Addr.mk.injEq, true_and, and_true] at e1
    obtain ⟨rfl, rfl⟩ := e1
    refine .inr ⟨g, cap, cs.drop (k * sz) ++ sp, rfl, hb, ?_, ?_, by omega, hm, fun _ _ => trivial⟩
    · rw [← List.append_assoc, List.take_append_drop]; exact hh
    · rw [List.length_append, List.length_drop, h1]; omega
theorem OwnC.form {e : TypeId} {sz : Nat} {okc : Value → Prop} {w : World} {base : Nat} {v : Value} {n : Nat} {cs : List Value} (h : OwnC e sz okc w base v n cs) (h0 : 0 < n) : ∃ g cap, v = .slice (some ⟨g, 0, none⟩) n cap ∧ base ≤ g ∧ g < w.heap.size ∧ n ≤ cap := by
  rcases h.2.2 with ⟨_, e2⟩ | ⟨g, cap, sp, rfl, hb, hh, hc, hn, hm, hs⟩
  · omega
  · exact ⟨g, cap, rfl, hb, heap_lt hh, hn⟩
/-- A literal's block, read. -/
theorem rdc_box {w : World} {e : TypeId} (cs : List Value) (n sz : Nat) (hl : cs.length = n * sz) (ho : ∀ u ∈ cs, u.oneCell' = true) (hn : n ≤ 9223372036854775807) : RdC sz (w.alloc (.cells cs.toArray e)) (some ⟨w.heap.size, 0, none⟩) n n cs := by
  refine ⟨hl, Nat.le_refl _, hn, (fun hh => by cases hh), ho, fun ad ha j u hj => ?_⟩
  cases ha
  rw [plain_add, Nat.zero_add]
  exact cell_of_heap (heap_alloc_new w _) j u hj
end Go.Proofs.Ytklgndmndnmdpaa

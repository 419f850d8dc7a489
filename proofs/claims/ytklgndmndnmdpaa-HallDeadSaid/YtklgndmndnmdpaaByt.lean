import Derived.Test.YtklgndmndnmdpaaStr
set_option linter.unusedVariables false
set_option linter.unusedSimpArgs false
namespace Go.Proofs.Ytklgndmndnmdpaa
open Go.RowKit

/-- A cell that holds a byte. -/
def isU8 (u : Value) : Prop := ∃ b : UInt8, u = u8 b
/-- A slice value reads as bytes. -/
def Rd (w : World) (A : Option Addr) (c : Nat) (l : List UInt8) : Prop := RdC 1 w A l.length c (u8s l)
/-- A slice of bytes of the call's own; behind its length stand bytes. -/
def OwnB (w : World) (base : Nat) (v : Value) (l : List UInt8) : Prop := OwnC 5 1 isU8 w base v l.length (u8s l)

theorem Rd.len {w : World} {A : Option Addr} {c : Nat} {l : List UInt8} (h : Rd w A c l) : l.length ≤ c ∧ c ≤ 9223372036854775807 := ⟨h.2.1, h.2.2.1⟩
theorem Rd.nil_ {w : World} {A : Option Addr} {c : Nat} {l : List UInt8} (h : Rd w A c l) (hA : A = none) : l = [] ∧ c = 0 := ⟨List.eq_nil_of_length_eq_zero (h.2.2.2.1 hA).1, (h.2.2.2.1 hA).2⟩
theorem Rd.at_ {w : World} {A : Option Addr} {c : Nat} {l : List UInt8} (h : Rd w A c l) (j : Nat) (hj : j < l.length) : ∃ ad, A = some ad ∧ w.cell? (ad.add j) = some (.int .u8 ((l[j]).toNat : Int)) :=
  RdC.cell h j _ (by simp [u8s, u8, hj])
theorem Rd.below {w w' : World} {A : Option Addr} {c : Nat} {l : List UInt8} (h : Rd w A c l) (hb : Below w.heap.size w w') : Rd w' A c l := RdC.below h hb
theorem Rd.drewN {w : World} {A : Option Addr} {c : Nat} {l : List UInt8} (m : Nat) (h : Rd w A c l) : Rd (w.drewN m) A c l := RdC.drewN m h
theorem Rd.grown {w w' : World} {A : Option Addr} {c : Nat} {l : List UInt8} {row : Option Nat} (h : Rd w A c l) (hg : w.grownBy w' row) (hne : ∀ ad, A = some ad → some ad.block ≠ row) : Rd w' A c l := RdC.grown h hg hne
theorem Rd.zero {w : World} {A : Option Addr} {c : Nat} (hc : c ≤ 9223372036854775807) (h : A = none → c = 0) : Rd w A c [] :=
  ⟨rfl, Nat.zero_le _, hc, fun hA => ⟨rfl, h hA⟩, by simp [u8s], fun _ _ j u hj => by simp [u8s] at hj⟩
theorem OwnB.rd {w : World} {base : Nat} {v : Value} {l : List UInt8} (h : OwnB w base v l) : ∃ A c, v = .slice A l.length c ∧ Rd w A c l := OwnC.rd h
theorem OwnB.below {w w' : World} {base : Nat} {v : Value} {l : List UInt8} (h : OwnB w base v l) (hb : Below w.heap.size w w') : OwnB w' base v l := OwnC.below h hb
theorem OwnB.grown {w w' : World} {base : Nat} {v : Value} {l : List UInt8} {row : Option Nat} (h : OwnB w base v l) (hg : w.grownBy w' row) (hne : ∀ k, v.ownBlock = some k → some k ≠ row) : OwnB w' base v l := OwnC.grown h hg hne
theorem OwnB.drewN {w : World} {base : Nat} {v : Value} {l : List UInt8} (m : Nat) (h : OwnB w base v l) : OwnB (w.drewN m) base v l := OwnC.drewN m h
theorem OwnB.alloc {w : World} {base : Nat} {v : Value} {l : List UInt8} (h : OwnB w base v l) (o : Obj) : OwnB (w.alloc o) base v l := OwnC.alloc h o
theorem OwnB.lt {w : World} {base : Nat} {v : Value} {l : List UInt8} (h : OwnB w base v l) (k : Nat) (hk : v.ownBlock = some k) : base ≤ k ∧ k < w.heap.size := OwnC.lt h k hk
theorem OwnB.base {w : World} {base base' : Nat} {v : Value} {l : List UInt8} (h : OwnB w base v l) (hb : base' ≤ base) : OwnB w base' v l := OwnC.base h hb
theorem OwnB.nil_ {w : World} {base : Nat} : OwnB w base (.slice none 0 0) [] := OwnC.nil_
/-- A block of nothing but its spare. -/
theorem OwnB.made {w : World} {base g cap : Nat} {l sp : List UInt8} (hb : base ≤ g) (hh : w.heap[g]? = some (.cells (u8s (l ++ sp)).toArray 5 (0, 0))) (hc : l.length + sp.length = cap) (hm : cap ≤ 9223372036854775807) : OwnB w base (.slice (some ⟨g, 0, none⟩) l.length cap) l :=
  ⟨by simp [u8s], u8s_one l, .inr ⟨g, cap, u8s sp, rfl, hb, by rw [← u8s_append]; exact hh, by simp [u8s]; omega, by omega, hm, fun u hu => by
    simp only [u8s, List.mem_map] at hu
    obtain ⟨b, _, rfl⟩ := hu
    exact ⟨b, rfl⟩⟩⟩
theorem isU8_list : ∀ (sp : List Value), (∀ u ∈ sp, isU8 u) → ∃ s, sp = u8s s
  | [], _ => ⟨[], rfl⟩
  | u :: sp, h => by
    obtain ⟨b, rfl⟩ := h u List.mem_cons_self
    obtain ⟨s, rfl⟩ := isU8_list sp fun u hu => h u (List.mem_cons_of_mem _ hu)
    exact ⟨b :: s, rfl⟩
/-- The block of a slice of one's own. -/
theorem OwnB.open_ {w : World} {base : Nat} {v : Value} {l : List UInt8} (h : OwnB w base v l) : (v = .slice none 0 0 ∧ l = []) ∨ ∃ g cap sp, v = .slice (some ⟨g, 0, none⟩) l.length cap ∧ base ≤ g ∧ w.heap[g]? = some (.cells (u8s (l ++ sp)).toArray 5 (0, 0)) ∧ l.length + sp.length = cap ∧ cap ≤ 9223372036854775807 := by
  obtain ⟨h1, h2, h3 | ⟨g, cap, sp, h3, h4, h5, h6, h7, h8, h9⟩⟩ := h
  · exact .inl ⟨h3.1, List.eq_nil_of_length_eq_zero h3.2⟩
  · obtain ⟨s, rfl⟩ := isU8_list sp h9
    exact .inr ⟨g, cap, s, h3, h4, by rw [u8s_append]; exact h5, by simp only [u8s_length, Nat.mul_one] at h6; exact h6, h8⟩

theorem OwnB.form {w : World} {base : Nat} {v : Value} {l : List UInt8} (h : OwnB w base v l) (h0 : 0 < l.length) : ∃ g cap, v = .slice (some ⟨g, 0, none⟩) l.length cap ∧ base ≤ g ∧ l.length ≤ cap ∧ cap ≤ 9223372036854775807 := by
  rcases h.open_ with ⟨_, rfl⟩ | ⟨g, cap, sp, h1, h2, _, h3, h4⟩
  · simp at h0
  · exact ⟨g, cap, h1, h2, by omega, h4⟩
theorem rd_of_heap {w : World} {g cap : Nat} {l sp : List UInt8} {fr : Nat × Nat} (hh : w.heap[g]? = some (.cells (u8s (l ++ sp)).toArray 5 fr)) (hc : l.length ≤ cap) (hm : cap ≤ 9223372036854775807) : Rd w (some ⟨g, 0, none⟩) cap l := by
  refine ⟨by simp [u8s], hc, hm, (fun hh => by cases hh), u8s_one l, fun ad ha j u hj => ?_⟩
  cases ha
  rw [plain_add, Nat.zero_add]
  exact cell_of_heap hh j u (by rw [u8s_append, List.getElem?_append_left (List.getElem?_eq_some_iff.1 hj).1]; exact hj)
/-- A row of bytes that an operation has just laid. -/
theorem rd_lit {w : World} {cs : Array Value} (l : List UInt8) (h : cs = (u8s l).toArray) (hm : l.length ≤ 9223372036854775807) : Rd (w.alloc (.cells cs 5)) (some ⟨w.heap.size, 0, none⟩) l.length l := by
  subst h
  exact rd_of_heap (sp := []) (by rw [List.append_nil]; exact heap_alloc_new w _) (Nat.le_refl _) hm

theorem Try.info_u8 : (Try.prog.info? 5).map (fun i => (i.zero, i.size, i.bytes)) = some (some (.int .u8 0), 1, 1) := by kernel_rfl
theorem wp_appB (w : World) {o : Oper} {a : Act} {K : Act → World → Prop} {Q : Exit → Act → World → Prop} (s x : Operand)
    (ho : o.op = .call { callee := .builtin .append, args := #[s, x], argTypes := #[39, 39] })
    (base : Nat) (v : Value) (l : List UInt8) (hs : a.eval s = v) (hown : OwnB w base v l) (A : Option Addr) (n c : Nat) (m : List UInt8) (hx : a.eval x = .slice A n c) (hn : n = m.length) (hr : Rd w A c m)
    (hb : l.length + m.length ≤ 140737488355328) (hbase : base ≤ w.heap.size)
    (h : ∀ v' w', OwnB w' base v' (l ++ m) → w.grownBy w' v.ownBlock → (v' = .slice none 0 0 ↔ v = .slice none 0 0 ∧ m = []) → (v'.ownBlock = v.ownBlock ∨ v'.ownBlock = some w.heap.size) → K (a.put o.dst v') w') : o.wp Try.prog a w K Q := by
  obtain ⟨i, hi, hz, hz1, hz2⟩ := info_parts Try.info_u8
  subst hn
  refine wp_appC w s x 39 ho base i (.int .u8 0) 1 Try.underlying39 hi hz hz1 hz2 rfl (by decide) (fun u hu => ⟨0, by simpa [Value.cells, u8] using hu⟩) v l.length (u8s l) hs hown A m.length c (u8s m) hx hr (by omega) (by omega) hbase ?_
  intro v' w' h1 h2 h3 h4
  refine h v' w' ?_ h2 (by rw [h3]; simp) h4
  unfold OwnB
  rw [List.length_append, u8s_append]
  exact h1

theorem wpList_appB (w : World) {ops : Array Oper} {rest : List Oper} {o : Oper} {a : Act} {Q : Exit → Act → World → Prop} (hgd : o.guard = none) (s x : Operand)
    (ho : o.op = .call { callee := .builtin .append, args := #[s, x], argTypes := #[39, 39] })
    (base : Nat) (v : Value) (l : List UInt8) (hs : a.eval s = v) (hown : OwnB w base v l) (A : Option Addr) (n c : Nat) (m : List UInt8) (hx : a.eval x = .slice A n c) (hn : n = m.length) (hr : Rd w A c m)
    (hb : l.length + m.length ≤ 140737488355328) (hbase : base ≤ w.heap.size)
    (h : ∀ v' w', OwnB w' base v' (l ++ m) → w.grownBy w' v.ownBlock → (v' = .slice none 0 0 ↔ v = .slice none 0 0 ∧ m = []) → (v'.ownBlock = v.ownBlock ∨ v'.ownBlock = some w.heap.size) → wpList Try.prog ops Q rest (a.put o.dst v') w') : wpList Try.prog ops Q (o :: rest) a w := by
  exact wpList_plain hgd fun _ hK => wp_appB w s x ho base v l hs hown A n c m hx hn hr hb hbase fun v' w' h2 h3 h4 h5 => hK _ _ (h v' w' h2 h3 h4 h5)

theorem step_appB (w : World) {ops : Array Oper} {o : Oper} {a : Act} {K : Act → World → Prop} {Q : Exit → Act → World → Prop} {E : Prop} (hgd : o.guard = none) (s x : Operand)
    (ho : o.op = .call { callee := .builtin .append, args := #[s, x], argTypes := #[39, 39] })
    (base : Nat) (v : Value) (l : List UInt8) (hs : a.eval s = v) (hown : OwnB w base v l) (A : Option Addr) (n c : Nat) (m : List UInt8) (hx : a.eval x = .slice A n c) (hn : n = m.length) (hr : Rd w A c m)
    (hb : l.length + m.length ≤ 140737488355328) (hbase : base ≤ w.heap.size)
    (h : ∀ v' w', OwnB w' base v' (l ++ m) → w.grownBy w' v.ownBlock → (v' = .slice none 0 0 ↔ v = .slice none 0 0 ∧ m = []) → (v'.ownBlock = v.ownBlock ∨ v'.ownBlock = some w.heap.size) → K (a.put o.dst v') w') : if Region.wanted o (yielded ops a.tmps) = true then Oper.wp Try.prog o a w K Q else E := by
  have hw : Region.wanted o (yielded ops a.tmps) = true := by simp [Region.wanted, hgd]
  rw [if_pos hw]
  exact wp_appB w s x ho base v l hs hown A n c m hx hn hr hb hbase h


/-! ### Stores -/
theorem heap_setCell_same {w : World} {g : Nat} {l : List Value} {e : TypeId} {fr : Nat × Nat} (h : w.heap[g]? = some (.cells l.toArray e fr)) (j : Nat) (u : Value) : (w.setCell ⟨g, j, none⟩ u).heap[g]? = some (.cells (l.set j u).toArray e fr) := by
  simp only [World.setCell]
  rw [Array.getElem?_modify, if_pos rfl, h]
  simp
theorem OwnB.cell_at {w : World} {base g n cap : Nat} {l : List UInt8} (h : OwnB w base (.slice (some ⟨g, 0, none⟩) n cap) l) (j : Nat) (hj : j < l.length) : w.cell? ⟨g, j, none⟩ = some (.int .u8 ((l[j]).toNat : Int)) ∧ w.frozen? ⟨g, j, none⟩ = false := by
  rcases h.open_ with ⟨h, _⟩ | ⟨g', cap', sp, h, hb, hh, hc, hm⟩
  · cases h
  · cases h
    exact ⟨cell_of_heap hh j _ (by simp [u8s, List.getElem?_append_left, hj, u8]), froz_of_heap hh j⟩
theorem OwnB.set {w : World} {base g n cap : Nat} {l : List UInt8} (h : OwnB w base (.slice (some ⟨g, 0, none⟩) n cap) l) (j : Nat) (hj : j < l.length) (b : UInt8) (z : Int) (hz : z = (b.toNat : Int)) : OwnB (w.setCell ⟨g, j, none⟩ (.int .u8 z)) base (.slice (some ⟨g, 0, none⟩) n cap) (l.set j b) := by
  subst hz
  rcases h.open_ with ⟨h, _⟩ | ⟨g', cap', sp, h, hb, hh, hc, hm⟩
  · cases h
  · simp only [Value.slice.injEq, Option.some.injEq, Addr.mk.injEq, and_true] at h
    obtain ⟨rfl, rfl, rfl⟩ := h
    have e := OwnB.made (w := w.setCell ⟨g, j, none⟩ (u8 b)) (l := l.set j b) (sp := sp) (cap := cap) hb (by
      rw [heap_setCell_same hh, u8s_append, u8s_append, List.set_append_left _ _ (by simpa [u8s] using hj)]
      simp [u8s, List.map_set]) (by simpa using hc) hm
    rw [List.length_set] at e
    exact e
theorem OwnB.set_other {w : World} {base : Nat} {v : Value} {l : List UInt8} (h : OwnB w base v l) {g j : Nat} (hne : ∀ k, v.ownBlock = some k → k ≠ g) (u : Value) : OwnB (w.setCell ⟨g, j, none⟩ u) base v l :=
  OwnC.keep h fun k hk => Below.heap_setCell w _ u k (hne k hk)

/-! ### Cuts and strings -/
/-- The address of what is cut off in front. -/
def cutA (A : Option Addr) (c lo sz : Nat) : Option Addr := if c = lo then A else A.map (·.add (lo * sz))
theorem add_add (a : Addr) (i j : Nat) : (a.add i).add j = a.add (i + j) := by
  unfold Addr.add
  split <;> split <;> simp_all <;> omega
theorem RdC.cut {sz : Nat} {w : World} {A : Option Addr} {n c : Nat} {cs : List Value} (h : RdC sz w A n c cs) (lo hi : Nat) (h1 : lo ≤ hi) (h2 : hi ≤ n) : RdC sz w (cutA A c lo sz) (hi - lo) (c - lo) ((cs.take (hi * sz)).drop (lo * sz)) := by
  obtain ⟨r1, r2, r3, r4, r5, r6⟩ := h
  have hle : hi * sz ≤ n * sz := Nat.mul_le_mul_right _ h2
  refine ⟨?_, by omega, by omega, ?_, ?_, ?_⟩
  · rw [List.length_drop, List.length_take, r1, Nat.min_eq_left hle, Nat.sub_mul]
  · intro hA
    unfold cutA at hA
    split at hA
    · have := r4 hA; omega
    · have := r4 (Option.map_eq_none_iff.1 hA); omega
  · exact fun u hu => r5 u (List.mem_of_mem_take (List.mem_of_mem_drop hu))
  · intro ad hA j u hj
    rw [List.getElem?_drop] at hj
    have hlt := (List.getElem?_eq_some_iff.1 hj).1
    rw [List.getElem?_take_of_lt (by simp at hlt; omega)] at hj
    unfold cutA at hA
    split at hA
    · rename_i hc
      have : hi = lo := by omega
      subst this
      simp at hlt
      omega
    · obtain ⟨a0, ha0, rfl⟩ := Option.map_eq_some_iff.1 hA
      rw [add_add]
      exact r6 a0 ha0 _ u hj
theorem Rd.cut {w : World} {A : Option Addr} {c : Nat} {l : List UInt8} (h : Rd w A c l) (lo hi : Nat) (h1 : lo ≤ hi) (h2 : hi ≤ l.length) : Rd w (cutA A c lo 1) (c - lo) ((l.take hi).drop lo) := by
  have hh := RdC.cut h lo hi h1 h2
  unfold Rd
  have e1 : ((l.take hi).drop lo).length = hi - lo := by simp; omega
  have e2 : u8s ((l.take hi).drop lo) = ((u8s l).take (hi * 1)).drop (lo * 1) := by simp [u8s, List.map_drop, List.map_take]
  rw [e1, e2]
  exact hh
theorem Rd.take0 {w : World} {A : Option Addr} {c : Nat} {l : List UInt8} {k : Nat} (h : Rd w A c l) (hk : k ≤ l.length) : Rd w A c (l.take k) := by
  have hh := h.cut 0 k (Nat.zero_le _) hk
  simp only [List.drop_zero, Nat.sub_zero] at hh
  have e : cutA A c 0 1 = A := by unfold cutA; split; rfl; cases A <;> rfl
  rw [e] at hh
  exact hh
theorem Rd.spot {w : World} {ad : Addr} {c : Nat} {l : List UInt8} (h : Rd w (some ad) c l) (h0 : 0 < l.length) : ad.spot = none := by
  obtain ⟨ad', e, hc⟩ := h.at_ 0 h0
  cases e
  rw [show ad.add 0 = ad from rfl] at hc
  cases hs : ad.spot with
  | none => rfl
  | some s =>
    exfalso
    unfold World.cell? at hc
    simp only [hs] at hc
    split at hc <;> simp at hc
theorem size_u8 (W : World) : (sizeOf (Try.prog.elem 39)).run Try.prog W = .ok 1 W := by kernel_rfl
set_option maxRecDepth 100000 in
theorem slice_from (A : Option Addr) (n c lo : Nat) (k : IntKind) (h : lo ≤ n) (W : World) : (Instr.slice 39 (.slice A n c) (some (.int k lo)) none none).run Try.prog W = .ok (.slice (cutA A c lo 1) (n - lo) (c - lo)) W := by
  rw [run_slice_l W 39 A n c Try.underlying39 k lo (by omega) (by omega), size_u8]
  simp [Result.andThen, sliced, cutA]
set_option maxRecDepth 100000 in
theorem slice_both (A : Option Addr) (n c lo hi : Nat) (k k' : IntKind) (h : lo ≤ hi) (h2 : hi ≤ c) (W : World) : (Instr.slice 39 (.slice A n c) (some (.int k lo)) (some (.int k' hi)) none).run Try.prog W = .ok (.slice (cutA A c lo 1) (hi - lo) (c - lo)) W := by
  rw [run_slice_lh W 39 A n c Try.underlying39 k k' lo hi (by omega) (by omega) (by omega), size_u8]
  simp [Result.andThen, sliced, cutA]
theorem slice_from' (A : Option Addr) (n c lo : Nat) (k : IntKind) (z : Int) (hz : z = lo) (h : lo ≤ n) (W : World) : (Instr.slice 39 (.slice A n c) (some (.int k z)) none none).run Try.prog W = .ok (.slice (cutA A c lo 1) (n - lo) (c - lo)) W := by
  subst hz; exact slice_from A n c lo k h W
theorem slice_both' (A : Option Addr) (n c lo hi : Nat) (k k' : IntKind) (z z' : Int) (hz : z = lo) (hz' : z' = hi) (h : lo ≤ hi) (h2 : hi ≤ c) (W : World) : (Instr.slice 39 (.slice A n c) (some (.int k z)) (some (.int k' z')) none).run Try.prog W = .ok (.slice (cutA A c lo 1) (hi - lo) (c - lo)) W := by
  subst hz hz'; exact slice_both A n c lo hi k k' h h2 W
theorem OwnB.empty_at {w : World} {base g : Nat} (hh : w.heap[g]? = some (.cells #[] 5 (0, 0))) (hb : base ≤ g) : OwnB w base (.slice (some ⟨g, 0, none⟩) 0 0) [] :=
  OwnB.made (l := []) (sp := []) hb hh rfl (by omega)
theorem Rd.plain {w : World} {A : Option Addr} {c : Nat} {l : List UInt8} (h : Rd w A c l) (h0 : 0 < l.length) : ∃ b o, A = some ⟨b, o, none⟩ ∧ ∀ j (hj : j < l.length), w.cell? ⟨b, o + j, none⟩ = some (.int .u8 ((l[j]).toNat : Int)) := by
  obtain ⟨ad, rfl, _⟩ := h.at_ 0 h0
  have hs := h.spot h0
  obtain ⟨b, o, sp⟩ := ad
  cases hs
  refine ⟨b, o, rfl, fun j hj => ?_⟩
  obtain ⟨ad, e, hc⟩ := h.at_ j hj
  cases e
  rwa [plain_add] at hc
theorem conv_bytes {w : World} {A : Option Addr} {c : Nat} {l : List UInt8} (h : Rd w A c l) : (convert 39 9 (.slice A l.length c)).run Try.prog w = .ok (str l) w := by
  have hs : strOfNums (l.map fun b => (b.toNat : Int)) = ⟨l.toArray⟩ := by
    unfold strOfNums
    congr 1
    rw [List.map_map]
    congr 1
    conv => rhs; rw [← List.map_id l]
    apply List.map_congr_left
    intro b _
    simp
  cases A with
  | none =>
    obtain ⟨rfl, rfl⟩ := h.nil_ rfl
    exact run_convert_bytes_nil w _ _ Try.underlying39 Try.underlying5 _ _ _ Try.underlying9
  | some ad =>
    by_cases h0 : 0 < l.length
    · have hsp := h.spot h0
      obtain ⟨b, o, sp⟩ := ad
      cases hsp
      have := run_convert_bytes_arg (P := Try.prog) w _ _ Try.underlying39 Try.underlying5 b o l.length c (l.map fun b => (b.toNat : Int)) (by simp) (fun i hi => by
        obtain ⟨ad', e, hc⟩ := h.at_ i hi
        cases e
        rw [plain_add] at hc
        rw [hc]
        simp [List.getD, hi]) _ Try.underlying9
      rw [this, hs]
      rfl
    · obtain rfl : l = [] := List.eq_nil_of_length_eq_zero (by omega)
      rw [run_convert_bytes_string w _ _ _ _ _ _ Try.underlying39 Try.underlying5 Try.underlying9]
      have := run_bytesToString (P := Try.prog) w ad 0 c [] (by simpa using run_loadCells_list (P := Try.prog) w ad [] (by simp))
      exact this

end Go.Proofs.Ytklgndmndnmdpaa

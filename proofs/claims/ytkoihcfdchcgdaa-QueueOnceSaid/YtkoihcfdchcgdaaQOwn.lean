import Derived.Test.YtkoihcfdchcgdaaQSet
set_option linter.unusedVariables false
set_option linter.unusedSimpArgs false
namespace Go.Proofs.Ytkoihcfdchcgdaa
open Go.RowKit Go.Shelf

/-- What stays: the blocks of Z, and the old ones. -/
structure Kz (Z : List Nat) (w0 w w' : World) : Prop where
  size : w.heap.size ≤ w'.heap.size
  block : ∀ k, (k ∈ Z ∨ k < w0.heap.size) → w'.heap[k]? = w.heap[k]?
theorem Kz.trans {Z : List Nat} {w0 w w1 w2 : World} (h : Kz Z w0 w w1) (k : Kz Z w0 w1 w2) : Kz Z w0 w w2 := ⟨Nat.le_trans h.size k.size, fun j hj => (k.block j hj).trans (h.block j hj)⟩
theorem Kz.refl (Z : List Nat) (w0 w : World) : Kz Z w0 w w := ⟨Nat.le_refl _, fun _ _ => rfl⟩
theorem Kz.mono {Z Z' : List Nat} {w0 w w' : World} (h : Kz Z w0 w w') (hs : ∀ k ∈ Z', k ∈ Z) : Kz Z' w0 w w' := ⟨h.size, fun k hk => h.block k (hk.imp (hs k) id)⟩
theorem Kz.bx {Z : List Nat} {w0 w w' : World} (h : Kz Z w0 w w') {b : Nat} {t : TypeId} {cs : List Value} (hb : Bx w b t cs) (hz : b ∈ Z ∨ b < w0.heap.size) : Bx w' b t cs := hb.keep (h.block b hz)
theorem Kz.ownC {Z : List Nat} {w0 w w' : World} {e : TypeId} {sz : Nat} {okc : Value → Prop} {base : Nat} {v : Value} {n : Nat} {cs : List Value} (h : Kz Z w0 w w') (hm : OwnC e sz okc w base v n cs) (hv : ∀ g, v.ownBlock = some g → g ∈ Z) : OwnC e sz okc w' base v n cs := hm.keep fun k hk => h.block k (.inl (hv k hk))
/-- Where a body lies. -/
def bblk (v : Value) (l : List UInt8) : Option Nat := if l = [] then none else match v with | .slice (some ad) _ _ => some ad.block | _ => none
theorem bblk_own {W : World} {B : Nat} {v : Value} {l : List UInt8} (h : OwnB W B v l) {k : Nat} (hk : bblk v l = some k) : v.ownBlock = some k := by
  unfold bblk at hk
  split at hk
  · cases hk
  · rcases h.2.2 with ⟨rfl, _⟩ | ⟨g, cap, sp, rfl, _, hh, _⟩
    · simp at hk
    · simpa [Value.ownBlock] using hk
theorem Bdv.bl {W : World} {v : Value} {l : List UInt8} (h : Bdv W v l) {k : Nat} (hk : bblk v l = some k) : k < W.heap.size := by
  obtain ⟨A, c, rfl, _, hb⟩ := h
  unfold bblk at hk
  split at hk
  · cases hk
  · rename_i hl
    cases A with
    | none => simp at hk
    | some ad =>
      obtain ⟨cs, fr, hh⟩ := hb ad rfl hl
      have : ad.block = k := by simpa using hk
      rw [← this]
      exact heap_lt hh
theorem Bdv.keepK {W W' : World} {v : Value} {l : List UInt8} (h : Bdv W v l) (hk : ∀ k, bblk v l = some k → W'.heap[k]? = W.heap[k]?) : Bdv W' v l := by
  obtain ⟨A, c, rfl, hr, hb⟩ := h
  by_cases hl : l = []
  · subst hl
    obtain ⟨h1, h2, h3, h4, h5, h6⟩ := hr
    exact ⟨A, c, rfl, ⟨h1, h2, h3, h4, h5, fun ad ha j u hj => by simp [u8s] at hj⟩, fun _ _ h => absurd rfl h⟩
  · have hbl : ∀ ad, A = some ad → W'.heap[ad.block]? = W.heap[ad.block]? := fun ad ha => hk _ (by unfold bblk; rw [if_neg hl, ha])
    obtain ⟨h1, h2, h3, h4, h5, h6⟩ := hr
    refine ⟨A, c, rfl, ⟨h1, h2, h3, h4, h5, fun ad ha j u hj => ?_⟩, fun ad ha _ => ?_⟩
    · have hc := h6 ad ha j u hj
      rw [← hc]
      unfold World.cell?
      rw [show (ad.add j).block = ad.block from by unfold Addr.add; split <;> rfl, hbl ad ha]
    · obtain ⟨cs, fr, hh⟩ := hb ad ha hl
      exact ⟨cs, fr, (hbl ad ha).trans hh⟩
/-- A queue of one's own, made since w0, beside the guests Z. -/
structure QF (w0 w : World) (Z : List Nat) (q room limit last : Nat) (L : List En) : Prop where
  ex : ∃ F bk bv rv, Qq w w0.heap.size F q room limit last L bk bv rv ∧ ∀ k ∈ Z, k ∉ F ∧ ∀ e ∈ L, bblk (bv e.id) e.m.body ≠ some k
  old : Below w0.heap.size w0 w
  zs : ∀ k ∈ Z, w0.heap.size ≤ k ∧ k < w.heap.size
section
variable {w0 w w' : World} {Z : List Nat} {q room limit last : Nat} {L : List En}
theorem QF.wf (h : QF w0 w Z q room limit last L) : WfQ room limit last L := by obtain ⟨⟨F, bk, bv, rv, h1, _⟩, _, _⟩ := h; exact h1.wf
theorem QF.kz_of (h : QF w0 w Z q room limit last L) (hb : Below w.heap.size w w') : Kz Z w0 w w' := ⟨hb.size, fun k hk => hb.block k (by
  rcases hk with hk | hk
  · exact (h.zs k hk).2
  · exact Nat.lt_of_lt_of_le hk h.old.size)⟩
theorem QF.guest {N : List Nat} (h : QF w0 w Z q room limit last L) (hb : Below w.heap.size w w') (hN : ∀ k ∈ N, w.heap.size ≤ k ∧ k < w'.heap.size) : QF w0 w' (N ++ Z) q room limit last L := by
  obtain ⟨⟨F, bk, bv, rv, h1, h2⟩, h3, h4⟩ := h
  refine ⟨⟨F, bk, bv, rv, h1.below hb, fun k hk => ?_⟩, below_then h3 h3.size hb, fun k hk => ?_⟩
  · rcases List.mem_append.1 hk with e | e
    · exact ⟨fun hm => by have := (hN k e).1; have := h1.lt k hm; omega, fun x hx hh => by have := (hN k e).1; have := (h1.bod x hx).bl hh; omega⟩
    · exact h2 k e
  · rcases List.mem_append.1 hk with e | e
    · exact ⟨Nat.le_trans h3.size (hN k e).1, (hN k e).2⟩
    · exact ⟨(h4 k e).1, Nat.lt_of_lt_of_le (h4 k e).2 hb.size⟩
theorem QF.below (h : QF w0 w Z q room limit last L) (hb : Below w.heap.size w w') : QF w0 w' Z q room limit last L := h.guest (N := []) hb (by simp)
theorem QF.alloc (h : QF w0 w Z q room limit last L) (o : Obj) : QF w0 (w.alloc o) (w.heap.size :: Z) q room limit last L := h.guest (N := [w.heap.size]) (below_alloc w o) (fun k hk => by simp at hk; simp; omega)
theorem QF.less {Z' : List Nat} (h : QF w0 w Z q room limit last L) (hs : ∀ k ∈ Z', k ∈ Z) : QF w0 w Z' q room limit last L := by
  obtain ⟨⟨F, bk, bv, rv, h1, h2⟩, h3, h4⟩ := h
  exact ⟨⟨F, bk, bv, rv, h1, fun k hk => h2 k (hs k hk)⟩, h3, fun k hk => h4 k (hs k hk)⟩
theorem QF.zset (h : QF w0 w Z q room limit last L) (t : Tch Z w w') : QF w0 w' Z q room limit last L := by
  obtain ⟨⟨F, bk, bv, rv, h1, h2⟩, h3, h4⟩ := h
  refine ⟨⟨F, bk, bv, rv, ?_, h2⟩, h3.trans (t.below h3.size fun k hk => (h4 k hk).1), fun k hk => ⟨(h4 k hk).1, Nat.lt_of_lt_of_le (h4 k hk).2 t.size⟩⟩
  have hF : ∀ k ∈ F, w'.heap[k]? = w.heap[k]? := fun k hk => t.block k (h1.lt k hk) fun hm => (h2 k hm).1 hk
  exact ⟨(hF _ h1.fq).trans h1.hd, fun p hp => (h1.rows p hp).keep fun k hk => hF k (h1.fr p hp k hk), fun e he => (hF _ (h1.fe e he)).trans (h1.ent e he), fun e he => (h1.bod e he).keepK fun k hk => t.block k ((h1.bod e he).bl hk) fun hm => (h2 k hm).2 e he hk, h1.wf, h1.inj, h1.rdis, h1.fq, h1.fr, h1.fe, h1.fB,
    fun k hm => by obtain ⟨cs, t, h1', h2'⟩ := h1.ft k hm; exact ⟨cs, t, (hF k hm).trans h1', h2'⟩⟩
theorem kz_tch {F : List Nat} (t : Tch F w w') (hF : ∀ k ∈ F, k ∉ Z ∧ w0.heap.size ≤ k) (hZ : ∀ k ∈ Z, k < w.heap.size) (h0 : w0.heap.size ≤ w.heap.size) : Kz Z w0 w w' :=
  ⟨t.size, fun k hk => t.block k (by rcases hk with h | h; exact hZ k h; omega) fun hm => by
    rcases hk with h | h
    · exact (hF k hm).1 h
    · have := (hF k hm).2; omega⟩
theorem qf_len (h : QF w0 w Z q room limit last L) :
    Calls Try.prog 14 #[.pointer (some ⟨q, 0, none⟩)] w fun e w' => e = .returned (.tuple #[.int .i64 (ordQ false L).length, .int .i64 (ordQ true L).length]) ∧ Below w.heap.size w w' := by
  obtain ⟨⟨F, bk, bv, rv, h1, _⟩, _, _⟩ := h
  exact qlen_q h1
theorem qf_list (h : QF w0 w Z q room limit last L) :
    Calls Try.prog 20 #[.pointer (some ⟨q, 0, none⟩)] w fun e w' => ∃ (v : Value) (its : List (En × Value)), e = .returned v ∧ its.map (·.1) = ordQ false L ∧ OwnC 34 6 (fun _ => True) w' w.heap.size v its.length (its.flatMap itc) ∧ (∀ x ∈ its, OwnB w' w.heap.size x.2 x.1.m.body) ∧ Below w.heap.size w w' := by
  obtain ⟨⟨F, bk, bv, rv, h1, _⟩, _, _⟩ := h
  exact qlist_q h1
theorem qf_acq (h : QF w0 w Z q room limit last L) (now : Int) :
    Calls Try.prog 12 #[.pointer (some ⟨q, 0, none⟩), .int .i64 now] w fun r w' =>
      (acqQ L now = none ∧ r = .returned (.tuple #[.agg zItem.toArray, .bool false]) ∧ QF w0 w' Z q room limit last L ∧ Below w.heap.size w w') ∨
      ∃ e v, acqQ L now = some e ∧ r = .returned (.tuple #[.agg (itc (e, v)).toArray, .bool true]) ∧ OwnB w' w.heap.size v e.m.body ∧ QF w0 w' (v.ownBlock.toList ++ Z) q room limit last (modL (holdE e) L) ∧ Kz Z w0 w w' := by
  have hh := h
  obtain ⟨⟨F, bk, bv, rv, h1, h2⟩, h3, h4⟩ := h
  refine (qacq_q h1 now).mono ?_
  rintro r w' (⟨r1, r2, r3, r4⟩ | ⟨e, v, r1, r2, r3, r4, r5⟩)
  · exact .inl ⟨r1, r2, hh.below r4, r4⟩
  · refine .inr ⟨e, v, r1, r2, r3, ⟨⟨F, bk, bv, rv, r4, fun k hk => ?_⟩, h3.trans (r5.below h3.size fun k hk => h1.fB k hk), fun k hk => ?_⟩, kz_tch r5 (fun k hk => ⟨fun hm => (h2 k hm).1 hk, h1.fB k hk⟩) (fun k hk => (h4 k hk).2) h3.size⟩
    · have hb : ∀ x ∈ modL (holdE e) L, ∃ y ∈ L, y.id = x.id ∧ y.m = x.m := fun x hx => by
        rcases mem_modL hx with rfl | ⟨hx, _⟩
        · exact ⟨e, (acq_mem r1).1, rfl, rfl⟩
        · exact ⟨x, hx, rfl, rfl⟩
      rcases List.mem_append.1 hk with hk | hk
      · have hl := r3.lt k (by simpa using hk)
        refine ⟨fun hm => by have := h1.lt k hm; omega, fun x hx hbb => ?_⟩
        obtain ⟨y, hy, h5, h6⟩ := hb x hx
        rw [← h5, ← h6] at hbb
        have := (h1.bod y hy).bl hbb
        omega
      · refine ⟨(h2 k hk).1, fun x hx hbb => ?_⟩
        obtain ⟨y, hy, h5, h6⟩ := hb x hx
        rw [← h5, ← h6] at hbb
        exact (h2 k hk).2 y hy hbb
    · rcases List.mem_append.1 hk with hk | hk
      · have hl := r3.lt k (by simpa using hk)
        exact ⟨Nat.le_trans h3.size hl.1, hl.2⟩
      · exact ⟨(h4 k hk).1, Nat.lt_of_lt_of_le (h4 k hk).2 r5.size⟩
end
end Go.Proofs.Ytkoihcfdchcgdaa

import Derived.Test.YtklgndmndnmdpaaQSet
set_option linter.unusedVariables false
set_option linter.unusedSimpArgs false
namespace Go.Proofs.Ytklgndmndnmdpaa
open Go.RowKit Go.Shelf

/-- Blocks of these types are turned by nobody. -/
def Sty (t : TypeId) : Prop := t = 5 ∨ t = 23 ∨ t = 41
theorem Qq.nos {W : World} {B : Nat} {F : List Nat} {q room limit last : Nat} {L : List En} {bk : Nat → Nat} {bv rv : Nat → Value} (h : Qq W B F q room limit last L bk bv rv) (k : Nat) (hk : k ∈ F) : ∃ o, W.heap[k]? = some o ∧ ∀ (cs : Array Value) (t : TypeId) (fr : Nat × Nat), Sty t → o ≠ Obj.cells cs t fr := by
  obtain ⟨cs, t, h1, h2⟩ := h.ft k hk
  refine ⟨_, h1, fun cs' t' fr hs e => ?_⟩
  simp only [Obj.cells.injEq] at e
  obtain ⟨_, rfl, _⟩ := e
  rcases h2 with rfl | rfl | rfl <;> rcases hs with h | h | h <;> exact absurd h (by decide)
/-- What stays: the blocks of Z, and the old ones. -/
structure Kz (Z : List Nat) (w0 w w' : World) : Prop where
  size : w.heap.size ≤ w'.heap.size
  block : ∀ k, (k ∈ Z ∨ k < w0.heap.size) → w'.heap[k]? = w.heap[k]?
  sty : ∀ (k : Nat) (cs : Array Value) (t : TypeId) (fr : Nat × Nat), Sty t → w.heap[k]? = some (Obj.cells cs t fr) → w'.heap[k]? = w.heap[k]?
theorem Kz.trans {Z : List Nat} {w0 w w1 w2 : World} (h : Kz Z w0 w w1) (k : Kz Z w0 w1 w2) : Kz Z w0 w w2 := ⟨Nat.le_trans h.size k.size, fun j hj => (k.block j hj).trans (h.block j hj), fun j cs t fr ht hj => (k.sty j cs t fr ht ((h.sty j cs t fr ht hj).trans hj)).trans (h.sty j cs t fr ht hj)⟩
theorem Kz.refl (Z : List Nat) (w0 w : World) : Kz Z w0 w w := ⟨Nat.le_refl _, fun _ _ => rfl, fun _ _ _ _ _ _ => rfl⟩
theorem Kz.mono {Z Z' : List Nat} {w0 w w' : World} (h : Kz Z w0 w w') (hs : ∀ k ∈ Z', k ∈ Z) : Kz Z' w0 w w' := ⟨h.size, fun k hk => h.block k (hk.imp (hs k) id), h.sty⟩
theorem Kz.bdv {Z : List Nat} {w0 w w' : World} (h : Kz Z w0 w w') {v : Value} {l : List UInt8} (hb : Bdv w v l) : Bdv w' v l := hb.keep fun k cs fr hk => h.sty k cs _ fr (.inl rfl) hk
theorem Kz.of_below {Z : List Nat} {w0 w w' : World} (hb : Below w.heap.size w w') (h0 : w0.heap.size ≤ w.heap.size) (hZ : ∀ k ∈ Z, k < w.heap.size) : Kz Z w0 w w' := ⟨hb.size, fun k hk => hb.block k (by
  rcases hk with hk | hk
  · exact hZ k hk
  · omega), fun k cs t fr ht hk => hb.block k (heap_lt hk)⟩
theorem Kz.bx {Z : List Nat} {w0 w w' : World} (h : Kz Z w0 w w') {b : Nat} {t : TypeId} {cs : List Value} (hb : Bx w b t cs) (hz : b ∈ Z ∨ b < w0.heap.size) : Bx w' b t cs := hb.keep (h.block b hz)
theorem Kz.ownC {Z : List Nat} {w0 w w' : World} {e : TypeId} {sz : Nat} {okc : Value → Prop} {base : Nat} {v : Value} {n : Nat} {cs : List Value} (h : Kz Z w0 w w') (hm : OwnC e sz okc w base v n cs) (hv : ∀ g, v.ownBlock = some g → g ∈ Z) : OwnC e sz okc w' base v n cs := hm.keep fun k hk => h.block k (.inl (hv k hk))
theorem Kz.ownS {Z : List Nat} {w0 w w' : World} {e : TypeId} {sz : Nat} {okc : Value → Prop} {base : Nat} {v : Value} {n : Nat} {cs : List Value} (h : Kz Z w0 w w') (he : Sty e) (hm : OwnC e sz okc w base v n cs) : OwnC e sz okc w' base v n cs := hm.keep fun k hk => by
  rcases hm.2.2 with ⟨rfl, _⟩ | ⟨g, cap, sp, rfl, _, hh, _⟩
  · cases hk
  · have hgk : g = k := by simpa [Value.ownBlock] using hk
    subst hgk
    exact h.sty _ _ _ _ he hh
/-- Where a body lies. -/
def bblk (v : Value) (l : List UInt8) : Option Nat := if l = [] then none else match v with | .slice (some ad) _ _ => some ad.block | _ => none
theorem bblk_own {W : World} {B : Nat} {v : Value} {l : List UInt8} (h : OwnB W B v l) {k : Nat} (hk : bblk v l = some k) : v.ownBlock = some k := by
  unfold bblk at hk
  split at hk
  · cases hk
  · rcases h.2.2 with ⟨rfl, _⟩ | ⟨g, cap, sp, rfl, _, hh, _⟩
    · simp at hk
    · simpa [Value.ownBlock] using hk
theorem Bdv.bl {W : World} {v : Value} {l : List UInt8} (h : Bdv W v l) {k : Nat} (hk : bblk v l = some k) : k < W.heap.size := by
  obtain ⟨A, c, rfl, _, hb⟩ := h
  unfold bblk at hk
  split at hk
  · cases hk
  · rename_i hl
    cases A with
    | none => simp at hk
    | some ad =>
      obtain ⟨cs, fr, hh⟩ := hb ad rfl hl
      have : ad.block = k := by simpa using hk
      rw [← this]
      exact heap_lt hh
theorem Bdv.keepK {W W' : World} {v : Value} {l : List UInt8} (h : Bdv W v l) (hk : ∀ k, bblk v l = some k → W'.heap[k]? = W.heap[k]?) : Bdv W' v l := by
  obtain ⟨A, c, rfl, hr, hb⟩ := h
  by_cases hl : l = []
  · subst hl
    obtain ⟨h1, h2, h3, h4, h5, h6⟩ := hr
    exact ⟨A, c, rfl, ⟨h1, h2, h3, h4, h5, fun ad ha j u hj => by simp [u8s] at hj⟩, fun _ _ h => absurd rfl h⟩
  · have hbl : ∀ ad, A = some ad → W'.heap[ad.block]? = W.heap[ad.block]? := fun ad ha => hk _ (by unfold bblk; rw [if_neg hl, ha])
    obtain ⟨h1, h2, h3, h4, h5, h6⟩ := hr
    refine ⟨A, c, rfl, ⟨h1, h2, h3, h4, h5, fun ad ha j u hj => ?_⟩, fun ad ha _ => ?_⟩
    · have hc := h6 ad ha j u hj
      rw [← hc]
      unfold World.cell?
      rw [show (ad.add j).block = ad.block from by unfold Addr.add; split <;> rfl, hbl ad ha]
    · obtain ⟨cs, fr, hh⟩ := hb ad ha hl
      exact ⟨cs, fr, (hbl ad ha).trans hh⟩
/-- A queue of one's own, made since w0, beside the guests Z. -/
structure QF (w0 w : World) (Z : List Nat) (q room limit last : Nat) (L : List En) : Prop where
  ex : ∃ F bk bv rv, Qq w w0.heap.size F q room limit last L bk bv rv ∧ ∀ k ∈ Z, k ∉ F ∧ ∀ e ∈ L, bblk (bv e.id) e.m.body ≠ some k
  old : Below w0.heap.size w0 w
  zs : ∀ k ∈ Z, w0.heap.size ≤ k ∧ k < w.heap.size
section
variable {w0 w w' : World} {Z : List Nat} {q room limit last : Nat} {L : List En}
theorem QF.wf (h : QF w0 w Z q room limit last L) : WfQ room limit last L := by obtain ⟨⟨F, bk, bv, rv, h1, _⟩, _, _⟩ := h; exact h1.wf
theorem QF.kz_of (h : QF w0 w Z q room limit last L) (hb : Below w.heap.size w w') : Kz Z w0 w w' := ⟨hb.size, fun k hk => hb.block k (by
  rcases hk with hk | hk
  · exact (h.zs k hk).2
  · exact Nat.lt_of_lt_of_le hk h.old.size), fun k cs t fr ht hk => hb.block k (heap_lt hk)⟩
theorem QF.guest {N : List Nat} (h : QF w0 w Z q room limit last L) (hb : Below w.heap.size w w') (hN : ∀ k ∈ N, w.heap.size ≤ k ∧ k < w'.heap.size) : QF w0 w' (N ++ Z) q room limit last L := by
  obtain ⟨⟨F, bk, bv, rv, h1, h2⟩, h3, h4⟩ := h
  refine ⟨⟨F, bk, bv, rv, h1.below hb, fun k hk => ?_⟩, below_then h3 h3.size hb, fun k hk => ?_⟩
  · rcases List.mem_append.1 hk with e | e
    · exact ⟨fun hm => by have := (hN k e).1; have := h1.lt k hm; omega, fun x hx hh => by have := (hN k e).1; have := (h1.bod x hx).bl hh; omega⟩
    · exact h2 k e
  · rcases List.mem_append.1 hk with e | e
    · exact ⟨Nat.le_trans h3.size (hN k e).1, (hN k e).2⟩
    · exact ⟨(h4 k e).1, Nat.lt_of_lt_of_le (h4 k e).2 hb.size⟩
theorem QF.below (h : QF w0 w Z q room limit last L) (hb : Below w.heap.size w w') : QF w0 w' Z q room limit last L := h.guest (N := []) hb (by simp)
theorem QF.alloc (h : QF w0 w Z q room limit last L) (o : Obj) : QF w0 (w.alloc o) (w.heap.size :: Z) q room limit last L := h.guest (N := [w.heap.size]) (below_alloc w o) (fun k hk => by simp at hk; simp; omega)
theorem QF.less {Z' : List Nat} (h : QF w0 w Z q room limit last L) (hs : ∀ k ∈ Z', k ∈ Z) : QF w0 w Z' q room limit last L := by
  obtain ⟨⟨F, bk, bv, rv, h1, h2⟩, h3, h4⟩ := h
  exact ⟨⟨F, bk, bv, rv, h1, fun k hk => h2 k (hs k hk)⟩, h3, fun k hk => h4 k (hs k hk)⟩
theorem QF.zset (h : QF w0 w Z q room limit last L) (t : Tch Z w w') : QF w0 w' Z q room limit last L := by
  obtain ⟨⟨F, bk, bv, rv, h1, h2⟩, h3, h4⟩ := h
  refine ⟨⟨F, bk, bv, rv, ?_, h2⟩, h3.trans (t.below h3.size fun k hk => (h4 k hk).1), fun k hk => ⟨(h4 k hk).1, Nat.lt_of_lt_of_le (h4 k hk).2 t.size⟩⟩
  have hF : ∀ k ∈ F, w'.heap[k]? = w.heap[k]? := fun k hk => t.block k (h1.lt k hk) fun hm => (h2 k hm).1 hk
  exact ⟨(hF _ h1.fq).trans h1.hd, fun p hp => (h1.rows p hp).keep fun k hk => hF k (h1.fr p hp k hk), fun e he => (hF _ (h1.fe e he)).trans (h1.ent e he), fun e he => (h1.bod e he).keepK fun k hk => t.block k ((h1.bod e he).bl hk) fun hm => (h2 k hm).2 e he hk, h1.wf, h1.inj, h1.rdis, h1.fq, h1.fr, h1.fe, h1.fB,
    fun k hm => by obtain ⟨cs, t, h1', h2'⟩ := h1.ft k hm; exact ⟨cs, t, (hF k hm).trans h1', h2'⟩⟩
theorem kz_tch {F : List Nat} (t : Tch F w w') (hF : ∀ k ∈ F, k ∉ Z ∧ w0.heap.size ≤ k) (hN : ∀ k ∈ F, ∃ o, w.heap[k]? = some o ∧ ∀ (cs : Array Value) (t : TypeId) (fr : Nat × Nat), Sty t → o ≠ Obj.cells cs t fr) (hZ : ∀ k ∈ Z, k < w.heap.size) (h0 : w0.heap.size ≤ w.heap.size) : Kz Z w0 w w' :=
  ⟨t.size, fun k hk => t.block k (by rcases hk with h | h; exact hZ k h; omega) fun hm => by
    rcases hk with h | h
    · exact (hF k hm).1 h
    · have := (hF k hm).2; omega, fun k cs ty fr hty hk => t.block k (heap_lt hk) fun hm => by
    obtain ⟨o, h1, h2⟩ := hN k hm
    rw [hk] at h1
    exact h2 cs ty fr hty (Option.some.inj h1).symm⟩
theorem qf_len (h : QF w0 w Z q room limit last L) :
    Calls Try.prog 48 #[.pointer (some ⟨q, 0, none⟩)] w fun e w' => e = .returned (.tuple #[.int .i64 (ordQ false L).length, .int .i64 (ordQ true L).length]) ∧ Below w.heap.size w w' := by
  obtain ⟨⟨F, bk, bv, rv, h1, _⟩, _, _⟩ := h
  exact qlen_q h1
theorem qf_list (h : QF w0 w Z q room limit last L) :
    Calls Try.prog 46 #[.pointer (some ⟨q, 0, none⟩)] w fun e w' => ∃ (v : Value) (its : List (En × Value)), e = .returned v ∧ its.map (·.1) = ordQ false L ∧ OwnC 104 6 (fun _ => True) w' w.heap.size v its.length (its.flatMap itc) ∧ (∀ x ∈ its, OwnB w' w.heap.size x.2 x.1.m.body) ∧ Below w.heap.size w w' := by
  obtain ⟨⟨F, bk, bv, rv, h1, _⟩, _, _⟩ := h
  exact qlist_q h1
theorem qf_acq (h : QF w0 w Z q room limit last L) (now : Int) :
    Calls Try.prog 53 #[.pointer (some ⟨q, 0, none⟩), .int .i64 now] w fun r w' =>
      (acqQ L now = none ∧ r = .returned (.tuple #[.agg zItem.toArray, .bool false]) ∧ QF w0 w' Z q room limit last L ∧ Below w.heap.size w w') ∨
      ∃ e v, acqQ L now = some e ∧ r = .returned (.tuple #[.agg (itc (e, v)).toArray, .bool true]) ∧ OwnB w' w.heap.size v e.m.body ∧ QF w0 w' (v.ownBlock.toList ++ Z) q room limit last (modL (holdE e) L) ∧ Kz Z w0 w w' := by
  have hh := h
  obtain ⟨⟨F, bk, bv, rv, h1, h2⟩, h3, h4⟩ := h
  refine (qacq_q h1 now).mono ?_
  rintro r w' (⟨r1, r2, r3, r4⟩ | ⟨e, v, r1, r2, r3, r4, r5⟩)
  · exact .inl ⟨r1, r2, hh.below r4, r4⟩
  · refine .inr ⟨e, v, r1, r2, r3, ⟨⟨F, bk, bv, rv, r4, fun k hk => ?_⟩, h3.trans (r5.below h3.size fun k hk => h1.fB k hk), fun k hk => ?_⟩, kz_tch r5 (fun k hk => ⟨fun hm => (h2 k hm).1 hk, h1.fB k hk⟩) h1.nos (fun k hk => (h4 k hk).2) h3.size⟩
    · have hb : ∀ x ∈ modL (holdE e) L, ∃ y ∈ L, y.id = x.id ∧ y.m = x.m := fun x hx => by
        rcases mem_modL hx with rfl | ⟨hx, _⟩
        · exact ⟨e, (acq_mem r1).1, rfl, rfl⟩
        · exact ⟨x, hx, rfl, rfl⟩
      rcases List.mem_append.1 hk with hk | hk
      · have hl := r3.lt k (by simpa using hk)
        refine ⟨fun hm => by have := h1.lt k hm; omega, fun x hx hbb => ?_⟩
        obtain ⟨y, hy, h5, h6⟩ := hb x hx
        rw [← h5, ← h6] at hbb
        have := (h1.bod y hy).bl hbb
        omega
      · refine ⟨(h2 k hk).1, fun x hx hbb => ?_⟩
        obtain ⟨y, hy, h5, h6⟩ := hb x hx
        rw [← h5, ← h6] at hbb
        exact (h2 k hk).2 y hy hbb
    · rcases List.mem_append.1 hk with hk | hk
      · have hl := r3.lt k (by simpa using hk)
        exact ⟨Nat.le_trans h3.size hl.1, hl.2⟩
      · exact ⟨(h4 k hk).1, Nat.lt_of_lt_of_le (h4 k hk).2 r5.size⟩
end

def mgL (l : List (Mg × Value)) : List Value := l.flatMap fun x => mcs x.1 x.2
/-- A message that is dead, or none. -/
def deadM (e : Option En) (v : Value) : Value := match e with | some e => mgv e.m v | none => .agg zMsg.toArray
/-- What is dropped when the old ones go. -/
def expL (L : List En) (now : Int) : List En := (ordQ false L).filter fun e => oldE e now
def expQ (L : List En) (now : Int) : List En := less ((expL L now).map (·.id)) L
theorem mem_less_sub {D : List Nat} {L : List En} {e : En} (h : e ∈ less D L) : e ∈ L := (mem_less.1 h).1
section
variable {w0 w w' : World} {Z : List Nat} {q room limit last : Nat} {L : List En}
/-- Of the items only what they were is left; bodies are the same. -/
theorem QF.sub {F : List Nat} {bk : Nat → Nat} {bv rv rv' : Nat → Value} {L' : List En} (hh : QF w0 w Z q room limit last L) (h1 : Qq w w0.heap.size F q room limit last L bk bv rv) (h2 : ∀ k ∈ Z, k ∉ F ∧ ∀ e ∈ L, bblk (bv e.id) e.m.body ≠ some k)
    (hq : Qq w' w0.heap.size F q room limit last L' bk bv rv') (hs : ∀ x ∈ L', ∃ y ∈ L, y.id = x.id ∧ y.m.body = x.m.body) (t : Tch F w w') : QF w0 w' Z q room limit last L' ∧ Kz Z w0 w w' := by
  obtain ⟨_, h3, h4⟩ := hh
  refine ⟨⟨⟨F, bk, bv, rv', hq, fun k hk => ⟨(h2 k hk).1, fun x hx hb => ?_⟩⟩, h3.trans (t.below h3.size fun k hk => h1.fB k hk), fun k hk => ⟨(h4 k hk).1, Nat.lt_of_lt_of_le (h4 k hk).2 t.size⟩⟩, kz_tch t (fun k hk => ⟨fun hm => (h2 k hm).1 hk, h1.fB k hk⟩) h1.nos (fun k hk => (h4 k hk).2) h3.size⟩
  obtain ⟨y, hy, h5, h6⟩ := hs x hx
  rw [← h5, ← h6] at hb
  exact (h2 k hk).2 y hy hb
theorem bumpE_body (o : Oc) (e : En) : (bumpE o e).m.body = e.m.body := by unfold bumpE bump; simp only; split <;> rfl
theorem findH_mem {id : Int} {e : En} (h : findH L id = some e) : e ∈ L ∧ (e.id : Int) = id ∧ e.held = true := ⟨List.mem_of_find?_eq_some h, of_decide_eq_true (List.find?_some (p := fun e : En => decide ((e.id : Int) = id ∧ e.held = true)) h)⟩
theorem setQ_sub {id : Int} {o : Oc} {x : En} (h : x ∈ (setQ limit L id o).1) : ∃ y ∈ L, y.id = x.id ∧ y.m.body = x.m.body := by
  unfold setQ at h
  cases hf : findH L id with
  | none => rw [hf] at h; exact ⟨x, h, rfl, rfl⟩
  | some e =>
    rw [hf] at h
    simp only at h
    have he := (findH_mem hf).1
    have hmod : ∀ e' : En, e'.id = e.id → e'.m.body = e.m.body → x ∈ modL e' L → ∃ y ∈ L, y.id = x.id ∧ y.m.body = x.m.body := fun e' h1 h2 h3 => by
      rcases mem_modL h3 with rfl | ⟨h4, _⟩
      · exact ⟨e, he, h1.symm, h2.symm⟩
      · exact ⟨x, h4, rfl, rfl⟩
    split at h
    · exact ⟨x, mem_less_sub h, rfl, rfl⟩
    · split at h
      · exact ⟨x, mem_less_sub h, rfl, rfl⟩
      · split at h
        · exact hmod (freeE e) rfl rfl h
        · split at h
          · split at h
            · exact ⟨x, mem_less_sub h, rfl, rfl⟩
            · exact hmod (freeE (bumpE o e)) rfl (bumpE_body o e) h
          · exact ⟨x, h, rfl, rfl⟩
theorem setQ_dead {id : Int} {o : Oc} {x : En} (h : (setQ limit L id o).2.2 = some x) : ∃ y ∈ L, y.id = x.id ∧ y.m.body = x.m.body := by
  unfold setQ at h
  cases hf : findH L id with
  | none => rw [hf] at h; cases h
  | some e =>
    rw [hf] at h
    simp only at h
    have he := (findH_mem hf).1
    split at h
    · cases h
    · split at h
      · cases h; exact ⟨_, he, rfl, rfl⟩
      · split at h
        · cases h
        · split at h
          · split at h
            · cases h; exact ⟨e, he, rfl, (bumpE_body o e).symm⟩
            · cases h
          · cases h
theorem qf_set (h : QF w0 w Z q room limit last L) (id : Int) (o : Oc) :
    Calls Try.prog 56 #[.pointer (some ⟨q, 0, none⟩), .int .i64 id, .agg (occ o).toArray] w fun r w' => ∃ v, r = .returned (.tuple #[deadM (setQ limit L id o).2.2 v, .bool (setQ limit L id o).2.2.isSome, .int .i64 (setQ limit L id o).2.1]) ∧ (∀ e, (setQ limit L id o).2.2 = some e → Bdv w' v e.m.body) ∧ QF w0 w' Z q room limit last (setQ limit L id o).1 ∧ Kz Z w0 w w' := by
  have hh := h
  obtain ⟨⟨F, bk, bv, rv, h1, h2⟩, h3, h4⟩ := h
  refine (qset_loop h1 id o).mono ?_
  rintro r w' ⟨rv', r1, r2, r3⟩
  have := hh.sub h1 h2 r2 (fun x hx => setQ_sub hx) r3
  cases hd : (setQ limit L id o).2.2 with
  | none => exact ⟨.slice none 0 0, by rw [r1, hd]; rfl, fun e he => (by cases he), this⟩
  | some e =>
    refine ⟨bv e.id, by rw [r1, hd]; rfl, fun e' he => ?_, this⟩
    cases he
    obtain ⟨y, hy, h5, h6⟩ := setQ_dead hd
    rw [← h5, ← h6]
    exact (h1.bod y hy).tch r3 h1.nob
theorem qf_exp (h : QF w0 w Z q room limit last L) (now : Int) :
    Calls Try.prog 72 #[.pointer (some ⟨q, 0, none⟩), .int .i64 now] w fun r w' => ∃ (v : Value) (ms : List (Mg × Value)), r = .returned v ∧ ms.map (·.1) = (expL L now).map (·.m) ∧ OwnC 41 5 (fun _ => True) w' w.heap.size v ms.length (mgL ms) ∧ (∀ x ∈ ms, Bdv w' x.2 x.1.body) ∧ QF w0 w' (v.ownBlock.toList ++ Z) q room limit last (expQ L now) ∧ Kz Z w0 w w' := by
  have hh := h
  obtain ⟨⟨F, bk, bv, rv, h1, h2⟩, h3, h4⟩ := h
  refine (qexp_calls h1 now).mono ?_
  rintro r w' ⟨v, rv', r1, r2, r3, r4⟩
  obtain ⟨q1, q2⟩ := hh.sub h1 h2 r3 (fun x hx => ⟨x, mem_less_sub hx, rfl, rfl⟩) r4
  refine ⟨v, (expL L now).map fun e => (e.m, bv e.id), r1, by rw [List.map_map]; rfl, ?_, fun x hx => ?_, ?_, q2⟩
  · rw [List.length_map]
    have : mgL ((expL L now).map fun e => (e.m, bv e.id)) = mcsL bv (expL L now) := by unfold mgL mcsL; rw [List.flatMap_map]
    rw [this]
    exact r2
  · obtain ⟨e, he, rfl⟩ := List.mem_map.1 hx
    exact (h1.bod e (mem_ord (List.mem_filter.1 he).1).1).tch r4 h1.nob
  · obtain ⟨⟨F', bk', bv', rv2, g1, g2⟩, g3, g4⟩ := q1
    have hl := fun k hk => r2.lt k hk
    refine ⟨⟨F, bk, bv, rv', r3, fun k hk => ?_⟩, g3, fun k hk => ?_⟩
    · rcases List.mem_append.1 hk with hk | hk
      · have := hl k (by simpa using hk)
        exact ⟨fun hm => by have := h1.lt k hm; omega, fun x hx hb => by have := (h1.bod x (mem_less_sub hx)).bl hb; omega⟩
      · exact ⟨(h2 k hk).1, fun x hx => (h2 k hk).2 x (mem_less_sub hx)⟩
    · rcases List.mem_append.1 hk with hk | hk
      · have := hl k (by simpa using hk)
        exact ⟨Nat.le_trans h3.size this.1, this.2⟩
      · exact g4 k hk
theorem qf_put_bad (h : QF w0 w Z q room limit last L) (m : Mg) (A : Option Addr) (c n : Nat) (hn : m.body.length = n) (hbad : okMg m = false) (now : Int) :
    Calls Try.prog 51 #[.pointer (some ⟨q, 0, none⟩), mgv m (.slice A n c), .int .i64 now] w fun r w' => r = .returned (.tuple #[.int .i64 0, .int .i64 1]) ∧ Below w.heap.size w w' := by
  obtain ⟨⟨F, bk, bv, rv, h1, h2⟩, h3, h4⟩ := h
  exact qput_bad h1 m A c n hn hbad now
theorem qf_put_full (h : QF w0 w Z q room limit last L) (m : Mg) (A : Option Addr) (c n : Nat) (hn : m.body.length = n) (hok : okMg m = true) (hr : L.length = room) (now : Int) :
    Calls Try.prog 51 #[.pointer (some ⟨q, 0, none⟩), mgv m (.slice A n c), .int .i64 now] w fun r w' => r = .returned (.tuple #[.int .i64 0, .int .i64 4]) ∧ Below w.heap.size w w' := by
  obtain ⟨⟨F, bk, bv, rv, h1, h2⟩, h3, h4⟩ := h
  exact qput_full h1 m A c n hn hok hr now
theorem qf_put_ok (h : QF w0 w Z q room limit last L) (m : Mg) (A : Option Addr) (c n : Nat) (hn : m.body.length = n) (hrd : Rd w A c m.body) (hm : WfM m) (hr : L.length < room) (hlast : last < 1000000) (now : Int) :
    Calls Try.prog 51 #[.pointer (some ⟨q, 0, none⟩), mgv m (.slice A n c), .int .i64 now] w fun r w' => r = .returned (.tuple #[.int .i64 ((last + 1 : Nat) : Int), .int .i64 0]) ∧ QF w0 w' Z q room limit (last + 1) (L ++ [newE last m now]) ∧ Kz Z w0 w w' := by
  obtain ⟨⟨F, bk, bv, rv, h1, h2⟩, h3, h4⟩ := h
  refine (qput_ok h1 m A c n hn hrd hm hr hlast h3.size now).mono ?_
  rintro r w' ⟨r1, ⟨F', bk', bd, rv', r2, r3, r5⟩, r4⟩
  refine ⟨r1, ⟨⟨F', bk', _, rv', r2, fun k hk => ⟨fun hm => ?_, fun x hx hb => ?_⟩⟩, h3.trans (r4.below h3.size fun k hk => h1.fB k hk), fun k hk => ⟨(h4 k hk).1, Nat.lt_of_lt_of_le (h4 k hk).2 r4.size⟩⟩, kz_tch r4 (fun k hk => ⟨fun hm => (h2 k hm).1 hk, h1.fB k hk⟩) h1.nos (fun k hk => (h4 k hk).2) h3.size⟩
  · rcases r3 k hm with h5 | h5
    · exact (h2 k hk).1 h5
    · have := (h4 k hk).2; omega
  · rcases List.mem_append.1 hx with hx | hx
    · have hne : x.id ≠ last + 1 := by have := (h1.wf.ids x hx).2; omega
      simp only [upd, if_neg hne] at hb
      exact (h2 k hk).2 x hx hb
    · simp only [List.mem_singleton] at hx
      subst hx
      simp only [upd, newE, if_pos] at hb
      unfold bblk at hb
      split at hb
      · cases hb
      · split at hb
        · rename_i ad n' c'
          have := r5 ad n' c' rfl
          simp only [Option.some.injEq] at hb
          have := (h4 k hk).2
          omega
        · cases hb
end
theorem qf_new_bad (room limit : Int) (w : World) (h : okNew room limit = false) (hr : (Lit.int .i64 room).wf = true) (hl : (Lit.int .i64 limit).wf = true) :
    Calls Try.prog 26 #[.int .i64 room, .int .i64 limit] w fun r w' => r = .returned (.tuple #[.pointer none, .int .i64 1]) ∧ w = w' := qnew_bad room limit w h hr hl
theorem qf_new {w0 w : World} (room limit : Nat) (hb : Below w0.heap.size w0 w) (h1 : 1 ≤ room) (h2 : room ≤ 64) (h3 : limit ≤ 1000) :
    Calls Try.prog 26 #[.int .i64 room, .int .i64 limit] w fun r w' => r = .returned (.tuple #[.pointer (some ⟨w.heap.size, 0, none⟩), .int .i64 0]) ∧ QF w0 w' [] w.heap.size room limit 0 [] ∧ Below w.heap.size w w' := by
  refine (qnew_ok room limit w h1 h2 h3 (fun _ => 0) (fun _ => .slice none 0 0)).mono ?_
  rintro r w' ⟨r1, r2, r3⟩
  refine ⟨r1, ⟨⟨[w.heap.size], fun _ => 0, fun _ => .slice none 0 0, fun _ => .slice none 0 0, ⟨r2.hd, fun p hp => (r2.rows p hp).base hb.size, r2.ent, r2.bod, r2.wf, r2.inj, r2.rdis, r2.fq, r2.fr, r2.fe, fun k hk => Nat.le_trans hb.size (r2.fB k hk), r2.ft⟩, by simp⟩, below_then hb hb.size r3, by simp⟩, r3⟩
end Go.Proofs.Ytklgndmndnmdpaa

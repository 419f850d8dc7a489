import Derived.Test.YtklgndmndnmdpaaQAll
import Derived.Test.YtklgndmndnmdpaaBx
set_option linter.unusedVariables false
set_option linter.unusedSimpArgs false
namespace Go.Proofs.Ytklgndmndnmdpaa
open Go.RowKit Go.Shelf

/-- A message. -/
structure Mg where
  pr : Nat
  ttl : Nat
  cnt : Nat
  ids : List UInt8
  body : List UInt8
/-- A message of a queue: its number, when it was put, whether it is held. -/
structure En where
  id : Nat
  m : Mg
  tm : Nat
  held : Bool
/-- A row of a queue. -/
def rowp (L : List En) (p : Nat) : List En := L.filter fun e => e.m.pr == p
/-- The order of a queue. -/
def prs : List Nat := [9, 8, 7, 6, 5, 4, 3, 2, 1, 0]
def ask (h : Bool) (l : List En) : List En := l.filter fun e => e.held == h
def ordQ (h : Bool) (L : List En) : List En := prs.flatMap fun p => ask h (rowp L p)
/-- A message's cells. -/
def mcs (m : Mg) (bv : Value) : List Value := [.int .u8 m.pr, .int .u32 m.ttl, .int .u32 m.cnt, str m.ids, bv]
/-- An entry's cells. -/
def ecs (e : En) (bv : Value) : List Value := [.int .i64 e.id, .int .u8 e.m.pr, .int .u32 e.m.ttl, .int .u32 e.m.cnt, str e.m.ids, bv, .int .i64 e.tm, .bool e.held]
/-- A body: bytes that no queue turns. -/
def Bdv (W : World) (v : Value) (l : List UInt8) : Prop :=
  ∃ A c, v = .slice A l.length c ∧ Rd W A c l ∧ ∀ ad, A = some ad → l ≠ [] → ∃ cs fr, W.heap[ad.block]? = some (.cells cs 5 fr)
structure WfM (m : Mg) : Prop where
  pr : m.pr < 10
  body : m.body.length ≤ 2048
  ids : m.ids.length ≤ 64
  ttl : m.ttl ≤ 4294967295
  cnt : m.cnt ≤ 4294967295
structure WfQ (room limit last : Nat) (L : List En) : Prop where
  room1 : 1 ≤ room
  room2 : room ≤ 64
  lim : limit ≤ 1000
  len : L.length ≤ room
  sorted : L.Pairwise fun a b => a.id < b.id
  ids : ∀ e ∈ L, 1 ≤ e.id ∧ e.id ≤ last
  ok : ∀ e ∈ L, WfM e.m
  tm : ∀ e ∈ L, e.tm ≤ 2305843009213693952
def hcs (room limit last : Nat) (rv : Nat → Value) : List Value := [.int .i64 room, .int .i64 limit, .int .i64 last] ++ (List.range 10).map rv
/-- A queue in memory: F its blocks; bk: where an entry lies; bv: its body; rv: its rows. -/
structure Qq (W : World) (B : Nat) (F : List Nat) (q room limit last : Nat) (L : List En) (bk : Nat → Nat) (bv rv : Nat → Value) : Prop where
  hd : W.heap[q]? = some (.cells (hcs room limit last rv).toArray 125 (0, 0))
  rows : ∀ p, p < 10 → OwnC 143 1 (fun _ => True) W B (rv p) (rowp L p).length ((rowp L p).map fun e => ev (bk e.id))
  ent : ∀ e ∈ L, W.heap[bk e.id]? = some (.cells (ecs e (bv e.id)).toArray 145 (0, 0))
  bod : ∀ e ∈ L, Bdv W (bv e.id) e.m.body
  wf : WfQ room limit last L
  inj : ∀ e ∈ L, ∀ e' ∈ L, bk e.id = bk e'.id → e.id = e'.id
  rdis : ∀ p p', p < 10 → p' < 10 → p ≠ p' → ∀ k, (rv p).ownBlock = some k → (rv p').ownBlock ≠ some k
  fq : q ∈ F
  fr : ∀ p, p < 10 → ∀ k, (rv p).ownBlock = some k → k ∈ F
  fe : ∀ e ∈ L, bk e.id ∈ F
  fB : ∀ k ∈ F, B ≤ k
  ft : ∀ k ∈ F, ∃ cs t, W.heap[k]? = some (.cells cs t (0, 0)) ∧ (t = 125 ∨ t = 143 ∨ t = 145)

theorem Bdv.keep {W W' : World} {v : Value} {l : List UInt8} (h : Bdv W v l) (hk : ∀ (k : Nat) (cs : Array Value) (fr : Nat × Nat), W.heap[k]? = some (Obj.cells cs 5 fr) → W'.heap[k]? = W.heap[k]?) : Bdv W' v l := by
  obtain ⟨A, c, rfl, hr, hb⟩ := h
  refine ⟨A, c, rfl, ?_, fun ad ha hl => ?_⟩
  · obtain ⟨h1, h2, h3, h4, h5, h6⟩ := hr
    refine ⟨h1, h2, h3, h4, h5, fun ad ha j u hj => ?_⟩
    have hc := h6 ad ha j u hj
    have hl : l ≠ [] := fun e => by subst e; simp [u8s] at hj
    obtain ⟨cs, fr, hh⟩ := hb ad ha hl
    rw [← hc]
    unfold World.cell?
    rw [show (ad.add j).block = ad.block from by unfold Addr.add; split <;> rfl, hk _ _ _ hh]
  · obtain ⟨cs, fr, hh⟩ := hb ad ha hl
    exact ⟨cs, fr, (hk _ _ _ hh).trans hh⟩
theorem Bdv.of_own {W : World} {B : Nat} {v : Value} {l : List UInt8} (h : OwnB W B v l) : Bdv W v l := by
  obtain ⟨A, c, rfl, hr⟩ := h.rd
  refine ⟨A, c, rfl, hr, fun ad ha hl => ?_⟩
  subst ha
  rcases h.2.2 with ⟨e, _⟩ | ⟨g, cap, sp, e, _, hh, _⟩
  · simp at e
  · simp only [Value.slice.injEq, Option.some.injEq] at e
    obtain ⟨rfl, _⟩ := e
    exact ⟨_, _, hh⟩
theorem Bdv.below {W W' : World} {v : Value} {l : List UInt8} (h : Bdv W v l) (hb : Below W.heap.size W W') : Bdv W' v l :=
  h.keep fun k cs fr hh => hb.block k (heap_lt hh)
theorem Bdv.tch {W W' : World} {v : Value} {l : List UInt8} {F : List Nat} (h : Bdv W v l) (ht : Tch F W W') (hF : ∀ k ∈ F, ∃ o, W.heap[k]? = some o ∧ ∀ (cs : Array Value) (fr : Nat × Nat), o ≠ Obj.cells cs 5 fr) : Bdv W' v l :=
  h.keep fun k cs fr hh => ht.block k (heap_lt hh) fun hm => by
    obtain ⟨o, h1, h2⟩ := hF k hm
    rw [hh] at h1
    exact h2 cs fr (Option.some.inj h1).symm
theorem Bdv.one {W : World} {v : Value} {l : List UInt8} (h : Bdv W v l) : v.oneCell' = true := by
  obtain ⟨A, c, rfl, _⟩ := h; rfl

section
variable {W W' : World} {B : Nat} {F : List Nat} {q room limit last : Nat} {L : List En} {bk : Nat → Nat} {bv rv : Nat → Value}
/-- What it needs of the world. -/
theorem Qq.keep (h : Qq W B F q room limit last L bk bv rv) (hF : ∀ k ∈ F, W'.heap[k]? = W.heap[k]?) (hb : ∀ (k : Nat) (cs : Array Value) (fr : Nat × Nat), W.heap[k]? = some (Obj.cells cs 5 fr) → W'.heap[k]? = W.heap[k]?) : Qq W' B F q room limit last L bk bv rv :=
  ⟨(hF _ h.fq).trans h.hd, fun p hp => (h.rows p hp).keep fun k hk => hF k (h.fr p hp k hk), fun e he => (hF _ (h.fe e he)).trans (h.ent e he), fun e he => (h.bod e he).keep hb, h.wf, h.inj, h.rdis, h.fq, h.fr, h.fe, h.fB,
    fun k hk => by obtain ⟨cs, t, h1, h2⟩ := h.ft k hk; exact ⟨cs, t, (hF k hk).trans h1, h2⟩⟩
theorem Qq.lt (h : Qq W B F q room limit last L bk bv rv) (k : Nat) (hk : k ∈ F) : k < W.heap.size := by
  obtain ⟨cs, t, h1, h2⟩ := h.ft k hk; exact heap_lt h1
theorem Qq.below (h : Qq W B F q room limit last L bk bv rv) (hb : Below W.heap.size W W') : Qq W' B F q room limit last L bk bv rv :=
  h.keep (fun k hk => hb.block k (h.lt k hk)) (fun k cs fr hh => hb.block k (heap_lt hh))
theorem Qq.tch {G : List Nat} (h : Qq W B F q room limit last L bk bv rv) (ht : Tch G W W') (hG : ∀ k ∈ G, k ∉ F ∧ ∀ (cs : Array Value) (fr : Nat × Nat), W.heap[k]? ≠ some (Obj.cells cs 5 fr)) : Qq W' B F q room limit last L bk bv rv :=
  h.keep (fun k hk => ht.block k (h.lt k hk) fun hm => (hG k hm).1 hk) (fun k cs fr hh => ht.block k (heap_lt hh) fun hm => (hG k hm).2 cs fr hh)
/-- A block of its own holds no bytes. -/
theorem Qq.nob (h : Qq W B F q room limit last L bk bv rv) (k : Nat) (hk : k ∈ F) : ∃ o, W.heap[k]? = some o ∧ ∀ (cs : Array Value) (fr : Nat × Nat), o ≠ Obj.cells cs 5 fr := by
  obtain ⟨cs, t, h1, h2⟩ := h.ft k hk
  refine ⟨_, h1, fun cs' fr e => ?_⟩
  simp only [Obj.cells.injEq] at e
  obtain ⟨_, rfl, _⟩ := e
  rcases h2 with h | h | h <;> exact absurd h (by decide)
theorem Qq.c0 (h : Qq W B F q room limit last L bk bv rv) : W.cell? ⟨q, 0, none⟩ = some (.int .i64 room) := cell_of_heap h.hd 0 _ rfl
theorem Qq.c1 (h : Qq W B F q room limit last L bk bv rv) : W.cell? ⟨q, 1, none⟩ = some (.int .i64 limit) := cell_of_heap h.hd 1 _ rfl
theorem Qq.c2 (h : Qq W B F q room limit last L bk bv rv) : W.cell? ⟨q, 2, none⟩ = some (.int .i64 last) := cell_of_heap h.hd 2 _ rfl
theorem Qq.cr (h : Qq W B F q room limit last L bk bv rv) (p : Nat) (hp : p < 10) : W.cell? ⟨q, 3 + p, none⟩ = some (rv p) := by
  refine cell_of_heap h.hd (3 + p) _ ?_
  unfold hcs
  rw [List.getElem?_append_right (by simp)]
  simp [hp]
end
theorem mem_rowp {L : List En} {p : Nat} {e : En} : e ∈ rowp L p ↔ e ∈ L ∧ e.m.pr = p := by simp [rowp]
theorem rowp_sub (L : List En) (p : Nat) : (rowp L p).Sublist L := List.filter_sublist
theorem rowp_len (L : List En) (p : Nat) : (rowp L p).length ≤ L.length := (rowp_sub L p).length_le
end Go.Proofs.Ytklgndmndnmdpaa

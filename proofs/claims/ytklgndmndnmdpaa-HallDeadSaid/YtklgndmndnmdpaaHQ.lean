import Derived.Test.YtklgndmndnmdpaaQOwn
set_option linter.unusedVariables false
set_option linter.unusedSimpArgs false
namespace Go.Proofs.Ytklgndmndnmdpaa
open Go.RowKit Go.Shelf

/-- Something is done elsewhere: of a queue nothing is turned. -/
theorem QF.other {w0 w w' : World} {Z Z' : List Nat} {q room limit last : Nat} {L : List En} (h : QF w0 w Z q room limit last L) (hb : Below w0.heap.size w0 w') (hk : ∀ k, w0.heap.size ≤ k → k < w.heap.size → k ∉ Z → w'.heap[k]? = w.heap[k]?) (hsz : w.heap.size ≤ w'.heap.size)
    (hZ : ∀ k ∈ Z', k ∈ Z ∨ (w.heap.size ≤ k ∧ k < w'.heap.size)) : QF w0 w' Z' q room limit last L := by
  obtain ⟨⟨F, bk, bv, rv, h1, h2⟩, h3, h4⟩ := h
  have hF : ∀ k ∈ F, w'.heap[k]? = w.heap[k]? := fun k hm => hk k (h1.fB k hm) (h1.lt k hm) fun hz => (h2 k hz).1 hm
  refine ⟨⟨F, bk, bv, rv, ⟨(hF _ h1.fq).trans h1.hd, fun p hp => (h1.rows p hp).keep fun k hk => hF k (h1.fr p hp k hk), fun e he => (hF _ (h1.fe e he)).trans (h1.ent e he), fun e he => (h1.bod e he).keepK fun k hb' => ?_, h1.wf, h1.inj, h1.rdis, h1.fq, h1.fr, h1.fe, h1.fB,
    fun k hm => by obtain ⟨cs, t, h1', h2'⟩ := h1.ft k hm; exact ⟨cs, t, (hF k hm).trans h1', h2'⟩⟩, fun k hm => ?_⟩, hb, fun k hm => ?_⟩
  · by_cases hl : k < w0.heap.size
    · rw [hb.block k hl, h3.block k hl]
    · exact hk k (by omega) ((h1.bod e he).bl hb') fun hz => (h2 k hz).2 e he hb'
  · rcases hZ k hm with hz | ⟨hz, _⟩
    · exact h2 k hz
    · exact ⟨fun hf => by have := h1.lt k hf; omega, fun e he hbb => by have := (h1.bod e he).bl hbb; omega⟩
  · rcases hZ k hm with hz | ⟨hz, hz2⟩
    · exact ⟨(h4 k hz).1, Nat.lt_of_lt_of_le (h4 k hz).2 hsz⟩
    · exact ⟨Nat.le_trans h3.size hz, hz2⟩
/-- A queue that has nothing yet, made since w: all that was made between w0 and w is a guest. -/
theorem QF.rebase {w0 w w' : World} {N : List Nat} {q room limit last : Nat} (h : QF w w' [] q room limit last []) (hb : Below w0.heap.size w0 w) (hN : ∀ k ∈ N, w0.heap.size ≤ k ∧ k < w.heap.size) : QF w0 w' N q room limit last [] := by
  obtain ⟨⟨F, bk, bv, rv, h1, h2⟩, h3, h4⟩ := h
  refine ⟨⟨F, bk, bv, rv, ⟨h1.hd, fun p hp => ?_, h1.ent, h1.bod, h1.wf, h1.inj, h1.rdis, h1.fq, h1.fr, h1.fe, fun k hk => Nat.le_trans hb.size (h1.fB k hk), h1.ft⟩, fun k hk => ⟨fun hf => by have := h1.fB k hf; have := (hN k hk).2; omega, fun e he => (by cases he)⟩⟩, below_then hb hb.size h3, fun k hk => ⟨(hN k hk).1, Nat.lt_of_lt_of_le (hN k hk).2 h3.size⟩⟩
  exact (h1.rows p hp).base hb.size

/-- A queue of a hall. -/
structure Qu where
  q : Nat
  room : Nat
  limit : Nat
  last : Nat
  L : List En
def QuF (w0 w : World) (Z : List Nat) (x : Qu) : Prop := QF w0 w Z x.q x.room x.limit x.last x.L
/-- A hall's queues in memory: what one of them has is foreign to each other one; G: guests of all. -/
def HQs (w0 w : World) (G : List Nat) (Qs : List Qu) : Prop :=
  (Below w0.heap.size w0 w ∧ ∀ k ∈ G, w0.heap.size ≤ k ∧ k < w.heap.size) ∧ ∃ zf : Nat → List Nat, (∀ i (h : i < Qs.length), QuF w0 w (zf i) Qs[i] ∧ ∀ k ∈ G, k ∈ zf i) ∧
    ∀ i j, i < Qs.length → j < Qs.length → i ≠ j → ∀ k, w0.heap.size ≤ k → k < w.heap.size → k ∈ zf i ∨ k ∈ zf j
/-- The blocks that are new. -/
def newB (w w' : World) : List Nat := (List.range w'.heap.size).filter fun k => decide (w.heap.size ≤ k)
theorem mem_newB {w w' : World} {k : Nat} : k ∈ newB w w' ↔ w.heap.size ≤ k ∧ k < w'.heap.size := by
  unfold newB
  rw [List.mem_filter, List.mem_range, decide_eq_true_eq]
  exact And.comm
section
variable {w0 w w' : World} {G N : List Nat} {Qs : List Qu}
theorem HQs.nil (hb : Below w0.heap.size w0 w) (hG : ∀ k ∈ G, w0.heap.size ≤ k ∧ k < w.heap.size) : HQs w0 w G [] := ⟨⟨hb, hG⟩, fun _ => [], fun i h => absurd h (by simp), fun i j h => absurd h (by simp)⟩
/-- Nothing that was is turned; what is new is a guest of all. -/
theorem HQs.guest (h : HQs w0 w G Qs) (hb : Below w.heap.size w w') (hN : ∀ k ∈ N, w.heap.size ≤ k ∧ k < w'.heap.size) : HQs w0 w' (N ++ G) Qs := by
  obtain ⟨⟨h1, h2⟩, zf, h3, h4⟩ := h
  refine ⟨⟨below_then h1 h1.size hb, fun k hk => ?_⟩, fun i => newB w w' ++ zf i, fun i hi => ⟨(h3 i hi).1.guest hb fun k hk => mem_newB.1 hk, fun k hk => ?_⟩, fun i j hi hj hij k hk1 hk2 => ?_⟩
  · rcases List.mem_append.1 hk with hk | hk
    · exact ⟨Nat.le_trans h1.size (hN k hk).1, (hN k hk).2⟩
    · exact ⟨(h2 k hk).1, Nat.lt_of_lt_of_le (h2 k hk).2 hb.size⟩
  · rcases List.mem_append.1 hk with hk | hk
    · exact List.mem_append_left _ (mem_newB.2 (hN k hk))
    · exact List.mem_append_right _ ((h3 i hi).2 k hk)
  · by_cases hl : k < w.heap.size
    · rcases h4 i j hi hj hij k hk1 hl with h | h
      · exact .inl (List.mem_append_right _ h)
      · exact .inr (List.mem_append_right _ h)
    · exact .inl (List.mem_append_left _ (mem_newB.2 ⟨by omega, hk2⟩))
theorem HQs.below (h : HQs w0 w G Qs) (hb : Below w.heap.size w w') : HQs w0 w' G Qs := h.guest (N := []) hb (by simp)
/-- Guests of all are turned. -/
theorem HQs.zset (h : HQs w0 w G Qs) (t : Tch G w w') : HQs w0 w' G Qs := by
  obtain ⟨⟨h1, h2⟩, zf, h3, h4⟩ := h
  have hb : Below w0.heap.size w0 w' := h1.trans (t.below h1.size fun k hk => (h2 k hk).1)
  refine ⟨⟨hb, fun k hk => ⟨(h2 k hk).1, Nat.lt_of_lt_of_le (h2 k hk).2 t.size⟩⟩, fun i => newB w w' ++ zf i, fun i hi => ⟨?_, fun k hk => List.mem_append_right _ ((h3 i hi).2 k hk)⟩, fun i j hi hj hij k hk1 hk2 => ?_⟩
  · refine QF.other (h3 i hi).1 hb (fun k _ hk2 hk3 => t.block k hk2 fun hm => hk3 ((h3 i hi).2 k hm)) t.size fun k hk => ?_
    rcases List.mem_append.1 hk with hk | hk
    · exact .inr (mem_newB.1 hk)
    · exact .inl hk
  · by_cases hl : k < w.heap.size
    · rcases h4 i j hi hj hij k hk1 hl with h | h
      · exact .inl (List.mem_append_right _ h)
      · exact .inr (List.mem_append_right _ h)
    · exact .inl (List.mem_append_left _ (mem_newB.2 ⟨by omega, hk2⟩))
/-- One of the queues is turned, by a function of its own. -/
theorem hqs_step (h1 : Below w0.heap.size w0 w) (h2 : ∀ k ∈ G, w0.heap.size ≤ k ∧ k < w.heap.size) (zf : Nat → List Nat) (h3 : ∀ i (h : i < Qs.length), QuF w0 w (zf i) Qs[i] ∧ ∀ k ∈ G, k ∈ zf i)
    (h4 : ∀ i j, i < Qs.length → j < Qs.length → i ≠ j → ∀ k, w0.heap.size ≤ k → k < w.heap.size → k ∈ zf i ∨ k ∈ zf j) (i : Nat) (hi : i < Qs.length) (x' : Qu) (hq : QuF w0 w' (zf i) x') (hkz : Kz (zf i) w0 w w') : HQs w0 w' G (Qs.set i x') ∧ ∀ k ∈ G, w'.heap[k]? = w.heap[k]? := by
  refine ⟨⟨⟨hq.old, fun k hk => ⟨(h2 k hk).1, Nat.lt_of_lt_of_le (h2 k hk).2 hkz.size⟩⟩, fun j => if j = i then zf i else newB w w' ++ zf j, fun j hj => ?_, fun a b ha hb hab k hk1 hk2 => ?_⟩, fun k hk => hkz.block k (.inl ((h3 i hi).2 k hk))⟩
  · rw [List.length_set] at hj
    dsimp only
    by_cases hji : j = i
    · subst hji
      rw [if_pos rfl, List.getElem_set_self]
      exact ⟨hq, (h3 j hi).2⟩
    · rw [if_neg hji, List.getElem_set_ne (fun e => hji e.symm)]
      refine ⟨QF.other (h3 j hj).1 hq.old (fun k hk1 hk2 hk3 => ?_) hkz.size fun k hk => ?_, fun k hk => List.mem_append_right _ ((h3 j hj).2 k hk)⟩
      · exact hkz.block k (.inl ((h4 i j hi hj (fun e => hji e.symm) k hk1 hk2).resolve_right hk3))
      · rcases List.mem_append.1 hk with hk | hk
        · exact .inr (mem_newB.1 hk)
        · exact .inl hk
  · rw [List.length_set] at ha hb
    dsimp only
    by_cases hl : k < w.heap.size
    · rcases h4 a b ha hb hab k hk1 hl with h | h
      · refine .inl ?_
        by_cases hai : a = i
        · subst hai; rw [if_pos rfl]; exact h
        · rw [if_neg hai]; exact List.mem_append_right _ h
      · refine .inr ?_
        by_cases hbi : b = i
        · subst hbi; rw [if_pos rfl]; exact h
        · rw [if_neg hbi]; exact List.mem_append_right _ h
    · by_cases hai : a = i
      · refine .inr ?_
        rw [if_neg (fun e => hab (hai.trans e.symm))]
        exact List.mem_append_left _ (mem_newB.2 ⟨by omega, hk2⟩)
      · refine .inl ?_
        rw [if_neg hai]
        exact List.mem_append_left _ (mem_newB.2 ⟨by omega, hk2⟩)
theorem HQs.step (h : HQs w0 w G Qs) (i : Nat) (hi : i < Qs.length) (x' : Qu) : ∃ Z, QuF w0 w Z Qs[i] ∧ (∀ k ∈ G, k ∈ Z) ∧ ∀ w', QuF w0 w' Z x' → Kz Z w0 w w' → HQs w0 w' G (Qs.set i x') ∧ ∀ k ∈ G, w'.heap[k]? = w.heap[k]? := by
  obtain ⟨⟨h1, h2⟩, zf, h3, h4⟩ := h
  exact ⟨zf i, (h3 i hi).1, (h3 i hi).2, fun w' hq hkz => hqs_step h1 h2 zf h3 h4 i hi x' hq hkz⟩
/-- A queue more. -/
theorem HQs.push (h : HQs w0 w G Qs) (hb : Below w.heap.size w w') {x : Qu} (hx : x.L = []) (hq : QuF w w' [] x) : HQs w0 w' G (Qs ++ [x]) := by
  obtain ⟨⟨h1, h2⟩, zf, h3, h4⟩ := h
  have hq2 : QuF w0 w' (newB w0 w) x := by
    unfold QuF at hq ⊢
    rw [hx] at hq ⊢
    exact QF.rebase hq h1 fun k hk => mem_newB.1 hk
  refine ⟨⟨below_then h1 h1.size hb, fun k hk => ⟨(h2 k hk).1, Nat.lt_of_lt_of_le (h2 k hk).2 hb.size⟩⟩, fun i => if i < Qs.length then newB w w' ++ zf i else newB w0 w, fun i hi => ?_, fun i j hi hj hij k hk1 hk2 => ?_⟩
  · dsimp only
    by_cases hl : i < Qs.length
    · rw [if_pos hl, List.getElem_append_left hl]
      exact ⟨(h3 i hl).1.guest hb fun k hk => mem_newB.1 hk, fun k hk => List.mem_append_right _ ((h3 i hl).2 k hk)⟩
    · rw [if_neg hl]
      have he : (Qs ++ [x])[i] = x := by
        have : i = Qs.length := by simp at hi; omega
        subst this
        simp
      rw [he]
      exact ⟨hq2, fun k hk => mem_newB.2 (h2 k hk)⟩
  · simp only [List.length_append, List.length_singleton] at hi hj
    dsimp only
    by_cases hk : k < w.heap.size
    · by_cases hil : i < Qs.length
      · by_cases hjl : j < Qs.length
        · rcases h4 i j hil hjl hij k hk1 hk with h | h
          · exact .inl (by rw [if_pos hil]; exact List.mem_append_right _ h)
          · exact .inr (by rw [if_pos hjl]; exact List.mem_append_right _ h)
        · exact .inr (by rw [if_neg hjl]; exact mem_newB.2 ⟨hk1, hk⟩)
      · exact .inl (by rw [if_neg hil]; exact mem_newB.2 ⟨hk1, hk⟩)
    · by_cases hil : i < Qs.length
      · exact .inl (by rw [if_pos hil]; exact List.mem_append_left _ (mem_newB.2 ⟨by omega, hk2⟩))
      · exact .inr (by rw [if_pos (by omega)]; exact List.mem_append_left _ (mem_newB.2 ⟨by omega, hk2⟩))
end

/-- A config of a queue. -/
structure Cf where
  name : List UInt8
  room : Int
  limit : Int
  dead : List UInt8
  deriving DecidableEq
def cfs (c : Cf) : List Value := [str c.name, .int .i64 c.room, .int .i64 c.limit, str c.dead]
theorem cfs_length (c : Cf) : (cfs c).length = 4 := rfl
/-- What is in a hall: its configs, of each queue the number given last and its items, how many were lost. -/
structure Hs where
  C : List Cf
  Q : List (Nat × List En)
  lost : Nat
/-- The place of a name. -/
def atC (C : List Cf) (name : List UInt8) : Option Nat := C.findIdx? fun c => decide (c.name = name)
def getQ (H : Hs) (i : Nat) : Nat × List En := H.Q.getD i (0, [])
def roomQ (H : Hs) (i : Nat) : Nat := ((H.C[i]?).map fun c => c.room.toNat).getD 0
def limitQ (H : Hs) (i : Nat) : Nat := ((H.C[i]?).map fun c => c.limit.toNat).getD 0
def deadQ (H : Hs) (i : Nat) : List UInt8 := ((H.C[i]?).map (·.dead)).getD []
/-- A queue's Put: what it is then, and the error. -/
def putQ (room last : Nat) (L : List En) (m : Mg) (now : Int) : (Nat × List En) × Nat :=
  if okMg m = false then ((last, L), 1) else if L.length = room then ((last, L), 4) else ((last + 1, L ++ [newE last m now]), 0)
/-- A message is put into a hall. -/
def putH (H : Hs) (name : List UInt8) (m : Mg) (now : Int) : Hs × Nat :=
  match atC H.C name with
  | none => (H, 5)
  | some i =>
    let r := putQ (roomQ H i) (getQ H i).1 (getQ H i).2 m now
    ({ H with Q := H.Q.set i r.1 }, r.2)
def stale (m : Mg) : Mg := { m with ttl := 0, cnt := 0 }
/-- A dead message of the queue at i goes where it goes. -/
def buryH (H : Hs) (i : Nat) (m : Mg) (now : Int) : Hs :=
  let r := putH H (deadQ H i) (stale m) now
  if r.2 = 0 then r.1 else { H with lost := H.lost + 1 }
def acqH (H : Hs) (name : List UInt8) (now : Int) : Hs × Option En :=
  match atC H.C name with
  | none => (H, none)
  | some i =>
    match acqQ (getQ H i).2 now with
    | none => (H, none)
    | some e => ({ H with Q := H.Q.set i ((getQ H i).1, modL (holdE e) (getQ H i).2) }, some e)
def setH (H : Hs) (name : List UInt8) (id : Int) (o : Oc) (now : Int) : Hs × Nat :=
  match atC H.C name with
  | none => (H, 5)
  | some i =>
    let r := setQ (limitQ H i) (getQ H i).2 id o
    let H1 : Hs := { H with Q := H.Q.set i ((getQ H i).1, r.1) }
    match r.2.2 with
    | none => (H1, r.2.1)
    | some e => (buryH H1 i e.m now, r.2.1)
/-- The queue at i lets its old messages go. -/
def tick1 (H : Hs) (now : Int) (i : Nat) : Hs :=
  (expL (getQ H i).2 now).foldl (fun H e => buryH H i e.m now) { H with Q := H.Q.set i ((getQ H i).1, expQ (getQ H i).2 now) }
def tickH (H : Hs) (now : Int) : Hs := (List.range H.C.length).foldl (fun H i => tick1 H now i) H
def listH (H : Hs) (name : List UInt8) : Option (List Mg) := (atC H.C name).map fun i => (ordQ false (getQ H i).2).map (·.m)
/-- May there be such a hall? 0: it may; 1: what is wrong; 8: a name twice. -/
def okCf (c : Cf) : Bool := decide (1 ≤ c.name.length ∧ c.name.length ≤ 64 ∧ 1 ≤ c.room ∧ c.room ≤ 64 ∧ 0 ≤ c.limit ∧ c.limit ≤ 1000)
def deadOk (C : List Cf) (c : Cf) : Bool := decide (c.dead = []) || (match atC C c.dead with | none => false | some k => decide (c.dead ≠ c.name) && decide (((C[k]?).map (·.dead)).getD [] = []))
def newH (C : List Cf) : Nat :=
  if C.length < 1 ∨ 8 < C.length then 1
  else if C.all okCf = false then 1
  else if (C.map (·.name)).Nodup then (if C.all (deadOk C) then 0 else 1) else 8

theorem zero_qp (w : World) : (zeroValue 78).run Try.prog w = .ok (.pointer none) w := by kernel_rfl
/-- Where the queue of a name lies. -/
def qAt (C : List Cf) (Qs : List Qu) (name : List UInt8) : Option Addr := ((atC C name).bind fun i => Qs[i]?).map fun x => ⟨x.q, 0, none⟩
/-- A hall in memory. -/
structure HF (w0 w : World) (G : List Nat) (h : Nat) (C : List Cf) (Qs : List Qu) (lost : Nat) : Prop where
  ex : ∃ (cv : Value) (r : Nat) (D : List (List UInt8 × Value)), Bx w h 77 [cv, .map (some r), .int .i64 lost] ∧ OwnC 23 4 (fun _ => True) w w0.heap.size cv C.length (C.flatMap cfs) ∧ MapS str w r D ∧
    (∀ n, luk D n = (qAt C Qs n).map fun a => .pointer (some a)) ∧ HQs w0 w ((h :: r :: cv.ownBlock.toList) ++ G) Qs ∧ ∀ k ∈ G, k ∉ h :: r :: cv.ownBlock.toList
  len : Qs.length = C.length
  par : ∀ i (h1 : i < Qs.length) (h2 : i < C.length), (C[i]).room = (Qs[i]).room ∧ (C[i]).limit = (Qs[i]).limit
  few : C.length ≤ 8
section
variable {w0 w w' : World} {G N : List Nat} {h lost : Nat} {C : List Cf} {Qs : List Qu}
theorem HF.guest (hf : HF w0 w G h C Qs lost) (hb : Below w.heap.size w w') (hN : ∀ k ∈ N, w.heap.size ≤ k ∧ k < w'.heap.size) : HF w0 w' (N ++ G) h C Qs lost := by
  obtain ⟨⟨cv, r, D, h1, h2, h3, h4, h5⟩, h6, h7, h8⟩ := hf
  refine ⟨⟨cv, r, D, h1.below hb, h2.below hb, h3.tch (Tch.of_below [] hb) (by simp), h4, ?_, fun k hk => ?_⟩, h6, h7, h8⟩
  rotate_left
  · rcases List.mem_append.1 hk with hk | hk
    · intro hm
      have := (h5.1.1.2 k (List.mem_append_left _ hm)).2
      have := (hN k hk).1
      omega
    · exact h5.2 k hk
  obtain ⟨⟨g1, g2⟩, zf, g3, g4⟩ := h5.1.guest hb hN
  have hm : ∀ k ∈ (h :: r :: cv.ownBlock.toList) ++ (N ++ G), k ∈ N ++ ((h :: r :: cv.ownBlock.toList) ++ G) := fun k hk => by
    simp only [List.mem_append] at hk ⊢
    rcases hk with h | h | h
    · exact .inr (.inl h)
    · exact .inl h
    · exact .inr (.inr h)
  exact ⟨⟨g1, fun k hk => g2 k (hm k hk)⟩, zf, fun i hi => ⟨(g3 i hi).1, fun k hk => (g3 i hi).2 k (hm k hk)⟩, g4⟩
theorem HF.less {G' : List Nat} (hf : HF w0 w G h C Qs lost) (hs : ∀ k ∈ G', k ∈ G) : HF w0 w G' h C Qs lost := by
  obtain ⟨⟨cv, r, D, h1, h2, h3, h4, ⟨⟨g1, g2⟩, zf, g3, g4⟩, h5⟩, h6, h7, h8⟩ := hf
  have hm : ∀ k ∈ (h :: r :: cv.ownBlock.toList) ++ G', k ∈ (h :: r :: cv.ownBlock.toList) ++ G := fun k hk => by
    rcases List.mem_append.1 hk with hk | hk
    · exact List.mem_append_left _ hk
    · exact List.mem_append_right _ (hs k hk)
  exact ⟨⟨cv, r, D, h1, h2, h3, h4, ⟨⟨g1, fun k hk => g2 k (hm k hk)⟩, zf, fun i hi => ⟨(g3 i hi).1, fun k hk => (g3 i hi).2 k (hm k hk)⟩, g4⟩, fun k hk => h5 k (hs k hk)⟩, h6, h7, h8⟩
/-- Guests are turned. -/
theorem HF.zset (hf : HF w0 w G h C Qs lost) (t : Tch G w w') : HF w0 w' G h C Qs lost := by
  obtain ⟨⟨cv, r, D, h1, h2, h3, h4, h5, h9⟩, h6, h7, h8⟩ := hf
  have hk : ∀ k ∈ h :: r :: cv.ownBlock.toList, w'.heap[k]? = w.heap[k]? := fun k hk => t.block k (h5.1.2 k (List.mem_append_left _ hk)).2 fun hm => h9 k hm hk
  exact ⟨⟨cv, r, D, h1.keep (hk _ (by simp)), h2.keep fun k hm => hk k (by simp [hm]), h3.keep (hk _ (by simp)), h4, h5.zset (t.mono fun k hk => List.mem_append_right _ hk), h9⟩, h6, h7, h8⟩
theorem HF.below (hf : HF w0 w G h C Qs lost) (hb : Below w.heap.size w w') : HF w0 w' G h C Qs lost := hf.guest (N := []) hb (by simp)

set_option maxRecDepth 100000 in
theorem hqueue_calls (hf : HF w0 w G h C Qs lost) (name : List UInt8) :
    Calls Try.prog 47 #[.pointer (some ⟨h, 0, none⟩), str name] w fun e w' => e = .returned (.pointer (qAt C Qs name)) ∧ w = w' := by
  obtain ⟨⟨cv, r, D, h1, h2, h3, h4, h5⟩, -, -, -⟩ := hf
  have c1 := h1.cell 1 _ rfl
  have hl := h3.look Try.underlying75 keyStr name _ (zero_qp _) false
  rw [h4] at hl
  have hv : ((qAt C Qs name).map fun a => Value.pointer (some a)).getD (.pointer none) = .pointer (qAt C Qs name) := by cases qAt C Qs name <;> rfl
  simp only [Bool.false_eq_true, if_false, hv] at hl
  obtain ⟨P, hP⟩ : ∃ P, qAt C Qs name = P := ⟨_, rfl⟩
  rw [hP] at hl ⊢
  unfold str at hl ⊢
  clear h1 h2 h3 h4 h5 hv hP
  go_enter Try.func47, Try.ntmps47
  go_wp2_with fail
  go_ret
  exact ⟨rfl, rfl⟩
theorem hqueue_nil (name : List UInt8) (w : World) :
    Calls Try.prog 47 #[.pointer none, str name] w fun e w' => e = .returned (.pointer none) ∧ w = w' := by
  unfold str
  go_enter Try.func47, Try.ntmps47
  go_wp2_with fail
  go_ret
  exact ⟨rfl, rfl⟩
theorem hlost_calls (hf : HF w0 w G h C Qs lost) :
    Calls Try.prog 20 #[.pointer (some ⟨h, 0, none⟩)] w fun e w' => e = .returned (.int .i64 lost) ∧ w = w' := by
  obtain ⟨⟨cv, r, D, h1, h2, h3, h4, h5⟩, -, -, -⟩ := hf
  have c2 := h1.cell 2 _ rfl
  clear h1 h2 h3 h4 h5
  go_enter Try.func20, Try.ntmps20
  go_wp2_with fail
  go_ret
  exact ⟨rfl, rfl⟩
theorem hlost_nil (w : World) :
    Calls Try.prog 20 #[.pointer none] w fun e w' => e = .returned (.int .i64 0) ∧ w = w' := by
  go_enter Try.func20, Try.ntmps20
  go_wp2_with fail
  go_ret
  exact ⟨rfl, rfl⟩
end
end Go.Proofs.Ytklgndmndnmdpaa

import Derived.Test.YtklgndmndnmdpaaQHead
set_option linter.unusedVariables false
set_option linter.unusedSimpArgs false
namespace Go.Proofs.Ytklgndmndnmdpaa
open Go.RowKit Go.Shelf

/-- The blocks of Z stay. -/
def ZK (Z : List Nat) (W W' : World) : Prop := W.heap.size ≤ W'.heap.size ∧ ∀ k ∈ Z, W'.heap[k]? = W.heap[k]?
theorem ZK.refl (Z : List Nat) (W : World) : ZK Z W W := ⟨Nat.le_refl _, fun _ _ => rfl⟩
theorem ZK.trans {Z : List Nat} {A B C : World} (h : ZK Z A B) (k : ZK Z B C) : ZK Z A C := ⟨Nat.le_trans h.1 k.1, fun j hj => (k.2 j hj).trans (h.2 j hj)⟩
/-- What is said of a world beside guests: new blocks may become guests, guests may turn and go. -/
structure Clo {β : Type} (I : β → List Nat → World → Prop) : Prop where
  guest : ∀ s Z N W W', I s Z W → Below W.heap.size W W' → (∀ k ∈ N, W.heap.size ≤ k ∧ k < W'.heap.size) → I s (N ++ Z) W'
  zset : ∀ s Z W W', I s Z W → Tch Z W W' → I s Z W'
  sub : ∀ s Z Z' W, I s Z W → (∀ k ∈ Z', k ∈ Z) → I s Z' W
def RndZ {α : Type} (J Jx : List α → List Nat → World → Prop) (xs : List α) (Z : List Nat) (W : World) (e : Ending) (W' : World) : Prop :=
  ZK Z W W' ∧ ((e = .returned (.bool true) ∧ J xs Z W') ∨ (e = .returned (.bool false) ∧ Jx xs Z W'))
/-- A contract of an iterator: it hands on x behind pre only where V pre x; between two rounds the world is as R says. -/
def SqZ {α : Type} (F : Fence) (P : Program) (g : Nat) (lb : Array Value) (encs : α → Array Value) (R : List α → World → Prop) (V : List α → α → Prop) (S : List α → Prop) (w : World) : Prop :=
  ∀ (n l : Nat) (J Jx : List α → List Nat → World → Prop) (W : World), Below w.heap.size w W → Clo J → Clo Jx → (∀ pre Z W', J pre Z W' → R pre W') →
    (∀ m pre x Z W1, J pre Z W1 → V pre x → YieldAt F m P l (encs x) W1 (RndZ J Jx (pre ++ [x]) Z W1)) → J [] [] W →
    CallsIn F n P g (#[.func (.yield l) #[] #[]] ++ lb) W fun e W' => (∃ v, e = .returned v) ∧ ((∃ xs, S xs ∧ J xs [] W') ∨ ∃ pre, Jx pre [] W')
/-- How the body of a round may be left. -/
def BodZ {α : Type} (Z : List Nat) (I : List α → List Nat → World → Prop) (Ix : Code → List α → List Nat → World → Prop) (xs : List α) (W : World) : Exit → Act → World → Prop
  | .normal, _, W' => ZK Z W W' ∧ I xs Z W'
  | .ret, _, W' => ZK Z W W' ∧ Ix .ret xs Z W'
  | .exit id, _, W' => ZK Z W W' ∧ Ix (.exit id) xs Z W'
  | .goto t, _, W' => ZK Z W W' ∧ Ix (.goto t) xs Z W'
  | .panic _, _, _ => False
  | .outgrown, _, _ => False

variable {F : Fence} {n : Nat} {P : Program}
theorem tch_put (W : World) (l : Nat) (o : Obj) : Tch [l] W (W.putObj l o) := by
  have h := grownBy_putObj' W l o
  exact ⟨h.os, h.tape, h.output, h.size, fun k hk hn => h.block k hk (fun e => hn (by cases e; simp))⟩
/-- One round of a loop whose record lies at l; Ds: other blocks of the loop's. -/
theorem round_z {α : Type} {ps : Array Tmp} {assign body : Code} {fn : FuncId} {tmps : Array Value} {D l : Nat} {Ds : List Nat} {encs : α → Array Value} {I : List α → List Nat → World → Prop} {Ix : Code → List α → List Nat → World → Prop} {a₁ : α → Act} {pre : List α} {x : α} {Z : List Nat} {W : World} {K : World → Prop} {m : Nat}
    (hps : (encs x).size = ps.size) (hfn : F.fn fn) (hI : Clo I) (hIx : ∀ c, Clo (Ix c)) (hlD : l ∉ Ds) (hKk : ∀ W W', K W → (∀ k ∈ Ds, W'.heap[k]? = W.heap[k]?) → K W')
    (hassign : ∀ (W : World) (K : Act → World → Prop), K (a₁ x) W → assign.wpIn (F.inRound l) m P (Exit.then K (fun _ _ _ => False)) { tmps := (ps.zip (encs x)).foldl (fun t (p, v) => t.setIfInBounds p v) tmps, defers := [] } W)
    (hbody : ∀ (W : World), (∃ r, W.heap[l]? = some (.loop r)) → I pre (l :: (Ds ++ Z)) W → body.wpIn (F.inRound l) m P (BodZ (l :: (Ds ++ Z)) I Ix (pre ++ [x]) W) (a₁ x) W)
    (hi : I pre (l :: (Ds ++ Z)) W) (hk : K W) (hlZ : l ∉ Z ∧ ∀ d ∈ Ds, d ∉ Z) (hl : W.heap[l]? = some (.loop { state := .ready, pending := none, fn, tmps, params := ps, assign, body, defers := D })) :
    YieldAt F m P l (encs x) W (RndZ (fun pre Z W => I pre (l :: (Ds ++ Z)) W ∧ W.heap[l]? = some (.loop { state := .ready, pending := none, fn, tmps, params := ps, assign, body, defers := D }) ∧ K W ∧ l ∉ Z ∧ ∀ d ∈ Ds, d ∉ Z)
      (fun pre Z W => ∃ c, Ix c pre (l :: (Ds ++ Z)) W ∧ W.heap[l]? = some (.loop { state := .done, pending := some c, fn, tmps, params := ps, assign, body, defers := D }) ∧ K W ∧ l ∉ Z ∧ ∀ d ∈ Ds, d ∉ Z) (pre ++ [x]) Z W) := by
  have hlt := (Array.getElem?_eq_some_iff.1 hl).1
  refine ⟨fn, _, assign, body, run_yield hl hps, roundIn_of_wpIn hfn (hassign W _ ⟨_, run_beginRound hl rfl, ?_⟩)⟩
  have hl2 := World.putObj_heap_same (w := W) (o := .loop { state := .busy, pending := none, fn, tmps, params := ps, assign, body, defers := D }) hlt
  have tl : ∀ (A : World) (o : Obj), Tch (l :: (Ds ++ Z)) A (A.putObj l o) := fun A o => (tch_put A l o).mono (fun k hk => by simp at hk; simp [hk])
  have oth : ∀ (A : World) (o : Obj) (k : Nat), k ≠ l → (A.putObj l o).heap[k]? = A.heap[k]? := fun A o k h => World.putObj_heap_other h
  refine wpIn_mono (hbody _ ⟨_, hl2⟩ (hI.zset _ _ _ _ hi (tl _ _))) ?_
  have fin : ∀ (jump : Option Code) (W3 : World), ZK (l :: (Ds ++ Z)) (W.putObj l (.loop { state := .busy, pending := none, fn, tmps, params := ps, assign, body, defers := D })) W3 → ∃ st, (st = if jump.isNone then LoopState.ready else LoopState.done) ∧
      (Instr.endRound l jump).run P W3 = .ok (.bool jump.isNone) (W3.putObj l (.loop { state := st, pending := jump, fn, tmps, params := ps, assign, body, defers := D })) ∧
      (W3.putObj l (.loop { state := st, pending := jump, fn, tmps, params := ps, assign, body, defers := D })).heap[l]? = some (.loop { state := st, pending := jump, fn, tmps, params := ps, assign, body, defers := D }) ∧
      K (W3.putObj l (.loop { state := st, pending := jump, fn, tmps, params := ps, assign, body, defers := D })) ∧
      ZK Z W (W3.putObj l (.loop { state := st, pending := jump, fn, tmps, params := ps, assign, body, defers := D })) := fun jump W3 hk3 => by
    have hl3 := (hk3.2 l (by simp)).trans hl2
    refine ⟨_, rfl, run_endRound jump hl3, World.putObj_heap_same (Array.getElem?_eq_some_iff.1 hl3).1, hKk _ _ hk (fun k hkD => ?_), ?_, fun k hkZ => ?_⟩
    · have hne : k ≠ l := fun e => hlD (by rw [← e]; exact hkD)
      rw [oth _ _ _ hne, hk3.2 k (by simp [hkD]), oth _ _ _ hne]
    · have := hk3.1
      simpa using this
    · have hne : k ≠ l := fun e => hlZ.1 (by rw [← e]; exact hkZ)
      rw [oth _ _ _ hne, hk3.2 k (by simp [hkZ]), oth _ _ _ hne]
  rintro e a3 W3 hp
  cases e with
  | normal =>
    obtain ⟨hk3, hi3⟩ := hp
    obtain ⟨st, rfl, hr, hl4, hk4, hkf⟩ := fin none W3 hk3
    exact ⟨_, _, hr, hkf, .inl ⟨rfl, hI.zset _ _ _ _ hi3 (tl _ _), hl4, hk4, hlZ⟩⟩
  | ret =>
    obtain ⟨hk3, hi3⟩ := hp
    obtain ⟨st, rfl, hr, hl4, hk4, hkf⟩ := fin (some .ret) W3 hk3
    exact ⟨_, _, hr, hkf, .inr ⟨rfl, .ret, (hIx _).zset _ _ _ _ hi3 (tl _ _), hl4, hk4, hlZ⟩⟩
  | exit id =>
    obtain ⟨hk3, hi3⟩ := hp
    obtain ⟨st, rfl, hr, hl4, hk4, hkf⟩ := fin (some (.exit id)) W3 hk3
    exact ⟨_, _, hr, hkf, .inr ⟨rfl, .exit id, (hIx _).zset _ _ _ _ hi3 (tl _ _), hl4, hk4, hlZ⟩⟩
  | goto t =>
    obtain ⟨hk3, hi3⟩ := hp
    obtain ⟨st, rfl, hr, hl4, hk4, hkf⟩ := fin (some (.goto t)) W3 hk3
    exact ⟨_, _, hr, hkf, .inr ⟨rfl, .goto t, (hIx _).zset _ _ _ _ hi3 (tl _ _), hl4, hk4, hlZ⟩⟩
  | panic ch => exact hp.elim
  | outgrown => exact hp.elim

/-- The state of a loop, told to its iterator, has the closures. -/
theorem clo_loop {α : Type} {I : List α → List Nat → World → Prop} (hI : Clo I) {l : Nat} {Ds : List Nat} {o : Obj} {K : World → Prop} (hKk : ∀ W W', K W → (∀ k ∈ Ds, W'.heap[k]? = W.heap[k]?) → K W') (hKd : ∀ W, K W → ∀ k ∈ Ds, k < W.heap.size) :
    Clo (fun (pre : List α) (Z : List Nat) W => I pre (l :: (Ds ++ Z)) W ∧ W.heap[l]? = some o ∧ K W ∧ l ∉ Z ∧ ∀ d ∈ Ds, d ∉ Z) := by
  refine ⟨fun s Z N W W' h hb hN => ?_, fun s Z W W' h t => ?_, fun s Z Z' W h hs => ?_⟩
  · obtain ⟨h1, h2, h3, h4, h5⟩ := h
    have hl := (Array.getElem?_eq_some_iff.1 h2).1
    refine ⟨hI.sub _ _ _ _ (hI.guest _ _ _ _ _ h1 hb hN) (fun k hk => by simp at hk ⊢; rcases hk with h | h | h | h <;> simp [h]), (hb.block _ hl).trans h2, hKk _ _ h3 (fun k hk => hb.block _ (hKd _ h3 k hk)), fun hm => ?_, fun d hd hm => ?_⟩
    · rcases List.mem_append.1 hm with e | e
      · have := (hN _ e).1; omega
      · exact h4 e
    · rcases List.mem_append.1 hm with e | e
      · have := (hN _ e).1; have := hKd _ h3 d hd; omega
      · exact h5 d hd e
  · obtain ⟨h1, h2, h3, h4, h5⟩ := h
    exact ⟨hI.zset _ _ _ _ h1 (t.mono (fun k hk => by simp [hk])), (t.block _ (Array.getElem?_eq_some_iff.1 h2).1 h4).trans h2, hKk _ _ h3 (fun k hk => t.block _ (hKd _ h3 k hk) (h5 k hk)), h4, h5⟩
  · obtain ⟨h1, h2, h3, h4, h5⟩ := h
    exact ⟨hI.sub _ _ _ _ h1 (fun k hk => by simp at hk ⊢; rcases hk with h | h | h; exact .inl h; exact .inr (.inl h); exact .inr (.inr (hs k h))), h2, h3, fun hm => h4 (hs _ hm), fun d hd hm => h5 d hd (hs _ hm)⟩
theorem clo_some {α γ : Type} {J : γ → List α → List Nat → World → Prop} (h : ∀ c, Clo (J c)) : Clo (fun (pre : List α) (Z : List Nat) W => ∃ c, J c pre Z W) :=
  ⟨fun s Z N W W' ⟨c, h1⟩ hb hN => ⟨c, (h c).guest _ _ _ _ _ h1 hb hN⟩, fun s Z W W' ⟨c, h1⟩ t => ⟨c, (h c).zset _ _ _ _ h1 t⟩, fun s Z Z' W ⟨c, h1⟩ hs => ⟨c, (h c).sub _ _ _ _ h1 hs⟩⟩

/-- A range over a function at the outermost level. -/
theorem range_outer {α : Type} {g : Operand} {ps : Array Tmp} {assign body : Code} {Q : Exit → Act → World → Prop} {a : Act} {w w0 : World} {gf : Nat} {lb : Array Value} {encs : α → Array Value} {R : List α → World → Prop} {V : List α → α → Prop} {S : List α → Prop}
    (hro : F.round = none) (hd : F.depth = none) (hg : a.eval g = .func (.func gf) #[] lb) (hFg : F.fn gf) (eg : ∀ args w, (callFunc gf args).run P w = .ok (.enter gf args) w) (hseq : SqZ F P gf lb encs R V S w0) (hb0 : Below w0.heap.size w0 w) (hps : ∀ x, (encs x).size = ps.size)
    (I : List α → List Nat → World → Prop) (Ix : Code → List α → List Nat → World → Prop) (hI : Clo I) (hIx : ∀ c, Clo (Ix c)) (h0 : I [] [] w) (hIR : ∀ pre Z W, I pre Z W → R pre W) (a₁ : α → Act)
    (hassign : ∀ (l : Nat) (x : α) (W : World) (K : Act → World → Prop), K (a₁ x) W → assign.wpIn (F.inRound l) (n - 1 - 1) P (Exit.then K (fun _ _ _ => False)) { tmps := (ps.zip (encs x)).foldl (fun t (p, v) => t.setIfInBounds p v) a.tmps, defers := [] } W)
    (hbody : ∀ (l : Nat) (pre : List α) (x : α) (Z : List Nat) (W : World), V pre x → l ∈ Z → (∃ r, W.heap[l]? = some (.loop r)) → I pre Z W → body.wpIn (F.inRound l) (n - 1 - 1) P (BodZ Z I Ix (pre ++ [x]) W) (a₁ x) W)
    (hdone : ∀ (D : Nat) (xs : List α) (W : World), w.heap.size ≤ D → S xs → I xs [D] W → W.heap[D]? = some (.deferred (some [])) → Q .normal { a with defers := { target := .collected D, args := #[] } :: a.defers } W)
    (hstop : ∀ (D : Nat) (c : Code) (pre : List α) (W : World), w.heap.size ≤ D → Ix c pre [D] W → W.heap[D]? = some (.deferred (some [])) → c.wpIn F n P Q { a with defers := { target := .collected D, args := #[] } :: a.defers } W) :
    (Code.rangeFunc g ps assign body).wpIn F n P Q a w := by
  refine wpIn_rangeFunc ?_
  intro fn hfn
  rw [hro]
  obtain ⟨rec, hrec⟩ : ∃ rec : LoopState → Option Code → Loop, rec = fun st pe => { state := st, pending := pe, fn, tmps := a.tmps, params := ps, assign, body, defers := w.heap.size } := ⟨_, rfl⟩
  obtain ⟨W1, hW1⟩ : ∃ W1, (w.alloc (.deferred (some []))).alloc (.loop (rec .ready none)) = W1 := ⟨_, rfl⟩
  have hs1 : W1.heap.size = w.heap.size + 2 := by rw [← hW1]; simp
  have hL1 : W1.heap[w.heap.size + 1]? = some (.loop (rec .ready none)) := by
    rw [← hW1]; have := World.alloc_heap_new (w.alloc (.deferred (some []))) (.loop (rec .ready none)); rwa [World.size_alloc] at this
  have hK1 : W1.heap[w.heap.size]? = some (.deferred (some [])) := by
    rw [← hW1]; exact (Below.heap_alloc _ _ _ (by simp)).trans (World.alloc_heap_new w _)
  have hbw : Below w.heap.size w W1 := by rw [← hW1]; exact ((Below.refl _ w).alloc (Nat.le_refl _) _).alloc (by simp) _
  have hI1 : I [] ((w.heap.size + 1) :: ([w.heap.size] ++ [])) W1 := by
    refine hI.sub _ _ _ _ (hI.guest _ _ [w.heap.size + 1, w.heap.size] _ _ h0 hbw (fun k hk => by simp at hk; omega)) (fun k hk => by simpa using hk)
  have hb1 : Below w0.heap.size w0 W1 := hb0.trans (hbw.mono hb0.size)
  refine ⟨w.heap.size + 1, [{ target := .collected w.heap.size, args := #[] }], W1, { target := .fn (.func gf) lb, args := #[.func (.yield (w.heap.size + 1)) #[] #[]] }, W1, gf,
    #[.func (.yield (w.heap.size + 1)) #[] #[]] ++ lb, W1, ?_, ?_, ?_, ?_, (fun h => by rw [hd] at h; cases h), ?_⟩
  · rw [← hW1, hrec]; exact run_enterLoop_outer _ _ _ _ _
  · simp only [resolve, hg]
    simp [go_sem]
  · intro f' hf'; simp [Target.leads] at hf'; subst hf'; exact hFg
  · simp [invoke, go_sem, eg]
  obtain ⟨K, hK⟩ : ∃ K : World → Prop, K = fun W => W.heap[w.heap.size]? = some (.deferred (some [])) := ⟨_, rfl⟩
  have hKk : ∀ W W', K W → (∀ k ∈ [w.heap.size], W'.heap[k]? = W.heap[k]?) → K W' := fun W W' h k => by rw [hK] at h ⊢; exact (k _ (by simp)).trans h
  have hKd : ∀ W, K W → ∀ k ∈ [w.heap.size], k < W.heap.size := fun W h k hk => by rw [hK] at h; simp at hk; rw [hk]; exact (Array.getElem?_eq_some_iff.1 h).1
  refine (hseq (n - 1) (w.heap.size + 1) (fun pre Z W => I pre ((w.heap.size + 1) :: ([w.heap.size] ++ Z)) W ∧ W.heap[w.heap.size + 1]? = some (.loop (rec .ready none)) ∧ K W ∧ w.heap.size + 1 ∉ Z ∧ ∀ d ∈ [w.heap.size], d ∉ Z)
    (fun pre Z W => ∃ c, Ix c pre ((w.heap.size + 1) :: ([w.heap.size] ++ Z)) W ∧ W.heap[w.heap.size + 1]? = some (.loop (rec .done (some c))) ∧ K W ∧ w.heap.size + 1 ∉ Z ∧ ∀ d ∈ [w.heap.size], d ∉ Z) W1 hb1
    (clo_loop hI hKk hKd) (clo_some fun c => clo_loop (hIx c) hKk hKd) (fun pre Z W' h => hIR _ _ _ h.1) (fun m pre x Z W hJ hv => ?_) ⟨hI1, hL1, by rw [hK]; exact hK1, by simp, by simp⟩).mono ?_
  · rw [hrec] at hJ ⊢
    exact YieldAt.anyDepth' hd m (round_z (m := n - 1 - 1) (hps x) hfn hI hIx (by simp) hKk (hassign _ x) (fun W hr hi => hbody _ pre x _ W hv (by simp) hr hi) hJ.1 hJ.2.2.1 hJ.2.2.2 hJ.2.1)
  · rintro e W2 ⟨⟨v, rfl⟩, (⟨xs, hS, hi, hl, hk, -⟩ | ⟨pre, c, hi, hl, hk, -⟩)⟩
    · rw [hK] at hk
      refine ⟨none, _, by have := run_endLoop (P := P) hl (by rw [hrec]; simp); rw [hrec] at this; exact this, hdone _ xs _ (Nat.le_refl _) hS (hI.sub _ _ _ _ (hI.zset _ _ _ _ hi ((tch_put _ _ _).mono (fun k hk => by simp at hk; simp [hk]))) (fun k hk => by simp at hk; simp [hk])) ((World.putObj_heap_other (by omega)).trans hk)⟩
    · rw [hK] at hk
      refine ⟨some c, _, by have := run_endLoop (P := P) hl (by rw [hrec]; simp); rw [hrec] at this; exact this, hstop _ c pre _ (Nat.le_refl _) ((hIx c).sub _ _ _ _ ((hIx c).zset _ _ _ _ hi ((tch_put _ _ _).mono (fun k hk => by simp at hk; simp [hk]))) (fun k hk => by simp at hk; simp [hk])) ((World.putObj_heap_other (by omega)).trans hk)⟩

/-- A range over a function within a round of loop l₀. -/
theorem range_inner {α : Type} {g : Operand} {ps : Array Tmp} {assign body : Code} {Q : Exit → Act → World → Prop} {a : Act} {w w0 : World} {gf : Nat} {lb : Array Value} {encs : α → Array Value} {R : List α → World → Prop} {V : List α → α → Prop} {S : List α → Prop} {l₀ : Nat} {r₀ : Loop}
    (hro : F.round = some l₀) (hl₀ : w.heap[l₀]? = some (.loop r₀)) (hd : F.depth = none) (hg : a.eval g = .func (.func gf) #[] lb) (hFg : F.fn gf) (eg : ∀ args w, (callFunc gf args).run P w = .ok (.enter gf args) w) (hseq : SqZ F P gf lb encs R V S w0) (hb0 : Below w0.heap.size w0 w) (hps : ∀ x, (encs x).size = ps.size)
    (I : List α → List Nat → World → Prop) (Ix : Code → List α → List Nat → World → Prop) (hI : Clo I) (hIx : ∀ c, Clo (Ix c)) (h0 : I [] [] w) (hIR : ∀ pre Z W, I pre Z W → R pre W) (a₁ : α → Act)
    (hassign : ∀ (l : Nat) (x : α) (W : World) (K : Act → World → Prop), K (a₁ x) W → assign.wpIn (F.inRound l) (n - 1 - 1) P (Exit.then K (fun _ _ _ => False)) { tmps := (ps.zip (encs x)).foldl (fun t (p, v) => t.setIfInBounds p v) a.tmps, defers := [] } W)
    (hbody : ∀ (l : Nat) (pre : List α) (x : α) (Z : List Nat) (W : World), V pre x → l ∈ Z → (∃ r, W.heap[l]? = some (.loop r)) → I pre Z W → body.wpIn (F.inRound l) (n - 1 - 1) P (BodZ Z I Ix (pre ++ [x]) W) (a₁ x) W)
    (hdone : ∀ (xs : List α) (W : World), S xs → I xs [] W → Q .normal a W)
    (hstop : ∀ (c : Code) (pre : List α) (W : World), Ix c pre [] W → c.wpIn F n P Q a W) :
    (Code.rangeFunc g ps assign body).wpIn F n P Q a w := by
  refine wpIn_rangeFunc ?_
  intro fn hfn
  rw [hro]
  obtain ⟨rec, hrec⟩ : ∃ rec : LoopState → Option Code → Loop, rec = fun st pe => { state := st, pending := pe, fn, tmps := a.tmps, params := ps, assign, body, defers := r₀.defers } := ⟨_, rfl⟩
  obtain ⟨W1, hW1⟩ : ∃ W1, w.alloc (.loop (rec .ready none)) = W1 := ⟨_, rfl⟩
  have hs1 : W1.heap.size = w.heap.size + 1 := by rw [← hW1]; simp
  have hL1 : W1.heap[w.heap.size]? = some (.loop (rec .ready none)) := by rw [← hW1]; exact World.alloc_heap_new w _
  have hbw : Below w.heap.size w W1 := by rw [← hW1]; exact (Below.refl _ w).alloc (Nat.le_refl _) _
  have hI1 : I [] (w.heap.size :: ([] ++ [])) W1 := by
    refine hI.sub _ _ _ _ (hI.guest _ _ [w.heap.size] _ _ h0 hbw (fun k hk => by simp at hk; omega)) (fun k hk => by simpa using hk)
  have hb1 : Below w0.heap.size w0 W1 := hb0.trans (hbw.mono hb0.size)
  refine ⟨w.heap.size, [], W1, { target := .fn (.func gf) lb, args := #[.func (.yield w.heap.size) #[] #[]] }, W1, gf,
    #[.func (.yield w.heap.size) #[] #[]] ++ lb, W1, ?_, ?_, ?_, ?_, (fun h => by rw [hd] at h; cases h), ?_⟩
  · rw [← hW1, hrec]; exact run_enterLoop_inner hl₀ _ _ _ _ _
  · simp only [resolve, hg]
    simp [go_sem]
  · intro f' hf'; simp [Target.leads] at hf'; subst hf'; exact hFg
  · simp [invoke, go_sem, eg]
  have hKk : ∀ W W' : World, True → (∀ k ∈ ([] : List Nat), W'.heap[k]? = W.heap[k]?) → True := fun _ _ _ _ => trivial
  have hKd : ∀ W : World, True → ∀ k ∈ ([] : List Nat), k < W.heap.size := fun _ _ k hk => by cases hk
  refine (hseq (n - 1) w.heap.size (fun pre Z W => I pre (w.heap.size :: ([] ++ Z)) W ∧ W.heap[w.heap.size]? = some (.loop (rec .ready none)) ∧ True ∧ w.heap.size ∉ Z ∧ ∀ d ∈ ([] : List Nat), d ∉ Z)
    (fun pre Z W => ∃ c, Ix c pre (w.heap.size :: ([] ++ Z)) W ∧ W.heap[w.heap.size]? = some (.loop (rec .done (some c))) ∧ True ∧ w.heap.size ∉ Z ∧ ∀ d ∈ ([] : List Nat), d ∉ Z) W1 hb1
    (clo_loop (K := fun _ => True) hI hKk hKd) (clo_some fun c => clo_loop (K := fun _ => True) (hIx c) hKk hKd) (fun pre Z W' h => hIR _ _ _ h.1) (fun m pre x Z W hJ hv => ?_) ⟨hI1, hL1, trivial, by simp, by simp⟩).mono ?_
  · rw [hrec] at hJ ⊢
    exact YieldAt.anyDepth' hd m (round_z (m := n - 1 - 1) (K := fun _ => True) (Ds := []) (hps x) hfn hI hIx (by simp) hKk (hassign _ x) (fun W hr hi => hbody _ pre x _ W hv (by simp) hr hi) hJ.1 trivial hJ.2.2.2 hJ.2.1)
  · rintro e W2 ⟨⟨v, rfl⟩, (⟨xs, hS, hi, hl, -⟩ | ⟨pre, c, hi, hl, -⟩)⟩
    · exact ⟨none, _, by have := run_endLoop (P := P) hl (by rw [hrec]; simp); rw [hrec] at this; exact this, hdone xs _ hS (hI.sub _ _ _ _ (hI.zset _ _ _ _ hi ((tch_put _ _ _).mono (fun k hk => by simp at hk; simp [hk]))) (fun k hk => by cases hk))⟩
    · exact ⟨some c, _, by have := run_endLoop (P := P) hl (by rw [hrec]; simp); rw [hrec] at this; exact this, hstop c pre _ ((hIx c).sub _ _ _ _ ((hIx c).zset _ _ _ _ hi ((tch_put _ _ _).mono (fun k hk => by simp at hk; simp [hk]))) (fun k hk => by cases hk))⟩
end Go.Proofs.Ytklgndmndnmdpaa

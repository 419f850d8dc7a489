import Derived.Test.YtmeljnohkhkfmaaRIn4
import Derived.Test.YtmeljnohkhkfmaaIntRoom
set_option linter.unusedVariables false
set_option linter.unusedSimpArgs false
namespace Go.Proofs.Ytmeljnohkhkfmaa
open Go.RowKit

/-- What stays beside two intakes: the blocks of Z, and the old ones. -/
structure Kz (Z : List Nat) (w0 w w' : World) : Prop where
  size : w.heap.size ≤ w'.heap.size
  block : ∀ k, (k ∈ Z ∨ k < w0.heap.size) → w'.heap[k]? = w.heap[k]?
theorem Kz.trans {Z : List Nat} {w0 w w1 w2 : World} (h : Kz Z w0 w w1) (k : Kz Z w0 w1 w2) : Kz Z w0 w w2 := ⟨Nat.le_trans h.size k.size, fun j hj => (k.block j hj).trans (h.block j hj)⟩
theorem Kz.refl (Z : List Nat) (w0 w : World) : Kz Z w0 w w := ⟨Nat.le_refl _, fun _ _ => rfl⟩
theorem Kz.cell {Z : List Nat} {w0 w w' : World} (h : Kz Z w0 w w') {a : Addr} {v : Value} (hc : w.cell? a = some v) (ha : a.block ∈ Z ∨ a.block < w0.heap.size) : w'.cell? a = some v := by
  rw [← hc]
  unfold World.cell?
  rw [h.block _ ha]
theorem Kz.memB {Z : List Nat} {w0 w w' : World} {base : Nat} {v : Value} {l sp : List UInt8} (h : Kz Z w0 w w') (hm : MemB w base v l sp) (hv : ∀ g, v.ownBlock = some g → g ∈ Z) : MemB w' base v l sp := by
  rcases hm with h1 | ⟨g, e, rfl, h1, h2, h3⟩
  · exact .inl h1
  · exact .inr ⟨g, e, rfl, h1, (h.block g (.inl (hv g rfl))).trans h2, h3⟩
theorem Kz.ownB {Z : List Nat} {w0 w w' : World} {base : Nat} {v : Value} {l : List UInt8} (h : Kz Z w0 w w') (hm : OwnB w base v l) (hv : ∀ g, v.ownBlock = some g → g ∈ Z) : OwnB w' base v l :=
  OwnC.keep hm fun k hk => h.block k (.inl (hv k hk))
theorem Kz.frB {Z : List Nat} {w0 w w' : World} {b ch : Nat} {v : Value} (h : Kz Z w0 w w') (hm : FrB w b ch v) (hb : b ∈ Z) : FrB w' b ch v := (h.block b (.inl hb)).trans hm
theorem Kz.mono {Z Z' : List Nat} {w0 w w' : World} (h : Kz Z w0 w w') (hs : ∀ k ∈ Z', k ∈ Z) : Kz Z' w0 w w' := ⟨h.size, fun k hk => h.block k (hk.imp (hs k) id)⟩

/-- The program's intake and the document's, apart, and apart from the blocks of Z. -/
structure Duo (w0 w : World) (a r : Nat) (Z : List Nat) (most : Nat) (l : List UInt8) (ph : Nat) (l2 : List UInt8) (ph2 : Nat) : Prop where
  ex : ∃ F G, In w a F most l ph ∧ RIn w r G most l2 ph2 ∧ (∀ k ∈ F, k ∉ G ∧ k ∉ Z ∧ w0.heap.size ≤ k) ∧ (∀ k ∈ G, k ∉ Z ∧ w0.heap.size ≤ k)
  old : Below w0.heap.size w0 w
  zs : ∀ k ∈ Z, w0.heap.size ≤ k ∧ k < w.heap.size
section
variable {w0 w w' : World} {a r most ph ph2 : Nat} {Z : List Nat} {l l2 : List UInt8}
theorem Duo.below (h : Duo w0 w a r Z most l ph l2 ph2) (hb : Below w.heap.size w w') : Duo w0 w' a r Z most l ph l2 ph2 := by
  obtain ⟨⟨F, G, h1, h2, h3, h4⟩, h5, h6⟩ := h
  exact ⟨⟨F, G, h1.below hb, h2.below hb, h3, h4⟩, below_then h5 h5.size hb, fun k hk => ⟨(h6 k hk).1, Nat.lt_of_lt_of_le (h6 k hk).2 hb.size⟩⟩
theorem Duo.zset (h : Duo w0 w a r Z most l ph l2 ph2) (t : Tch Z w w') : Duo w0 w' a r Z most l ph l2 ph2 := by
  obtain ⟨⟨F, G, h1, h2, h3, h4⟩, h5, h6⟩ := h
  exact ⟨⟨F, G, h1.tch t (fun k hk => (h3 k hk).2.1), h2.tch t (fun k hk => (h4 k hk).1), h3, h4⟩, h5.trans (t.below h5.size (fun k hk => (h6 k hk).1)), fun k hk => ⟨(h6 k hk).1, Nat.lt_of_lt_of_le (h6 k hk).2 t.size⟩⟩
theorem Duo.less {Z' : List Nat} (h : Duo w0 w a r Z most l ph l2 ph2) (hs : ∀ k ∈ Z', k ∈ Z) : Duo w0 w a r Z' most l ph l2 ph2 := by
  obtain ⟨⟨F, G, h1, h2, h3, h4⟩, h5, h6⟩ := h
  exact ⟨⟨F, G, h1, h2, fun k hk => ⟨(h3 k hk).1, fun h => (h3 k hk).2.1 (hs k h), (h3 k hk).2.2⟩, fun k hk => ⟨fun h => (h4 k hk).1 (hs k h), (h4 k hk).2⟩⟩, h5, fun k hk => h6 k (hs k hk)⟩
/-- New blocks become guests. -/
theorem Duo.guest {N : List Nat} (h : Duo w0 w a r Z most l ph l2 ph2) (hb : Below w.heap.size w w') (hN : ∀ k ∈ N, w.heap.size ≤ k ∧ k < w'.heap.size) : Duo w0 w' a r (N ++ Z) most l ph l2 ph2 := by
  have hd := h.below hb
  obtain ⟨⟨F, G, h1, h2, h3, h4⟩, h5, h6⟩ := h
  refine ⟨⟨F, G, h1.below hb, h2.below hb, fun k hk => ⟨(h3 k hk).1, fun hm => ?_, (h3 k hk).2.2⟩, fun k hk => ⟨fun hm => ?_, (h4 k hk).2⟩⟩, hd.old, fun k hk => ?_⟩
  · rcases List.mem_append.1 hm with e | e
    · have := (hN k e).1
      have := h1.lts k hk
      omega
    · exact (h3 k hk).2.1 e
  · rcases List.mem_append.1 hm with e | e
    · have := (hN k e).1
      have := h2.lts k hk
      omega
    · exact (h4 k hk).1 e
  · rcases List.mem_append.1 hk with e | e
    · exact ⟨Nat.le_trans h5.size (hN k e).1, (hN k e).2⟩
    · exact hd.zs k e
theorem Duo.alloc (h : Duo w0 w a r Z most l ph l2 ph2) (o : Obj) : Duo w0 (w.alloc o) a r (w.heap.size :: Z) most l ph l2 ph2 :=
  h.guest (N := [w.heap.size]) (below_alloc w o) (fun k hk => by simp at hk; simp; omega)
theorem kz_of_tch {F : List Nat} (t : Tch F w w') (hF : ∀ k ∈ F, k ∉ Z ∧ w0.heap.size ≤ k) (hZ : ∀ k ∈ Z, k < w.heap.size) (h0 : w0.heap.size ≤ w.heap.size) : Kz Z w0 w w' :=
  ⟨t.size, fun k hk => t.block k (by rcases hk with h | h; exact hZ k h; omega) (fun hm => by
    rcases hk with h | h
    · exact (hF k hm).1 h
    · have := (hF k hm).2; omega)⟩
theorem kz_of_below (hb : Below w.heap.size w w') (hZ : ∀ k ∈ Z, k < w.heap.size) (h0 : w0.heap.size ≤ w.heap.size) : Kz Z w0 w w' := kz_of_tch (Tch.of_below [] hb) (by simp) hZ h0
theorem Duo.kz (h : Duo w0 w a r Z most l ph l2 ph2) (hb : Below w.heap.size w w') : Kz Z w0 w w' := kz_of_below hb (fun k hk => (h.zs k hk).2) h.old.size

theorem duo_put1 {n nb : Nat} {l' b : List UInt8} {B : Option Addr} {d : Nat} (h : Duo w0 w a r Z most l ph l2 ph2) (hb : Rd w B d b) (hn : b.length = nb) (r1 : tookI most l ph b = n) (r2 : l ++ b.take n = l') :
    Calls Try.prog 14 #[.pointer (some ⟨a, 0, none⟩), .slice B nb d] w fun e w' => e = .returned (.int .i64 n) ∧ Duo w0 w' a r Z most l' ph l2 ph2 ∧ Kz Z w0 w w' := by
  obtain ⟨⟨F, G, h1, h2, h3, h4⟩, h5, h6⟩ := h
  subst hn
  refine (iput_calls h1 hb).mono fun e w' ⟨F', g1, g2, g3, g4⟩ => ?_
  rw [r1] at g1 g2
  rw [r2] at g2
  have hnew : ∀ k, w.heap.size ≤ k → k ∉ G ∧ k ∉ Z ∧ w0.heap.size ≤ k := fun k hk => ⟨fun h => by have := h2.lts k h; omega, fun h => by have := (h6 k h).2; omega, Nat.le_trans h5.size hk⟩
  exact ⟨g1, ⟨⟨F', G, g2, h2.tch g3 (fun k hk hm => (h3 k hm).1 hk), fun k hk => by
    rcases g4 k hk with e | e
    · exact h3 k e
    · exact hnew k e, h4⟩, h5.trans (g3.below h5.size (fun k hk => (h3 k hk).2.2)), fun k hk => ⟨(h6 k hk).1, Nat.lt_of_lt_of_le (h6 k hk).2 g3.size⟩⟩, kz_of_tch g3 (fun k hk => (h3 k hk).2) (fun k hk => (h6 k hk).2) h5.size⟩
theorem duo_put2 {n nb : Nat} {l' b : List UInt8} {B : Option Addr} {d : Nat} (h : Duo w0 w a r Z most l ph l2 ph2) (hb : Rd w B d b) (hn : b.length = nb) (r1 : tookI most l2 ph2 b = n) (r2 : l2 ++ b.take n = l') :
    Calls Try.prog 15 #[.pointer (some ⟨r, 0, none⟩), .slice B nb d] w fun e w' => e = .returned (.int .i64 n) ∧ Duo w0 w' a r Z most l ph l' ph2 ∧ Kz Z w0 w w' := by
  obtain ⟨⟨F, G, h1, h2, h3, h4⟩, h5, h6⟩ := h
  subst hn
  refine (rput_calls h2 hb).mono fun e w' ⟨G', g1, g2, g3, g4⟩ => ?_
  rw [r1] at g1 g2
  rw [r2] at g2
  have hnew : ∀ k, w.heap.size ≤ k → k ∉ F ∧ k ∉ Z ∧ w0.heap.size ≤ k := fun k hk => ⟨fun h => by have := h1.lts k h; omega, fun h => by have := (h6 k h).2; omega, Nat.le_trans h5.size hk⟩
  exact ⟨g1, ⟨⟨F, G', h1.tch g3 (fun k hk => (h3 k hk).1), g2, fun k hk => ⟨fun hm => by
    rcases g4 k hm with e | e
    · exact (h3 k hk).1 e
    · exact (hnew k e).1 hk, (h3 k hk).2⟩, fun k hk => by
    rcases g4 k hk with e | e
    · exact h4 k e
    · exact (hnew k e).2⟩, h5.trans (g3.below h5.size (fun k hk => (h4 k hk).2)), fun k hk => ⟨(h6 k hk).1, Nat.lt_of_lt_of_le (h6 k hk).2 g3.size⟩⟩, kz_of_tch g3 (fun k hk => (h4 k hk)) (fun k hk => (h6 k hk).2) h5.size⟩
theorem duo_next1 {kind ch ph' : Nat} {l' body : List UInt8} (h : Duo w0 w a r Z most l ph l2 ph2) (r1 : nextI most l ph = ⟨kind, ch, body, l', ph'⟩) :
    Calls Try.prog 17 #[.pointer (some ⟨a, 0, none⟩)] w fun e w' => ∃ v, e = .returned (.tuple #[.int .u8 kind, .agg #[.int .u16 ch, v]]) ∧ OwnB w' w.heap.size v body ∧ Duo w0 w' a r (v.ownBlock.toList ++ Z) most l' ph' l2 ph2 ∧ Kz Z w0 w w' := by
  obtain ⟨⟨F, G, h1, h2, h3, h4⟩, h5, h6⟩ := h
  refine (inext_calls h1).mono fun e w' ⟨F', v, g0, go, g2, g3, g4, gv⟩ => ?_
  rw [r1] at g0 go g2
  have hnew : ∀ k, w.heap.size ≤ k → k ∉ G ∧ k ∉ Z ∧ w0.heap.size ≤ k := fun k hk => ⟨fun h => by have := h2.lts k h; omega, fun h => by have := (h6 k h).2; omega, Nat.le_trans h5.size hk⟩
  have hF : ∀ k ∈ F', k ∉ G ∧ k ∉ Z ∧ w0.heap.size ≤ k := fun k hk => by
    rcases g4 k hk with e | e
    · exact h3 k e
    · exact hnew k e
  refine ⟨v, g0, go, ⟨⟨F', G, g2, h2.tch g3 (fun k hk hm => (h3 k hm).1 hk), fun k hk => ⟨(hF k hk).1, fun hm => ?_, (hF k hk).2.2⟩, fun k hk => ⟨fun hm => ?_, (h4 k hk).2⟩⟩, h5.trans (g3.below h5.size (fun k hk => (h3 k hk).2.2)), fun k hk => ?_⟩, kz_of_tch g3 (fun k hk => (h3 k hk).2) (fun k hk => (h6 k hk).2) h5.size⟩
  · rcases List.mem_append.1 hm with e | e
    · exact gv k (by simpa using e) hk
    · exact (hF k hk).2.1 e
  · rcases List.mem_append.1 hm with e | e
    · have := (OwnB.lt go k (by simpa using e)).1
      have := h2.lts k hk
      omega
    · exact (h4 k hk).1 e
  · rcases List.mem_append.1 hk with e | e
    · have := OwnB.lt go k (by simpa using e)
      exact ⟨Nat.le_trans h5.size this.1, this.2⟩
    · exact ⟨(h6 k e).1, Nat.lt_of_lt_of_le (h6 k e).2 g3.size⟩
theorem duo_next2 {kind ch ph' : Nat} {l' body : List UInt8} (h : Duo w0 w a r Z most l ph l2 ph2) (r1 : nextI most l2 ph2 = ⟨kind, ch, body, l', ph'⟩) :
    Calls Try.prog 18 #[.pointer (some ⟨r, 0, none⟩)] w fun e w' => ∃ v, e = .returned (.tuple #[.int .u8 kind, .agg #[.int .u16 ch, v]]) ∧ OwnB w' w.heap.size v body ∧ Duo w0 w' a r Z most l ph l' ph' ∧ Kz Z w0 w w' := by
  obtain ⟨⟨F, G, h1, h2, h3, h4⟩, h5, h6⟩ := h
  refine (rnext_calls h2).mono fun e w' ⟨G', v, g0, go, g2, g3, g4, gv⟩ => ?_
  rw [r1] at g0 go g2
  have hnew : ∀ k, w.heap.size ≤ k → k ∉ F ∧ k ∉ Z ∧ w0.heap.size ≤ k := fun k hk => ⟨fun h => by have := h1.lts k h; omega, fun h => by have := (h6 k h).2; omega, Nat.le_trans h5.size hk⟩
  exact ⟨v, g0, go, ⟨⟨F, G', h1.tch g3 (fun k hk => (h3 k hk).1), g2, fun k hk => ⟨fun hm => by
    rcases g4 k hm with e | e
    · exact (h3 k hk).1 e
    · exact (hnew k e).1 hk, (h3 k hk).2⟩, fun k hk => by
    rcases g4 k hk with e | e
    · exact h4 k e
    · exact (hnew k e).2⟩, h5.trans (g3.below h5.size (fun k hk => (h4 k hk).2)), fun k hk => ⟨(h6 k hk).1, Nat.lt_of_lt_of_le (h6 k hk).2 g3.size⟩⟩, kz_of_tch g3 (fun k hk => (h4 k hk)) (fun k hk => (h6 k hk).2) h5.size⟩
theorem duo_held {n : Nat} (h : Duo w0 w a r Z most l ph l2 ph2) (r1 : l.length = n) :
    Calls Try.prog 20 #[.pointer (some ⟨a, 0, none⟩)] w fun e w' => e = .returned (.int .i64 n) ∧ w = w' := by
  obtain ⟨⟨F, G, h1, h2, h3, h4⟩, h5, h6⟩ := h
  subst r1
  exact iheld_calls h1
theorem duo_room1 {n : Nat} (h : Duo w0 w a r Z most l ph l2 ph2) (r1 : roomI most l ph = n) :
    Calls Try.prog 21 #[.pointer (some ⟨a, 0, none⟩)] w fun e w' => e = .returned (.int .i64 n) ∧ Below w.heap.size w w' := by
  obtain ⟨⟨F, G, h1, h2, h3, h4⟩, h5, h6⟩ := h
  subst r1
  exact iroom_calls h1
theorem duo_room2 {n : Nat} (h : Duo w0 w a r Z most l ph l2 ph2) (r1 : roomI most l2 ph2 = n) :
    Calls Try.prog 22 #[.pointer (some ⟨r, 0, none⟩)] w fun e w' => e = .returned (.int .i64 n) ∧ Below w.heap.size w w' := by
  obtain ⟨⟨F, G, h1, h2, h3, h4⟩, h5, h6⟩ := h
  subst r1
  exact rroom_calls h2
theorem Duo.len {n : Nat} (h : Duo w0 w a r Z most l ph l2 ph2) (r1 : l2.length = n) : ∃ A c, w.cell? ⟨r, 1, none⟩ = some (.slice A n c) ∧ n ≤ 4104 ∧ most ≤ 4096 := by
  obtain ⟨⟨F, G, h1, h2, h3, h4⟩, h5, h6⟩ := h
  obtain ⟨A, c, wt, -, -, -, ⟨-, c1, -, -⟩, -⟩ := h2.row
  subst r1
  have := h2.ok.len
  have := h2.ok.hi
  exact ⟨A, c, c1, by omega, by omega⟩
end
theorem duo_new {w0 w1 w2 : World} {most : Nat} (h0 : Below w0.heap.size w0 w0) (i1 : In w1 w0.heap.size [w0.heap.size] most [] 0) (b1 : Below w0.heap.size w0 w1) (i2 : RIn w2 w1.heap.size [w1.heap.size] most [] 0) (b2 : Below w1.heap.size w1 w2) : Duo w0 w2 w0.heap.size w1.heap.size [] most [] 0 [] 0 :=
  ⟨⟨_, _, i1.below b2, i2, fun k hk => by
    have := i1.lt
    simp at hk
    simp
    omega, fun k hk => by
    have := b1.size
    simp at hk
    simp
    omega⟩, below_then b1 b1.size b2, by simp⟩
end Go.Proofs.Ytmeljnohkhkfmaa

import Derived.Test.YtmeljnohkhkfmaaTells
import Derived.Test.YtmeljnohkhkfmaaDuo
import Derived.Test.YtmeljnohkhkfmaaPcs
import Derived.Test.YtmeljnohkhkfmaaFrs
set_option linter.unusedVariables false
set_option linter.unusedSimpArgs false
namespace Go.Proofs.Ytmeljnohkhkfmaa
open Go.RowKit

/-- Frames of one's own in a slice of one's own; their bodies lie in blocks of Z. -/
structure FrO (w : World) (base : Nat) (v : Value) (Z : List Nat) (D : List Ev) : Prop where
  own : ∃ cs, OwnC 39 2 (fun _ => True) w base v D.length cs ∧ ∀ (i : Nat) (hi : i < D.length), ∃ A c, cs[i * 2]? = some (.int .u16 (D[i]).ch) ∧ cs[i * 2 + 1]? = some (.slice A (D[i]).body.length c) ∧ Rd w A c (D[i]).body ∧ ∀ ad, A = some ad → ad.block ∈ Z
theorem FrO.nil_ {w : World} {base : Nat} {Z : List Nat} : FrO w base (.slice none 0 0) Z [] := ⟨[], OwnC.nil_, fun i hi => by simp at hi⟩
theorem FrO.tch {F : List Nat} {w w' : World} {base : Nat} {v : Value} {Z Z' : List Nat} {D : List Ev} (h : FrO w base v Z D) (t : Tch F w w') (hv : ∀ k, v.ownBlock = some k → k ∉ F) (hZ : ∀ k ∈ Z, k ∉ F) (hs : ∀ k ∈ Z, k ∈ Z') : FrO w' base v Z' D := by
  obtain ⟨cs, h1, h2⟩ := h
  refine ⟨cs, h1.tch t hv, fun i hi => ?_⟩
  obtain ⟨A, c, e1, e2, e3, e4⟩ := h2 i hi
  exact ⟨A, c, e1, e2, RdC.tch e3 t (fun ad ha => hZ _ (e4 ad ha)), fun ad ha => hs _ (e4 ad ha)⟩
/-- The state of told: the intake a; kinds and frames that were told; the blocks of Z are apart from all that turns. -/
structure ToS (w0 w1 w : World) (a M : Nat) (l : List UInt8) (ph : Nat) (kv : Value) (K : List UInt8) (fv : Value) (D : List Ev) (Z : List Nat) : Prop where
  ex : ∃ F, In w a F M l ph ∧ ∀ k ∈ F, (k = a ∨ w1.heap.size ≤ k) ∧ kv.ownBlock ≠ some k ∧ fv.ownBlock ≠ some k ∧ k ∉ Z
  kinds : OwnB w w1.heap.size kv K
  frames : FrO w w1.heap.size fv Z D
  t : Tch [a] w1 w
  old : Below w0.heap.size w0 w1
  asz : w0.heap.size ≤ a ∧ a < w1.heap.size
  zs : ∀ k ∈ Z, w1.heap.size ≤ k ∧ k < w.heap.size ∧ kv.ownBlock ≠ some k ∧ fv.ownBlock ≠ some k
  ne : ∀ k, kv.ownBlock = some k → fv.ownBlock ≠ some k
section
variable {w0 w1 w w' : World} {a M ph : Nat} {l K : List UInt8} {kv fv : Value} {D : List Ev} {Z : List Nat}
theorem ToS.start (h : In w1 a [a] M [] 0) (h0 : w0.heap.size ≤ a) (ho : Below w0.heap.size w0 w1) : ToS w0 w1 w1 a M [] 0 (.slice none 0 0) [] (.slice none 0 0) [] [] :=
  ⟨⟨[a], h, fun k hk => by simp at hk; simp [hk, Value.ownBlock]⟩, OwnB.nil_, FrO.nil_, Tch.refl _ _, ho, ⟨h0, h.lt⟩, by simp, by simp [Value.ownBlock]⟩
theorem ToS.flt (h : FrO w w1.heap.size fv Z D) (k : Nat) (hk : fv.ownBlock = some k) : w1.heap.size ≤ k ∧ k < w.heap.size := by
  obtain ⟨cs, h1, -⟩ := h.own
  exact h1.lt k hk
theorem ToS.size (h : ToS w0 w1 w a M l ph kv K fv D Z) : w1.heap.size ≤ w.heap.size := h.t.size
theorem ToS.small (h : ToS w0 w1 w a M l ph kv K fv D Z) : w0.heap.size ≤ w.heap.size := Nat.le_trans (Nat.le_trans h.asz.1 (Nat.le_of_lt h.asz.2)) h.t.size
theorem ToS.below0 (h : ToS w0 w1 w a M l ph kv K fv D Z) : Below w0.heap.size w0 w := h.old.trans (h.t.below (by have := h.old.size; omega) (fun k hk => by simp at hk; rw [hk]; exact h.asz.1))
/-- New blocks become apart. -/
theorem ToS.guest {N : List Nat} (h : ToS w0 w1 w a M l ph kv K fv D Z) (hb : Below w.heap.size w w') (hN : ∀ k ∈ N, w.heap.size ≤ k ∧ k < w'.heap.size) : ToS w0 w1 w' a M l ph kv K fv D (N ++ Z) := by
  have hs := h.t.size
  obtain ⟨⟨F, h1, h2⟩, h3, h4, h5, h6, h7, h8, h9⟩ := h
  refine ⟨⟨F, h1.below hb, fun k hk => ⟨(h2 k hk).1, (h2 k hk).2.1, (h2 k hk).2.2.1, fun hm => ?_⟩⟩, OwnC.below h3 hb, h4.tch (Tch.of_below [] hb) (by simp) (by simp) (fun k hk => List.mem_append_right _ hk), h5.trans (Tch.of_below [] hb) (by simp), h6, h7, fun k hk => ?_, h9⟩
  · rcases List.mem_append.1 hm with e | e
    · have := (hN k e).1
      have := h1.lts k hk
      omega
    · exact (h2 k hk).2.2.2 e
  · rcases List.mem_append.1 hk with e | e
    · have := hN k e
      exact ⟨by omega, this.2, fun e2 => by have := (OwnB.lt h3 k e2).2; omega, fun e2 => by have := (ToS.flt h4 k e2).2; omega⟩
    · exact ⟨(h8 k e).1, Nat.lt_of_lt_of_le (h8 k e).2.1 hb.size, (h8 k e).2.2⟩
theorem ToS.below (h : ToS w0 w1 w a M l ph kv K fv D Z) (hb : Below w.heap.size w w') : ToS w0 w1 w' a M l ph kv K fv D Z := h.guest (N := []) hb (by simp)
theorem ToS.alloc (h : ToS w0 w1 w a M l ph kv K fv D Z) (o : Obj) : ToS w0 w1 (w.alloc o) a M l ph kv K fv D (w.heap.size :: Z) :=
  h.guest (N := [w.heap.size]) (below_alloc w o) (fun k hk => by simp at hk; simp; omega)
theorem tos_put {n nb : Nat} {l' b : List UInt8} {B : Option Addr} {d : Nat} (h : ToS w0 w1 w a M l ph kv K fv D Z) (hb : Rd w B d b) (hn : b.length = nb) (r1 : tookI M l ph b = n) (r2 : l ++ b.take n = l') :
    Calls Try.prog 14 #[.pointer (some ⟨a, 0, none⟩), .slice B nb d] w fun e w' => e = .returned (.int .i64 n) ∧ ToS w0 w1 w' a M l' ph kv K fv D Z := by
  have hs := h.t.size
  obtain ⟨⟨F, h1, h2⟩, h3, h4, h5, h6, h7, h8, h9⟩ := h
  subst hn
  refine (iput_calls h1 hb).mono fun e w' ⟨F', g1, g2, g3, g4⟩ => ?_
  rw [r1] at g1 g2
  rw [r2] at g2
  have dk : ∀ k, kv.ownBlock = some k → k ∉ F := fun k hk hm => (h2 k hm).2.1 hk
  have df : ∀ k, fv.ownBlock = some k → k ∉ F := fun k hk hm => (h2 k hm).2.2.1 hk
  have dz : ∀ k ∈ Z, k ∉ F := fun k hk hm => (h2 k hm).2.2.2 hk
  refine ⟨g1, ⟨⟨F', g2, fun k hk => ?_⟩, OwnC.tch h3 g3 dk, h4.tch g3 df dz (fun _ h => h), h5.trans g3 (fun j hj => by rcases (h2 j hj).1 with e | e; exact .inl (by simp [e]); exact .inr e), h6, h7, fun k hk => ⟨(h8 k hk).1, Nat.lt_of_lt_of_le (h8 k hk).2.1 g3.size, (h8 k hk).2.2⟩, h9⟩⟩
  rcases g4 k hk with e | e
  · exact h2 k e
  · exact ⟨.inr (by omega), fun e2 => by have := (OwnB.lt h3 k e2).2; omega, fun e2 => by have := (ToS.flt h4 k e2).2; omega, fun hm => by have := (h8 k hm).2.1; omega⟩
theorem tos_next {kind ch ph' : Nat} {l' body : List UInt8} (h : ToS w0 w1 w a M l ph kv K fv D Z) (r1 : nextI M l ph = ⟨kind, ch, body, l', ph'⟩) :
    Calls Try.prog 17 #[.pointer (some ⟨a, 0, none⟩)] w fun e w' => ∃ A c, e = .returned (.tuple #[.int .u8 kind, .agg #[.int .u16 ch, .slice A body.length c]]) ∧ Rd w' A c body ∧ ∃ Z', ToS w0 w1 w' a M l' ph' kv K fv D Z' ∧ ∀ ad, A = some ad → ad.block ∈ Z' := by
  have hs := h.t.size
  obtain ⟨⟨F, h1, h2⟩, h3, h4, h5, h6, h7, h8, h9⟩ := h
  refine (inext_calls h1).mono fun e w' ⟨F', v, g0, go, g2, g3, g4, gv⟩ => ?_
  rw [r1] at g0 go g2
  have dk : ∀ k, kv.ownBlock = some k → k ∉ F := fun k hk hm => (h2 k hm).2.1 hk
  have df : ∀ k, fv.ownBlock = some k → k ∉ F := fun k hk hm => (h2 k hm).2.2.1 hk
  have dz : ∀ k ∈ Z, k ∉ F := fun k hk hm => (h2 k hm).2.2.2 hk
  obtain ⟨A, c, rfl, hr⟩ := go.rd
  refine ⟨A, c, g0, hr, (Value.slice A body.length c).ownBlock.toList ++ Z, ⟨⟨F', g2, fun k hk => ?_⟩, OwnC.tch h3 g3 dk, h4.tch g3 df dz (fun _ h => List.mem_append_right _ h), h5.trans g3 (fun j hj => by rcases (h2 j hj).1 with e | e; exact .inl (by simp [e]); exact .inr e), h6, h7, fun k hk => ?_, h9⟩, fun ad ha => by subst ha; simp [Value.ownBlock]⟩
  · have hx : k ∉ (Value.slice A body.length c).ownBlock.toList := fun hm => gv k (by simpa using hm) hk
    rcases g4 k hk with e | e
    · exact ⟨(h2 k e).1, (h2 k e).2.1, (h2 k e).2.2.1, fun hm => by
        rcases List.mem_append.1 hm with e2 | e2
        · exact hx e2
        · exact (h2 k e).2.2.2 e2⟩
    · exact ⟨.inr (by omega), fun e2 => by have := (OwnB.lt h3 k e2).2; omega, fun e2 => by have := (ToS.flt h4 k e2).2; omega, fun hm => by
        rcases List.mem_append.1 hm with e2 | e2
        · exact hx e2
        · have := (h8 k e2).2.1; omega⟩
  · rcases List.mem_append.1 hk with e | e
    · have := OwnB.lt go k (by simpa using e)
      exact ⟨by omega, this.2, fun e2 => by have := (OwnB.lt h3 k e2).2; omega, fun e2 => by have := (ToS.flt h4 k e2).2; omega⟩
    · exact ⟨(h8 k e).1, Nat.lt_of_lt_of_le (h8 k e).2.1 g3.size, (h8 k e).2.2⟩
theorem tch_grown {row : Option Nat} (hg : w.grownBy w' row) : Tch row.toList w w' := ⟨hg.os, hg.tape, hg.output, hg.size, fun k hk hn => hg.block k hk (fun e => hn (by rw [← e]; simp))⟩
/-- A kind was laid behind the kinds. -/
theorem ToS.kapp {kv' : Value} {K' : List UInt8} (h : ToS w0 w1 w a M l ph kv K fv D Z) (ow : OwnB w' w1.heap.size kv' K') (hg : w.grownBy w' kv.ownBlock) (hv : kv'.ownBlock = kv.ownBlock ∨ kv'.ownBlock = some w.heap.size) : ToS w0 w1 w' a M l ph kv' K' fv D Z ∧ Kz Z w0 w w' := by
  have hs := h.t.size
  have h0 := h.small
  obtain ⟨⟨F, h1, h2⟩, h3, h4, h5, h6, h7, h8, h9⟩ := h
  have t := tch_grown hg
  have dF : ∀ k ∈ F, k ∉ kv.ownBlock.toList := fun k hk hm => (h2 k hk).2.1 (by simpa using hm)
  have dZ : ∀ k ∈ Z, k ∉ kv.ownBlock.toList := fun k hk hm => (h8 k hk).2.2.1 (by simpa using hm)
  have dv : ∀ k, fv.ownBlock = some k → k ∉ kv.ownBlock.toList := fun k hk hm => h9 k (by simpa using hm) hk
  have new : ∀ k, k < w.heap.size → kv.ownBlock ≠ some k → kv'.ownBlock ≠ some k := fun k hk hn e => by
    rcases hv with e2 | e2
    · exact hn (by rw [← e2]; exact e)
    · rw [e2] at e; have := Option.some.inj e; omega
  refine ⟨⟨⟨F, h1.tch t dF, fun k hk => ⟨(h2 k hk).1, new k (h1.lts k hk) (h2 k hk).2.1, (h2 k hk).2.2⟩⟩, ow, h4.tch t dv dZ (fun _ h => h), h5.trans t (fun j hj => .inr (OwnB.lt h3 j (by simpa using hj)).1), h6, h7, fun k hk => ⟨(h8 k hk).1, Nat.lt_of_lt_of_le (h8 k hk).2.1 t.size, new k (h8 k hk).2.1 (h8 k hk).2.2.1, (h8 k hk).2.2.2⟩, fun k hk hf => ?_⟩, kz_of_tch t (fun k hk => ⟨fun hm => dZ k hm hk, ?_⟩) (fun k hk => (h8 k hk).2.1) h0⟩
  · have := (ToS.flt h4 k hf).2
    exact new k this (fun e => h9 k e hf) hk
  · have := (OwnB.lt h3 k (by simpa using hk)).1
    have := h7.1
    have := h7.2
    omega
/-- A frame was laid behind the frames. -/
theorem ToS.fapp {fv' : Value} {cs : List Value} {A : Option Addr} {c : Nat} {e : Ev} (h : ToS w0 w1 w a M l ph kv K fv D Z) (hcs : ∀ (i : Nat) (hi : i < D.length), ∃ A c, cs[i * 2]? = some (.int .u16 (D[i]).ch) ∧ cs[i * 2 + 1]? = some (.slice A (D[i]).body.length c) ∧ Rd w A c (D[i]).body ∧ ∀ ad, A = some ad → ad.block ∈ Z) (hcl : cs.length = D.length * 2)
    (ow : OwnC 39 2 (fun _ => True) w' w1.heap.size fv' (D.length + 1) (cs ++ [.int .u16 e.ch, .slice A e.body.length c])) (hr : Rd w A c e.body) (hA : ∀ ad, A = some ad → ad.block ∈ Z) (hg : w.grownBy w' fv.ownBlock) (hv : fv'.ownBlock = fv.ownBlock ∨ fv'.ownBlock = some w.heap.size) : ToS w0 w1 w' a M l ph kv K fv' (D ++ [e]) Z := by
  have hs := h.t.size
  obtain ⟨⟨F, h1, h2⟩, h3, h4, h5, h6, h7, h8, h9⟩ := h
  have t := tch_grown hg
  have dF : ∀ k ∈ F, k ∉ fv.ownBlock.toList := fun k hk hm => (h2 k hk).2.2.1 (by simpa using hm)
  have dZ : ∀ k ∈ Z, k ∉ fv.ownBlock.toList := fun k hk hm => (h8 k hk).2.2.2 (by simpa using hm)
  have dv : ∀ k, kv.ownBlock = some k → k ∉ fv.ownBlock.toList := fun k hk hm => h9 k hk (by simpa using hm)
  have new : ∀ k, k < w.heap.size → fv.ownBlock ≠ some k → fv'.ownBlock ≠ some k := fun k hk hn e => by
    rcases hv with e2 | e2
    · exact hn (by rw [← e2]; exact e)
    · rw [e2] at e; have := Option.some.inj e; omega
  refine ⟨⟨F, h1.tch t dF, fun k hk => ⟨(h2 k hk).1, (h2 k hk).2.1, new k (h1.lts k hk) (h2 k hk).2.2.1, (h2 k hk).2.2.2⟩⟩, OwnC.tch h3 t dv, ⟨cs ++ [.int .u16 e.ch, .slice A e.body.length c], by simpa using ow, fun i hi => ?_⟩, h5.trans t (fun j hj => .inr (ToS.flt h4 j (by simpa using hj)).1), h6, h7, fun k hk => ⟨(h8 k hk).1, Nat.lt_of_lt_of_le (h8 k hk).2.1 t.size, (h8 k hk).2.2.1, new k (h8 k hk).2.1 (h8 k hk).2.2.2⟩, fun k hk => new k (OwnB.lt h3 k hk).2 (h9 k hk)⟩
  rw [List.length_append, List.length_singleton] at hi
  rcases Nat.lt_or_ge i D.length with hlt | hge
  · obtain ⟨A', c', e1, e2, e3, e4⟩ := hcs i hlt
    exact ⟨A', c', by rw [List.getElem?_append_left (by omega), List.getElem_append_left hlt]; exact e1, by rw [List.getElem?_append_left (by omega), List.getElem_append_left hlt]; exact e2, by rw [List.getElem_append_left hlt]; exact RdC.tch e3 t (fun ad ha => dZ _ (e4 ad ha)), e4⟩
  · obtain rfl : i = D.length := by omega
    exact ⟨A, c, by rw [List.getElem?_append_right (by omega), hcl]; simp, by rw [List.getElem?_append_right (by omega), hcl]; simp, by rw [show (D ++ [e])[D.length] = e by simp]; exact RdC.tch hr t (fun ad ha => dZ _ (hA ad ha)), hA⟩
end
end Go.Proofs.Ytmeljnohkhkfmaa

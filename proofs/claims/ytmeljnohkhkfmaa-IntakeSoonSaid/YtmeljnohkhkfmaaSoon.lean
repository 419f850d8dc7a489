import Derived.Test.YtmeljnohkhkfmaaFrs
import Derived.Test.YtmeljnohkhkfmaaIntHead
set_option linter.unusedVariables false
set_option linter.unusedSimpArgs false
namespace Go.Proofs.Ytmeljnohkhkfmaa
open Go.RowKit

/-! What comes next of a row that is cut. -/
theorem next_h0 (k : Nat) (hk : k < 7) : nextI 1024 (stB.take (k + 1)) 0 = ⟨0, 0, [], stB.take (k + 1), 0⟩ := by
  match k, hk with
  | 0, _ => rfl
  | 1, _ => rfl
  | 2, _ => rfl
  | 3, _ => rfl
  | 4, _ => rfl
  | 5, _ => rfl
  | 6, _ => rfl
theorem next_h1 : nextI 1024 (stB.take (7 + 1)) 0 = ⟨1, 0, [], [], 1⟩ := by rfl
theorem next_f0 (ch : Nat) (l : List UInt8) (k : Nat) (hl : l.length ≤ 200) (hk : k + 1 < 8 + l.length) : nextI 1024 ((fw ch l).take (k + 1)) 1 = ⟨0, 0, [], (fw ch l).take (k + 1), 1⟩ := by
  unfold nextI
  rw [if_neg (by decide), if_pos rfl, fr_fw_cut ch l 1024 (k + 1) (by omega) (by omega) hk]
  rfl
theorem next_f1 (ch : Nat) (l : List UInt8) (k : Nat) (hl : l.length ≤ 200) (hc : ch ≤ 65535) (hk : k + 1 = 8 + l.length) : nextI 1024 ((fw ch l).take (k + 1)) 1 = ⟨2, ch, l, [], 1⟩ := by
  unfold nextI
  have h := fr_fw_ok ch l [] 1024 (by omega) hc (by omega)
  rw [List.append_nil] at h
  rw [if_neg (by decide), if_pos rfl, List.take_of_length_le (by rw [fw_length]; omega), h]
  rw [if_neg (by simp), if_pos rfl, List.drop_of_length_le (by rw [fw_length]; exact Nat.le_refl _)]

/-- Rows of bytes of one's own, in a slice of one's own. -/
structure RwsO (w : World) (base : Nat) (v : Value) (ls : List (List UInt8)) : Prop where
  own : ∃ cs, OwnC 24 1 (fun _ => True) w base v ls.length cs ∧ ∀ (i : Nat) (hi : i < ls.length), ∃ A c, cs[i]? = some (.slice A (ls[i]).length c) ∧ Rd w A c ls[i] ∧ ∃ ad, A = some ad ∧ base ≤ ad.block ∧ ad.block < w.heap.size ∧ v.ownBlock ≠ some ad.block
theorem RwsO.below {w w' : World} {base : Nat} {v : Value} {ls : List (List UInt8)} (h : RwsO w base v ls) (hb : Below w.heap.size w w') : RwsO w' base v ls := by
  obtain ⟨cs, h1, h2⟩ := h.own
  refine ⟨cs, h1.below hb, fun i hi => ?_⟩
  obtain ⟨A, c, e1, e2, ad, e3, e4, e5, e6⟩ := h2 i hi
  exact ⟨A, c, e1, e2.below hb, ad, e3, e4, Nat.lt_of_lt_of_le e5 hb.size, e6⟩
theorem RwsO.lt {w : World} {base : Nat} {v : Value} {ls : List (List UInt8)} (h : RwsO w base v ls) (k : Nat) (hk : v.ownBlock = some k) : k < w.heap.size := by
  obtain ⟨cs, h1, -⟩ := h.own
  exact (h1.lt k hk).2
theorem RwsO.app {w w' : World} {base : Nat} {v v' : Value} {ls : List (List UInt8)} {cs : List Value} {A : Option Addr} {c : Nat} {l : List UInt8}
    (h : ∀ (i : Nat) (hi : i < ls.length), ∃ A c, cs[i]? = some (.slice A (ls[i]).length c) ∧ Rd w A c ls[i] ∧ ∃ ad, A = some ad ∧ base ≤ ad.block ∧ ad.block < w.heap.size ∧ v.ownBlock ≠ some ad.block) (hcl : cs.length = ls.length)
    (ho : OwnC 24 1 (fun _ => True) w' base v' (ls.length + 1) (cs ++ [.slice A l.length c])) (hr : Rd w A c l) (ha : ∃ ad, A = some ad ∧ base ≤ ad.block ∧ ad.block < w.heap.size ∧ v.ownBlock ≠ some ad.block)
    (hg : w.grownBy w' v.ownBlock) (hv : v'.ownBlock = v.ownBlock ∨ v'.ownBlock = some w.heap.size) : RwsO w' base v' (ls ++ [l]) := by
  have step : ∀ {A c} {l : List UInt8}, Rd w A c l → (∃ ad, A = some ad ∧ base ≤ ad.block ∧ ad.block < w.heap.size ∧ v.ownBlock ≠ some ad.block) → Rd w' A c l ∧ ∃ ad, A = some ad ∧ base ≤ ad.block ∧ ad.block < w'.heap.size ∧ v'.ownBlock ≠ some ad.block := by
    rintro A c l hr ⟨ad, rfl, e4, e5, e6⟩
    refine ⟨hr.grown hg (fun ad' ha => by cases ha; exact fun e => e6 e.symm), ad, rfl, e4, Nat.lt_of_lt_of_le e5 hg.size, ?_⟩
    rcases hv with e | e
    · rw [e]; exact e6
    · rw [e]; intro e; have := Option.some.inj e; omega
  refine ⟨cs ++ [.slice A l.length c], by simpa using ho, fun i hi => ?_⟩
  rw [List.length_append, List.length_singleton] at hi
  rcases Nat.lt_or_ge i ls.length with hlt | hge
  · obtain ⟨A, c, e1, e2, e3⟩ := h i hlt
    obtain ⟨f1, f2⟩ := step e2 e3
    exact ⟨A, c, by rw [List.getElem?_append_left (by omega), List.getElem_append_left hlt]; exact e1, by rw [List.getElem_append_left hlt]; exact f1, f2⟩
  · obtain rfl : i = ls.length := by omega
    obtain ⟨f1, f2⟩ := step hr ha
    exact ⟨A, c, by rw [List.getElem?_append_right (by omega), hcl]; simp, by simpa using f1, f2⟩

/-- Rows of bytes beside a block a, all below H. -/
structure RowsS (w : World) (a H g : Nat) (ls : List (List UInt8)) : Prop where
  ne : g ≠ a ∧ g < H
  at_ : ∀ (i : Nat) (hi : i < ls.length), ∃ A c, w.cell? ⟨g, i, none⟩ = some (.slice A (ls[i]).length c) ∧ Rd w A c ls[i] ∧ ∀ ad, A = some ad → ad.block ≠ a ∧ ad.block < H
theorem RowsS.tch {w w' : World} {a H g : Nat} {ls : List (List UInt8)} {F : List Nat} (h : RowsS w a H g ls) (t : Tch F w w') (hF : ∀ k ∈ F, k = a ∨ H ≤ k) : RowsS w' a H g ls :=
  ⟨h.ne, fun i hi => by
    have no : ∀ k, k ≠ a → k < H → k ∉ F := fun k h1 h2 hk => by rcases hF k hk with h | h <;> omega
    obtain ⟨A, c, e1, e2, e3⟩ := h.at_ i hi
    exact ⟨A, c, t.cell e1 (no g h.ne.1 h.ne.2), RdC.tch e2 t (fun ad ha => no _ (e3 ad ha).1 (e3 ad ha).2), e3⟩⟩
theorem RwsO.rows {w : World} {base : Nat} {v : Value} {ls : List (List UInt8)} (h : RwsO w base v ls) (a : Nat) (ha : a < base) (h0 : 0 < ls.length) : ∃ g c, v = .slice (some ⟨g, 0, none⟩) ls.length c ∧ ls.length ≤ c ∧ c ≤ 9223372036854775807 ∧ RowsS w a w.heap.size g ls := by
  obtain ⟨cs, h1, h2⟩ := h.own
  obtain ⟨A, c, rfl, hr⟩ := h1.rd
  have hle := hr.2.1
  have hmx := hr.2.2.1
  obtain ⟨A0, c0, e0, -⟩ := h2 0 h0
  obtain ⟨ad, rfl, hc0⟩ := hr.cell 0 _ e0
  have hob : (Value.slice (some ad) ls.length c).ownBlock = some ad.block := by
    cases c with
    | zero => omega
    | succ c => rfl
  obtain ⟨b1, b2⟩ := h1.lt ad.block hob
  have hp : ad = ⟨ad.block, 0, none⟩ := by
    obtain ⟨-, -, h3⟩ := h1
    rcases h3 with ⟨h3, -⟩ | ⟨g, cap, hid, e, -⟩
    · cases h3
    · cases e; rfl
  refine ⟨ad.block, c, by rw [hp], hle, hmx, ⟨⟨by omega, b2⟩, fun i hi => ?_⟩⟩
  obtain ⟨A, c', e1, e2, ad', e3, e4, e5, e6⟩ := h2 i hi
  obtain ⟨ad2, q1, q2⟩ := hr.cell i _ e1
  cases q1
  rw [hp, plain_add, Nat.zero_add] at q2
  exact ⟨A, c', q2, e2, fun ad'' h => by rw [e3] at h; cases h; exact ⟨by omega, e5⟩⟩

theorem InF.belowB {w0 w w' : World} {a B : Nat} {F : List Nat} {most ph : Nat} {l : List UInt8} (h : InF w0 w a F most l ph) (hb : Below B w w') (hB : w0.heap.size ≤ B) (hF : ∀ k ∈ F, k < B) : InF w0 w' a F most l ph := by
  obtain ⟨⟨hv, h1, h2, h3⟩, hm, hs, hk⟩ := h.is
  exact ⟨h.old.trans (hb.mono hB), ⟨⟨hv, (hb.block a (hF a hm)).trans h1, h2.keep (fun k hk => hb.block k (hF k (h3 k hk))), h3⟩, hm, fun k hk => Nat.lt_of_lt_of_le (hs k hk) hb.size, hk⟩, h.hi⟩
/-- An intake and rows beside it. -/
structure SoonI (w0 w : World) (a H g : Nat) (ls : List (List UInt8)) (F : List Nat) (l : List UInt8) (ph : Nat) : Prop where
  inn : InF w0 w a F 1024 l ph
  rows : RowsS w a H g ls
  far : ∀ k ∈ F, k = a ∨ H ≤ k
  size : H ≤ w.heap.size
theorem SoonI.below {w0 w w' : World} {a H g : Nat} {ls : List (List UInt8)} {F : List Nat} {l : List UInt8} {ph : Nat} (h : SoonI w0 w a H g ls F l ph) (hb : Below w.heap.size w w') : SoonI w0 w' a H g ls F l ph :=
  ⟨h.inn.below hb, h.rows.tch (Tch.of_below [] hb) (fun _ hk => by cases hk), h.far, Nat.le_trans h.size hb.size⟩
theorem soon_put {w0 w : World} {a H g : Nat} {ls : List (List UInt8)} {F : List Nat} {l l' b : List UInt8} {ph nb : Nat} {B : Option Addr} {d : Nat} (h : SoonI w0 w a H g ls F l ph) (hb : Rd w B d b) (hn : b.length = nb) (r : tookI 1024 l ph b = nb) (r2 : l ++ b.take nb = l') :
    Calls Try.prog 14 #[.pointer (some ⟨a, 0, none⟩), .slice B nb d] w fun e w' => ∃ F', e = .returned (.int .i64 nb) ∧ SoonI w0 w' a H g ls F' l' ph :=
  (if_put h.inn hb hn r r2).mono fun e w' ⟨F', h1, h2, h3, h4⟩ => ⟨F', h1, h2, h.rows.tch h3 h.far, fun k hk => by
    rcases h4 k hk with e | e
    · exact h.far k e
    · exact .inr (Nat.le_trans h.size e), Nat.le_trans h.size h3.size⟩
theorem soon_next {w0 w : World} {a H g : Nat} {ls : List (List UInt8)} {F : List Nat} {l l' body : List UInt8} {ph ph' kind ch : Nat} (h : SoonI w0 w a H g ls F l ph) (r : nextI 1024 l ph = ⟨kind, ch, body, l', ph'⟩) :
    Calls Try.prog 17 #[.pointer (some ⟨a, 0, none⟩)] w fun e w' => ∃ F' A c, e = .returned (.tuple #[.int .u8 kind, .agg #[.int .u16 ch, .slice A body.length c]]) ∧ Rd w' A c body ∧ SoonI w0 w' a H g ls F' l' ph' :=
  (if_next h.inn r).mono fun e w' ⟨F', v, h1, h2, h3, h4, h5, _⟩ => by
    obtain ⟨A, c, rfl, hr⟩ := h2.rd
    exact ⟨F', A, c, h1, hr, h3, h.rows.tch h4 h.far, fun k hk => by
      rcases h5 k hk with e | e
      · exact h.far k e
      · exact .inr (Nat.le_trans h.size e), Nat.le_trans h.size h4.size⟩
theorem took_one' {l : List UInt8} {ph : Nat} (b : UInt8) (h : l.length ≤ 300) (hp : ph ≤ 1) : tookI 1024 l ph [b] = 1 := by
  unfold tookI roomI
  rw [if_neg (by omega)]
  simp
  omega
/-- The row of number i: the header, or a frame. -/
def soonR (fs : List FrameAt) : List (List UInt8) := stB :: fs.map fun f => fw f.ch f.l
theorem soonR_take (fs : List FrameAt) (k : Nat) (h : k < fs.length) : soonR (fs.take (k + 1)) = soonR (fs.take k) ++ [fw (fs[k]).ch (fs[k]).l] := by
  rw [soonR, soonR, List.take_succ_eq_append_getElem h, List.map_append]
  rfl
/-- What comes next where a row is cut, and where it is whole. -/
structure CutR (L : List UInt8) (ph K ch : Nat) (body : List UInt8) : Prop where
  lo : 8 ≤ L.length
  hi : L.length ≤ 208
  part : ∀ k, k + 1 < L.length → nextI 1024 (L.take (k + 1)) ph = ⟨0, 0, [], L.take (k + 1), ph⟩
  whole : ∀ k, k + 1 = L.length → nextI 1024 (L.take (k + 1)) ph = ⟨K, ch, body, [], 1⟩
  ph1 : ph ≤ 1
theorem cut_head : CutR stB 0 1 0 [] :=
  ⟨by decide, by decide, fun k hk => next_h0 k (by have : stB.length = 8 := rfl; omega), fun k hk => by
    obtain rfl : k = 7 := by have : stB.length = 8 := rfl; omega
    exact next_h1, by decide⟩
theorem cut_frame (ch : Nat) (l : List UInt8) (hl : l.length ≤ 200) (hc : ch ≤ 65535) : CutR (fw ch l) 1 2 ch l :=
  ⟨by rw [fw_length]; omega, by rw [fw_length]; omega, fun k hk => next_f0 ch l k hl (by rw [fw_length] at hk; omega), fun k hk => next_f1 ch l k hl hc (by rw [fw_length] at hk; omega), by decide⟩
theorem soonR_zero (fs : List FrameAt) (h : 0 < (soonR fs).length) : (soonR fs)[0] = stB := rfl
theorem soonR_succ (fs : List FrameAt) (p : Nat) (hp : p < fs.length) (h : p + 1 < (soonR fs).length) : (soonR fs)[p + 1] = fw (fs[p]).ch (fs[p]).l := by simp [soonR]
theorem soonR_len (fs : List FrameAt) : (soonR fs).length = fs.length + 1 := by simp [soonR]

theorem Try.info_bs : (Try.prog.info? 24).map (fun i => (i.zero, i.size, i.bytes)) = some (some (.slice none 0 0), 1, 24) := by kernel_rfl
theorem RwsO.one {w1 : World} {base c : Nat} {l : List UInt8} {A : Option Addr} (hr : Rd w1 A c l) (hb : base ≤ w1.heap.size) (ha : ∃ ad, A = some ad ∧ base ≤ ad.block ∧ ad.block < w1.heap.size) : RwsO (w1.alloc (.cells #[.slice A l.length c] 24)) base (.slice (some ⟨w1.heap.size, 0, none⟩) 1 1) [l] := by
  refine ⟨[.slice A l.length c], ⟨rfl, by simp [Value.oneCell'], .inr ⟨w1.heap.size, 1, [], rfl, hb, by simp [heap_alloc_is], by simp, by simp, by decide, by simp⟩⟩, fun i hi => ?_⟩
  obtain rfl : i = 0 := by simp at hi; omega
  obtain ⟨ad, rfl, h1, h2⟩ := ha
  exact ⟨_, c, rfl, hr.below (below_alloc w1 _), ad, rfl, h1, by simp; omega, fun e => by simp [Value.ownBlock] at e; omega⟩
theorem MemB.far {w : World} {base : Nat} {v : Value} {l sp : List UInt8} (h : MemB w base v l sp) (h0 : 0 < l.length) : ∃ A c, v = .slice A l.length c ∧ Rd w A c l ∧ ∃ ad, A = some ad ∧ base ≤ ad.block ∧ ad.block < w.heap.size := by
  obtain ⟨A, c, rfl, hr⟩ := h.rd
  refine ⟨A, c, rfl, hr, ?_⟩
  rcases h with ⟨-, rfl, -⟩ | ⟨g, e, e1, h1, h2, -⟩
  · simp at h0
  · cases e1
    exact ⟨_, rfl, h1, heap_lt h2⟩
theorem wpList_appR {ops : Array Oper} {rest : List Oper} {o : Oper} {a : Act} {Q : Exit → Act → World → Prop} (hgd : o.guard = none) (s x : Operand)
    (ho : o.op = .call { callee := .builtin .append, args := #[s, x], argTypes := #[23, 23] })
    (w : World) (base : Nat) (v : Value) (ls : List (List UInt8)) (hs : a.eval s = v) (hw : RwsO w base v ls) (p : Nat) (A : Option Addr) (c : Nat) (l : List UInt8) (hx : a.eval x = .slice (some ⟨p, 0, none⟩) 1 1) (hc : w.cell? ⟨p, 0, none⟩ = some (.slice A l.length c)) (hr : Rd w A c l)
    (ha : ∃ ad, A = some ad ∧ base ≤ ad.block ∧ ad.block < w.heap.size ∧ v.ownBlock ≠ some ad.block) (hl : ls.length ≤ 1000) (hbase : base ≤ w.heap.size)
    (h : ∀ v' w', RwsO w' base v' (ls ++ [l]) → Below base w w' → wpList Try.prog ops Q rest (a.put o.dst v') w') : wpList Try.prog ops Q (o :: rest) a w := by
  obtain ⟨i0, hi, hz0, hz1, hz2⟩ := info_parts Try.info_bs
  obtain ⟨cs, h1, h2⟩ := hw.own
  have hcl := h1.1
  refine wpList_appC w hgd s x 23 ho base i0 (.slice none 0 0) 24 Try.underlying23 hi hz0 hz1 hz2 rfl (by decide) (fun _ _ => trivial) v ls.length cs hs h1 _ 1 1 [.slice A l.length c] hx ?rd (by omega) (by omega) hbase ?_
  case rd =>
    refine ⟨rfl, by decide, by decide, (fun hh => by cases hh), by simp [Value.oneCell'], fun ad ha j u hj => ?_⟩
    cases ha
    obtain rfl : j = 0 := by
      rcases j with _ | j
      · rfl
      · simp at hj
    simp at hj
    subst hj
    exact hc
  intro v' w' g1 g2 _ g4
  exact h v' w' (RwsO.app h2 (by omega) g1 hr ha g2 g4) (below_grown (Below.refl _ _) hbase g2 (fun k hk => (h1.lt k hk).1))
end Go.Proofs.Ytmeljnohkhkfmaa

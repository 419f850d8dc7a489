import Derived.Test.YtklgndmndnmdpaaQAl
set_option linter.unusedVariables false
set_option linter.unusedSimpArgs false
namespace Go.Proofs.Ytklgndmndnmdpaa
open Go.RowKit Go.Shelf
attribute [local go_sem] Oper.semAt_some

theorem SqZ.mono {α : Type} {F : Fence} {P : Program} {g : Nat} {lb : Array Value} {encs : α → Array Value} {R R' : List α → World → Prop} {V V' : List α → α → Prop} {S S' : List α → Prop} {w : World}
    (h : SqZ F P g lb encs R V S w) (hR : ∀ pre W, R' pre W → R pre W) (hV : ∀ pre x, V pre x → V' pre x) (hS : ∀ xs, S xs → S' xs) : SqZ F P g lb encs R' V' S' w :=
  fun n l J Jx W hb hJ hJx hR' hY h0 => (h n l J Jx W hb hJ hJx (fun pre Z W' hj => hR _ _ (hR' pre Z W' hj)) (fun m pre x Z W1 hj hv => hY m pre x Z W1 hj (hV _ _ hv)) h0).mono fun e W' ⟨h1, h2⟩ => ⟨h1, h2.imp (fun ⟨xs, h3, h4⟩ => ⟨xs, hS xs h3, h4⟩) id⟩

/-- What is said between rounds: of what w had the blocks of F alone have turned; G: blocks of one's own; Z: guests. -/
def CZ {β : Type} (w : World) (F G : List Nat) (P : β → World → Prop) (s : β) (Z : List Nat) (W : World) : Prop :=
  Tch F w W ∧ P s W ∧ (∀ k ∈ G, w.heap.size ≤ k ∧ k ∉ Z ∧ k < W.heap.size) ∧ ∀ k ∈ Z, w.heap.size ≤ k ∧ k < W.heap.size
theorem clo_cz {β : Type} {w : World} {F G : List Nat} {P : β → World → Prop} (hP : ∀ s W W', Tch F w W → P s W → (∀ k, k ∈ G ∨ k < w.heap.size → W'.heap[k]? = W.heap[k]?) → P s W') : Clo (CZ w F G P) := by
  refine ⟨fun s Z N W W' ⟨h1, h2, h3, h4⟩ hb hN => ⟨h1.trans (Tch.of_below [] hb) (by simp), hP s W W' h1 h2 fun k hk => hb.block k ?_, fun k hk => ⟨(h3 k hk).1, fun hm => ?_, Nat.lt_of_lt_of_le (h3 k hk).2.2 hb.size⟩, fun k hk => ?_⟩,
    fun s Z W W' ⟨h1, h2, h3, h4⟩ t => ⟨h1.trans t fun k hk => .inr (h4 k hk).1, hP s W W' h1 h2 fun k hk => t.block k ?_ fun hm => ?_, fun k hk => ⟨(h3 k hk).1, (h3 k hk).2.1, Nat.lt_of_lt_of_le (h3 k hk).2.2 t.size⟩, fun k hk => ⟨(h4 k hk).1, Nat.lt_of_lt_of_le (h4 k hk).2 t.size⟩⟩,
    fun s Z Z' W ⟨h1, h2, h3, h4⟩ hs => ⟨h1, h2, fun k hk => ⟨(h3 k hk).1, fun hm => (h3 k hk).2.1 (hs k hm), (h3 k hk).2.2⟩, fun k hk => h4 k (hs k hk)⟩⟩
  · have := h1.size
    rcases hk with hk | hk
    · exact (h3 k hk).2.2
    · omega
  · rcases List.mem_append.1 hm with e | e
    · have := (hN k e).1; have := (h3 k hk).2.2; omega
    · exact (h3 k hk).2.1 e
  · rcases List.mem_append.1 hk with e | e
    · have := (hN k e).1; have := h1.size; exact ⟨by omega, (hN k e).2⟩
    · exact ⟨(h4 k e).1, Nat.lt_of_lt_of_le (h4 k e).2 hb.size⟩
  · have := h1.size
    rcases hk with hk | hk
    · exact (h3 k hk).2.2
    · omega
  · rcases hk with hk | hk
    · exact (h3 k hk).2.1 hm
    · have := (h4 k hm).1; omega
/-- A step that turns blocks of one's own alone. -/
theorem CZ.step {β : Type} {w : World} {F G : List Nat} {P : β → World → Prop} {s s' : β} {Z : List Nat} {W W' : World} (h : CZ w F G P s Z W) (t : Tch G W W') (hP : P s' W') : ZK Z W W' ∧ CZ w F G P s' Z W' :=
  ⟨⟨t.size, fun k hk => t.block k (h.2.2.2 k hk).2 fun hm => (h.2.2.1 k hm).2.1 hk⟩, h.1.trans t fun k hk => .inr (h.2.2.1 k hk).1, hP, fun k hk => ⟨(h.2.2.1 k hk).1, (h.2.2.1 k hk).2.1, Nat.lt_of_lt_of_le (h.2.2.1 k hk).2.2 t.size⟩, fun k hk => ⟨(h.2.2.2 k hk).1, Nat.lt_of_lt_of_le (h.2.2.2 k hk).2 t.size⟩⟩

/-- What comes of a queue's all, where nothing of it is turned. -/
def SeqP {α : Type} (w : World) (p0 : Option Addr) (enc : α → Value) (L : Bool → List α) : Prop :=
  ∀ (b : Bool) (Bq Bh : Nat) (w1 : World), SqZ Fence.wide Try.prog 80 #[.pointer (some ⟨Bq, 0, none⟩), .pointer (some ⟨Bh, 0, none⟩)] (fun x : α => #[enc x])
    (fun _ W => Below w.heap.size w W ∧ W.cell? ⟨Bq, 0, none⟩ = some (.pointer p0) ∧ W.cell? ⟨Bh, 0, none⟩ = some (.bool b)) (fun pre x => (pre ++ [x]) <+: L b) (fun xs => xs = L b) w1
theorem seqP_nil {α : Type} (w : World) (enc : α → Value) : SeqP w none enc fun _ => [] := fun b Bq Bh w1 =>
  (all1_nil_sq Fence.wide trivial rfl (fun x : α => #[enc x]) Bq Bh w1).mono (fun _ _ h => h.2.1) (fun _ _ h => h.elim) fun _ h => h
theorem seqP_q {w : World} {B : Nat} {F : List Nat} {q room limit last : Nat} {L : List En} {bk : Nat → Nat} {bv rv : Nat → Value} (h : Qq w B F q room limit last L bk bv rv) :
    SeqP w (some ⟨q, 0, none⟩) (fun e : En => ev (bk e.id)) fun b => ordQ b L := fun b Bq Bh w1 =>
  (all_sq B F q Bq Bh room limit last b L bk bv rv w1).mono (fun pre W ⟨h1, h2, h3⟩ => ⟨h2, h3, rv, [], (by simp), by rw [less_nil]; exact h.below h1, fun _ _ _ => rfl⟩) (fun _ _ h => h) fun _ h => h

theorem forgetI {F : Fence} {n : Nat} {P : Program} {c : Code} {Q : Exit → Act → World → Prop} {a : Act} {W : World} (G : World → Prop) (hG : G W) (h : ∀ W, G W → c.wpIn F n P Q a W) : c.wpIn F n P Q a W := h W hG
/-- Four cells. -/
structure LenP (g : Nat) (x y b : Value) (p0 : Option Addr) (a : Nat) (W : World) : Prop where
  c0 : Bx W g 3 [x]
  c1 : Bx W (g + 1) 3 [y]
  c2 : Bx W a 78 [.pointer p0]
  c3 : Bx W (a + 1) 4 [b]
theorem LenP.keep {g a : Nat} {x y b : Value} {p0 : Option Addr} {W W' : World} (h : LenP g x y b p0 a W) (hk : ∀ k, k ∈ [g, g + 1, a, a + 1] → W'.heap[k]? = W.heap[k]?) : LenP g x y b p0 a W' :=
  ⟨h.c0.keep (hk _ (by simp)), h.c1.keep (hk _ (by simp)), h.c2.keep (hk _ (by simp)), h.c3.keep (hk _ (by simp))⟩
theorem LenP.set {g a : Nat} {x y b x' : Value} {p0 : Option Addr} {W : World} (h : LenP g x y b p0 a W) (ha : g < a) : LenP g x' y b p0 a (W.setCell ⟨g, 0, none⟩ x') :=
  ⟨h.c0.set 0 x', h.c1.off (by omega), h.c2.off (by omega), h.c3.off (by omega)⟩
theorem LenP.set2 {g a : Nat} {x y b y' : Value} {p0 : Option Addr} {W : World} (h : LenP g x y b p0 a W) (ha : g + 1 < a) : LenP g x y' b p0 a (W.setCell ⟨g + 1, 0, none⟩ y') :=
  ⟨h.c0.off (by omega), h.c1.set 0 y', h.c2.off (by omega), h.c3.off (by omega)⟩
theorem prefix_len {α : Type} {a b : List α} (h : a <+: b) : a.length ≤ b.length := h.length_le

set_option maxRecDepth 100000 in
set_option maxHeartbeats 2000000 in
theorem qlen_calls {α : Type} (w : World) (p0 : Option Addr) (enc : α → Value) (L : Bool → List α) (hs : SeqP w p0 enc L) (hL : ∀ b, (L b).length ≤ 1000) :
    Calls Try.prog 48 #[.pointer p0] w fun e w' => e = .returned (.tuple #[.int .i64 (L false).length, .int .i64 (L true).length]) ∧ Below w.heap.size w w' := by
  refine (callsIn_wide (n := 3)).1 ?_
  refine callsIn_of_wp_marks Try.func48 rfl trivial ?_ rfl
  simp only [Try.ntmps48, List.size_toArray, List.length_cons, List.length_nil, Nat.reduceAdd, Nat.reduceSub, Array.replicate_succ, Array.replicate_zero, List.push_toArray, List.append_toArray, List.nil_append, List.cons_append]
  gi_wp2_with ((try refine ⟨trivial, ?_⟩); gi_at_call 69; refine (qall_in _ _ trivial rfl p0 false _).mono ?_; rintro e w1 ⟨rfl, rfl⟩)
  obtain ⟨g, hg⟩ : ∃ g, w.heap.size = g := ⟨_, rfl⟩
  refine forgetI (fun W => Tch [] w W ∧ LenP g (.int .i64 0) (.int .i64 0) (.bool false) p0 (g + 1 + 1) W ∧ W.heap.size = g + 4) ⟨?_, ⟨?_, ?_, ?_, ?_⟩, ?_⟩ ?_
  · exact ((((Tch.refl _ w).alloc _).alloc _).alloc _).alloc _
  · subst hg; exact (((Bx.new _ _ [_]).alloc _).alloc _).alloc _
  · subst hg; exact ((Bx.new' _ _ [_] (by simp)).alloc _).alloc _
  · subst hg; exact (Bx.new' _ _ [_] (by simp)).alloc _
  · subst hg; exact Bx.new' _ _ [_] (by simp)
  · subst hg; simp
  · rintro W ⟨hT, hP, hsz⟩
    rw [hg]
    refine range_outer (encs := fun x => #[enc x]) rfl rfl (gf := 80) (lb := #[.pointer (some ⟨g + 1 + 1, 0, none⟩), .pointer (some ⟨g + 1 + 1 + 1, 0, none⟩)]) rfl trivial (enters_of Try.func80 (by kernel_rfl) rfl) (hs false (g + 1 + 1) (g + 1 + 1 + 1) w) (Tch.below0 hT) (fun _ => rfl)
      (CZ w [] [g, g + 1, g + 1 + 1, g + 1 + 1 + 1] fun pre W => LenP g (.int .i64 (pre.length : Nat)) (.int .i64 0) (.bool false) p0 (g + 1 + 1) W) (fun _ _ _ _ => False) (clo_cz fun s A A' _ h hk => h.keep fun k hm => hk k (.inl hm)) (fun _ => ⟨fun _ _ _ _ _ h => h.elim, fun _ _ _ _ h => h.elim, fun _ _ _ _ h => h.elim⟩)
      ⟨hT, hP, fun k hk => ⟨by simp at hk; omega, by simp, by simp at hk; omega⟩, by simp⟩ (fun pre Z W' h => ⟨h.1.below0, h.2.1.c2.cell 0 _ rfl, h.2.1.c3.cell 0 _ rfl⟩)
      (fun x => { tmps := #[.pointer p0, undef, .pointer (some ⟨g, 0, none⟩), .pointer (some ⟨g + 1, 0, none⟩), .pointer p0, .func (.func 80) #[] #[.pointer (some ⟨g + 1 + 1, 0, none⟩), .pointer (some ⟨g + 1 + 1 + 1, 0, none⟩)], enc x, undef, undef, undef, undef, undef, undef, undef, undef, undef], defers := [] }) ?assign ?body ?done (fun D c pre W _ h => h.elim)
    case assign => intro l2 x W2 K hK; gi_wp2; simpa using hK
    case body =>
      rintro l pre x Z W2 hV hl hr hI
      have hlen := prefix_len hV
      have hN := hL false
      obtain ⟨N, hNe⟩ : ∃ N, (L false).length = N := ⟨_, rfl⟩
      simp only [List.length_append, List.length_singleton] at hlen
      rw [hNe] at hlen hN
      have hc0 := hI.2.1.c0.cell 0 _ rfl
      have hf0 := hI.2.1.c0.froz 0
      obtain ⟨m, hm⟩ : ∃ m, pre.length = m := ⟨_, rfl⟩
      have hp : (m : Int) < N := by omega
      rw [hm] at hc0
      have HM := Lib.hid hm
      have HI := Lib.hid hI
      have HG := Lib.hid hg
      clear hm hlen hNe hI hr hV hsz hg hT hP hL
      gi_wp2
      exact HI.out.step (((tch_set _ _ _ _)).mono (by simp)) (by
        have := HI.out.2.1.set (x' := .int .i64 ((m : Int) + 1)) (by omega)
        simp only [List.length_append, List.length_singleton, HM.out, Int.natCast_add, Int.natCast_one]
        exact this)
    case done =>
      rintro D xs W3 hD hS hI hDD
      gi_wp2_with ((try refine ⟨trivial, ?_⟩); gi_at_call 69; refine (qall_in _ _ trivial rfl p0 true _).mono ?_; rintro e w1 ⟨rfl, rfl⟩)
      refine forgetI (fun W => CZ w [] [g, g + 1, D, W3.heap.size, W3.heap.size + 1] (fun pre W => LenP g (.int .i64 (L false).length) (.int .i64 (pre.length : Nat)) (.bool true) p0 W3.heap.size W ∧ W.heap[D]? = some (.deferred (some []))) ([] : List α) [] W) ?_ ?_
      · subst hS
        have h3 := hI.2.2.1
        refine ⟨(hI.1.alloc _).alloc _, ⟨⟨(hI.2.1.c0.alloc _).alloc _, (hI.2.1.c1.alloc _).alloc _, (Bx.new _ _ [_]).alloc _, Bx.new' _ _ [_] (by simp)⟩, (heap_alloc_old _ _ (by simp; exact Nat.lt_succ_of_lt (heap_lt hDD))).trans ((heap_alloc_old _ _ (heap_lt hDD)).trans hDD)⟩, fun k hk => ?_, by simp⟩
        have h31 := (h3 g (by simp)).2.2
        have h32 := (h3 (g + 1) (by simp)).2.2
        have h33 := hI.1.size
        have h34 := heap_lt hDD
        simp only [World.size_alloc, List.not_mem_nil, not_false_eq_true, true_and]
        simp only [List.mem_cons, List.not_mem_nil, or_false] at hk
        rcases hk with rfl | rfl | rfl | rfl | rfl <;> omega
      · rintro W4 hI4
        have hg3 : g + 1 < W3.heap.size := (hI.2.2.1 (g + 1) (by simp)).2.2
        have hDg : D ≠ g + 1 := by omega
        have hDg0 : D ≠ g := by omega
        refine range_outer (encs := fun x => #[enc x]) rfl rfl (gf := 80) (lb := #[.pointer (some ⟨W3.heap.size, 0, none⟩), .pointer (some ⟨W3.heap.size + 1, 0, none⟩)]) rfl trivial (enters_of Try.func80 (by kernel_rfl) rfl) (hs true W3.heap.size (W3.heap.size + 1) w) hI4.1.below0 (fun _ => rfl)
          (CZ w [] [g, g + 1, D, W3.heap.size, W3.heap.size + 1] (fun pre W => LenP g (.int .i64 (L false).length) (.int .i64 (pre.length : Nat)) (.bool true) p0 W3.heap.size W ∧ W.heap[D]? = some (.deferred (some [])))) (fun _ _ _ _ => False) (clo_cz fun s A A' _ h hk => ⟨h.1.keep fun k hm => hk k (.inl (by simp at hm ⊢; rcases hm with h | h | h | h <;> simp [h])), (hk D (.inl (by simp))).trans h.2⟩) (fun _ => ⟨fun _ _ _ _ _ h => h.elim, fun _ _ _ _ h => h.elim, fun _ _ _ _ h => h.elim⟩)
          hI4 (fun pre Z W' h => ⟨h.1.below0, h.2.1.1.c2.cell 0 _ rfl, h.2.1.1.c3.cell 0 _ rfl⟩)
          (fun x => { tmps := #[.pointer p0, undef, .pointer (some ⟨g, 0, none⟩), .pointer (some ⟨g + 1, 0, none⟩), .pointer p0, .func (.func 80) #[] #[.pointer (some ⟨g + 1 + 1, 0, none⟩), .pointer (some ⟨g + 1 + 1 + 1, 0, none⟩)], undef, undef, undef, .pointer p0, .func (.func 80) #[] #[.pointer (some ⟨W3.heap.size, 0, none⟩), .pointer (some ⟨W3.heap.size + 1, 0, none⟩)], enc x, undef, undef, undef, undef], defers := [] }) ?assign ?body ?done (fun D c pre W _ h => h.elim)
        case assign => intro l2 x W2 K hK; gi_wp2; simpa using hK
        case body =>
          rintro l pre x Z W2 hV hl hr hI
          have hlen := prefix_len hV
          have hN := hL true
          obtain ⟨N, hNe⟩ : ∃ N, (L true).length = N := ⟨_, rfl⟩
          simp only [List.length_append, List.length_singleton] at hlen
          rw [hNe] at hlen hN
          have hc0 := hI.2.1.1.c1.cell 0 _ rfl
          have hf0 := hI.2.1.1.c1.froz 0
          obtain ⟨m, hm⟩ : ∃ m, pre.length = m := ⟨_, rfl⟩
          have hp : (m : Int) < N := by omega
          rw [hm] at hc0
          have HM := Lib.hid hm
          have HI := Lib.hid hI
          have HG := Lib.hid hg
          clear hm hlen hNe hI hr hV hsz hg hT hP hL
          gi_wp2
          exact HI.out.step ((tch_set _ _ _ _).mono (by simp)) (by
            refine ⟨?_, (Below.heap_setCell _ _ _ _ hDg).trans HI.out.2.1.2⟩
            have := HI.out.2.1.1.set2 (y' := .int .i64 ((m : Int) + 1)) hg3
            simp only [List.length_append, List.length_singleton, HM.out, Int.natCast_add, Int.natCast_one]
            exact this)
        case done =>
          rintro D2 ys W5 hD2 hS2 hI5 hDD5
          have d0 := hI5.2.1.1.c0.cell 0 _ rfl
          have d1 := hI5.2.1.1.c1.cell 0 _ rfl
          have f0 := hI5.2.1.1.c0.froz 0
          have f1 := hI5.2.1.1.c1.froz 0
          have HI5 := Lib.hid hI5
          have HD5 := Lib.hid hDD5
          obtain ⟨x1, hx1⟩ : ∃ x, (((L false).length : Nat) : Int) = x := ⟨_, rfl⟩
          obtain ⟨x2, hx2⟩ : ∃ x, ((ys.length : Nat) : Int) = x := ⟨_, rfl⟩
          rw [hx1] at d0
          rw [hx2] at d1
          have X1 := Lib.hid hx1
          have X2 := Lib.hid hx2
          clear hI5 hDD5 hx1 hx2 hI4 hI hDD hsz hg hL hT hP
          gi_wp2_with fail
          gi_region
          obtain ⟨W6, hW6⟩ : ∃ W6, ((W5.setCell ⟨g, 0, none⟩ (.int .i64 x1)).setCell ⟨g + 1, 0, none⟩ (.int .i64 x2)).drew = W6 := ⟨_, rfl⟩
          have hD2g : D2 ≠ g ∧ D2 ≠ g + 1 ∧ D2 ≠ D := by
            have h1 := HI5.out.2.2.1
            refine ⟨fun e => (h1 g (by simp)).2.1 (by simp [e]), fun e => (h1 (g + 1) (by simp)).2.1 (by simp [e]), fun e => (h1 D (by simp)).2.1 (by simp [e])⟩
          have hc6 : Bx W6 g 3 [.int .i64 x1] := by
            rw [← hW6]
            exact ((by have := HI5.out.2.1.1.c0; rw [X1.out] at this; exact this.set 0 _ : Bx (W5.setCell ⟨g, 0, none⟩ (.int .i64 x1)) g 3 [.int .i64 x1]).off (by omega)).drew
          have hd6 : Bx W6 (g + 1) 3 [.int .i64 x2] := by
            rw [← hW6]
            exact (((HI5.out.2.1.1.c1.off (by omega)).set 0 (.int .i64 x2))).drew
          have he6 : ∀ k, k ≠ g → k ≠ g + 1 → W6.heap[k]? = W5.heap[k]? := fun k h1 h2 => by
            rw [← hW6]
            exact (Below.heap_setCell _ ⟨g + 1, 0, none⟩ _ k h2).trans (Below.heap_setCell _ ⟨g, 0, none⟩ _ k h1)
          have ht6 : Tch [g, g + 1] W5 W6 := by
            rw [← hW6]
            exact (((Tch.refl _ _).setCell _ (.inl (by simp))).setCell _ (.inl (by simp))).drew
          have hd2 := (he6 D2 hD2g.1 hD2g.2.1).trans HD5.out
          have hd1 := (he6 D hDg0 hDg).trans HI5.out.2.1.2
          rw [hW6]
          have HH1 := Lib.hid hd2
          have HH2 := Lib.hid hd1
          have HH3 := Lib.hid hc6
          have HH4 := Lib.hid hd6
          have HH5 := Lib.hid ht6
          clear hd1 hd2 hc6 hd6 ht6 he6 hW6 d0 d1 f0 f1 HD5
          gi_wp2_with fail
          refine ⟨by simp, .inl ⟨_, _, rfl, run_takeDeferred HH1.out, ?_⟩⟩
          have hne : D ≠ D2 := fun e => hD2g.2.2 e.symm
          have h7 : (W6.putObj D2 (.deferred none)).heap[D]? = some (.deferred (some [])) := (World.putObj_heap_other hne).trans HH2.out
          refine ⟨by simp, .inl ⟨_, _, rfl, run_takeDeferred h7, ?_⟩⟩
          have hk : ∀ k, k ≠ D → k ≠ D2 → ((W6.putObj D2 (.deferred none)).putObj D (.deferred none)).heap[k]? = W6.heap[k]? := fun k h1 h2 => (World.putObj_heap_other h1).trans (World.putObj_heap_other h2)
          refine ⟨_, results_cc rfl rfl rfl ((HH3.out.keep (hk g hDg0.symm hD2g.1.symm)).load1 (by kernel_rfl)) ((HH4.out.keep (hk (g + 1) hDg.symm hD2g.2.1.symm)).load1 (by kernel_rfl)), ?_, ?_⟩
          · rw [← X1.out, ← X2.out, hS2]
          · have t1 := HI5.out.1.trans HH5.out fun j hj => .inr (HI5.out.2.2.1 j (by simp at hj; rcases hj with h | h <;> simp [h])).1
            have t2 := t1.trans (tch_put W6 D2 (.deferred none)) fun j hj => .inr (by simp at hj; rw [hj]; exact (HI5.out.2.2.2 D2 (by simp)).1)
            have t3 := t2.trans (tch_put (W6.putObj D2 (.deferred none)) D (.deferred none)) fun j hj => .inr (by simp at hj; rw [hj]; exact (HI5.out.2.2.1 D (by simp)).1)
            exact t3.below0
end Go.Proofs.Ytklgndmndnmdpaa

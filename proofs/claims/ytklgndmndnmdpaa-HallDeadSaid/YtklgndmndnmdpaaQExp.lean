import Derived.Test.YtklgndmndnmdpaaQDrop2
set_option linter.unusedVariables false
set_option linter.unusedSimpArgs false
namespace Go.Proofs.Ytklgndmndnmdpaa
open Go.RowKit Go.Shelf
attribute [local go_sem] Oper.semAt_some

theorem ord_apart {L : List En} (h : L.Pairwise fun a b => a.id < b.id) (b : Bool) : (ordQ b L).Pairwise fun x y => x.id ≠ y.id := by
  unfold ordQ
  rw [List.pairwise_flatMap]
  refine ⟨fun p hp => ?_, ?_⟩
  · exact ((h.sublist ((List.filter_sublist).trans (rowp_sub L p)))).imp fun h1 h2 => by omega
  · have : prs.Pairwise fun a b => a ≠ b := by decide
    refine this.imp fun {p p'} hne x hx y hy hid => ?_
    have h1 := mem_rowp.1 (mem_ask.1 hx).1
    have h2 := mem_rowp.1 (mem_ask.1 hy).1
    have := sorted_uniq h h1.1 h2.1 hid
    subst this
    exact hne (h1.2.symm.trans h2.2)
theorem mem_ord {L : List En} {b : Bool} {e : En} : e ∈ ordQ b L → e ∈ L ∧ e.held = b := by
  intro h
  unfold ordQ at h
  obtain ⟨p, _, h2⟩ := List.mem_flatMap.1 h
  exact ⟨(mem_rowp.1 (mem_ask.1 h2).1).1, (mem_ask.1 h2).2⟩
theorem ord_count (b : Bool) : ∀ (L : List En), (∀ e ∈ L, e.m.pr < 10) → (ordQ b L).length = (L.filter fun e => e.held == b).length := by
  intro L
  induction L with
  | nil => intro _; rfl
  | cons e L ih =>
    intro h
    have h1 := ih fun x hx => h x (List.mem_cons_of_mem _ hx)
    have hp := h e List.mem_cons_self
    have key : ∀ p, (ask b (rowp (e :: L) p)).length = (ask b (rowp L p)).length + (if e.m.pr = p ∧ e.held = b then 1 else 0) := fun p => by
      unfold ask rowp
      by_cases h2 : e.m.pr = p
      · by_cases h3 : e.held = b <;> simp [h2, h3]
      · simp [h2]
    have h4 : ∀ M : List En, (ordQ b M).length = (ask b (rowp M 9)).length + (ask b (rowp M 8)).length + (ask b (rowp M 7)).length + (ask b (rowp M 6)).length + (ask b (rowp M 5)).length + (ask b (rowp M 4)).length + (ask b (rowp M 3)).length + (ask b (rowp M 2)).length + (ask b (rowp M 1)).length + (ask b (rowp M 0)).length := fun M => by
      simp only [ordQ, prs, List.flatMap_cons, List.flatMap_nil, List.length_append, List.length_nil]
      omega
    rw [h4 (e :: L)]
    rw [h4 L] at h1
    simp only [key]
    by_cases h3 : e.held = b
    · have h5 : ((e :: L).filter fun e => e.held == b).length = (L.filter fun e => e.held == b).length + 1 := by simp [h3]
      rw [h5, ← h1]
      have : e.m.pr = 0 ∨ e.m.pr = 1 ∨ e.m.pr = 2 ∨ e.m.pr = 3 ∨ e.m.pr = 4 ∨ e.m.pr = 5 ∨ e.m.pr = 6 ∨ e.m.pr = 7 ∨ e.m.pr = 8 ∨ e.m.pr = 9 := by omega
      rcases this with h | h | h | h | h | h | h | h | h | h <;> simp [h, h3] <;> omega
    · have h5 : ((e :: L).filter fun e => e.held == b).length = (L.filter fun e => e.held == b).length := by simp [h3]
      rw [h5, ← h1]
      simp [h3]
theorem ord_len {room limit last : Nat} {L : List En} {b : Bool} (h : WfQ room limit last L) : (ordQ b L).length ≤ 64 := by
  rw [ord_count b L fun e he => (h.ok e he).pr]
  exact Nat.le_trans (List.length_filter_le _ _) (Nat.le_trans h.len h.room2)
theorem ord_both {L : List En} (h : ∀ e ∈ L, e.m.pr < 10) : (ordQ false L).length + (ordQ true L).length = L.length := by
  rw [ord_count _ _ h, ord_count _ _ h]
  clear h
  induction L with
  | nil => rfl
  | cons e L ih =>
    simp at ih
    cases hb : e.held <;> simp [hb] <;> omega
section
variable {W W' w : World} {B : Nat} {F : List Nat} {q room limit last : Nat} {L : List En} {bk : Nat → Nat} {bv rv rv' : Nat → Value}
theorem Qq.keepW {D : List Nat} (h0 : Qq w B F q room limit last L bk bv rv) (h : Qq W B F q room limit last (less D L) bk bv rv') (t : Tch F w W) (hk : ∀ k, k < w.heap.size → W'.heap[k]? = W.heap[k]?) : Qq W' B F q room limit last (less D L) bk bv rv' := by
  have hF : ∀ k ∈ F, W'.heap[k]? = W.heap[k]? := fun k hm => hk k (h0.lt k hm)
  exact ⟨(hF _ h.fq).trans h.hd, fun p hp => (h.rows p hp).keep fun k hk => hF k (h.fr p hp k hk), fun e he => (hF _ (h.fe e he)).trans (h.ent e he), fun e he => (h0.bod e (mem_less.1 he).1).keep fun k cs fr hh => (hk k (heap_lt hh)).trans (t.block k (heap_lt hh) fun hm => by obtain ⟨o, h1, h2⟩ := h0.nob k hm; rw [hh] at h1; exact h2 cs fr (Option.some.inj h1).symm), h.wf, h.inj, h.rdis, h.fq, h.fr, h.fe, h.fB,
    fun k hm => by obtain ⟨cs, t, h1, h2⟩ := h.ft k hm; exact ⟨cs, t, (hF k hm).trans h1, h2⟩⟩
end
theorem less_congr {D D' : List Nat} (h : ∀ d, d ∈ D ↔ d ∈ D') (L : List En) : less D L = less D' L := by
  unfold less
  refine List.filter_congr fun e _ => ?_
  by_cases hm : e.id ∈ D
  · simp [hm, (h _).1 hm]
  · have hm' : e.id ∉ D' := fun h' => hm ((h _).2 h')
    simp [hm, hm']
/-- A step that turns what may be turned, too. -/
theorem CZ.step3 {β : Type} {w : World} {F G G' : List Nat} {P P' : β → World → Prop} {s s' : β} {Z : List Nat} {W W' : World} (hF : ∀ k ∈ F, k < w.heap.size) (h : CZ w F G P s Z W) (t : Tch (F ++ G) W W') (hG : ∀ k ∈ G', k ∈ G ∨ (W.heap.size ≤ k ∧ k < W'.heap.size)) (hP : P' s' W') : ZK Z W W' ∧ CZ w F G' P' s' Z W' := by
  have h1 := h.1.size
  refine ⟨⟨t.size, fun k hk => t.block k (h.2.2.2 k hk).2 fun hm => ?_⟩, h.1.trans t fun k hk => ?_, hP, fun k hk => ?_, fun k hk => ⟨(h.2.2.2 k hk).1, Nat.lt_of_lt_of_le (h.2.2.2 k hk).2 t.size⟩⟩
  · rcases List.mem_append.1 hm with e | e
    · have := hF k e; have := (h.2.2.2 k hk).1; omega
    · exact (h.2.2.1 k e).2.1 hk
  · rcases List.mem_append.1 hk with e | e
    · exact .inl e
    · exact .inr (h.2.2.1 k e).1
  · rcases hG k hk with h2 | h2
    · exact ⟨(h.2.2.1 k h2).1, (h.2.2.1 k h2).2.1, Nat.lt_of_lt_of_le (h.2.2.1 k h2).2.2 t.size⟩
    · exact ⟨by omega, fun hm => by have := (h.2.2.2 k hm).2; omega, h2.2⟩
theorem Try.info_msg : (Try.prog.info? 41).map (fun i => (i.zero, i.size, i.bytes)) = some (some (.agg #[.int .u8 0, .int .u32 0, .int .u32 0, .string ⟨#[]⟩, .slice none 0 0]), 5, 56) := by kernel_rfl
/-- The ids of those that are old. -/
def oldIds (now : Int) (l : List En) : List Nat := (l.filter fun e => oldE e now).map (·.id)
def mcsL (bv : Nat → Value) (l : List En) : List Value := l.flatMap fun e => mcs e.m (bv e.id)
/-- Where Expire's loop is. -/
structure ExP (w : World) (B : Nat) (F : List Nat) (q room limit last : Nat) (L : List En) (bk : Nat → Nat) (bv rv : Nat → Value) (now : Int) (g : Nat) (G : List Nat) (pre : List En) (W : World) : Prop where
  c0 : Bx W g 78 [.pointer (some ⟨q, 0, none⟩)]
  c1 : Bx W (g + 1) 2 [.int .i64 now]
  c3 : Bx W (g + 1 + 1 + 1) 78 [.pointer (some ⟨q, 0, none⟩)]
  c4 : Bx W (g + 1 + 1 + 1 + 1) 4 [.bool false]
  gG : ∀ k ∈ [g, g + 1, g + 1 + 1, g + 1 + 1 + 1, g + 1 + 1 + 1 + 1], k ∈ G
  qu : ∃ rv', Qq W B F q room limit last (less (oldIds now pre) L) bk bv rv' ∧ ∀ p < 10, (∀ e ∈ pre, e.m.pr ≠ p) → rv' p = rv p
  ex : ∃ v, Bx W (g + 1 + 1) 60 [v] ∧ OwnC 41 5 (fun _ => True) W w.heap.size v (pre.filter fun e => oldE e now).length (mcsL bv (pre.filter fun e => oldE e now)) ∧ ∀ k, v.ownBlock = some k → k ∈ G
theorem ExP.keep {w : World} {B : Nat} {F : List Nat} {q room limit last : Nat} {L : List En} {bk : Nat → Nat} {bv rv : Nat → Value} {now : Int} {g : Nat} {G : List Nat} {pre : List En} {W W' : World} (h0 : Qq w B F q room limit last L bk bv rv) (h : ExP w B F q room limit last L bk bv rv now g G pre W) (t : Tch F w W) (hk : ∀ k, k ∈ G ∨ k < w.heap.size → W'.heap[k]? = W.heap[k]?) : ExP w B F q room limit last L bk bv rv now g G pre W' := by
  obtain ⟨h1, h2, h3, h4, h5, ⟨rv', h6, h7⟩, v, h8, h9, h10⟩ := h
  exact ⟨h1.keep (hk _ (.inl (h5 _ (by simp)))), h2.keep (hk _ (.inl (h5 _ (by simp)))), h3.keep (hk _ (.inl (h5 _ (by simp)))), h4.keep (hk _ (.inl (h5 _ (by simp)))), h5, ⟨rv', h0.keepW h6 t fun k hm => hk k (.inr hm), h7⟩, v, h8.keep (hk _ (.inl (h5 _ (by simp)))), h9.keep fun k hm => hk k (.inl (h10 k hm)), h10⟩

set_option maxRecDepth 100000 in
set_option maxHeartbeats 2000000 in
theorem qexp_calls {w : World} {B : Nat} {F : List Nat} {q room limit last : Nat} {L : List En} {bk : Nat → Nat} {bv rv : Nat → Value} (h : Qq w B F q room limit last L bk bv rv) (now : Int) :
    Calls Try.prog 72 #[.pointer (some ⟨q, 0, none⟩), .int .i64 now] w fun r w' => ∃ v rv', r = .returned v ∧ OwnC 41 5 (fun _ => True) w' w.heap.size v ((ordQ false L).filter fun e => oldE e now).length (mcsL bv ((ordQ false L).filter fun e => oldE e now)) ∧ Qq w' B F q room limit last (less (oldIds now (ordQ false L)) L) bk bv rv' ∧ Tch F w w' := by
  have hFlt := h.lt
  have H := Lib.hid h
  refine (callsIn_wide (n := 3)).1 ?_
  refine callsIn_of_wp_marks Try.func72 rfl trivial ?_ rfl
  simp only [Try.ntmps72, List.size_toArray, List.length_cons, List.length_nil, Nat.reduceAdd, Nat.reduceSub, Array.replicate_succ, Array.replicate_zero, List.push_toArray, List.append_toArray, List.nil_append, List.cons_append]
  clear h hFlt
  gi_wp2_with ((try refine ⟨trivial, ?_⟩); gi_at_call 69; refine (qall_in _ _ trivial rfl (some ⟨q, 0, none⟩) false _).mono ?_; rintro e w1 ⟨rfl, rfl⟩)
  obtain ⟨g, hg⟩ : ∃ g, w.heap.size = g := ⟨_, rfl⟩
  refine forgetI (fun W => CZ w F [g, g + 1, g + 1 + 1, g + 1 + 1 + 1, g + 1 + 1 + 1 + 1] (ExP w B F q room limit last L bk bv rv now g [g, g + 1, g + 1 + 1, g + 1 + 1 + 1, g + 1 + 1 + 1 + 1]) ([] : List En) [] W) ?_ ?_
  · subst hg
    have t : Tch [] w (((((w.alloc (.cells #[.pointer (some ⟨q, 0, none⟩)] 78)).alloc (.cells #[.int .i64 now] 2)).alloc (.cells #[.slice none 0 0] 60)).alloc (.cells #[.pointer (some ⟨q, 0, none⟩)] 78)).alloc (.cells #[.bool false] 4)) := (((((Tch.refl _ w).alloc _).alloc _).alloc _).alloc _).alloc _
    exact ⟨t.mono (by simp), ⟨((((Bx.new _ _ [_]).alloc _).alloc _).alloc _).alloc _, ((((Bx.new' _ _ [_] (by simp)).alloc _).alloc _).alloc _), ((Bx.new' _ _ [_] (by simp)).alloc _), Bx.new' _ _ [_] (by simp), by simp, ⟨rv, by rw [show oldIds now [] = [] from rfl, less_nil]; exact H.out.below t.below0, fun _ _ _ => rfl⟩, .slice none 0 0, (((Bx.new' _ _ [_] (by simp)).alloc _).alloc _), OwnC.nil_, by simp [Value.ownBlock]⟩, fun k hk => ⟨by simp at hk; omega, by simp, by simp at hk; simp; omega⟩, by simp⟩
  rintro W hI0
  rw [hg]
  refine range_outer (encs := fun e : En => #[ev (bk e.id)]) (w0 := W) rfl rfl (gf := 80) (lb := #[.pointer (some ⟨g + 1 + 1 + 1, 0, none⟩), .pointer (some ⟨g + 1 + 1 + 1 + 1, 0, none⟩)]) rfl trivial (enters_of Try.func80 (by kernel_rfl) rfl) (all_sq B F q (g + 1 + 1 + 1) (g + 1 + 1 + 1 + 1) room limit last false L bk bv rv W) (Below.refl _ _) (fun _ => rfl)
    (fun pre Z W => ∃ G, CZ w F G (ExP w B F q room limit last L bk bv rv now g G) pre Z W) (fun _ _ _ _ => False)
    (clo_exG fun G => clo_cz fun s A A' t h hk => h.keep H.out t hk)
    (fun _ => ⟨fun _ _ _ _ _ h => h.elim, fun _ _ _ _ h => h.elim, fun _ _ _ _ h => h.elim⟩)
    ⟨_, hI0⟩ (fun pre Z W' ⟨G, h⟩ => ⟨h.2.1.c3.cell 0 _ rfl, h.2.1.c4.cell 0 _ rfl, by
      obtain ⟨rv', h1, h2⟩ := h.2.1.qu
      refine ⟨rv', oldIds now pre, fun d hd => ?_, h1, h2⟩
      obtain ⟨e, he, rfl⟩ := List.mem_map.1 hd
      exact ⟨e, (List.mem_filter.1 he).1, rfl⟩⟩)
    (fun x => { tmps := #[.pointer (some ⟨q, 0, none⟩), .int .i64 now, .pointer (some ⟨g, 0, none⟩), .pointer (some ⟨g + 1, 0, none⟩), .pointer (some ⟨g + 1 + 1, 0, none⟩), ev (bk x.id), .pointer (some ⟨q, 0, none⟩), .func (.func 80) #[] #[.pointer (some ⟨g + 1 + 1 + 1, 0, none⟩), .pointer (some ⟨g + 1 + 1 + 1 + 1, 0, none⟩)], ev (bk x.id), undef, undef, undef, undef, undef, undef, undef, undef, undef, undef], defers := [] }) ?assign ?body ?done (fun D c pre W _ h => h.elim)
  case assign => intro l2 x W2 K hK; gi_wp2; simpa using hK
  case body =>
    rintro l pre x Z W2 hV hl hr ⟨G, hI⟩
    have hxo : x ∈ ordQ false L := hV.subset (by simp)
    have hxL := (mem_ord hxo).1
    have hS := H.out.wf.sorted
    have hapart := (ord_apart hS false).sublist hV.sublist
    have hnew : ∀ e ∈ pre, e.id ≠ x.id := fun e he => (List.pairwise_append.1 hapart).2.2 e he x (by simp)
    obtain ⟨rv', hQ, hrv⟩ := hI.2.1.qu
    have hxl : x ∈ less (oldIds now pre) L := mem_less.2 ⟨hxL, fun hm => by
      obtain ⟨e, he, hid⟩ := List.mem_map.1 hm
      exact hnew e (List.mem_filter.1 he).1 hid⟩
    have hent : Bx W2 (bk x.id) 145 (ecs x (bv x.id)) := hQ.ent x hxl
    have hwf := hQ.wf.ok x hxl
    have htm := hQ.wf.tm x hxl
    have c1 := hI.2.1.c1.cell 0 _ rfl
    have HI := Lib.hid hI
    have HQ := Lib.hid hQ
    have HRV := Lib.hid hrv
    have HXl := Lib.hid hxl
    have HV := Lib.hid hV
    have HW := Lib.hid hwf
    unfold ev
    clear hI hQ hrv hxl hV hr hapart hnew hxo hxL hwf
    gi_wp2_with fail
    refine ⟨trivial, (CallsIn.inRound l (callsIn_wide.2 (old_calls hent HW.out htm now))).mono ?_⟩
    rintro r w1 ⟨rfl, b1⟩
    have hgs : ∀ k ∈ G, k < W2.heap.size := fun k hk => (HI.out.2.2.1 k hk).2.2
    have tA : Tch [] W2 w1 := Tch.of_below [] b1
    have hP1 : ExP w B F q room limit last L bk bv rv now g G pre w1 := HI.out.2.1.keep H.out HI.out.1 fun k hk => b1.block k (by
      rcases hk with hk | hk
      · exact hgs k hk
      · exact Nat.lt_of_lt_of_le hk HI.out.1.size)
    by_cases ho : oldE x now = true
    · rw [ho]
      have HO := Lib.hid ho
      clear ho c1 hent
      gi_wp2_with fail
      obtain ⟨q1, q2, q3, q4, q5, ⟨rv1, hQ1, hrv1⟩, v, q8, q9, q10⟩ := hP1
      obtain ⟨A, c, rfl, -⟩ := q9.rd
      obtain ⟨AB, cB, hbv, -⟩ := HQ.out.bod x HXl.out
      obtain ⟨nD, hnD⟩ : ∃ nD, (pre.filter fun e => oldE e now).length = nD := ⟨_, rfl⟩
      have hnD1 : nD + 1 ≤ 64 := by
        have h1 := HV.out.length_le
        have h2 : (ordQ false L).length ≤ 64 := ord_len H.out.wf
        have h3 := List.length_filter_le (fun e => oldE e now) pre
        simp only [List.length_append, List.length_singleton] at h1
        omega
      rw [hnD] at q8 q9 q10
      have m0 := q8.cell 0 _ rfl
      have m1 := q1.cell 0 _ rfl
      have HQ8 := Lib.hid q8
      have HQ9 := Lib.hid q9
      have HQ1 := Lib.hid hQ1
      have HRV1 := Lib.hid hrv1
      have HB1 := Lib.hid q1
      have HB2 := Lib.hid q2
      have HB3 := Lib.hid q3
      have HB4 := Lib.hid q4
      have HGG := Lib.hid q5
      have HGv := Lib.hid q10
      have HND := Lib.hid hnD
      have HBV := Lib.hid hbv
      have HB := Lib.hid b1
      have HA := Lib.hid tA
      have hmg : mgv x.m (bv x.id) = .agg #[.int .u8 x.m.pr, .int .u32 x.m.ttl, .int .u32 x.m.cnt, str x.m.ids, .slice AB x.m.body.length cB] := by unfold mgv; rw [hbv]
      have HMG := Lib.hid hmg
      clear q1 q2 q3 q4 q5 hQ1 hrv1 q8 q9 q10 hnD hbv b1 tA hmg
      obtain ⟨S, hSd⟩ : ∃ S : World → Prop, S = fun W' : World => W'.cell? ⟨g + 1 + 1, 0, none⟩ = some (.slice A nD c) ∧ W'.cell? ⟨g, 0, none⟩ = some (.pointer (some ⟨q, 0, none⟩)) := ⟨_, rfl⟩
      have hSk : ∀ A' W' : World, S A' → (∀ b v, (b = g + 1 + 1 ∨ b = g) → A'.cell? ⟨b, 0, none⟩ = some v → W'.cell? ⟨b, 0, none⟩ = some v) → S W' := fun A' W' h hk => by
        rw [hSd] at h ⊢
        exact ⟨hk _ _ (.inl rfl) h.1, hk _ _ (.inr rfl) h.2⟩
      have hS : S w1.drew := by rw [hSd]; exact ⟨m0, m1⟩
      have HSd := Lib.hid hSd
      have HSk := Lib.hid hSk
      clear hSd hSk
      have hQd : Qq w1.drew B F q room limit last (less (oldIds now pre) L) bk bv rv1 := HQ1.out.keep (fun _ _ => rfl) (fun _ _ _ _ => rfl)
      have HQd := Lib.hid hQd
      clear hQd
      refine s_region [6] S (by kernel_rfl) ?_
      refine s_take (fun _ => trivial) (by kernel_rfl) 0 rfl (by kernel_rfl) (by kernel_rfl) (by kernel_rfl) (by kernel_rfl) (fun _ _ _ h => h) (by rfl) (by intro w' hw; rw [HSd.out] at hw; obtain ⟨h0, h1⟩ := hw; go_simp; try (with_reducible rfl)) hS ?_
      simp only [Act.put, List.setIfInBounds_toArray, List.set_cons_zero, List.set_cons_succ]
      refine s_take (fun _ => trivial) (by kernel_rfl) 1 rfl (by kernel_rfl) (by kernel_rfl) (by kernel_rfl) (by kernel_rfl) (fun _ _ _ h => h) (by rfl) (by intro w' hw; rw [HSd.out] at hw; obtain ⟨h0, h1⟩ := hw; go_simp; try (with_reducible rfl)) hS ?_
      simp only [Act.put, List.setIfInBounds_toArray, List.set_cons_zero, List.set_cons_succ]
      refine s_take (fun _ => trivial) (by kernel_rfl) 2 rfl (by kernel_rfl) (by kernel_rfl) (by kernel_rfl) (by kernel_rfl) (fun _ _ _ h => h) (by rfl) (by intro w' hw; rw [HSd.out] at hw; obtain ⟨h0, h1⟩ := hw; go_simp; try (with_reducible rfl)) hS ?_
      simp only [Act.put, List.setIfInBounds_toArray, List.set_cons_zero, List.set_cons_succ]
      refine s_one 3 (by kernel_rfl) rfl (by rfl) (fun K hK => ?_)
      go_simp
      refine ⟨trivial, (CallsIn.inRound l (callsIn_wide.2 (qdrop_calls HQd.out HXl.out))).mono ?_⟩
      rintro r w2 ⟨v', rfl, hQ2, ht2⟩
      have hgF : ∀ k ∈ G, k ∉ F := fun k hk hm => by have := (HI.out.2.2.1 k hk).1; have := H.out.lt k hm; omega
      have hS1 := HSk.out _ _ hS fun b v hb h => ht2.cell h (hgF b (by rcases hb with rfl | rfl; exact HGG.out _ (by simp); exact HGG.out _ (by simp)))
      refine hK.out _ _ (fun _ => hS1) ?_
      clear hK K hS
      have hS := hS1
      clear hS1
      rw [HMG.out]
      refine s_one 4 (by kernel_rfl) rfl (by rfl) (fun K hK => ?_)
      go_simp
      have hS2 := HSk.out _ _ hS fun b v _ h => keeps_alloc h (.cells #[.int .u8 x.m.pr, .int .u32 x.m.ttl, .int .u32 x.m.cnt, str x.m.ids, .slice AB x.m.body.length cB] 41)
      refine hK.out _ _ (fun _ => hS2) ?_
      clear hK K
      have hown2 := (OwnC.tch (w := w1.drew) HQ9.out ht2 fun k hk => hgF k (HGv.out k hk))
      refine s_one 5 (by kernel_rfl) rfl (by rfl) (fun K hK => ?_)
      obtain ⟨i0, hi, hz0, hz1', hz2'⟩ := info_parts Try.info_msg
      refine wpIn_appC (fun _ => trivial) _ _ _ rfl w.heap.size i0 _ 56 Try.underlying60 hi hz0 hz1' hz2' rfl (by decide) (fun _ _ => trivial) (.slice A nD c) nD (mcsL bv (pre.filter fun e => oldE e now)) rfl ?own (some ⟨w2.heap.size, 0, none⟩) 1 1 (mcs x.m (bv x.id)) rfl ?rd ?hb ?h63 ?hbase ?_
      case own => exact hown2.alloc _
      case rd =>
        have : mcs x.m (bv x.id) = [.int .u8 x.m.pr, .int .u32 x.m.ttl, .int .u32 x.m.cnt, str x.m.ids, .slice AB x.m.body.length cB] := by unfold mcs; rw [HBV.out]
        rw [this]
        exact rdc_box [.int .u8 x.m.pr, .int .u32 x.m.ttl, .int .u32 x.m.cnt, str x.m.ids, .slice AB x.m.body.length cB] 1 5 rfl (by simp [str, Value.oneCell']) (by omega)
      case hb => omega
      case h63 => omega
      case hbase => have h1 := HI.out.1.size; have h2 := HA.out.size; have h3 := ht2.size; simp only [World.size_alloc]; rw [show w1.drew.heap.size = w1.heap.size from rfl] at h3; omega
      rintro v3 w' ho' hg' - hob'
      have hB8 : Bx w2 (g + 1 + 1) 60 [.slice A nD c] := Bx.tch (W := w1.drew) HQ8.out ht2 (hgF _ (HGG.out _ (by simp)))
      have hB1 : Bx w2 g 78 [.pointer (some ⟨q, 0, none⟩)] := Bx.tch (W := w1.drew) HB1.out ht2 (hgF _ (HGG.out _ (by simp)))
      have hB2 : Bx w2 (g + 1) 2 [.int .i64 now] := Bx.tch (W := w1.drew) HB2.out ht2 (hgF _ (HGG.out _ (by simp)))
      have hB3 : Bx w2 (g + 1 + 1 + 1) 78 [.pointer (some ⟨q, 0, none⟩)] := Bx.tch (W := w1.drew) HB3.out ht2 (hgF _ (HGG.out _ (by simp)))
      have hB4 : Bx w2 (g + 1 + 1 + 1 + 1) 4 [.bool false] := Bx.tch (W := w1.drew) HB4.out ht2 (hgF _ (HGG.out _ (by simp)))
      have hS3 := HSk.out _ _ hS2 fun b v hb h => grown_cell hg' (by rcases hb with rfl | rfl; exact hown2.ne_bx hB8 (by decide); exact hown2.ne_bx hB1 (by decide)) h
      refine hK.out _ _ (fun _ => hS3) ?_
      clear hK K
      simp only [Act.put, List.setIfInBounds_toArray, List.set_cons_zero, List.set_cons_succ]
      have hv3 : Bx w' (g + 1 + 1) 60 [.slice A nD c] := (hB8.alloc _).grown hg' (hown2.ne_bx hB8 (by decide))
      obtain ⟨A3, c3, rfl, -⟩ := ho'.rd
      have r0 := hv3.cell 0 _ rfl
      have r1 := hv3.froz 0
      refine s_one 6 (by kernel_rfl) rfl (by rfl) (fun K hK => ?_)
      go_simp
      refine hK.out _ _ (fun h => absurd (by simp) h) ?_
      clear hK K
      refine s_done (by kernel_rfl) ?_ _
      obtain ⟨W', hW'⟩ : ∃ W', w'.setCell ⟨g + 1 + 1, 0, none⟩ (.slice A3 (nD + 1) c3) = W' := ⟨_, rfl⟩
      have hb : ∀ k, k ≠ g + 1 + 1 → W'.heap[k]? = w'.heap[k]? := fun k hk => by rw [← hW']; exact Below.heap_setCell _ ⟨g + 1 + 1, 0, none⟩ _ k hk
      have hkeep : ∀ k t cs', Bx w2 k t cs' → t ≠ 41 → t ≠ 60 → W'.heap[k]? = w2.heap[k]? := fun k t cs' hB h1 h2 => by
        rw [hb k (hB.ne hB8 h2)]
        exact ((hB.alloc (.cells #[.int .u8 x.m.pr, .int .u32 x.m.ttl, .int .u32 x.m.cnt, str x.m.ids, .slice AB x.m.body.length cB] 41)).grown hg' (hown2.ne_bx hB h1.symm)).trans hB.symm
      have hst : Tch (F ++ G) W2 W' := by
        have t1 : Tch (F ++ G) W2 w1.drew := (HA.out.mono (by simp)).drew
        have t2 : Tch (F ++ G) W2 w2 := t1.trans ht2 fun j hj => .inl (List.mem_append_left _ hj)
        have t3 := (t2.alloc (.cells #[.int .u8 x.m.pr, .int .u32 x.m.ttl, .int .u32 x.m.cnt, str x.m.ids, .slice AB x.m.body.length cB] 41)).grown hg' fun k hk => .inl (List.mem_append_right _ (HGv.out k hk))
        rw [← hW']
        exact t3.setCell _ (.inl (List.mem_append_right _ (HGG.out _ (by simp))))
      have hv4 : Bx W' (g + 1 + 1) 60 [.slice A3 (nD + 1) c3] := by rw [← hW']; exact hv3.set 0 _
      have hf1 : (pre ++ [x]).filter (fun e => oldE e now) = (pre.filter fun e => oldE e now) ++ [x] := by rw [List.filter_append]; simp [HO.out]
      rw [hW']
      show ZK Z W2 W' ∧ ∃ G, CZ w F G (ExP w B F q room limit last L bk bv rv now g G) (pre ++ [x]) Z W'
      have := CZ.step3 (G' := (Value.slice A3 (nD + 1) c3).ownBlock.toList ++ G) (P' := ExP w B F q room limit last L bk bv rv now g ((Value.slice A3 (nD + 1) c3).ownBlock.toList ++ G)) (s' := pre ++ [x]) H.out.lt HI.out hst ?_ ?_
      · exact ⟨this.1, _, this.2⟩
      · intro k hk
        have hw' : w'.heap.size ≤ W'.heap.size := by rw [← hW']; simp
        rcases List.mem_append.1 hk with hk | hk
        · rw [Option.mem_toList] at hk
          rcases hob' with h | h
          · rw [h] at hk; exact .inl (HGv.out k hk)
          · have h1 := (ho'.lt k hk).2
            rw [h] at hk
            have h3 := ht2.size
            have h4 := HA.out.size
            simp only [Option.some.injEq, World.size_alloc] at hk
            rw [show w1.drew.heap.size = w1.heap.size from rfl] at h3
            exact .inr ⟨by omega, by omega⟩
        · exact .inl hk
      · refine ⟨hB1.keep (hkeep _ _ _ hB1 (by decide) (by decide)), hB2.keep (hkeep _ _ _ hB2 (by decide) (by decide)), hB3.keep (hkeep _ _ _ hB3 (by decide) (by decide)), hB4.keep (hkeep _ _ _ hB4 (by decide) (by decide)), fun k hk => List.mem_append_right _ (HGG.out k hk), ⟨rvSet rv1 x.m.pr v', ?_, fun p hp he => ?_⟩, .slice A3 (nD + 1) c3, hv4, ?_, fun k hk => by simp [hk]⟩
        · have h1 : less (oldIds now (pre ++ [x])) L = less [x.id] (less (oldIds now pre) L) := by
            rw [less_less]
            refine less_congr (fun d => ?_) L
            unfold oldIds
            rw [hf1]
            simp [or_comm]
          rw [h1]
          refine hQ2.keep (fun k hk => ?_) (fun k cs fr hh => ?_)
          · obtain ⟨cs, t, h2, h3⟩ := hQ2.ft k hk
            refine hkeep k t cs.toList (by unfold Bx; simpa using h2) ?_ ?_
            · rcases h3 with rfl | rfl | rfl <;> decide
            · rcases h3 with rfl | rfl | rfl <;> decide
          · have h1 : k ≠ g + 1 + 1 := fun e => by
              subst e
              rw [hB8] at hh
              simp only [Option.some.injEq, Obj.cells.injEq] at hh
              exact absurd hh.2.1 (by decide)
            rw [hb k h1, hg'.block k (by simp; exact Nat.lt_succ_of_lt (heap_lt hh)) fun e => ?_]
            · exact heap_alloc_old _ _ (heap_lt hh)
            · rcases hown2.2.2 with ⟨e1, _⟩ | ⟨g2, cap2, sp2, e1, _, hh2, _⟩
              · rw [e1] at e; simp [Value.ownBlock] at e
              · rw [e1] at e
                have : k = g2 := by simpa [Value.ownBlock] using e
                subst this
                rw [hh2] at hh
                simp only [Option.some.injEq, Obj.cells.injEq] at hh
                exact absurd hh.2.1 (by decide)
        · have h1 : p ≠ x.m.pr := fun e => he x (by simp) e.symm
          simp only [rvSet, if_neg h1]
          exact HRV1.out p hp fun e hm => he e (by simp [hm])
        · rw [hf1, List.length_append, HND.out]
          have h1 : mcsL bv ((pre.filter fun e => oldE e now) ++ [x]) = mcsL bv (pre.filter fun e => oldE e now) ++ mcs x.m (bv x.id) := by simp [mcsL]
          rw [h1]
          exact ho'.keep fun k hk => hb k fun e => by subst e; exact ho'.ne_bx hv3 (by decide) hk
    · have ho' : oldE x now = false := by simpa using ho
      rw [ho']
      have HP1 := Lib.hid hP1
      have hf : (pre ++ [x]).filter (fun e => oldE e now) = pre.filter fun e => oldE e now := by rw [List.filter_append]; simp [ho']
      have HF := Lib.hid hf
      clear hP1 hf ho ho'
      gi_wp2_with fail
      have := CZ.step2 (G' := G) (P' := ExP w B F q room limit last L bk bv rv now g G) (s' := pre ++ [x]) HI.out (tA.mono (by simp)) (fun k hk => .inl hk) (by
        obtain ⟨h1, h2, h3, h4, h5, ⟨rv2, h6, h7⟩, v, h8, h9, h10⟩ := HP1.out
        refine ⟨h1, h2, h3, h4, h5, ⟨rv2, ?_, fun p hp he => h7 p hp fun e hm => he e (by simp [hm])⟩, v, h8, ?_, h10⟩
        · unfold oldIds; rw [HF.out]; exact h6
        · rw [HF.out]; exact h9)
      exact ⟨this.1, _, this.2⟩
  case done =>
    rintro D xs W3 hD hS ⟨G, hI⟩ hDD
    subst hS
    obtain ⟨c0, c1, c3, c4, hgG, ⟨rv', hQ, hrv⟩, v, hv, hown, hvG⟩ := hI.2.1
    obtain ⟨A, c, rfl, -⟩ := hown.rd
    obtain ⟨n, hn⟩ : ∃ n, ((ordQ false L).filter fun e => oldE e now).length = n := ⟨_, rfl⟩
    rw [hn] at hv hown
    have g0 := hv.cell 0 _ rfl
    have f0 := hv.froz 0
    have HI := Lib.hid hI
    have HV := Lib.hid hv
    have HO := Lib.hid hown
    have HQ := Lib.hid hQ
    have HD := Lib.hid hDD
    have HN := Lib.hid hn
    have HGG := Lib.hid hgG
    clear hI hv hown hQ hDD hvG hI0 hg hn hrv c0 c1 c3 c4 hgG
    gi_wp2_with fail
    have hC := HI.out.2.2
    have hDg : D ≠ g + 1 + 1 := fun e => (hC.1 (g + 1 + 1) (HGG.out _ (by simp))).2.1 (by simp [e])
    have h7 : (W3.setCell ⟨g + 1 + 1, 0, none⟩ (.slice A n c)).heap[D]? = some (.deferred (some [])) := (Below.heap_setCell _ ⟨g + 1 + 1, 0, none⟩ _ D hDg).trans HD.out
    refine ⟨by simp, .inl ⟨_, _, rfl, run_takeDeferred h7, ?_⟩⟩
    have hk : ∀ k, k ≠ D → k ≠ g + 1 + 1 → ((W3.setCell ⟨g + 1 + 1, 0, none⟩ (.slice A n c)).putObj D (.deferred none)).heap[k]? = W3.heap[k]? := fun k h1 h2 => (World.putObj_heap_other h1).trans (Below.heap_setCell _ ⟨g + 1 + 1, 0, none⟩ _ k h2)
    have hB4 : Bx ((W3.setCell ⟨g + 1 + 1, 0, none⟩ (.slice A n c)).putObj D (.deferred none)) (g + 1 + 1) 60 [.slice A n c] := (HV.out.set 0 _).keep (World.putObj_heap_other hDg.symm)
    have hkT : ∀ (k : Nat) (t : TypeId) (cs' : Array Value), W3.heap[k]? = some (Obj.cells cs' t (0, 0)) → t ≠ 60 → ((W3.setCell ⟨g + 1 + 1, 0, none⟩ (.slice A n c)).putObj D (.deferred none)).heap[k]? = W3.heap[k]? := fun k t cs' hB h1 => hk k (fun e => by subst e; have := HD.out; rw [hB] at this; cases this) (fun e => by
      subst e
      have := HV.out
      unfold Bx at this
      rw [hB] at this
      simp only [Option.some.injEq, Obj.cells.injEq] at this
      exact h1 this.2.1)
    refine ⟨_, results_c rfl rfl (hB4.load1 (by kernel_rfl)), _, rv', rfl, by rw [HN.out]; exact HO.out.keepT fun k cs' hB => hkT k 41 _ hB (by decide), HQ.out.keep (fun k hm => ?_) (fun k cs fr hh => ?_), ?_⟩
    · obtain ⟨cs, t, h2, h3⟩ := HQ.out.ft k hm
      refine hkT k t _ h2 ?_
      rcases h3 with rfl | rfl | rfl <;> decide
    · refine hk k (fun e => by subst e; have := HD.out; rw [hh] at this; cases this) fun e => ?_
      subst e
      have := HV.out
      unfold Bx at this
      rw [hh] at this
      simp only [Option.some.injEq, Obj.cells.injEq] at this
      exact absurd this.2.1 (by decide)
    · have t1 := HI.out.1.trans (tch_set W3 (g + 1 + 1) 0 (.slice A n c)) fun j hj => .inr (by simp at hj; rw [hj]; exact (hC.1 (g + 1 + 1) (HGG.out _ (by simp))).1)
      exact t1.trans (tch_put (W3.setCell ⟨g + 1 + 1, 0, none⟩ (.slice A n c)) D (.deferred none)) fun j hj => .inr (by simp at hj; rw [hj]; exact (hC.2 D (by simp)).1)
end Go.Proofs.Ytklgndmndnmdpaa

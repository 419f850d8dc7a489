import Derived.Test.YtklgndmndnmdpaaQList
set_option linter.unusedVariables false
set_option linter.unusedSimpArgs false
namespace Go.Proofs.Ytklgndmndnmdpaa
open Go.RowKit Go.Shelf
attribute [local go_sem] Oper.semAt_some

def zItem : List Value := [.int .i64 0, .int .u8 0, .int .u32 0, .int .u32 0, .string ⟨#[]⟩, .slice none 0 0]
def holdE (e : En) : En := { e with held := true }
/-- What Acquire's loop has: its own cells. -/
structure AqP (g : Nat) (now : Int) (p0 : Option Addr) (i : List Value) (b : Bool) (W : World) : Prop where
  c0 : Bx W g 2 [.int .i64 now]
  c1 : Bx W (g + 1) 104 i
  c2 : Bx W (g + 1 + 1) 4 [.bool b]
  c3 : Bx W (g + 1 + 1 + 1) 78 [.pointer p0]
  c4 : Bx W (g + 1 + 1 + 1 + 1) 4 [.bool false]
theorem AqP.keep {g : Nat} {now : Int} {p0 : Option Addr} {i : List Value} {b : Bool} {W W' : World} (h : AqP g now p0 i b W) (hk : ∀ k ∈ [g, g + 1, g + 1 + 1, g + 1 + 1 + 1, g + 1 + 1 + 1 + 1], W'.heap[k]? = W.heap[k]?) : AqP g now p0 i b W' :=
  ⟨h.c0.keep (hk _ (by simp)), h.c1.keep (hk _ (by simp)), h.c2.keep (hk _ (by simp)), h.c3.keep (hk _ (by simp)), h.c4.keep (hk _ (by simp))⟩
/-- What is there when an item is held. -/
structure AqX (w : World) (g : Nat) (now : Int) (p0 : Option Addr) (L : List En) (bk : Nat → Nat) (bv : Nat → Value) (e : En) (v : Value) (c : Code) (W : World) : Prop where
  own : AqP g now p0 (itc (e, v)) true W
  bod : OwnB W w.heap.size v e.m.body
  ent : Bx W (bk e.id) 145 (ecs (holdE e) (bv e.id))
  fnd : L.find? (fun e => !oldE e now) = some e
  ret : c = .ret

theorem find_prefix {α : Type} {p : α → Bool} {pre L : List α} {x : α} (h : pre ++ [x] <+: L) (h1 : ∀ e ∈ pre, p e = false) (h2 : p x = true) : L.find? p = some x := by
  obtain ⟨t, rfl⟩ := h
  have h3 : pre.find? p = none := List.find?_eq_none.2 fun e he => by rw [h1 e he]; simp
  rw [List.append_assoc, List.find?_append, h3]
  simp [h2]
theorem aq_set {g : Nat} {now : Int} {p0 : Option Addr} {i : List Value} {b : Bool} {W : World} (h : AqP g now p0 i b W) {W' : World} {i' : List Value} {b' : Bool} (h1 : Bx W' (g + 1) 104 i') (h2 : Bx W' (g + 1 + 1) 4 [.bool b']) (t : Tch [g + 1, g + 1 + 1] W W') : AqP g now p0 i' b' W' :=
  ⟨h.c0.tch t (by simp <;> omega), h1, h2, h.c3.tch t (by simp <;> omega), h.c4.tch t (by simp <;> omega)⟩

set_option maxRecDepth 100000 in
set_option maxHeartbeats 2000000 in
theorem qacq_calls (w : World) (p0 : Option Addr) (now : Int) (L : Bool → List En) (bk : Nat → Nat) (bv : Nat → Value) (hs : SeqP w p0 (fun e : En => ev (bk e.id)) L) (he : ∀ e ∈ L false, EnOk w (bk e.id) (bv e.id) e ∧ e.held = false) :
    Calls Try.prog 53 #[.pointer p0, .int .i64 now] w fun r w' =>
      ((L false).find? (fun e => !oldE e now) = none ∧ r = .returned (.tuple #[.agg zItem.toArray, .bool false]) ∧ Below w.heap.size w w') ∨
      ∃ e v, (L false).find? (fun e => !oldE e now) = some e ∧ r = .returned (.tuple #[.agg (itc (e, v)).toArray, .bool true]) ∧ OwnB w' w.heap.size v e.m.body ∧ Bx w' (bk e.id) 145 (ecs (holdE e) (bv e.id)) ∧ Tch [bk e.id] w w' := by
  refine (callsIn_wide (n := 3)).1 ?_
  refine callsIn_of_wp_marks Try.func53 rfl trivial ?_ rfl
  simp only [Try.ntmps53, List.size_toArray, List.length_cons, List.length_nil, Nat.reduceAdd, Nat.reduceSub, Array.replicate_succ, Array.replicate_zero, List.push_toArray, List.append_toArray, List.nil_append, List.cons_append]
  gi_wp2_with ((try refine ⟨trivial, ?_⟩); gi_at_call 69; refine (qall_in _ _ trivial rfl p0 false _).mono ?_; rintro e w1 ⟨rfl, rfl⟩)
  obtain ⟨g, hg⟩ : ∃ g, w.heap.size = g := ⟨_, rfl⟩
  refine forgetI (fun W => CZ w [] [g, g + 1, g + 1 + 1, g + 1 + 1 + 1, g + 1 + 1 + 1 + 1] (fun (pre : List En) W => AqP g now p0 zItem false W ∧ ∀ e ∈ pre, oldE e now = true) ([] : List En) [] W) ?_ ?_
  · subst hg
    exact ⟨(((((Tch.refl _ w).alloc _).alloc _).alloc _).alloc _).alloc _, ⟨⟨((((Bx.new _ _ [_]).alloc _).alloc _).alloc _).alloc _, ((((Bx.new' _ _ zItem (by simp)).alloc _).alloc _).alloc _), (((Bx.new' _ _ [_] (by simp)).alloc _).alloc _), ((Bx.new' _ _ [_] (by simp)).alloc _), Bx.new' _ _ [_] (by simp)⟩, by simp⟩, fun k hk => ⟨by simp at hk; omega, by simp, by simp at hk; simp; omega⟩, by simp⟩
  rintro W hI0
  rw [hg]
  refine range_outer (encs := fun e : En => #[ev (bk e.id)]) rfl rfl (gf := 80) (lb := #[.pointer (some ⟨g + 1 + 1 + 1, 0, none⟩), .pointer (some ⟨g + 1 + 1 + 1 + 1, 0, none⟩)]) rfl trivial (enters_of Try.func80 (by kernel_rfl) rfl) (hs false (g + 1 + 1 + 1) (g + 1 + 1 + 1 + 1) w) hI0.1.below0 (fun _ => rfl)
    (CZ w [] [g, g + 1, g + 1 + 1, g + 1 + 1 + 1, g + 1 + 1 + 1 + 1] (fun (pre : List En) W => AqP g now p0 zItem false W ∧ ∀ e ∈ pre, oldE e now = true))
    (fun c pre Z W => ∃ (x : En × Value × List Nat), CZ w [bk x.1.id] ([g, g + 1, g + 1 + 1, g + 1 + 1 + 1, g + 1 + 1 + 1 + 1] ++ x.2.1.ownBlock.toList) (fun (_ : List En) W => AqX w g now p0 (L false) bk bv x.1 x.2.1 c W) pre Z W)
    (clo_cz fun s A A' _ h hk => ⟨h.1.keep fun k hm => hk k (.inl hm), h.2⟩)
    (fun c => clo_some (J := fun (x : En × Value × List Nat) (pre : List En) Z W => CZ w [bk x.1.id] ([g, g + 1, g + 1 + 1, g + 1 + 1 + 1, g + 1 + 1 + 1 + 1] ++ x.2.1.ownBlock.toList) (fun (_ : List En) W => AqX w g now p0 (L false) bk bv x.1 x.2.1 c W) pre Z W) fun x => clo_cz fun s A A' ht h hk => ⟨h.own.keep fun k hm => hk k (.inl (List.mem_append_left _ hm)), OwnC.keep h.bod fun k hm => hk k (.inl (by simp [hm])), h.ent.keep (hk _ (.inr ((he x.1 (List.mem_of_find?_eq_some h.fnd)).1.bx.lt))), h.fnd, h.ret⟩)
    hI0 (fun pre Z W' h => ⟨h.1.below0, h.2.1.1.c3.cell 0 _ rfl, h.2.1.1.c4.cell 0 _ rfl⟩)
    (fun x => { tmps := #[.pointer p0, .int .i64 now, undef, .pointer (some ⟨g, 0, none⟩), .pointer (some ⟨g + 1, 0, none⟩), .pointer (some ⟨g + 1 + 1, 0, none⟩), ev (bk x.id), .pointer p0, .func (.func 80) #[] #[.pointer (some ⟨g + 1 + 1 + 1, 0, none⟩), .pointer (some ⟨g + 1 + 1 + 1 + 1, 0, none⟩)], ev (bk x.id), undef, undef, undef, undef, undef, undef, undef, undef, undef, undef, undef, undef, undef, undef, undef, undef, undef, undef, undef, undef], defers := [] }) ?assign ?body ?done ?stop
  case assign => intro l2 x W2 K hK; gi_wp2; simpa using hK
  case body =>
    rintro l pre x Z W2 hV hl hr hI
    have hx : x ∈ L false := hV.subset (by simp)
    have hE := (he x hx).1.below hI.1.below0
    have hhd := (he x hx).2
    have c0 := hI.2.1.1.c0.cell 0 _ rfl
    have HI := Lib.hid hI
    have HE := Lib.hid hE
    have HV := Lib.hid hV
    unfold ev
    clear hI hE hV hr
    gi_wp2_with fail
    refine ⟨trivial, (CallsIn.inRound l (callsIn_wide.2 (old_calls HE.out.bx HE.out.wf HE.out.tm now))).mono ?_⟩
    rintro r w1 ⟨rfl, b1⟩
    have hown1 := HI.out.2.1.1.keep fun k hk => b1.block k (HI.out.2.2.1 k hk).2.2
    by_cases ho : oldE x now = true
    · rw [ho]
      gi_wp2_with fail
      exact HI.out.step (Tch.of_below _ b1) ⟨hown1, fun e hm => by
        rcases List.mem_append.1 hm with h | h
        · exact HI.out.2.1.2 e h
        · simp only [List.mem_singleton] at h; subst h; exact ho⟩
    · have ho' : oldE x now = false := by simpa using ho
      rw [ho']
      have hE1 := HE.out.below b1
      have HE1 := Lib.hid hE1
      have d7 := hE1.bx.cell 7 _ rfl
      have f7 := hE1.bx.froz 7
      have HO1 := Lib.hid hown1
      have HB1 := Lib.hid b1
      have HOld := Lib.hid ho'
      clear b1 hown1 hE1 ho ho' c0
      gi_wp2_with fail
      obtain ⟨AB, cB, hbv, hrB, -⟩ := HE1.out.bd
      have hne : ∀ t cs b, Bx w1 b t cs → t ≠ 145 → b ≠ bk x.id := fun t cs b hb h => hb.ne HE1.out.bx h
      refine forgetI (fun W => Bx W (bk x.id) 145 (ecs (holdE x) (bv x.id)) ∧ AqP g now p0 zItem false W ∧ Bdv W (bv x.id) x.m.body ∧ Tch [bk x.id] W2 W) ⟨?_, ?_, ?_, ?_⟩ ?_
      · exact HE1.out.bx.set 7 _
      · exact HO1.out.keep fun k hk => Below.heap_setCell _ ⟨bk x.id, 7, none⟩ _ k (by
          have h := HO1.out
          simp only [List.mem_cons, List.not_mem_nil, or_false] at hk
          rcases hk with rfl | rfl | rfl | rfl | rfl
          · exact hne _ _ _ h.c0 (by decide)
          · exact hne _ _ _ h.c1 (by decide)
          · exact hne _ _ _ h.c2 (by decide)
          · exact hne _ _ _ h.c3 (by decide)
          · exact hne _ _ _ h.c4 (by decide))
      · exact HE1.out.bd.tch (tch_set w1 (bk x.id) 7 (.bool true)) fun k hk => by
          simp only [List.mem_singleton] at hk
          subst hk
          exact ⟨_, HE1.out.bx, fun cs fr e => by simp only [Obj.cells.injEq] at e; exact absurd e.2.1 (by decide)⟩
      · exact (Tch.of_below _ HB1.out).setCell _ (.inl (by simp))
      rintro W5 ⟨hx5, ho5, hb5, ht5⟩
      clear hne hrB hbv
      obtain ⟨AB, cB, hbv, hrB, -⟩ := hb5
      have e0 := hx5.cell 0 _ rfl
      have e1 := hx5.cell 1 _ rfl
      have e2 := hx5.cell 2 _ rfl
      have e3 := hx5.cell 3 _ rfl
      have e4 := hx5.cell 4 _ rfl
      have e5 := hx5.cell 5 _ rfl
      rw [hbv] at e5
      have HX5 := Lib.hid hx5
      have HO5 := Lib.hid ho5
      have HR5 := Lib.hid hrB
      have HT5 := Lib.hid ht5
      have hb0 := HE.out.wf.body
      clear hx5 ho5 hrB ht5
      obtain ⟨S, hSd⟩ : ∃ S : World → Prop, S = fun W' : World => W'.cell? ⟨bk x.id, 0, none⟩ = some (.int .i64 x.id) ∧ W'.cell? ⟨bk x.id, 1, none⟩ = some (.int .u8 x.m.pr) ∧ W'.cell? ⟨bk x.id, 2, none⟩ = some (.int .u32 x.m.ttl) ∧ W'.cell? ⟨bk x.id, 3, none⟩ = some (.int .u32 x.m.cnt) ∧ W'.cell? ⟨bk x.id, 4, none⟩ = some (str x.m.ids) ∧ W'.cell? ⟨bk x.id, 5, none⟩ = some (.slice AB x.m.body.length cB) := ⟨_, rfl⟩
      have hSk : ∀ A' W' : World, S A' → (∀ o v, A'.cell? ⟨bk x.id, o, none⟩ = some v → W'.cell? ⟨bk x.id, o, none⟩ = some v) → S W' := fun A' W' h hk => by
        rw [hSd] at h ⊢
        exact ⟨hk _ _ h.1, hk _ _ h.2.1, hk _ _ h.2.2.1, hk _ _ h.2.2.2.1, hk _ _ h.2.2.2.2.1, hk _ _ h.2.2.2.2.2⟩
      have hS : S W5.drew := by rw [hSd]; exact ⟨e0, e1, e2, e3, e4, e5⟩
      have HSd := Lib.hid hSd
      have HSk := Lib.hid hSk
      clear hSd hSk
      refine s_region [12, 13] S (by kernel_rfl) ?_
      refine s_take (fun _ => trivial) (by kernel_rfl) 0 rfl (by kernel_rfl) (by kernel_rfl) (by kernel_rfl) (by kernel_rfl) (fun _ _ _ h => h) (by rfl) (by intro w' hw; rw [HSd.out] at hw; obtain ⟨h0, h1, h2, h3, h4, h5⟩ := hw; go_simp; try (with_reducible rfl)) hS ?_
      simp only [Act.put, List.setIfInBounds_toArray, List.set_cons_zero, List.set_cons_succ]
      refine s_take (fun _ => trivial) (by kernel_rfl) 1 rfl (by kernel_rfl) (by kernel_rfl) (by kernel_rfl) (by kernel_rfl) (fun _ _ _ h => h) (by rfl) (by intro w' hw; rw [HSd.out] at hw; obtain ⟨h0, h1, h2, h3, h4, h5⟩ := hw; go_simp; try (with_reducible rfl)) hS ?_
      simp only [Act.put, List.setIfInBounds_toArray, List.set_cons_zero, List.set_cons_succ]
      refine s_take (fun _ => trivial) (by kernel_rfl) 2 rfl (by kernel_rfl) (by kernel_rfl) (by kernel_rfl) (by kernel_rfl) (fun _ _ _ h => h) (by rfl) (by intro w' hw; rw [HSd.out] at hw; obtain ⟨h0, h1, h2, h3, h4, h5⟩ := hw; go_simp; try (with_reducible rfl)) hS ?_
      simp only [Act.put, List.setIfInBounds_toArray, List.set_cons_zero, List.set_cons_succ]
      refine s_take (fun _ => trivial) (by kernel_rfl) 3 rfl (by kernel_rfl) (by kernel_rfl) (by kernel_rfl) (by kernel_rfl) (fun _ _ _ h => h) (by rfl) (by intro w' hw; rw [HSd.out] at hw; obtain ⟨h0, h1, h2, h3, h4, h5⟩ := hw; go_simp; try (with_reducible rfl)) hS ?_
      simp only [Act.put, List.setIfInBounds_toArray, List.set_cons_zero, List.set_cons_succ]
      refine s_take (fun _ => trivial) (by kernel_rfl) 4 rfl (by kernel_rfl) (by kernel_rfl) (by kernel_rfl) (by kernel_rfl) (fun _ _ _ h => h) (by rfl) (by intro w' hw; rw [HSd.out] at hw; obtain ⟨h0, h1, h2, h3, h4, h5⟩ := hw; go_simp; try (with_reducible rfl)) hS ?_
      simp only [Act.put, List.setIfInBounds_toArray, List.set_cons_zero, List.set_cons_succ]
      refine s_take (fun _ => trivial) (by kernel_rfl) 5 rfl (by kernel_rfl) (by kernel_rfl) (by kernel_rfl) (by kernel_rfl) (fun _ _ _ h => h) (by rfl) (by intro w' hw; rw [HSd.out] at hw; obtain ⟨h0, h1, h2, h3, h4, h5⟩ := hw; go_simp; try (with_reducible rfl)) hS ?_
      simp only [Act.put, List.setIfInBounds_toArray, List.set_cons_zero, List.set_cons_succ]
      refine s_take (fun _ => trivial) (by kernel_rfl) 6 rfl (by kernel_rfl) (by kernel_rfl) (by kernel_rfl) (by kernel_rfl) (fun _ _ _ h => h) (by rfl) (by intro w' hw; rw [HSd.out] at hw; obtain ⟨h0, h1, h2, h3, h4, h5⟩ := hw; go_simp; try (with_reducible rfl)) hS ?_
      simp only [Act.put, List.setIfInBounds_toArray, List.set_cons_zero, List.set_cons_succ]
      refine s_take (fun _ => trivial) (by kernel_rfl) 7 rfl (by kernel_rfl) (by kernel_rfl) (by kernel_rfl) (by kernel_rfl) (fun _ _ _ h => h) (by rfl) (by intro w' hw; rw [HSd.out] at hw; obtain ⟨h0, h1, h2, h3, h4, h5⟩ := hw; go_simp; try (with_reducible rfl)) hS ?_
      simp only [Act.put, List.setIfInBounds_toArray, List.set_cons_zero, List.set_cons_succ]
      refine s_take (fun _ => trivial) (by kernel_rfl) 8 rfl (by kernel_rfl) (by kernel_rfl) (by kernel_rfl) (by kernel_rfl) (fun _ _ _ h => h) (by rfl) (by intro w' hw; rw [HSd.out] at hw; obtain ⟨h0, h1, h2, h3, h4, h5⟩ := hw; go_simp; try (with_reducible rfl)) hS ?_
      simp only [Act.put, List.setIfInBounds_toArray, List.set_cons_zero, List.set_cons_succ]
      refine s_take (fun _ => trivial) (by kernel_rfl) 9 rfl (by kernel_rfl) (by kernel_rfl) (by kernel_rfl) (by kernel_rfl) (fun _ _ _ h => h) (by rfl) (by intro w' hw; rw [HSd.out] at hw; obtain ⟨h0, h1, h2, h3, h4, h5⟩ := hw; go_simp; try (with_reducible rfl)) hS ?_
      simp only [Act.put, List.setIfInBounds_toArray, List.set_cons_zero, List.set_cons_succ]
      refine s_one 10 (by kernel_rfl) rfl (by rfl) (fun K hK => ?_)
      go_simp
      refine ⟨trivial, (CallsIn.inRound l (callsIn_wide.2 (qclone_calls (w := W5.drew) x.m AB cB _ rfl HR5.out (by omega)))).mono ?_⟩
      rintro e w6 ⟨v1, rfl, o1, b1⟩
      obtain ⟨A1, c1, rfl, -⟩ := o1.rd
      have hS1 := HSk.out _ _ hS fun o v h => stays_ b1 h
      refine hK.out _ _ (fun _ => hS1) ?_
      clear hK K hS
      have hS := hS1
      clear hS1
      unfold mgv
      refine s_take (fun _ => trivial) (by kernel_rfl) 11 rfl (by kernel_rfl) (by kernel_rfl) (by kernel_rfl) (by kernel_rfl) (fun _ _ _ h => h) (by rfl) (by intro w' hw; rw [HSd.out] at hw; obtain ⟨h0, h1, h2, h3, h4, h5⟩ := hw; go_simp; try (with_reducible rfl)) hS ?_
      simp only [Act.put, List.setIfInBounds_toArray, List.set_cons_zero, List.set_cons_succ]
      have ho6 := (HO5.out.keep (W' := W5.drew) fun _ _ => rfl).keep fun k hk => b1.block k (by
        have h := HO5.out
        simp only [List.mem_cons, List.not_mem_nil, or_false] at hk
        rcases hk with rfl | rfl | rfl | rfl | rfl
        · exact h.c0.lt
        · exact h.c1.lt
        · exact h.c2.lt
        · exact h.c3.lt
        · exact h.c4.lt)
      have i0 := ho6.c1.cell 0 _ rfl
      have i1 := ho6.c1.cell 1 _ rfl
      have i2 := ho6.c1.cell 2 _ rfl
      have i3 := ho6.c1.cell 3 _ rfl
      have i4 := ho6.c1.cell 4 _ rfl
      have i5 := ho6.c1.cell 5 _ rfl
      have j0 := ho6.c1.froz 0
      have j1 := ho6.c1.froz 1
      have j2 := ho6.c1.froz 2
      have j3 := ho6.c1.froz 3
      have j4 := ho6.c1.froz 4
      have j5 := ho6.c1.froz 5
      have k0 := ho6.c2.cell 0 _ rfl
      have k1 := ho6.c2.froz 0
      have HO6 := Lib.hid ho6
      have O1 := Lib.hid o1
      have B1 := Lib.hid b1
      clear ho6 o1 b1
      unfold str
      refine s_one 12 (by kernel_rfl) rfl (by rfl) (fun K hK => ?_)
      go_simp
      refine hK.out _ _ (fun h => absurd (by simp) h) ?_
      clear hK K
      refine s_one 13 (by kernel_rfl) rfl (by rfl) (fun K hK => ?_)
      go_simp
      refine hK.out _ _ (fun h => absurd (by simp) h) ?_
      clear hK K
      refine s_done (by kernel_rfl) ?_ _
      refine forgetX (fun W => AqP g now p0 (itc (x, .slice A1 x.m.body.length c1)) true W ∧ Tch [g + 1, g + 1 + 1] w6 W) ?_ ?_
      · have t : Tch [g + 1, g + 1 + 1] w6 (((((((w6.setCell ⟨g + 1, 0, none⟩ (.int .i64 x.id)).setCell ⟨g + 1, 1, none⟩ (.int .u8 x.m.pr)).setCell ⟨g + 1, 2, none⟩ (.int .u32 x.m.ttl)).setCell ⟨g + 1, 3, none⟩ (.int .u32 x.m.cnt)).setCell ⟨g + 1, 4, none⟩ (.string ⟨x.m.ids.toArray⟩)).setCell ⟨g + 1, 5, none⟩ (.slice A1 x.m.body.length c1)).setCell ⟨g + 1 + 1, 0, none⟩ (.bool true)) := by
          with_reducible repeat first | exact Tch.refl _ _ | refine Tch.setCell ?_ _ (.inl (by simp))
        refine ⟨aq_set HO6.out ?_ ?_ t, t⟩
        · (with_reducible refine Bx.to ((((((((HO6.out.c1.set 0 _).set 1 _).set 2 _).set 3 _).set 4 _).set 5 _).off (g := g + 1 + 1) (by omega))) ?_); rfl
        · (with_reducible refine Bx.to (((((((HO6.out.c2.off (g := g + 1) (by omega)).off (g := g + 1) (by omega)).off (g := g + 1) (by omega)).off (g := g + 1) (by omega)).off (g := g + 1) (by omega)).off (g := g + 1) (by omega)).set 0 _) ?_); rfl
      rintro W7 ⟨ho7, ht7⟩
      have HO7 := Lib.hid ho7
      have HT7 := Lib.hid ht7
      clear ho7 ht7 i0 i1 i2 i3 i4 i5 j0 j1 j2 j3 j4 j5 k0 k1
      gi_wp2_with fail
      have hz1 := HI.out.1.size
      have hz2 := HT5.out.size
      have hz3 := B1.out.size
      have hz4 := HT7.out.size
      have hz5 := HB1.out.size
      simp only [show W5.drew.heap.size = W5.heap.size from rfl] at hz3
      have hgs : ∀ k ∈ [g, g + 1, g + 1 + 1, g + 1 + 1 + 1, g + 1 + 1 + 1 + 1], w.heap.size ≤ k ∧ k < W2.heap.size := fun k hk => ⟨(HI.out.2.2.1 k hk).1, (HI.out.2.2.1 k hk).2.2⟩
      have hxw : bk x.id < w.heap.size := (he x hx).1.bx.lt
      have tA : Tch [bk x.id] W2 w6 := HT5.out.trans (Tch.of_drew (Tch.of_below [] B1.out)) (by simp)
      have tB : Tch [bk x.id, g + 1, g + 1 + 1] W2 W7 := (tA.mono (by simp)).trans HT7.out (fun j hj => .inl (by simp at hj ⊢; right; exact hj))
      show ZK Z W2 W7 ∧ ∃ (y : En × Value × List Nat), CZ w [bk y.1.id] ([g, g + 1, g + 1 + 1, g + 1 + 1 + 1, g + 1 + 1 + 1 + 1] ++ y.2.1.ownBlock.toList) (fun (_ : List En) W => AqX w g now p0 (L false) bk bv y.1 y.2.1 .ret W) (pre ++ [x]) Z W7
      refine ⟨⟨tB.size, fun k hk => tB.block k (HI.out.2.2.2 k hk).2 fun hm => ?_⟩, (x, .slice A1 x.m.body.length c1, []), ?_, ⟨HO7.out, ?_, ?_, ?_, rfl⟩, fun k hk => ?_, fun k hk => ⟨(HI.out.2.2.2 k hk).1, Nat.lt_of_lt_of_le (HI.out.2.2.2 k hk).2 tB.size⟩⟩
      · simp only [List.mem_cons, List.not_mem_nil, or_false] at hm
        have h1 := (HI.out.2.2.2 k hk).1
        rcases hm with rfl | rfl | rfl
        · omega
        · exact (HI.out.2.2.1 (g + 1) (by simp)).2.1 hk
        · exact (HI.out.2.2.1 (g + 1 + 1) (by simp)).2.1 hk
      · refine (HI.out.1.mono (by simp)).trans tB fun j hj => ?_
        simp only [List.mem_cons, List.not_mem_nil, or_false] at hj
        rcases hj with rfl | rfl | rfl
        · left; simp
        · right; exact (hgs _ (by simp)).1
        · right; exact (hgs _ (by simp)).1
      · refine OwnC.base (OwnC.tch O1.out HT7.out fun k hk hm => ?_) (by show w.heap.size ≤ W5.heap.size; omega)
        have h1 := (O1.out.lt k hk).1
        simp only [show W5.drew.heap.size = W5.heap.size from rfl] at h1
        have h2 := (hgs (g + 1 + 1) (by simp)).2
        simp only [List.mem_cons, List.not_mem_nil, or_false] at hm
        omega
      · have h1 : Bx w6 (bk x.id) 145 (ecs (holdE x) (bv x.id)) := Bx.below (W := W5.drew) HX5.out B1.out
        refine h1.tch HT7.out fun hm => ?_
        have h2 := (hgs (g + 1) (by simp)).1
        simp only [List.mem_cons, List.not_mem_nil, or_false] at hm
        omega
      · exact find_prefix HV.out (fun e hm => by simp [HI.out.2.1.2 e hm]) (by simp [HOld.out])
      · rcases List.mem_append.1 hk with hm | hm
        · exact ⟨(hgs k hm).1, (HI.out.2.2.1 k hm).2.1, Nat.lt_of_lt_of_le (hgs k hm).2 tB.size⟩
        · have h1 := O1.out.lt k (by simpa using hm)
          simp only [show W5.drew.heap.size = W5.heap.size from rfl] at h1
          exact ⟨by omega, fun hz => by have := (HI.out.2.2.2 k hz).2; omega, by omega⟩
  case done =>
    rintro D xs W3 hD hS hI hDD
    have i0 := hI.2.1.1.c1.cell 0 _ rfl
    have i1 := hI.2.1.1.c1.cell 1 _ rfl
    have i2 := hI.2.1.1.c1.cell 2 _ rfl
    have i3 := hI.2.1.1.c1.cell 3 _ rfl
    have i4 := hI.2.1.1.c1.cell 4 _ rfl
    have i5 := hI.2.1.1.c1.cell 5 _ rfl
    have j0 := hI.2.1.1.c1.froz 0
    have j1 := hI.2.1.1.c1.froz 1
    have j2 := hI.2.1.1.c1.froz 2
    have j3 := hI.2.1.1.c1.froz 3
    have j4 := hI.2.1.1.c1.froz 4
    have j5 := hI.2.1.1.c1.froz 5
    have k0 := hI.2.1.1.c2.cell 0 _ rfl
    have k1 := hI.2.1.1.c2.froz 0
    have HI := Lib.hid hI
    have HS := Lib.hid hS
    have HD := Lib.hid hDD
    clear hI hS hDD hI0 hg
    gi_wp2_with fail
    have hA := HI.out.2.1.1
    have hDg : D ∉ [g + 1, g + 1 + 1] := fun hm => (HI.out.2.2.1 D (by simp at hm ⊢; rcases hm with h | h <;> simp [h])).2.1 (by simp)
    refine forgetX (fun W => AqP g now p0 zItem false W ∧ Tch [g + 1, g + 1 + 1] W3 W) ?_ ?_
    · have t : Tch [g + 1, g + 1 + 1] W3 (((((((W3.setCell ⟨g + 1, 0, none⟩ (.int .i64 0)).setCell ⟨g + 1, 1, none⟩ (.int .u8 0)).setCell ⟨g + 1, 2, none⟩ (.int .u32 0)).setCell ⟨g + 1, 3, none⟩ (.int .u32 0)).setCell ⟨g + 1, 4, none⟩ (.string ⟨#[]⟩)).setCell ⟨g + 1, 5, none⟩ (.slice none 0 0)).setCell ⟨g + 1 + 1, 0, none⟩ (.bool false)) := by
        with_reducible repeat first | exact Tch.refl _ _ | refine Tch.setCell ?_ _ (.inl (by simp))
      refine ⟨aq_set HI.out.2.1.1 ?_ ?_ t, t⟩
      · (with_reducible refine Bx.to ((((((((hA.c1.set 0 _).set 1 _).set 2 _).set 3 _).set 4 _).set 5 _).off (g := g + 1 + 1) (by omega))) ?_); rfl
      · (with_reducible refine Bx.to (((((((hA.c2.off (g := g + 1) (by omega)).off (g := g + 1) (by omega)).off (g := g + 1) (by omega)).off (g := g + 1) (by omega)).off (g := g + 1) (by omega)).off (g := g + 1) (by omega)).set 0 _) ?_); rfl
    rintro W7 ⟨ho7, ht7⟩
    have hD7 := (ht7.block D (heap_lt HD.out) hDg).trans HD.out
    refine ⟨by simp, .inl ⟨_, _, rfl, run_takeDeferred hD7, ?_⟩⟩
    have hne : ∀ k t cs, Bx W7 k t cs → k ≠ D := fun k t cs hB e => by subst e; unfold Bx at hB; rw [hB] at hD7; cases hD7
    refine ⟨_, results_cc rfl rfl rfl ((ho7.c1.keep (World.putObj_heap_other (hne _ _ _ ho7.c1))).loadAgg (by kernel_rfl) (by kernel_rfl)) ((ho7.c2.keep (World.putObj_heap_other (hne _ _ _ ho7.c2))).load1 (by kernel_rfl)), .inl ⟨?_, rfl, ?_⟩⟩
    · rw [List.find?_eq_none]
      intro e hm
      rw [← HS.out] at hm
      have := HI.out.2.1.2 e hm
      simp [this]
    · have hI := HI.out
      obtain ⟨hC0, -, hC, hZ⟩ := hI
      have t1 := HI.out.1.trans ht7 fun j hj => .inr (hC j (by simp at hj ⊢; rcases hj with h | h <;> simp [h])).1
      have t2 := t1.trans (tch_put W7 D (.deferred none)) fun j hj => .inr (by simp at hj; rw [hj]; exact (hZ D (by simp)).1)
      exact t2.below0
  case stop =>
    rintro D c pre W3 hD ⟨x, hI⟩ hDD
    obtain rfl := hI.2.1.ret
    gi_wp2_with fail
    refine ⟨by simp, .inl ⟨_, _, rfl, run_takeDeferred hDD, ?_⟩⟩
    have h := hI.2.1
    have hne : ∀ k t cs, Bx W3 k t cs → k ≠ D := fun k t cs hB e => by subst e; unfold Bx at hB; rw [hB] at hDD; cases hDD
    refine ⟨_, results_cc rfl rfl rfl ((h.own.c1.keep (World.putObj_heap_other (hne _ _ _ h.own.c1))).loadAgg (by kernel_rfl) (by kernel_rfl)) ((h.own.c2.keep (World.putObj_heap_other (hne _ _ _ h.own.c2))).load1 (by kernel_rfl)), .inr ⟨x.1, x.2.1, h.fnd, rfl, OwnC.keepT h.bod fun k cs' hB => World.putObj_heap_other (hne _ _ _ hB), h.ent.keep (World.putObj_heap_other (hne _ _ _ h.ent)), ?_⟩⟩
    exact hI.1.trans (tch_put W3 D (.deferred none)) fun j hj => .inr (by simp at hj; rw [hj]; exact (hI.2.2.2 D (by simp)).1)
end Go.Proofs.Ytklgndmndnmdpaa

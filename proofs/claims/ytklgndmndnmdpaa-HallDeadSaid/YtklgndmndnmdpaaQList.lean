import Derived.Test.YtklgndmndnmdpaaStep
set_option linter.unusedVariables false
set_option linter.unusedSimpArgs false
namespace Go.Proofs.Ytklgndmndnmdpaa
open Go.RowKit Go.Shelf
attribute [local go_sem] Oper.semAt_some

/-- An item, told. -/
def itc (x : En × Value) : List Value := [.int .i64 x.1.id, .int .u8 x.1.m.pr, .int .u32 x.1.m.ttl, .int .u32 x.1.m.cnt, str x.1.m.ids, x.2]
/-- What is known of an entry in memory. -/
structure EnOk (w : World) (b : Nat) (v : Value) (e : En) : Prop where
  bx : Bx w b 145 (ecs e v)
  bd : Bdv w v e.m.body
  wf : WfM e.m
  tm : e.tm ≤ 2305843009213693952
theorem EnOk.below {w w' : World} {b : Nat} {v : Value} {e : En} (h : EnOk w b v e) (hb : Below w.heap.size w w') : EnOk w' b v e := ⟨h.bx.below hb, h.bd.below hb, h.wf, h.tm⟩
/-- Items that are being told: G their blocks. -/
structure ItP (w : World) (g : Nat) (p0 : Option Addr) (a : Nat) (b : Bool) (G : List Nat) (pre : List En) (W : World) : Prop where
  c2 : Bx W a 78 [.pointer p0]
  c3 : Bx W (a + 1) 4 [.bool b]
  gG : g ∈ G ∧ a ∈ G ∧ a + 1 ∈ G
  ex : ∃ (v : Value) (its : List (En × Value)), Bx W g 101 [v] ∧ its.map (·.1) = pre ∧ OwnC 104 6 (fun _ => True) W w.heap.size v its.length (its.flatMap itc) ∧ (∀ k, v.ownBlock = some k → k ∈ G) ∧ ∀ x ∈ its, OwnB W w.heap.size x.2 x.1.m.body ∧ ∀ k, x.2.ownBlock = some k → k ∈ G
theorem ItP.keep {w : World} {g : Nat} {p0 : Option Addr} {a : Nat} {b : Bool} {G : List Nat} {pre : List En} {W W' : World} (h : ItP w g p0 a b G pre W) (hk : ∀ k ∈ G, W'.heap[k]? = W.heap[k]?) : ItP w g p0 a b G pre W' := by
  obtain ⟨h1, h2, h3, v, its, h4, h5, h6, h7, h8⟩ := h
  exact ⟨h1.keep (hk _ h3.2.1), h2.keep (hk _ h3.2.2), h3, v, its, h4.keep (hk _ h3.1), h5, h6.keep fun k hm => hk k (h7 k hm), h7, fun x hx => ⟨OwnC.keep (h8 x hx).1 fun k hm => hk k ((h8 x hx).2 k hm), (h8 x hx).2⟩⟩
theorem Try.info_item : (Try.prog.info? 104).map (fun i => (i.zero, i.size, i.bytes)) = some (some (.agg #[.int .i64 0, .int .u8 0, .int .u32 0, .int .u32 0, .string ⟨#[]⟩, .slice none 0 0]), 6, 64) := by kernel_rfl
theorem keeps_alloc {w : World} {a : Addr} {v : Value} (h : w.cell? a = some v) (o : Obj) : (w.alloc o).cell? a = some v := (World.cell?_alloc_lt _ _ _ (World.block_lt_of_cell? _ _ h)).trans h
theorem clo_exG {β : Type} {J : List Nat → List β → List Nat → World → Prop} (h : ∀ c, Clo (J c)) : Clo (fun (pre : List β) (Z : List Nat) W => ∃ G, J G pre Z W) := clo_some h

set_option maxRecDepth 100000 in
set_option maxHeartbeats 2000000 in
theorem qlist_calls (w : World) (p0 : Option Addr) (L : Bool → List En) (bk : Nat → Nat) (bv : Nat → Value) (hs : SeqP w p0 (fun e : En => ev (bk e.id)) L) (hL : (L false).length ≤ 1000) (he : ∀ e ∈ L false, EnOk w (bk e.id) (bv e.id) e) :
    Calls Try.prog 46 #[.pointer p0] w fun e w' => ∃ (v : Value) (its : List (En × Value)), e = .returned v ∧ its.map (·.1) = L false ∧ OwnC 104 6 (fun _ => True) w' w.heap.size v its.length (its.flatMap itc) ∧ (∀ x ∈ its, OwnB w' w.heap.size x.2 x.1.m.body) ∧ Below w.heap.size w w' := by
  refine (callsIn_wide (n := 3)).1 ?_
  refine callsIn_of_wp_marks Try.func46 rfl trivial ?_ rfl
  simp only [Try.ntmps46, List.size_toArray, List.length_cons, List.length_nil, Nat.reduceAdd, Nat.reduceSub, Array.replicate_succ, Array.replicate_zero, List.push_toArray, List.append_toArray, List.nil_append, List.cons_append]
  gi_wp2_with ((try refine ⟨trivial, ?_⟩); gi_at_call 69; refine (qall_in _ _ trivial rfl p0 false _).mono ?_; rintro e w1 ⟨rfl, rfl⟩)
  obtain ⟨g, hg⟩ : ∃ g, w.heap.size = g := ⟨_, rfl⟩
  refine forgetI (fun W => CZ w [] [g, g + 1, g + 1 + 1] (ItP w g p0 (g + 1) false [g, g + 1, g + 1 + 1]) ([] : List En) [] W) ?_ ?_
  · subst hg
    exact ⟨(((Tch.refl _ w).alloc _).alloc _).alloc _, ⟨(Bx.new' _ _ [_] (by simp)).alloc _, Bx.new' _ _ [_] (by simp), by simp, .slice none 0 0, [], ((Bx.new _ _ [_]).alloc _).alloc _, rfl, OwnC.nil_, by simp [Value.ownBlock], by simp⟩, fun k hk => ⟨by simp at hk; omega, by simp, by simp at hk; simp; omega⟩, by simp⟩
  rintro W hI0
  rw [hg]
  refine range_outer (encs := fun e : En => #[ev (bk e.id)]) rfl rfl (gf := 80) (lb := #[.pointer (some ⟨g + 1, 0, none⟩), .pointer (some ⟨g + 1 + 1, 0, none⟩)]) rfl trivial (enters_of Try.func80 (by kernel_rfl) rfl) (hs false (g + 1) (g + 1 + 1) w) hI0.1.below0 (fun _ => rfl)
    (fun pre Z W => ∃ G, CZ w [] G (ItP w g p0 (g + 1) false G) pre Z W) (fun _ _ _ _ => False) (clo_exG fun G => clo_cz fun s A A' _ h hk => h.keep fun k hm => hk k (.inl hm)) (fun _ => ⟨fun _ _ _ _ _ h => h.elim, fun _ _ _ _ h => h.elim, fun _ _ _ _ h => h.elim⟩)
    ⟨_, hI0⟩ (fun pre Z W' ⟨G, h⟩ => ⟨h.1.below0, h.2.1.c2.cell 0 _ rfl, h.2.1.c3.cell 0 _ rfl⟩)
    (fun x => { tmps := #[.pointer p0, undef, .pointer (some ⟨g, 0, none⟩), ev (bk x.id), .pointer p0, .func (.func 80) #[] #[.pointer (some ⟨g + 1, 0, none⟩), .pointer (some ⟨g + 1 + 1, 0, none⟩)], ev (bk x.id), undef, undef, undef, undef, undef, undef, undef, undef, undef, undef, undef, undef, undef, undef, undef, undef], defers := [] }) ?assign ?body ?done (fun D c pre W _ h => h.elim)
  case assign => intro l2 x W2 K hK; gi_wp2; simpa using hK
  case body =>
    rintro l pre x Z W2 hV hl hr ⟨G, hI⟩
    have hlen := prefix_len hV
    simp only [List.length_append, List.length_singleton] at hlen
    have hx : x ∈ L false := hV.subset (by simp)
    have hE := (he x hx).below hI.1.below0
    obtain ⟨v, its, hv, hits, hown, hvG, hbod⟩ := hI.2.1.ex
    obtain ⟨A, c, rfl, -⟩ := hown.rd
    obtain ⟨AB, cB, hbv, hrB, -⟩ := hE.bd
    have e0 := hE.bx.cell 0 _ rfl
    have e1 := hE.bx.cell 1 _ rfl
    have e2 := hE.bx.cell 2 _ rfl
    have e3 := hE.bx.cell 3 _ rfl
    have e4 := hE.bx.cell 4 _ rfl
    have e5 := hE.bx.cell 5 _ rfl
    have g0 := hv.cell 0 _ rfl
    have f0 := hv.froz 0
    unfold ev
    rw [hbv] at e5
    gi_wp2_with fail
    have HRB := Lib.hid hrB
    have HV := Lib.hid hv
    have HE := Lib.hid hE.bx
    have HI := Lib.hid hI
    have HO := Lib.hid hown
    have HG := Lib.hid hvG
    have HBo := Lib.hid hbod
    have HIt := Lib.hid hits
    have hb0 := hE.wf.body
    have hil : its.length + 1 ≤ 1000 := by have := congrArg List.length hits; simp at this; omega
    clear hrB hv hE hI hown hvG hbod hits
    obtain ⟨S, hSd⟩ : ∃ S : World → Prop, S = fun W' : World => W'.cell? ⟨g, 0, none⟩ = some (.slice A its.length c) ∧ W'.cell? ⟨bk x.id, 0, none⟩ = some (.int .i64 x.id) ∧ W'.cell? ⟨bk x.id, 1, none⟩ = some (.int .u8 x.m.pr) ∧ W'.cell? ⟨bk x.id, 2, none⟩ = some (.int .u32 x.m.ttl) ∧ W'.cell? ⟨bk x.id, 3, none⟩ = some (.int .u32 x.m.cnt) ∧ W'.cell? ⟨bk x.id, 4, none⟩ = some (str x.m.ids) ∧ W'.cell? ⟨bk x.id, 5, none⟩ = some (.slice AB x.m.body.length cB) := ⟨_, rfl⟩
    have hSk : ∀ A' W' : World, S A' → (∀ b o v, (b = g ∨ b = bk x.id) → A'.cell? ⟨b, o, none⟩ = some v → W'.cell? ⟨b, o, none⟩ = some v) → S W' := fun A' W' h hk => by
      rw [hSd] at h ⊢
      exact ⟨hk _ _ _ (.inl rfl) h.1, hk _ _ _ (.inr rfl) h.2.1, hk _ _ _ (.inr rfl) h.2.2.1, hk _ _ _ (.inr rfl) h.2.2.2.1, hk _ _ _ (.inr rfl) h.2.2.2.2.1, hk _ _ _ (.inr rfl) h.2.2.2.2.2.1, hk _ _ _ (.inr rfl) h.2.2.2.2.2.2⟩
    have hS : S W2.drew := by rw [hSd]; exact ⟨g0, e0, e1, e2, e3, e4, e5⟩
    have HSd := Lib.hid hSd
    have HSk := Lib.hid hSk
    clear hSd hSk
    refine s_region [15] S (by kernel_rfl) ?_
    refine s_take (fun _ => trivial) (by kernel_rfl) 0 rfl (by kernel_rfl) (by kernel_rfl) (by kernel_rfl) (by kernel_rfl) (fun _ _ _ h => h) (by rfl) (by intro w' hw; rw [HSd.out] at hw; obtain ⟨h0, h1, h2, h3, h4, h5, h6⟩ := hw; go_simp; try (with_reducible rfl)) hS ?_
    simp only [Act.put, List.setIfInBounds_toArray, List.set_cons_zero, List.set_cons_succ]
    refine s_take (fun _ => trivial) (by kernel_rfl) 1 rfl (by kernel_rfl) (by kernel_rfl) (by kernel_rfl) (by kernel_rfl) (fun _ _ _ h => h) (by rfl) (by intro w' hw; rw [HSd.out] at hw; obtain ⟨h0, h1, h2, h3, h4, h5, h6⟩ := hw; go_simp; try (with_reducible rfl)) hS ?_
    simp only [Act.put, List.setIfInBounds_toArray, List.set_cons_zero, List.set_cons_succ]
    refine s_take (fun _ => trivial) (by kernel_rfl) 2 rfl (by kernel_rfl) (by kernel_rfl) (by kernel_rfl) (by kernel_rfl) (fun _ _ _ h => h) (by rfl) (by intro w' hw; rw [HSd.out] at hw; obtain ⟨h0, h1, h2, h3, h4, h5, h6⟩ := hw; go_simp; try (with_reducible rfl)) hS ?_
    simp only [Act.put, List.setIfInBounds_toArray, List.set_cons_zero, List.set_cons_succ]
    refine s_take (fun _ => trivial) (by kernel_rfl) 3 rfl (by kernel_rfl) (by kernel_rfl) (by kernel_rfl) (by kernel_rfl) (fun _ _ _ h => h) (by rfl) (by intro w' hw; rw [HSd.out] at hw; obtain ⟨h0, h1, h2, h3, h4, h5, h6⟩ := hw; go_simp; try (with_reducible rfl)) hS ?_
    simp only [Act.put, List.setIfInBounds_toArray, List.set_cons_zero, List.set_cons_succ]
    refine s_take (fun _ => trivial) (by kernel_rfl) 4 rfl (by kernel_rfl) (by kernel_rfl) (by kernel_rfl) (by kernel_rfl) (fun _ _ _ h => h) (by rfl) (by intro w' hw; rw [HSd.out] at hw; obtain ⟨h0, h1, h2, h3, h4, h5, h6⟩ := hw; go_simp; try (with_reducible rfl)) hS ?_
    simp only [Act.put, List.setIfInBounds_toArray, List.set_cons_zero, List.set_cons_succ]
    refine s_take (fun _ => trivial) (by kernel_rfl) 5 rfl (by kernel_rfl) (by kernel_rfl) (by kernel_rfl) (by kernel_rfl) (fun _ _ _ h => h) (by rfl) (by intro w' hw; rw [HSd.out] at hw; obtain ⟨h0, h1, h2, h3, h4, h5, h6⟩ := hw; go_simp; try (with_reducible rfl)) hS ?_
    simp only [Act.put, List.setIfInBounds_toArray, List.set_cons_zero, List.set_cons_succ]
    refine s_take (fun _ => trivial) (by kernel_rfl) 6 rfl (by kernel_rfl) (by kernel_rfl) (by kernel_rfl) (by kernel_rfl) (fun _ _ _ h => h) (by rfl) (by intro w' hw; rw [HSd.out] at hw; obtain ⟨h0, h1, h2, h3, h4, h5, h6⟩ := hw; go_simp; try (with_reducible rfl)) hS ?_
    simp only [Act.put, List.setIfInBounds_toArray, List.set_cons_zero, List.set_cons_succ]
    refine s_take (fun _ => trivial) (by kernel_rfl) 7 rfl (by kernel_rfl) (by kernel_rfl) (by kernel_rfl) (by kernel_rfl) (fun _ _ _ h => h) (by rfl) (by intro w' hw; rw [HSd.out] at hw; obtain ⟨h0, h1, h2, h3, h4, h5, h6⟩ := hw; go_simp; try (with_reducible rfl)) hS ?_
    simp only [Act.put, List.setIfInBounds_toArray, List.set_cons_zero, List.set_cons_succ]
    refine s_take (fun _ => trivial) (by kernel_rfl) 8 rfl (by kernel_rfl) (by kernel_rfl) (by kernel_rfl) (by kernel_rfl) (fun _ _ _ h => h) (by rfl) (by intro w' hw; rw [HSd.out] at hw; obtain ⟨h0, h1, h2, h3, h4, h5, h6⟩ := hw; go_simp; try (with_reducible rfl)) hS ?_
    simp only [Act.put, List.setIfInBounds_toArray, List.set_cons_zero, List.set_cons_succ]
    refine s_take (fun _ => trivial) (by kernel_rfl) 9 rfl (by kernel_rfl) (by kernel_rfl) (by kernel_rfl) (by kernel_rfl) (fun _ _ _ h => h) (by rfl) (by intro w' hw; rw [HSd.out] at hw; obtain ⟨h0, h1, h2, h3, h4, h5, h6⟩ := hw; go_simp; try (with_reducible rfl)) hS ?_
    simp only [Act.put, List.setIfInBounds_toArray, List.set_cons_zero, List.set_cons_succ]
    refine s_take (fun _ => trivial) (by kernel_rfl) 10 rfl (by kernel_rfl) (by kernel_rfl) (by kernel_rfl) (by kernel_rfl) (fun _ _ _ h => h) (by rfl) (by intro w' hw; rw [HSd.out] at hw; obtain ⟨h0, h1, h2, h3, h4, h5, h6⟩ := hw; go_simp; try (with_reducible rfl)) hS ?_
    simp only [Act.put, List.setIfInBounds_toArray, List.set_cons_zero, List.set_cons_succ]
    refine s_one 11 (by kernel_rfl) rfl (by rfl) (fun K hK => ?_)
    go_simp
    refine ⟨trivial, (CallsIn.inRound l (callsIn_wide.2 (qclone_calls (w := W2.drew) x.m AB cB _ rfl HRB.out (by omega)))).mono ?_⟩
    rintro e w1 ⟨v1, rfl, o1, b1⟩
    obtain ⟨A1, c1, rfl, -⟩ := o1.rd
    have hS1 := HSk.out _ _ hS fun b o v _ h => stays_ b1 h
    have hv1 := (Bx.below (W := W2.drew) HV.out b1)
    refine hK.out _ _ (fun _ => hS1) ?_
    clear hK K hS
    have hS := hS1
    clear hS1
    unfold mgv
    refine s_take (fun _ => trivial) (by kernel_rfl) 12 rfl (by kernel_rfl) (by kernel_rfl) (by kernel_rfl) (by kernel_rfl) (fun _ _ _ h => h) (by rfl) (by intro w' hw; rw [HSd.out] at hw; obtain ⟨h0, h1, h2, h3, h4, h5, h6⟩ := hw; go_simp; try (with_reducible rfl)) hS ?_
    simp only [Act.put, List.setIfInBounds_toArray, List.set_cons_zero, List.set_cons_succ]
    refine s_one 13 (by kernel_rfl) rfl (by rfl) (fun K hK => ?_)
    go_simp
    have hS2 := HSk.out _ _ hS fun b o v _ h => keeps_alloc h (.cells #[.int .i64 x.id, .int .u8 x.m.pr, .int .u32 x.m.ttl, .int .u32 x.m.cnt, str x.m.ids, .slice A1 x.m.body.length c1] 104)
    refine hK.out _ _ (fun _ => hS2) ?_
    clear hK K
    refine s_one 14 (by kernel_rfl) rfl (by rfl) (fun K hK => ?_)
    obtain ⟨i0, hi, hz0, hz1', hz2'⟩ := info_parts Try.info_item
    refine wpIn_appC (fun _ => trivial) _ _ _ rfl w.heap.size i0 _ 64 Try.underlying101 hi hz0 hz1' hz2' rfl (by decide) (fun _ _ => trivial) (.slice A its.length c) its.length (its.flatMap itc) rfl ?own (some ⟨w1.heap.size, 0, none⟩) 1 1 (itc (x, .slice A1 x.m.body.length c1)) rfl ?rd ?hb ?h63 ?hbase ?_
    case own => exact (OwnC.below (w := W2.drew) HO.out b1).alloc _
    case rd => exact rdc_box (itc (x, .slice A1 x.m.body.length c1)) 1 6 rfl (by simp [itc, str, Value.oneCell']) (by omega)
    case hb => omega
    case h63 => omega
    case hbase => have := HI.out.1.size; have := b1.size; simp; simp at this; omega
    rintro v' w' ho' hg' - hob'
    have hgne := HO.out.ne_bx HV.out (by decide)
    have hene := HO.out.ne_bx HE.out (by decide)
    have hS3 := HSk.out _ _ hS2 fun b o v hb h => grown_cell hg' (by rcases hb with rfl | rfl; exact hgne; exact hene) h
    refine hK.out _ _ (fun _ => hS3) ?_
    clear hK K
    simp only [Act.put, List.setIfInBounds_toArray, List.set_cons_zero, List.set_cons_succ]
    have hv3 : Bx w' g 101 [.slice A its.length c] := (hv1.alloc _).grown hg' hgne
    obtain ⟨A3, c3, rfl, -⟩ := ho'.rd
    have q0 := hv3.cell 0 _ rfl
    have f3 := hv3.froz 0
    refine s_one 15 (by kernel_rfl) rfl (by rfl) (fun K hK => ?_)
    go_simp
    refine hK.out _ _ (fun h => absurd (by simp) h) ?_
    clear hK K
    refine s_done (by kernel_rfl) ?_ _
    obtain ⟨W', hW'⟩ : ∃ W', w'.setCell ⟨g, 0, none⟩ (.slice A3 (its.length + 1) c3) = W' := ⟨_, rfl⟩
    have hb : ∀ k, k ≠ g → W'.heap[k]? = w'.heap[k]? := fun k hk => by rw [← hW']; exact Below.heap_setCell _ ⟨g, 0, none⟩ _ k hk
    have hst : Tch G W2 W' := by
      have t1 : Tch G W2 w1 := Tch.of_drew (Tch.of_below G b1)
      have t2 := t1.alloc (.cells #[.int .i64 x.id, .int .u8 x.m.pr, .int .u32 x.m.ttl, .int .u32 x.m.cnt, str x.m.ids, .slice A1 x.m.body.length c1] 104)
      have t3 := t2.grown hg' fun k hk => .inl (HG.out k hk)
      rw [← hW']
      exact t3.setCell _ (.inl HI.out.2.1.gG.1)
    have hv4 : Bx W' g 101 [.slice A3 (its.length + 1) c3] := by rw [← hW']; exact hv3.set 0 _
    have hkeep : ∀ k t cs', Bx w1 k t cs' → t ≠ 104 → t ≠ 101 → W'.heap[k]? = w1.heap[k]? := fun k t cs' hB h1 h2 => by
      rw [hb k (hB.ne hv1 h2)]
      have := (hB.alloc (.cells #[.int .i64 x.id, .int .u8 x.m.pr, .int .u32 x.m.ttl, .int .u32 x.m.cnt, str x.m.ids, .slice A1 x.m.body.length c1] 104)).grown hg' ((OwnC.below (w := W2.drew) HO.out b1).ne_bx hB h1.symm)
      exact this.trans hB.symm
    have hgg := HI.out.2.1.gG
    rw [hW']
    show ZK Z W2 W' ∧ ∃ G, CZ w [] G (ItP w g p0 (g + 1) false G) (pre ++ [x]) Z W'
    have hsz : W2.heap.size ≤ w1.heap.size := b1.size
    have hlt1 := fun k hk => o1.lt k hk
    have := CZ.step2 (G' := (Value.slice A3 (its.length + 1) c3).ownBlock.toList ++ ((Value.slice A1 x.m.body.length c1).ownBlock.toList ++ G)) (P' := ItP w g p0 (g + 1) false ((Value.slice A3 (its.length + 1) c3).ownBlock.toList ++ ((Value.slice A1 x.m.body.length c1).ownBlock.toList ++ G))) (s' := pre ++ [x]) HI.out hst ?_ ?_
    · exact ⟨this.1, _, this.2⟩
    · intro k hk
      have hw' : w'.heap.size ≤ W'.heap.size := by rw [← hW']; simp
      simp only [List.mem_append, Option.mem_toList] at hk
      rcases hk with hk | hk | hk
      · rcases hob' with h | h
        · rw [h] at hk; exact .inl (HG.out k hk)
        · have h1 := (ho'.lt k hk).2
          rw [h] at hk
          simp only [Option.some.injEq, World.size_alloc] at hk
          exact .inr ⟨by omega, by omega⟩
      · have h1 := hlt1 k hk
        have h2 := hg'.size
        simp only [World.size_alloc] at h2
        simp at h1
        exact .inr ⟨h1.1, by omega⟩
      · exact .inl hk
    · refine ⟨?_, ?_, ⟨by simp [hgg.1], by simp [hgg.2.1], by simp [hgg.2.2]⟩, .slice A3 (its.length + 1) c3, its ++ [(x, .slice A1 x.m.body.length c1)], hv4, by simp [HIt.out], ?_, fun k hk => by simp [hk], ?_⟩
      · have := Bx.below (W := W2.drew) HI.out.2.1.c2 b1
        exact this.keep (hkeep _ _ _ this (by decide) (by decide))
      · have := Bx.below (W := W2.drew) HI.out.2.1.c3 b1
        exact this.keep (hkeep _ _ _ this (by decide) (by decide))
      · simp only [List.length_append, List.length_singleton, List.flatMap_append, List.flatMap_cons, List.flatMap_nil, List.append_nil]
        exact ho'.keep fun k hk => hb k fun e => by subst e; exact ho'.ne_bx hv3 (by decide) hk
      · intro y hy
        rcases List.mem_append.1 hy with hy | hy
        · have h1 := HBo.out y hy
          have h2 := OwnC.below (w := W2.drew) h1.1 b1
          exact ⟨h2.keepT fun k cs' hB => hkeep _ _ _ hB (by decide) (by decide), fun k hk => by simp [h1.2 k hk]⟩
        · simp only [List.mem_singleton] at hy
          subst hy
          have h2 : OwnB w1 w.heap.size (.slice A1 x.m.body.length c1) x.m.body := o1.base (by have := HI.out.1.size; simpa using this)
          exact ⟨OwnC.keepT h2 fun k cs' hB => hkeep _ _ _ hB (by decide) (by decide), fun k hk => by simp [hk]⟩
  case done =>
    rintro D xs W3 hD hS ⟨G, hI⟩ hDD
    obtain ⟨v, its, hv, hits, hown, hvG, hbod⟩ := hI.2.1.ex
    obtain ⟨A, c, rfl, -⟩ := hown.rd
    have g0 := hv.cell 0 _ rfl
    have f0 := hv.froz 0
    have HI := Lib.hid hI
    have HV := Lib.hid hv
    have HIt := Lib.hid hits
    have HO := Lib.hid hown
    have HBo := Lib.hid hbod
    have HS := Lib.hid hS
    have HD := Lib.hid hDD
    clear hI hv hits hown hbod hS hDD hvG hI0 hg
    gi_wp2_with fail
    have hDg : D ≠ g := fun e => (HI.out.2.2.1 g HI.out.2.1.gG.1).2.1 (by simp [e])
    have h7 : (W3.setCell ⟨g, 0, none⟩ (.slice A its.length c)).heap[D]? = some (.deferred (some [])) := (Below.heap_setCell _ ⟨g, 0, none⟩ _ D hDg).trans HD.out
    refine ⟨by simp, .inl ⟨_, _, rfl, run_takeDeferred h7, ?_⟩⟩
    have hk : ∀ k, k ≠ D → k ≠ g → ((W3.setCell ⟨g, 0, none⟩ (.slice A its.length c)).putObj D (.deferred none)).heap[k]? = W3.heap[k]? := fun k h1 h2 => (World.putObj_heap_other h1).trans (Below.heap_setCell _ ⟨g, 0, none⟩ _ k h2)
    have hB4 : Bx ((W3.setCell ⟨g, 0, none⟩ (.slice A its.length c)).putObj D (.deferred none)) g 101 [.slice A its.length c] := (HV.out.set 0 _).keep (World.putObj_heap_other hDg.symm)
    have hkT : ∀ k t cs', Bx W3 k t cs' → t ≠ 101 → ((W3.setCell ⟨g, 0, none⟩ (.slice A its.length c)).putObj D (.deferred none)).heap[k]? = W3.heap[k]? := fun k t cs' hB h1 => hk k (fun e => by subst e; have := HD.out; unfold Bx at hB; rw [hB] at this; cases this) (hB.ne HV.out h1)
    refine ⟨_, results_c rfl rfl (hB4.load1 (by kernel_rfl)), _, its, rfl, by rw [HIt.out, HS.out], HO.out.keepT fun k cs' hB => hkT k _ _ hB (by decide), fun x hx => OwnC.keepT (HBo.out x hx).1 fun k cs' hB => hkT k _ _ hB (by decide), ?_⟩
    have t1 := (HI.out.1.trans (tch_set W3 g 0 (.slice A its.length c)) fun j hj => .inr (by simp at hj; rw [hj]; exact (HI.out.2.2.1 g HI.out.2.1.gG.1).1))
    have t2 := t1.trans (tch_put (W3.setCell ⟨g, 0, none⟩ (.slice A its.length c)) D (.deferred none)) fun j hj => .inr (by simp at hj; rw [hj]; exact (HI.out.2.2.2 D (by simp)).1)
    exact t2.below0
end Go.Proofs.Ytklgndmndnmdpaa

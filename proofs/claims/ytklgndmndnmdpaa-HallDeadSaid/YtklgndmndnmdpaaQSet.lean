import Derived.Test.YtklgndmndnmdpaaQMod
set_option linter.unusedVariables false
set_option linter.unusedSimpArgs false
namespace Go.Proofs.Ytklgndmndnmdpaa
open Go.RowKit Go.Shelf
attribute [local go_sem] Oper.semAt_some

/-- An outcome. -/
structure Oc where
  k : Nat
  a : Nat
  b : Nat
  c : List UInt8
def occ (o : Oc) : List Value := [.int .u8 o.k, .int .u64 o.a, .int .u64 o.b, str o.c]
def bump (o : Oc) (m : Mg) : Mg := if o.a = 1 ∧ m.cnt < 4294967295 then { m with cnt := m.cnt + 1 } else m
def deadE (limit : Nat) (o : Oc) (m : Mg) : Bool := decide (o.b = 1 ∨ (0 < limit ∧ limit ≤ m.cnt))
def bumpE (o : Oc) (e : En) : En := { e with m := bump o e.m }
def freeE (e : En) : En := { e with held := false }
def findH (L : List En) (id : Int) : Option En := L.find? fun e => decide ((e.id : Int) = id ∧ e.held = true)
/-- What becomes of a queue when an item is settled: its items, an error, who is dead. -/
def setQ (limit : Nat) (L : List En) (id : Int) (o : Oc) : List En × Nat × Option En :=
  match findH L id with
  | none => (L, 5, none)
  | some e =>
    if o.k = 2 then (less [e.id] L, 0, none)
    else if o.k = 3 then (less [e.id] L, 0, some e)
    else if o.k = 4 then (modL (freeE e) L, 0, none)
    else if o.k = 5 then (if deadE limit o (bumpE o e).m then (less [e.id] L, 0, some (bumpE o e)) else (modL (freeE (bumpE o e)) L, 0, none))
    else (L, 1, none)
def zMsg : List Value := [.int .u8 0, .int .u32 0, .int .u32 0, .string ⟨#[]⟩, .slice none 0 0]
def deadV (bv : Nat → Value) : Option En → Value
  | some e => mgv e.m (bv e.id)
  | none => .agg zMsg.toArray
theorem results_ctt {fn : Func} {t u s : Tmp} {ty : TypeId} (h : fn.results = #[.cell t ty, .tmp u, .tmp s]) {tmps : Array Value} {W : World} {a : Addr} {v v' v'' : Value} (ht : tmps.getD t undef = .pointer (some a)) (hu : tmps.getD u undef = v') (hs : tmps.getD s undef = v'')
    (hl : (loadVar ty a).run Try.prog W = .ok v W) : (results fn tmps).run Try.prog W = .ok (.tuple #[v, v', v'']) W := by
  simp only [Array.getD_eq_getD_getElem?] at ht hu hs
  simp [results, h, ht, hu, hs, asAddr, Sem.run_bind, Sem.run, hl, Result.andThen]

set_option maxRecDepth 100000 in
set_option maxHeartbeats 1000000 in
theorem qset_nil (w : World) (id : Int) (o : Oc) :
    Calls Try.prog 56 #[.pointer none, .int .i64 id, .agg (occ o).toArray] w fun r w' => r = .returned (.tuple #[.agg zMsg.toArray, .bool false, .int .i64 2]) ∧ Below w.heap.size w w' := by
  unfold occ str
  refine (callsIn_wide (n := 3)).1 ?_
  refine callsIn_of_wp_marks Try.func56 rfl trivial ?_ rfl
  simp only [Try.ntmps56, List.size_toArray, List.length_cons, List.length_nil, Nat.reduceAdd, Nat.reduceSub, Array.replicate_succ, Array.replicate_zero, List.push_toArray, List.append_toArray, List.nil_append, List.cons_append]
  gi_wp2_with fail
  refine ⟨_, results_ctt rfl rfl rfl rfl ((Bx.new' ((w.alloc _).alloc _) (b := w.heap.size + 1 + 1) 41 zMsg (by simp)).loadAgg (by kernel_rfl) (by kernel_rfl)), rfl, ?_⟩
  exact (((Tch.refl [] w).alloc _).alloc _).alloc _ |>.below0

theorem modL_self {L : List En} {e : En} (hs : L.Pairwise fun a b => a.id < b.id) (he : e ∈ L) : modL e L = L := by
  unfold modL
  conv => rhs; rw [← List.map_id L]
  refine List.map_congr_left fun x hx => ?_
  by_cases h : x.id = e.id
  · rw [if_pos h]; exact (sorted_uniq hs hx he h).symm
  · rw [if_neg h]; rfl
theorem modL_modL {L : List En} {e1 e2 : En} (h : e2.id = e1.id) : modL e2 (modL e1 L) = modL e2 L := by
  unfold modL
  rw [List.map_map]
  refine List.map_congr_left fun x hx => ?_
  simp only [Function.comp]
  by_cases hh : x.id = e1.id
  · rw [if_pos hh, if_pos h.symm, if_pos (hh.trans h.symm)]
  · rw [if_neg hh]
theorem mem_modL_self {L : List En} {e e1 : En} (he : e ∈ L) (h : e1.id = e.id) : e1 ∈ modL e1 L := List.mem_map.2 ⟨e, he, if_pos h.symm⟩

/-- Where Settle's loop is: the last of those that have come that has the number. -/
structure StP (g : Nat) (id : Int) (o : Oc) (p0 : Option Addr) (bk : Nat → Nat) (pre : List En) (W : World) : Prop where
  c0 : Bx W g 3 [.int .i64 id]
  c1 : Bx W (g + 1) 47 (occ o)
  c2 : Bx W (g + 1 + 1) 41 zMsg
  c4 : Bx W (g + 1 + 1 + 1 + 1) 78 [.pointer p0]
  c5 : Bx W (g + 1 + 1 + 1 + 1 + 1) 4 [.bool true]
  ex : ∃ r : Option En, Bx W (g + 1 + 1 + 1) 143 [.pointer (r.map fun e => ⟨bk e.id, 0, none⟩)] ∧ (∀ e, r = some e → e ∈ pre ∧ (e.id : Int) = id) ∧ (r = none → ∀ e ∈ pre, (e.id : Int) ≠ id)
def sG (g : Nat) : List Nat := [g, g + 1, g + 1 + 1, g + 1 + 1 + 1, g + 1 + 1 + 1 + 1, g + 1 + 1 + 1 + 1 + 1]
theorem StP.keep {g : Nat} {id : Int} {o : Oc} {p0 : Option Addr} {bk : Nat → Nat} {pre : List En} {W W' : World} (h : StP g id o p0 bk pre W) (hk : ∀ k ∈ sG g, W'.heap[k]? = W.heap[k]?) : StP g id o p0 bk pre W' := by
  obtain ⟨h0, h1, h2, h4, h5, r, h6, h7⟩ := h
  exact ⟨h0.keep (hk _ (by simp [sG])), h1.keep (hk _ (by simp [sG])), h2.keep (hk _ (by simp [sG])), h4.keep (hk _ (by simp [sG])), h5.keep (hk _ (by simp [sG])), r, h6.keep (hk _ (by simp [sG])), h7⟩
theorem mem_ord_of {L : List En} {b : Bool} {e : En} (h : e ∈ L) (hb : e.held = b) (hp : e.m.pr < 10) : e ∈ ordQ b L := by
  unfold ordQ
  refine List.mem_flatMap.2 ⟨e.m.pr, ?_, mem_ask.2 ⟨mem_rowp.2 ⟨h, rfl⟩, hb⟩⟩
  have : ∀ p < 10, p ∈ prs := by decide
  exact this _ hp
theorem findH_of {L : List En} {id : Int} (hs : L.Pairwise fun a b => a.id < b.id) {r : Option En} (hp : ∀ e ∈ L, e.m.pr < 10) (h1 : ∀ e, r = some e → e ∈ ordQ true L ∧ (e.id : Int) = id) (h2 : r = none → ∀ e ∈ ordQ true L, (e.id : Int) ≠ id) : findH L id = r := by
  unfold findH
  cases r with
  | none =>
    rw [List.find?_eq_none]
    intro e he hh
    have hh' := of_decide_eq_true hh
    exact h2 rfl e (mem_ord_of he hh'.2 (hp e he)) hh'.1
  | some e =>
    obtain ⟨h3, h4⟩ := h1 e rfl
    obtain ⟨h5, h6⟩ := mem_ord h3
    have h7 : (L.find? fun e => decide ((e.id : Int) = id ∧ e.held = true)).isSome = true := by
      rw [List.find?_isSome]
      exact ⟨e, h5, decide_eq_true ⟨h4, h6⟩⟩
    obtain ⟨x, hx⟩ := Option.isSome_iff_exists.1 h7
    rw [hx]
    have h8 : (x.id : Int) = id ∧ x.held = true := of_decide_eq_true (List.find?_some (p := fun e : En => decide ((e.id : Int) = id ∧ e.held = true)) hx)
    have h9 := List.mem_of_find?_eq_some hx
    have := sorted_uniq hs h9 h5 (by omega)
    rw [this]

theorem set_end {w W' : World} {B : Nat} {F : List Nat} {q room limit last : Nat} {L : List En} {bk : Nat → Nat} {bv rv : Nat → Value} {b D : Nat} {t : TypeId} {cs : List Value} (hD : W'.heap[D]? = some (.deferred (some []))) (hb : Bx W' b t cs) (hQ : Qq W' B F q room limit last L bk bv rv) (hT : Tch F w W') (hDw : w.heap.size ≤ D) :
    Bx (W'.putObj D (.deferred none)) b t cs ∧ Qq (W'.putObj D (.deferred none)) B F q room limit last L bk bv rv ∧ Tch F w (W'.putObj D (.deferred none)) := by
  have hne : ∀ (k : Nat) (t : TypeId) (cs : Array Value) (fr : Nat × Nat), W'.heap[k]? = some (Obj.cells cs t fr) → (W'.putObj D (.deferred none)).heap[k]? = W'.heap[k]? := fun k t cs fr hh => World.putObj_heap_other fun e => by subst e; rw [hh] at hD; cases hD
  refine ⟨hb.keep (hne _ _ _ _ hb), hQ.keep (fun k hk => ?_) (fun k cs fr hh => hne _ _ _ _ hh), hT.trans (tch_put _ _ _) fun j hj => .inr (by simp at hj; omega)⟩
  obtain ⟨cs, t, h1, _⟩ := hQ.ft k hk
  exact hne _ _ _ _ h1

theorem set_fin {w Wf W7 : World} {B : Nat} {F : List Nat} {q room limit last : Nat} {L : List En} {bk : Nat → Nat} {bv rv : Nat → Value} {b D : Nat} {cs cs0 : List Value} (hD : Wf.heap[D]? = some (.deferred (some []))) (hQ : Qq Wf B F q room limit last L bk bv rv) (hc : Bx Wf b 41 cs0) (hT : Tch F w Wf)
    (hb : Bx W7 b 41 cs) (ht : Tch [b] Wf W7) (hbw : w.heap.size ≤ b) (hF : ∀ k ∈ F, k < w.heap.size) (hbD : b ≠ D) (hDw : w.heap.size ≤ D) :
    W7.heap[D]? = some (.deferred (some [])) ∧ Bx (W7.putObj D (.deferred none)) b 41 cs ∧ Qq (W7.putObj D (.deferred none)) B F q room limit last L bk bv rv ∧ Tch F w (W7.putObj D (.deferred none)) := by
  have hD7 := (ht.block D (heap_lt hD) (by simp; exact hbD.symm)).trans hD
  have hQ7 := hQ.tch ht fun k hk => by
    simp only [List.mem_singleton] at hk
    subst hk
    exact ⟨fun hm => by have := hF k hm; omega, fun cs fr hh => by
      unfold Bx at hc
      rw [hh] at hc
      simp only [Option.some.injEq, Obj.cells.injEq] at hc
      exact absurd hc.2.1 (by decide)⟩
  exact ⟨hD7, set_end hD7 hb hQ7 (hT.trans ht fun j hj => .inr (by simp at hj; omega)) hDw⟩

/-- What Settle leaves. -/
def SetPost (w : World) (B : Nat) (F : List Nat) (q room limit last : Nat) (L : List En) (bk : Nat → Nat) (bv : Nat → Value) (id : Int) (o : Oc) (r : Ending) (w' : World) : Prop :=
  ∃ rv', r = .returned (.tuple #[deadV bv (setQ limit L id o).2.2, .bool (setQ limit L id o).2.2.isSome, .int .i64 (setQ limit L id o).2.1]) ∧ Qq w' B F q room limit last (setQ limit L id o).1 bk bv rv' ∧ Tch F w w'

set_option maxRecDepth 100000 in
set_option maxHeartbeats 4000000 in
theorem qset_loop {w : World} {B : Nat} {F : List Nat} {q room limit last : Nat} {L : List En} {bk : Nat → Nat} {bv rv : Nat → Value} (h : Qq w B F q room limit last L bk bv rv) (id : Int) (o : Oc) :
    Calls Try.prog 56 #[.pointer (some ⟨q, 0, none⟩), .int .i64 id, .agg (occ o).toArray] w (SetPost w B F q room limit last L bk bv id o) := by
  have H := Lib.hid h
  have hql := h.lt q h.fq
  unfold occ str
  refine (callsIn_wide (n := 3)).1 ?_
  refine callsIn_of_wp_marks Try.func56 rfl trivial ?_ rfl
  simp only [Try.ntmps56, List.size_toArray, List.length_cons, List.length_nil, Nat.reduceAdd, Nat.reduceSub, Array.replicate_succ, Array.replicate_zero, List.push_toArray, List.append_toArray, List.nil_append, List.cons_append]
  clear h
  gi_wp2_with ((try refine ⟨trivial, ?_⟩); gi_at_call 69; refine (qall_in _ _ trivial rfl (some ⟨q, 0, none⟩) true _).mono ?_; rintro e w1 ⟨rfl, rfl⟩)
  obtain ⟨g, hg⟩ : ∃ g, w.heap.size = g := ⟨_, rfl⟩
  refine forgetI (fun W => CZ w [] (sG g) (StP g id o (some ⟨q, 0, none⟩) bk) ([] : List En) [] W) ?_ ?_
  · subst hg
    exact ⟨((((((Tch.refl _ w).alloc _).alloc _).alloc _).alloc _).alloc _).alloc _, ⟨(((((Bx.new _ _ [_]).alloc _).alloc _).alloc _).alloc _).alloc _, ((((Bx.new' _ _ [_, _, _, _] (by simp)).alloc _).alloc _).alloc _).alloc _, (((Bx.new' _ _ zMsg (by simp)).alloc _).alloc _).alloc _, (Bx.new' _ _ [_] (by simp)).alloc _, Bx.new' _ _ [_] (by simp), none, ((Bx.new' _ _ [_] (by simp)).alloc _).alloc _, by simp, by simp⟩, fun k hk => ⟨by simp [sG] at hk; omega, by simp, by simp [sG] at hk; simp; omega⟩, by simp⟩
  rintro W hI0
  rw [hg]
  refine range_outer (encs := fun e : En => #[ev (bk e.id)]) rfl rfl (gf := 80) (lb := #[.pointer (some ⟨g + 1 + 1 + 1 + 1, 0, none⟩), .pointer (some ⟨g + 1 + 1 + 1 + 1 + 1, 0, none⟩)]) rfl trivial (enters_of Try.func80 (by kernel_rfl) rfl) (seqP_q H.out true (g + 1 + 1 + 1 + 1) (g + 1 + 1 + 1 + 1 + 1) w) hI0.1.below0 (fun _ => rfl)
    (CZ w [] (sG g) (StP g id o (some ⟨q, 0, none⟩) bk)) (fun _ _ _ _ => False)
    (clo_cz fun s A A' _ h hk => h.keep fun k hm => hk k (.inl hm)) (fun _ => ⟨fun _ _ _ _ _ h => h.elim, fun _ _ _ _ h => h.elim, fun _ _ _ _ h => h.elim⟩)
    hI0 (fun pre Z W' h => ⟨h.1.below0, h.2.1.c4.cell 0 _ rfl, h.2.1.c5.cell 0 _ rfl⟩)
    (fun x => { tmps := #[.pointer (some ⟨q, 0, none⟩), .int .i64 id, .agg #[.int .u8 o.k, .int .u64 o.a, .int .u64 o.b, .string ⟨o.c.toArray⟩], undef, .pointer (some ⟨g, 0, none⟩), .pointer (some ⟨g + 1, 0, none⟩), .pointer (some ⟨g + 1 + 1, 0, none⟩), .bool false, .int .i64 0, .pointer (some ⟨g + 1 + 1 + 1, 0, none⟩), ev (bk x.id), undef, .pointer (some ⟨q, 0, none⟩), .bool false, undef, .pointer (some ⟨q, 0, none⟩), .func (.func 80) #[] #[.pointer (some ⟨g + 1 + 1 + 1 + 1, 0, none⟩), .pointer (some ⟨g + 1 + 1 + 1 + 1 + 1, 0, none⟩)], ev (bk x.id), undef, undef, undef, undef, undef, undef, undef, undef, undef, undef, undef, undef, undef, undef, undef, undef, undef, undef, undef, undef, undef, undef, undef, undef, undef, undef, undef, undef, undef, undef, undef, undef, undef, undef, undef, undef, undef, undef, undef, undef, undef, undef, undef, undef, undef, undef, undef, undef, undef, undef, undef, undef, undef, undef, undef, undef, undef, undef, undef, undef, undef, undef, undef, undef, undef, undef, undef, undef, undef, undef, undef, undef, undef, undef, undef, undef, undef, undef, undef, undef, undef, undef], defers := [] }) ?assign ?body ?done (fun D c pre W _ h => h.elim)
  case assign => intro l2 x W2 K hK; gi_wp2; simpa using hK
  case body =>
    rintro l pre x Z W2 hV hl hr hI
    have hxo : x ∈ ordQ true L := hV.subset (by simp)
    have hE := (enOk_q H.out (mem_ord hxo).1).below hI.1.below0
    have HI := Lib.hid hI
    have e0 := hE.bx.cell 0 _ rfl
    have c0 := hI.2.1.c0.cell 0 _ rfl
    unfold ev
    obtain ⟨r, hbr, hr1, hr2⟩ := hI.2.1.ex
    have b0 := hbr.cell 0 _ rfl
    have b1 := hbr.froz 0
    have HBR := Lib.hid hbr
    have HR1 := Lib.hid hr1
    have HR2 := Lib.hid hr2
    clear hI hV hr hE hbr hr1 hr2
    gi_wp2_with fail
    obtain ⟨S, hSd⟩ : ∃ S : World → Prop, S = fun W' : World => W'.cell? ⟨bk x.id, 0, none⟩ = some (.int .i64 x.id) ∧ W'.cell? ⟨g, 0, none⟩ = some (.int .i64 id) := ⟨_, rfl⟩
    have hS : S W2.drew := by rw [hSd]; exact ⟨e0, c0⟩
    have HSd := Lib.hid hSd
    clear hSd
    by_cases hid : (x.id : Int) = id
    · have hid' : ((x.id : Int) == id) = true := by simpa using hid
      refine s_region [] S (by kernel_rfl) ?_
      refine s_take (fun _ => trivial) (by kernel_rfl) 0 rfl (by kernel_rfl) (by kernel_rfl) (by kernel_rfl) (by kernel_rfl) (fun _ _ _ h => h) (by rfl) (by intro w' hw; rw [HSd.out] at hw; obtain ⟨h0, h1⟩ := hw; go_simp; try (with_reducible rfl)) hS ?_
      simp only [List.getElem_toArray, List.getElem_cons_succ, List.getElem_cons_zero, Act.put, List.setIfInBounds_toArray, List.set_cons_zero, List.set_cons_succ]
      refine s_take (fun _ => trivial) (by kernel_rfl) 1 rfl (by kernel_rfl) (by kernel_rfl) (by kernel_rfl) (by kernel_rfl) (fun _ _ _ h => h) (by rfl) (by intro w' hw; rw [HSd.out] at hw; obtain ⟨h0, h1⟩ := hw; go_simp; try (with_reducible rfl)) hS ?_
      simp only [List.getElem_toArray, List.getElem_cons_succ, List.getElem_cons_zero, Act.put, List.setIfInBounds_toArray, List.set_cons_zero, List.set_cons_succ]
      refine s_take (fun _ => trivial) (by kernel_rfl) 2 rfl (by kernel_rfl) (by kernel_rfl) (by kernel_rfl) (by kernel_rfl) (fun _ _ _ h => h) (by rfl) (by intro w' hw; rw [HSd.out] at hw; obtain ⟨h0, h1⟩ := hw; go_simp; try (with_reducible rfl)) hS ?_
      simp only [List.getElem_toArray, List.getElem_cons_succ, List.getElem_cons_zero, Act.put, List.setIfInBounds_toArray, List.set_cons_zero, List.set_cons_succ]
      refine s_take (fun _ => trivial) (by kernel_rfl) 3 rfl (by kernel_rfl) (by kernel_rfl) (by kernel_rfl) (by kernel_rfl) (fun _ _ _ h => h) (by rfl) (by intro w' hw; rw [HSd.out] at hw; obtain ⟨h0, h1⟩ := hw; go_simp; try (with_reducible rfl)) hS ?_
      simp only [List.getElem_toArray, List.getElem_cons_succ, List.getElem_cons_zero, Act.put, List.setIfInBounds_toArray, List.set_cons_zero, List.set_cons_succ]
      refine s_take (fun _ => trivial) (by kernel_rfl) 4 rfl (by kernel_rfl) (by kernel_rfl) (by kernel_rfl) (by kernel_rfl) (fun _ _ _ h => h) (by rfl) (by intro w' hw; rw [HSd.out] at hw; obtain ⟨h0, h1⟩ := hw; go_simp; try (with_reducible rfl)) hS ?_
      simp only [List.getElem_toArray, List.getElem_cons_succ, List.getElem_cons_zero, Act.put, List.setIfInBounds_toArray, List.set_cons_zero, List.set_cons_succ]
      refine s_take (fun _ => trivial) (by kernel_rfl) 5 rfl (by kernel_rfl) (by kernel_rfl) (by kernel_rfl) (by kernel_rfl) (fun _ _ _ h => h) (by rfl) (by intro w' hw; rw [HSd.out] at hw; obtain ⟨h0, h1⟩ := hw; go_simp; try (with_reducible rfl)) hS ?_
      simp only [List.getElem_toArray, List.getElem_cons_succ, List.getElem_cons_zero, Act.put, List.setIfInBounds_toArray, List.set_cons_zero, List.set_cons_succ]
      refine s_take (fun _ => trivial) (by kernel_rfl) 6 rfl (by kernel_rfl) (by kernel_rfl) (by kernel_rfl) (by kernel_rfl) (fun _ _ _ h => h) (by rfl) (by intro w' hw; rw [HSd.out] at hw; obtain ⟨h0, h1⟩ := hw; go_simp; try (with_reducible rfl)) hS ?_
      simp only [List.getElem_toArray, List.getElem_cons_succ, List.getElem_cons_zero, Act.put, List.setIfInBounds_toArray, List.set_cons_zero, List.set_cons_succ]
      refine s_done (by kernel_rfl) ?_ _
      have b0' : W2.drew.cell? ⟨g + 1 + 1 + 1, 0, none⟩ = some (.pointer (r.map fun e => ⟨bk e.id, 0, none⟩)) := b0
      have b1' : W2.drew.frozen? ⟨g + 1 + 1 + 1, 0, none⟩ = false := b1
      gi_wp2_with fail
      refine HI.out.step (((Tch.refl _ W2).drew).setCell (.pointer (some ⟨bk x.id, 0, none⟩)) (.inl (by simp [sG]))) ?_
      have hh := HI.out.2.1
      have t3 : Tch [g + 1 + 1 + 1] W2 (W2.drew.setCell ⟨g + 1 + 1 + 1, 0, none⟩ (.pointer (some ⟨bk x.id, 0, none⟩))) := ((Tch.refl _ W2).drew).setCell _ (.inl (by simp))
      refine ⟨hh.c0.tch t3 (by simp <;> omega), hh.c1.tch t3 (by simp <;> omega), hh.c2.tch t3 (by simp <;> omega), hh.c4.tch t3 (by simp <;> omega), hh.c5.tch t3 (by simp <;> omega), some x, Bx.set (W := W2.drew) HBR.out 0 _, ?_, by simp⟩
      intro e he
      simp only [Option.some.injEq] at he
      subst he
      exact ⟨by simp, hid⟩
    · have hid' : ((x.id : Int) == id) = false := by simpa using hid
      refine s_region [] S (by kernel_rfl) ?_
      refine s_take (fun _ => trivial) (by kernel_rfl) 0 rfl (by kernel_rfl) (by kernel_rfl) (by kernel_rfl) (by kernel_rfl) (fun _ _ _ h => h) (by rfl) (by intro w' hw; rw [HSd.out] at hw; obtain ⟨h0, h1⟩ := hw; go_simp; try (with_reducible rfl)) hS ?_
      simp only [List.getElem_toArray, List.getElem_cons_succ, List.getElem_cons_zero, Act.put, List.setIfInBounds_toArray, List.set_cons_zero, List.set_cons_succ]
      refine s_take (fun _ => trivial) (by kernel_rfl) 1 rfl (by kernel_rfl) (by kernel_rfl) (by kernel_rfl) (by kernel_rfl) (fun _ _ _ h => h) (by rfl) (by intro w' hw; rw [HSd.out] at hw; obtain ⟨h0, h1⟩ := hw; go_simp; try (with_reducible rfl)) hS ?_
      simp only [List.getElem_toArray, List.getElem_cons_succ, List.getElem_cons_zero, Act.put, List.setIfInBounds_toArray, List.set_cons_zero, List.set_cons_succ]
      refine s_take (fun _ => trivial) (by kernel_rfl) 2 rfl (by kernel_rfl) (by kernel_rfl) (by kernel_rfl) (by kernel_rfl) (fun _ _ _ h => h) (by rfl) (by intro w' hw; rw [HSd.out] at hw; obtain ⟨h0, h1⟩ := hw; go_simp; try (with_reducible rfl)) hS ?_
      simp only [List.getElem_toArray, List.getElem_cons_succ, List.getElem_cons_zero, Act.put, List.setIfInBounds_toArray, List.set_cons_zero, List.set_cons_succ]
      refine s_take (fun _ => trivial) (by kernel_rfl) 3 rfl (by kernel_rfl) (by kernel_rfl) (by kernel_rfl) (by kernel_rfl) (fun _ _ _ h => h) (by rfl) (by intro w' hw; rw [HSd.out] at hw; obtain ⟨h0, h1⟩ := hw; go_simp; try (with_reducible rfl)) hS ?_
      simp only [List.getElem_toArray, List.getElem_cons_succ, List.getElem_cons_zero, Act.put, List.setIfInBounds_toArray, List.set_cons_zero, List.set_cons_succ]
      refine s_take (fun _ => trivial) (by kernel_rfl) 4 rfl (by kernel_rfl) (by kernel_rfl) (by kernel_rfl) (by kernel_rfl) (fun _ _ _ h => h) (by rfl) (by intro w' hw; rw [HSd.out] at hw; obtain ⟨h0, h1⟩ := hw; go_simp; try (with_reducible rfl)) hS ?_
      simp only [List.getElem_toArray, List.getElem_cons_succ, List.getElem_cons_zero, Act.put, List.setIfInBounds_toArray, List.set_cons_zero, List.set_cons_succ]
      refine s_take (fun _ => trivial) (by kernel_rfl) 5 rfl (by kernel_rfl) (by kernel_rfl) (by kernel_rfl) (by kernel_rfl) (fun _ _ _ h => h) (by rfl) (by intro w' hw; rw [HSd.out] at hw; obtain ⟨h0, h1⟩ := hw; go_simp; try (with_reducible rfl)) hS ?_
      simp only [List.getElem_toArray, List.getElem_cons_succ, List.getElem_cons_zero, Act.put, List.setIfInBounds_toArray, List.set_cons_zero, List.set_cons_succ]
      refine s_take (fun _ => trivial) (by kernel_rfl) 6 rfl (by kernel_rfl) (by kernel_rfl) (by kernel_rfl) (by kernel_rfl) (fun _ _ _ h => h) (by rfl) (by intro w' hw; rw [HSd.out] at hw; obtain ⟨h0, h1⟩ := hw; go_simp; try (with_reducible rfl)) hS ?_
      simp only [List.getElem_toArray, List.getElem_cons_succ, List.getElem_cons_zero, Act.put, List.setIfInBounds_toArray, List.set_cons_zero, List.set_cons_succ]
      refine s_done (by kernel_rfl) ?_ _
      gi_wp2_with fail
      refine HI.out.step ((Tch.refl _ W2).drew) ?_
      have hh := HI.out.2.1
      refine ⟨hh.c0, hh.c1, hh.c2, hh.c4, hh.c5, r, HBR.out, fun e he => ⟨by simp [(HR1.out e he).1], (HR1.out e he).2⟩, fun hn e he => ?_⟩
      rcases List.mem_append.1 he with he | he
      · exact HR2.out hn e he
      · simp only [List.mem_singleton] at he
        subst he
        exact hid
  case done =>
    rintro D xs W3 hD hS hI hDD
    subst hS
    obtain ⟨r, hbr, hr1, hr2⟩ := hI.2.1.ex
    have hfind : findH L id = r := findH_of H.out.wf.sorted (fun e he => (H.out.wf.ok e he).pr) hr1 hr2
    have hQ3 := H.out.below hI.1.below0
    have hc1 := hI.2.1.c1
    have hc2 := hI.2.1.c2
    have hDw : w.heap.size ≤ D := (hI.2.2.2 D (by simp)).1
    have hT3 := hI.1
    have hgD : ∀ k ∈ sG g, k ≠ D := fun k hk e => (hI.2.2.1 k hk).2.1 (by simp [e])
    have hgw : ∀ k ∈ sG g, w.heap.size ≤ k := fun k hk => (hI.2.2.1 k hk).1
    have z0 := hc2.cell 0 _ rfl
    have z1 := hc2.cell 1 _ rfl
    have z2 := hc2.cell 2 _ rfl
    have z3 := hc2.cell 3 _ rfl
    have z4 := hc2.cell 4 _ rfl
    have y0 := hc2.froz 0
    have y1 := hc2.froz 1
    have y2 := hc2.froz 2
    have y3 := hc2.froz 3
    have y4 := hc2.froz 4
    have HD := Lib.hid hDD
    have HQ3 := Lib.hid hQ3
    have HC1 := Lib.hid hc1
    have HC2 := Lib.hid hc2
    have HT3 := Lib.hid hT3
    have HGD := Lib.hid hgD
    have HGW := Lib.hid hgw
    have HDw := Lib.hid hDw
    have HF := Lib.hid hfind
    clear hI hDD hQ3 hc1 hc2 hT3 hgD hgw hDw hfind hI0 hg hD hr2
    cases r with
    | none =>
      have x0 := hbr.cell 0 _ rfl
      have x1 : W3.cell? ⟨g + 1 + 1 + 1, 0, none⟩ = some (.pointer none) := x0
      clear hbr x0 hr1
      gi_wp2_with fail
      refine forgetX (fun W => Bx W (g + 1 + 1) 41 zMsg ∧ Tch [g + 1 + 1] W3 W) ⟨?_, ?_⟩ ?_
      · (with_reducible refine Bx.to (((((HC2.out.set 0 _).set 1 _).set 2 _).set 3 _).set 4 _) ?_); rfl
      · with_reducible repeat first | exact Tch.refl _ _ | refine Tch.setCell ?_ _ (.inl (by simp))
      rintro W7 ⟨hb7, ht7⟩
      obtain ⟨hD7, hE1, hE2, hE3⟩ := set_fin HD.out HQ3.out HC2.out (HT3.out.mono (by simp)) hb7 ht7 (HGW.out _ (by simp [sG])) H.out.lt (HGD.out _ (by simp [sG])) HDw.out
      refine ⟨by simp, .inl ⟨_, _, rfl, run_takeDeferred hD7, ?_⟩⟩
      have hset : setQ limit L id o = (L, 5, none) := by unfold setQ; rw [HF.out]
      refine ⟨_, results_ctt rfl rfl rfl rfl (hE1.loadAgg (by kernel_rfl) (by kernel_rfl)), ?_⟩
      unfold SetPost
      rw [hset]
      exact ⟨rv, rfl, hE2, hE3⟩
    | some e =>
      have he : e ∈ L := (mem_ord (hr1 e rfl).1).1
      have x1 : W3.cell? ⟨g + 1 + 1 + 1, 0, none⟩ = some (.pointer (some ⟨bk e.id, 0, none⟩)) := hbr.cell 0 _ rfl
      have HE := Lib.hid he
      have HX : Hid (Bx W3 (g + 1 + 1 + 1) 143 [.pointer (some ⟨bk e.id, 0, none⟩)]) := Lib.hid hbr
      clear hbr hr1 he
      have hbg2 : g + 1 + 1 ≠ bk e.id := fun e' => by have h1 := H.out.lt _ (H.out.fe e HE.out); have h2 := HGW.out (g + 1 + 1) (by simp [sG]); omega
      have hDbk : D ≠ bk e.id := fun e' => by have h1 := H.out.lt _ (H.out.fe e HE.out); have h2 := HDw.out; omega
      have hc1 := HC1.out
      by_cases h2 : o.k = 2
      · have o0 : W3.cell? ⟨g + 1, 0, none⟩ = some (.int .u8 2) := by have := hc1.cell 0 _ rfl; rw [h2] at this; exact this
        have H2 := Lib.hid h2
        clear h2 hc1
        gi_wp2_with fail
        refine ⟨trivial, (callsIn_wide.2 (qdrop_calls HQ3.out HE.out)).mono ?_⟩
        rintro r w2 ⟨v', rfl, hQ2, ht2⟩
        have hC2 := HC2.out.tch ht2 (fun hm => by have h1 := H.out.lt _ hm; have h2 := HGW.out (g + 1 + 1) (by simp [sG]); omega)
        have z0' := hC2.cell 0 _ rfl
        have y0' := hC2.froz 0
        have z1' := hC2.cell 1 _ rfl
        have y1' := hC2.froz 1
        have z2' := hC2.cell 2 _ rfl
        have y2' := hC2.froz 2
        have z3' := hC2.cell 3 _ rfl
        have y3' := hC2.froz 3
        have z4' := hC2.cell 4 _ rfl
        have y4' := hC2.froz 4
        have hD2 : w2.heap[D]? = some (.deferred (some [])) := (ht2.block D (heap_lt HD.out) (fun hm => by have h1 := H.out.lt _ hm; have h2 := HDw.out; omega)).trans HD.out
        have hT2 : Tch F w w2 := (HT3.out.mono (by simp)).trans_ ht2

        have HC2b := Lib.hid hC2
        have HD2 := Lib.hid hD2
        have HT2 := Lib.hid hT2
        have HQ2 := Lib.hid hQ2
        clear hC2 hD2 hT2 hQ2 ht2
        gi_wp2_with fail
        refine forgetX (fun W => Bx W (g + 1 + 1) 41 zMsg ∧ Tch [g + 1 + 1] w2 W) ⟨?_, ?_⟩ ?_
        · (with_reducible refine Bx.to (((((HC2b.out.set 0 _).set 1 _).set 2 _).set 3 _).set 4 _) ?_); rfl
        · with_reducible repeat first | exact Tch.refl _ _ | refine Tch.setCell ?_ _ (.inl (by simp))
        rintro W7 ⟨hb7, ht7⟩
        obtain ⟨hD7, hE1, hE2, hE3⟩ := set_fin HD2.out HQ2.out HC2b.out HT2.out hb7 ht7 (HGW.out _ (by simp [sG])) H.out.lt (HGD.out _ (by simp [sG])) HDw.out
        refine ⟨by simp, .inl ⟨_, _, rfl, run_takeDeferred hD7, ?_⟩⟩
        have hset : setQ limit L id o = (less [e.id] L, 0, none) := by unfold setQ; rw [HF.out]; simp [H2.out]
        refine ⟨_, results_ctt rfl rfl rfl rfl (hE1.loadAgg (by kernel_rfl) (by kernel_rfl)), ?_⟩
        unfold SetPost
        rw [hset]
        exact ⟨rvSet rv (e).m.pr v', rfl, hE2, hE3⟩
      · by_cases h3 : o.k = 3
        · have o0 : W3.cell? ⟨g + 1, 0, none⟩ = some (.int .u8 3) := by have := hc1.cell 0 _ rfl; rw [h3] at this; exact this
          have H3 := Lib.hid h3
          clear h2 h3 hc1
          gi_wp2_with fail
          refine ⟨trivial, (callsIn_wide.2 (qdrop_calls HQ3.out HE.out)).mono ?_⟩
          rintro r w2 ⟨v', rfl, hQ2, ht2⟩
          have hC2 := HC2.out.tch ht2 (fun hm => by have h1 := H.out.lt _ hm; have h2 := HGW.out (g + 1 + 1) (by simp [sG]); omega)
          have z0' := hC2.cell 0 _ rfl
          have y0' := hC2.froz 0
          have z1' := hC2.cell 1 _ rfl
          have y1' := hC2.froz 1
          have z2' := hC2.cell 2 _ rfl
          have y2' := hC2.froz 2
          have z3' := hC2.cell 3 _ rfl
          have y3' := hC2.froz 3
          have z4' := hC2.cell 4 _ rfl
          have y4' := hC2.froz 4
          have hD2 : w2.heap[D]? = some (.deferred (some [])) := (ht2.block D (heap_lt HD.out) (fun hm => by have h1 := H.out.lt _ hm; have h2 := HDw.out; omega)).trans HD.out
          have hT2 : Tch F w w2 := (HT3.out.mono (by simp)).trans_ ht2

          have HC2b := Lib.hid hC2
          have HD2 := Lib.hid hD2
          have HT2 := Lib.hid hT2
          have HQ2 := Lib.hid hQ2
          clear hC2 hD2 hT2 hQ2 ht2
          obtain ⟨AB, cB, hbv, -⟩ := H.out.bod e HE.out
          have hmg : mgv (e).m (bv (e).id) = .agg #[.int .u8 (e).m.pr, .int .u32 (e).m.ttl, .int .u32 (e).m.cnt, .string ⟨(e).m.ids.toArray⟩, .slice AB e.m.body.length cB] := by unfold mgv str; rw [show bv (e).id = .slice AB e.m.body.length cB from hbv]
          rw [hmg]
          have HMG := Lib.hid hmg
          clear hmg hbv
          gi_wp2_with fail
          refine forgetX (fun W => Bx W (g + 1 + 1) 41 [.int .u8 (e).m.pr, .int .u32 (e).m.ttl, .int .u32 (e).m.cnt, .string ⟨(e).m.ids.toArray⟩, .slice AB e.m.body.length cB] ∧ Tch [g + 1 + 1] w2 W) ⟨?_, ?_⟩ ?_
          · (with_reducible refine Bx.to (((((HC2b.out.set 0 _).set 1 _).set 2 _).set 3 _).set 4 _) ?_); rfl
          · with_reducible repeat first | exact Tch.refl _ _ | refine Tch.setCell ?_ _ (.inl (by simp))
          rintro W7 ⟨hb7, ht7⟩
          obtain ⟨hD7, hE1, hE2, hE3⟩ := set_fin HD2.out HQ2.out HC2b.out HT2.out hb7 ht7 (HGW.out _ (by simp [sG])) H.out.lt (HGD.out _ (by simp [sG])) HDw.out
          refine ⟨by simp, .inl ⟨_, _, rfl, run_takeDeferred hD7, ?_⟩⟩
          have hset : setQ limit L id o = (less [e.id] L, 0, some e) := by unfold setQ; rw [HF.out]; simp [H3.out]
          refine ⟨_, results_ctt rfl rfl rfl rfl (hE1.loadAgg (by kernel_rfl) (by kernel_rfl)), ?_⟩
          unfold SetPost
          rw [hset]
          exact ⟨rvSet rv (e).m.pr v', (by unfold deadV; simp only; rw [HMG.out]; rfl), hE2, hE3⟩
        · by_cases h4 : o.k = 4
          · have o0 : W3.cell? ⟨g + 1, 0, none⟩ = some (.int .u8 4) := by have := hc1.cell 0 _ rfl; rw [h4] at this; exact this
            have H4 := Lib.hid h4
            clear h2 h3 h4 hc1
            have hent : Bx W3 (bk e.id) 145 (ecs (e) (bv e.id)) := HQ3.out.ent _ HE.out
            have u0 := hent.cell 7 _ rfl
            have u1 := hent.froz 7
            have HEnt := Lib.hid hent
            clear hent
            gi_wp2_with fail
            refine forgetX (fun W => Bx W (g + 1 + 1) 41 zMsg ∧ Tch [g + 1 + 1] (W3.setCell ⟨bk e.id, 7, none⟩ (.bool false)) W) ⟨?_, ?_⟩ ?_
            · (with_reducible refine Bx.to ((((((HC2.out.off (g := bk e.id) hbg2).set 0 _).set 1 _).set 2 _).set 3 _).set 4 _) ?_); rfl
            · with_reducible repeat first | exact Tch.refl _ _ | refine Tch.setCell ?_ _ (.inl (by simp))
            rintro W7 ⟨hb7, ht7⟩
            have hQm : Qq (W3.setCell ⟨bk e.id, 7, none⟩ (.bool false)) B F q room limit last (modL (freeE (e)) L) bk bv rv := by
              have := HQ3.out.modified (W' := (W3.setCell ⟨bk e.id, 7, none⟩ (.bool false))) (e' := freeE (e)) HE.out rfl rfl rfl (HQ3.out.wf.ok (e) HE.out) (HQ3.out.wf.tm (e) HE.out) (HEnt.out.set 7 _) (fun k hk _ => Below.heap_setCell _ ⟨bk e.id, 7, none⟩ _ k hk)
              exact this
            have hDm : (W3.setCell ⟨bk e.id, 7, none⟩ (.bool false)).heap[D]? = some (.deferred (some [])) := (Below.heap_setCell _ ⟨bk e.id, 7, none⟩ _ D hDbk).trans HD.out
            have hTm : Tch F w (W3.setCell ⟨bk e.id, 7, none⟩ (.bool false)) := (HT3.out.mono (by simp)).setCell _ (.inl (H.out.fe e HE.out))
            obtain ⟨hD7, hE1, hE2, hE3⟩ := set_fin hDm hQm (HC2.out.off (g := bk e.id) hbg2) hTm hb7 ht7 (HGW.out _ (by simp [sG])) H.out.lt (HGD.out _ (by simp [sG])) HDw.out
            refine ⟨by simp, .inl ⟨_, _, rfl, run_takeDeferred hD7, ?_⟩⟩
            have hset : setQ limit L id o = (modL (freeE e) L, 0, none) := by unfold setQ; rw [HF.out]; simp [H4.out]
            refine ⟨_, results_ctt rfl rfl rfl rfl (hE1.loadAgg (by kernel_rfl) (by kernel_rfl)), ?_⟩
            unfold SetPost
            rw [hset]
            exact ⟨rv, rfl, hE2, hE3⟩
          · by_cases h5 : o.k = 5
            · have o0 : W3.cell? ⟨g + 1, 0, none⟩ = some (.int .u8 5) := by have := hc1.cell 0 _ rfl; rw [h5] at this; exact this
              have H5 := Lib.hid h5
              clear h2 h3 h4 h5 hc1
              have HXx := HX
              have o1 := HC1.out.cell 1 _ rfl
              have hentC : Bx W3 (bk e.id) 145 (ecs e (bv e.id)) := HQ3.out.ent e HE.out
              have o2 := hentC.cell 3 _ rfl
              have o3 := hentC.froz 3
              have o4 := (HQ3.out.wf.ok e HE.out).cnt
              obtain ⟨C0, hC0⟩ : ∃ C0, e.m.cnt = C0 := ⟨_, rfl⟩
              have HC0 := Lib.hid hC0
              rw [hC0] at o2 o4
              have HEC := Lib.hid hentC
              clear hC0 hentC
              by_cases hbu : o.a = 1 ∧ C0 < 4294967295
              · have o1' : W3.cell? ⟨g + 1, 1, none⟩ = some (.int .u64 1) := by rw [hbu.1] at o1; exact o1
                have hb2 : (C0 : Int) < 4294967295 := by omega
                have HBu := Lib.hid hbu
                clear o1 hbu
                have o1 := o1'
                clear o1'
                gi_wp2_with fail
                have hbp : bumpE o e = { e with m := { e.m with cnt := C0 + 1 } } := by unfold bumpE bump; rw [HC0.out, if_pos HBu.out]
                have hEx := mem_modL_self (e1 := bumpE o e) HE.out rfl
                have hne1 : bk e.id ≠ g + 1 := fun e' => by have h1 := H.out.lt _ (H.out.fe e HE.out); have h2 := HGW.out (g + 1) (by simp [sG]); omega
                have hne3 : bk e.id ≠ g + 1 + 1 + 1 := fun e' => by have h1 := H.out.lt _ (H.out.fe e HE.out); have h2 := HGW.out (g + 1 + 1 + 1) (by simp [sG]); omega
                refine forgetI (fun W => Qq W B F q room limit last (modL (bumpE o e) L) bk bv rv ∧ Bx W (g + 1) 47 (occ o) ∧ Bx W (g + 1 + 1) 41 zMsg ∧ Bx W (g + 1 + 1 + 1) 143 [.pointer (some ⟨bk e.id, 0, none⟩)] ∧ W.heap[D]? = some (.deferred (some [])) ∧ Tch F w W) ⟨?_, HC1.out.off hne1.symm, HC2.out.off hbg2, HX.out.off hne3.symm, (Below.heap_setCell _ ⟨bk e.id, 3, none⟩ _ D hDbk).trans HD.out, (HT3.out.mono (by simp)).setCell _ (.inl (H.out.fe e HE.out))⟩ ?_
                · have hec : ecs (bumpE o e) (bv e.id) = (ecs e (bv e.id)).set 3 (.int .u32 ((C0 : Int) + 1)) := by rw [hbp]; rfl
                  refine HQ3.out.modified (e' := bumpE o e) HE.out rfl (by rw [hbp]) (by rw [hbp]) ?_ (HQ3.out.wf.tm e HE.out) (by rw [hec]; exact HEC.out.set 3 _) (fun k hk _ => Below.heap_setCell _ ⟨bk e.id, 3, none⟩ _ k hk)
                  have hw := HQ3.out.wf.ok e HE.out
                  have hb3 := HBu.out.2
                  rw [hbp]
                  exact ⟨hw.pr, hw.body, hw.ids, hw.ttl, by show C0 + 1 ≤ 4294967295; omega⟩
                clear x1 o0 o1 o2 o3 z0 z1 z2 z3 z4 y0 y1 y2 y3 y4 HXx HX HQ3 HEC HC1 HC2 HD HT3 W3 hbp hne1 hne3 hb2
                rintro Wx ⟨hQx, hC1x, hC2x, hXx, hDx, hTx⟩
                have HQx := Lib.hid hQx
                have HEx := Lib.hid hEx
                have HC1x := Lib.hid hC1x
                have HC2x := Lib.hid hC2x
                have HXx := Lib.hid hXx
                have HDx := Lib.hid hDx
                have HTx := Lib.hid hTx
                clear hQx hEx hC1x hC2x hXx hDx hTx
                have v0 := HQx.out.c1
                have v1 := (show Bx Wx (bk e.id) 145 (ecs (bumpE o e) (bv e.id)) from HQx.out.ent _ HEx.out).cell 3 _ rfl
                have v2 := HC1x.out.cell 2 _ rfl
                have v3 : Wx.cell? ⟨g + 1 + 1 + 1, 0, none⟩ = some (.pointer (some ⟨bk e.id, 0, none⟩)) := HXx.out.cell 0 _ rfl
                have v4 := (HQx.out.wf.ok _ HEx.out).cnt
                have v5 := HQx.out.wf.lim
                obtain ⟨C, hC⟩ : ∃ C, (bumpE o e).m.cnt = C := ⟨_, rfl⟩
                rw [hC] at v1 v4
                have HCt := Lib.hid hC
                clear hC
                by_cases hob : o.b = 1
                · have HDe := Lib.hid (show deadE limit o (bumpE o e).m = true by unfold deadE; exact decide_eq_true (.inl hob))
                  have w2 : Wx.cell? ⟨g + 1, 2, none⟩ = some (.int .u64 1) := by rw [hob] at v2; exact v2
                  clear v2 hob
                  have v2 := w2
                  clear w2
                  gi_quiet (fail)
                  refine forgetX (fun W => Qq W B F q room limit last (modL (bumpE o e) L) bk bv rv ∧ Bx W (g + 1 + 1) 41 zMsg ∧ W.cell? ⟨g + 1 + 1 + 1, 0, none⟩ = some (.pointer (some ⟨bk e.id, 0, none⟩)) ∧ W.heap[D]? = some (.deferred (some [])) ∧ Tch F w W) ⟨HQx.out.keep (fun _ _ => rfl) (fun _ _ _ _ => rfl), HC2x.out, v3, HDx.out, HTx.out.drewN nq⟩ ?_
                  clear v0 v1 v2 v3
                  rintro Wy ⟨hQy, hCy, x1, hDy, hTy⟩
                  have HQy := Lib.hid hQy
                  have HCy := Lib.hid hCy
                  have HDy := Lib.hid hDy
                  have HTy := Lib.hid hTy
                  have z0 := hCy.cell 0 _ rfl
                  have z1 := hCy.cell 1 _ rfl
                  have z2 := hCy.cell 2 _ rfl
                  have z3 := hCy.cell 3 _ rfl
                  have z4 := hCy.cell 4 _ rfl
                  have y0 := hCy.froz 0
                  have y1 := hCy.froz 1
                  have y2 := hCy.froz 2
                  have y3 := hCy.froz 3
                  have y4 := hCy.froz 4
                  clear hQy hCy hDy hTy
                  gi_wp2_with fail
                  refine ⟨trivial, (callsIn_wide.2 (qdrop_calls HQy.out HEx.out)).mono ?_⟩
                  rintro r w2 ⟨v', rfl, hQ2, ht2⟩
                  have hC2 := HCy.out.tch ht2 (fun hm => by have h1 := H.out.lt _ hm; have h2 := HGW.out (g + 1 + 1) (by simp [sG]); omega)
                  have z0' := hC2.cell 0 _ rfl
                  have y0' := hC2.froz 0
                  have z1' := hC2.cell 1 _ rfl
                  have y1' := hC2.froz 1
                  have z2' := hC2.cell 2 _ rfl
                  have y2' := hC2.froz 2
                  have z3' := hC2.cell 3 _ rfl
                  have y3' := hC2.froz 3
                  have z4' := hC2.cell 4 _ rfl
                  have y4' := hC2.froz 4
                  have hD2 : w2.heap[D]? = some (.deferred (some [])) := (ht2.block D (heap_lt HDy.out) (fun hm => by have h1 := H.out.lt _ hm; have h2 := HDw.out; omega)).trans HDy.out
                  have hT2 : Tch F w w2 := HTy.out.trans_ ht2
                  have hl := less_modL (bumpE o e) L
                  rw [hl] at hQ2
                  clear hl
                  have HC2b := Lib.hid hC2
                  have HD2 := Lib.hid hD2
                  have HT2 := Lib.hid hT2
                  have HQ2 := Lib.hid hQ2
                  clear hC2 hD2 hT2 hQ2 ht2
                  obtain ⟨AB, cB, hbv, -⟩ := H.out.bod e HE.out
                  have hmg : mgv (bumpE o e).m (bv (bumpE o e).id) = .agg #[.int .u8 (bumpE o e).m.pr, .int .u32 (bumpE o e).m.ttl, .int .u32 (bumpE o e).m.cnt, .string ⟨(bumpE o e).m.ids.toArray⟩, .slice AB e.m.body.length cB] := by unfold mgv str; rw [show bv (bumpE o e).id = .slice AB e.m.body.length cB from hbv]
                  rw [hmg]
                  have HMG := Lib.hid hmg
                  clear hmg hbv
                  gi_wp2_with fail
                  refine forgetX (fun W => Bx W (g + 1 + 1) 41 [.int .u8 (bumpE o e).m.pr, .int .u32 (bumpE o e).m.ttl, .int .u32 (bumpE o e).m.cnt, .string ⟨(bumpE o e).m.ids.toArray⟩, .slice AB e.m.body.length cB] ∧ Tch [g + 1 + 1] w2 W) ⟨?_, ?_⟩ ?_
                  · (with_reducible refine Bx.to (((((HC2b.out.set 0 _).set 1 _).set 2 _).set 3 _).set 4 _) ?_); rfl
                  · with_reducible repeat first | exact Tch.refl _ _ | refine Tch.setCell ?_ _ (.inl (by simp))
                  rintro W7 ⟨hb7, ht7⟩
                  obtain ⟨hD7, hE1, hE2, hE3⟩ := set_fin HD2.out HQ2.out HC2b.out HT2.out hb7 ht7 (HGW.out _ (by simp [sG])) H.out.lt (HGD.out _ (by simp [sG])) HDw.out
                  refine ⟨by simp, .inl ⟨_, _, rfl, run_takeDeferred hD7, ?_⟩⟩
                  have hset : setQ limit L id o = (less [e.id] L, 0, some (bumpE o e)) := by
                    unfold setQ
                    rw [HF.out]
                    simp only
                    rw [if_neg (by rw [H5.out]; decide), if_neg (by rw [H5.out]; decide), if_neg (by rw [H5.out]; decide), if_pos H5.out, if_pos HDe.out]
                  refine ⟨_, results_ctt rfl rfl rfl rfl (hE1.loadAgg (by kernel_rfl) (by kernel_rfl)), ?_⟩
                  unfold SetPost
                  rw [hset]
                  exact ⟨rvSet rv (bumpE o e).m.pr v', (by unfold deadV; simp only; rw [HMG.out]; rfl), hE2, hE3⟩
                · have hob' : ¬ (o.b : Int) = 1 := by omega
                  have hob2 : ((o.b : Int) == 1) = false := by simpa using hob'
                  by_cases hl0 : 0 < limit
                  · have hl0' : (0 : Int) < (limit : Int) := by omega
                    have hdl : decide (0 < limit) = true := decide_eq_true hl0
                    by_cases hlc : limit ≤ C
                    · have hlc' : (limit : Int) ≤ (C : Int) := by omega
                      have hdc : decide (limit ≤ C) = true := decide_eq_true hlc
                      have HDe := Lib.hid (show deadE limit o (bumpE o e).m = true by unfold deadE; exact decide_eq_true (.inr ⟨hl0, by rw [HCt.out]; exact hlc⟩))
                      clear hob hl0 hlc
                      gi_quiet (fail)
                      refine forgetX (fun W => Qq W B F q room limit last (modL (bumpE o e) L) bk bv rv ∧ Bx W (g + 1 + 1) 41 zMsg ∧ W.cell? ⟨g + 1 + 1 + 1, 0, none⟩ = some (.pointer (some ⟨bk e.id, 0, none⟩)) ∧ W.heap[D]? = some (.deferred (some [])) ∧ Tch F w W) ⟨HQx.out.keep (fun _ _ => rfl) (fun _ _ _ _ => rfl), HC2x.out, v3, HDx.out, HTx.out.drewN nq⟩ ?_
                      clear v0 v1 v2 v3
                      rintro Wy ⟨hQy, hCy, x1, hDy, hTy⟩
                      have HQy := Lib.hid hQy
                      have HCy := Lib.hid hCy
                      have HDy := Lib.hid hDy
                      have HTy := Lib.hid hTy
                      have z0 := hCy.cell 0 _ rfl
                      have z1 := hCy.cell 1 _ rfl
                      have z2 := hCy.cell 2 _ rfl
                      have z3 := hCy.cell 3 _ rfl
                      have z4 := hCy.cell 4 _ rfl
                      have y0 := hCy.froz 0
                      have y1 := hCy.froz 1
                      have y2 := hCy.froz 2
                      have y3 := hCy.froz 3
                      have y4 := hCy.froz 4
                      clear hQy hCy hDy hTy
                      gi_wp2_with fail
                      refine ⟨trivial, (callsIn_wide.2 (qdrop_calls HQy.out HEx.out)).mono ?_⟩
                      rintro r w2 ⟨v', rfl, hQ2, ht2⟩
                      have hC2 := HCy.out.tch ht2 (fun hm => by have h1 := H.out.lt _ hm; have h2 := HGW.out (g + 1 + 1) (by simp [sG]); omega)
                      have z0' := hC2.cell 0 _ rfl
                      have y0' := hC2.froz 0
                      have z1' := hC2.cell 1 _ rfl
                      have y1' := hC2.froz 1
                      have z2' := hC2.cell 2 _ rfl
                      have y2' := hC2.froz 2
                      have z3' := hC2.cell 3 _ rfl
                      have y3' := hC2.froz 3
                      have z4' := hC2.cell 4 _ rfl
                      have y4' := hC2.froz 4
                      have hD2 : w2.heap[D]? = some (.deferred (some [])) := (ht2.block D (heap_lt HDy.out) (fun hm => by have h1 := H.out.lt _ hm; have h2 := HDw.out; omega)).trans HDy.out
                      have hT2 : Tch F w w2 := HTy.out.trans_ ht2
                      have hl := less_modL (bumpE o e) L
                      rw [hl] at hQ2
                      clear hl
                      have HC2b := Lib.hid hC2
                      have HD2 := Lib.hid hD2
                      have HT2 := Lib.hid hT2
                      have HQ2 := Lib.hid hQ2
                      clear hC2 hD2 hT2 hQ2 ht2
                      obtain ⟨AB, cB, hbv, -⟩ := H.out.bod e HE.out
                      have hmg : mgv (bumpE o e).m (bv (bumpE o e).id) = .agg #[.int .u8 (bumpE o e).m.pr, .int .u32 (bumpE o e).m.ttl, .int .u32 (bumpE o e).m.cnt, .string ⟨(bumpE o e).m.ids.toArray⟩, .slice AB e.m.body.length cB] := by unfold mgv str; rw [show bv (bumpE o e).id = .slice AB e.m.body.length cB from hbv]
                      rw [hmg]
                      have HMG := Lib.hid hmg
                      clear hmg hbv
                      gi_wp2_with fail
                      refine forgetX (fun W => Bx W (g + 1 + 1) 41 [.int .u8 (bumpE o e).m.pr, .int .u32 (bumpE o e).m.ttl, .int .u32 (bumpE o e).m.cnt, .string ⟨(bumpE o e).m.ids.toArray⟩, .slice AB e.m.body.length cB] ∧ Tch [g + 1 + 1] w2 W) ⟨?_, ?_⟩ ?_
                      · (with_reducible refine Bx.to (((((HC2b.out.set 0 _).set 1 _).set 2 _).set 3 _).set 4 _) ?_); rfl
                      · with_reducible repeat first | exact Tch.refl _ _ | refine Tch.setCell ?_ _ (.inl (by simp))
                      rintro W7 ⟨hb7, ht7⟩
                      obtain ⟨hD7, hE1, hE2, hE3⟩ := set_fin HD2.out HQ2.out HC2b.out HT2.out hb7 ht7 (HGW.out _ (by simp [sG])) H.out.lt (HGD.out _ (by simp [sG])) HDw.out
                      refine ⟨by simp, .inl ⟨_, _, rfl, run_takeDeferred hD7, ?_⟩⟩
                      have hset : setQ limit L id o = (less [e.id] L, 0, some (bumpE o e)) := by
                        unfold setQ
                        rw [HF.out]
                        simp only
                        rw [if_neg (by rw [H5.out]; decide), if_neg (by rw [H5.out]; decide), if_neg (by rw [H5.out]; decide), if_pos H5.out, if_pos HDe.out]
                      refine ⟨_, results_ctt rfl rfl rfl rfl (hE1.loadAgg (by kernel_rfl) (by kernel_rfl)), ?_⟩
                      unfold SetPost
                      rw [hset]
                      exact ⟨rvSet rv (bumpE o e).m.pr v', (by unfold deadV; simp only; rw [HMG.out]; rfl), hE2, hE3⟩
                    · have hlc' : ¬ (limit : Int) ≤ (C : Int) := by omega
                      have hdc : decide (limit ≤ C) = false := decide_eq_false hlc
                      have HDe := Lib.hid (show deadE limit o (bumpE o e).m = false by
                        unfold deadE
                        refine decide_eq_false ?_
                        rintro (h | ⟨_, h⟩)
                        · exact hob h
                        · rw [HCt.out] at h; exact hlc h)
                      clear hob hl0 hlc
                      gi_quiet (fail)
                      refine forgetX (fun W => Qq W B F q room limit last (modL (bumpE o e) L) bk bv rv ∧ Bx W (g + 1 + 1) 41 zMsg ∧ W.cell? ⟨g + 1 + 1 + 1, 0, none⟩ = some (.pointer (some ⟨bk e.id, 0, none⟩)) ∧ W.heap[D]? = some (.deferred (some [])) ∧ Tch F w W) ⟨HQx.out.keep (fun _ _ => rfl) (fun _ _ _ _ => rfl), HC2x.out, v3, HDx.out, HTx.out.drewN nq⟩ ?_
                      clear v0 v1 v2 v3
                      rintro Wy ⟨hQy, hCy, x1, hDy, hTy⟩
                      have HQy := Lib.hid hQy
                      have HCy := Lib.hid hCy
                      have HDy := Lib.hid hDy
                      have HTy := Lib.hid hTy
                      have z0 := hCy.cell 0 _ rfl
                      have z1 := hCy.cell 1 _ rfl
                      have z2 := hCy.cell 2 _ rfl
                      have z3 := hCy.cell 3 _ rfl
                      have z4 := hCy.cell 4 _ rfl
                      have y0 := hCy.froz 0
                      have y1 := hCy.froz 1
                      have y2 := hCy.froz 2
                      have y3 := hCy.froz 3
                      have y4 := hCy.froz 4
                      clear hQy hCy hDy hTy
                      have hent : Bx Wy (bk e.id) 145 (ecs (bumpE o e) (bv e.id)) := HQy.out.ent _ HEx.out
                      have u0 := hent.cell 7 _ rfl
                      have u1 := hent.froz 7
                      have HEnt := Lib.hid hent
                      clear hent
                      gi_wp2_with fail
                      refine forgetX (fun W => Bx W (g + 1 + 1) 41 zMsg ∧ Tch [g + 1 + 1] (Wy.setCell ⟨bk e.id, 7, none⟩ (.bool false)) W) ⟨?_, ?_⟩ ?_
                      · (with_reducible refine Bx.to ((((((HCy.out.off (g := bk e.id) hbg2).set 0 _).set 1 _).set 2 _).set 3 _).set 4 _) ?_); rfl
                      · with_reducible repeat first | exact Tch.refl _ _ | refine Tch.setCell ?_ _ (.inl (by simp))
                      rintro W7 ⟨hb7, ht7⟩
                      have hQm : Qq (Wy.setCell ⟨bk e.id, 7, none⟩ (.bool false)) B F q room limit last (modL (freeE (bumpE o e)) L) bk bv rv := by
                        have := HQy.out.modified (W' := (Wy.setCell ⟨bk e.id, 7, none⟩ (.bool false))) (e' := freeE (bumpE o e)) HEx.out rfl rfl rfl (HQy.out.wf.ok (bumpE o e) HEx.out) (HQy.out.wf.tm (bumpE o e) HEx.out) (HEnt.out.set 7 _) (fun k hk _ => Below.heap_setCell _ ⟨bk e.id, 7, none⟩ _ k hk)
                        rwa [modL_modL (e1 := bumpE o e) (e2 := freeE (bumpE o e)) rfl] at this
                      have hDm : (Wy.setCell ⟨bk e.id, 7, none⟩ (.bool false)).heap[D]? = some (.deferred (some [])) := (Below.heap_setCell _ ⟨bk e.id, 7, none⟩ _ D hDbk).trans HDy.out
                      have hTm : Tch F w (Wy.setCell ⟨bk e.id, 7, none⟩ (.bool false)) := HTy.out.setCell _ (.inl (H.out.fe e HE.out))
                      obtain ⟨hD7, hE1, hE2, hE3⟩ := set_fin hDm hQm (HCy.out.off (g := bk e.id) hbg2) hTm hb7 ht7 (HGW.out _ (by simp [sG])) H.out.lt (HGD.out _ (by simp [sG])) HDw.out
                      refine ⟨by simp, .inl ⟨_, _, rfl, run_takeDeferred hD7, ?_⟩⟩
                      have hset : setQ limit L id o = (modL (freeE (bumpE o e)) L, 0, none) := by
                        unfold setQ
                        rw [HF.out]
                        simp only
                        rw [if_neg (by rw [H5.out]; decide), if_neg (by rw [H5.out]; decide), if_neg (by rw [H5.out]; decide), if_pos H5.out, if_neg (by rw [HDe.out]; decide)]
                      refine ⟨_, results_ctt rfl rfl rfl rfl (hE1.loadAgg (by kernel_rfl) (by kernel_rfl)), ?_⟩
                      unfold SetPost
                      rw [hset]
                      exact ⟨rv, rfl, hE2, hE3⟩
                  · have hl0' : ¬ (0 : Int) < (limit : Int) := by omega
                    have hdl : decide (0 < limit) = false := decide_eq_false hl0
                    have HDe := Lib.hid (show deadE limit o (bumpE o e).m = false by
                      unfold deadE
                      refine decide_eq_false ?_
                      rintro (h | ⟨h, _⟩)
                      · exact hob h
                      · exact hl0 h)
                    clear hob hl0
                    gi_quiet (fail)
                    refine forgetX (fun W => Qq W B F q room limit last (modL (bumpE o e) L) bk bv rv ∧ Bx W (g + 1 + 1) 41 zMsg ∧ W.cell? ⟨g + 1 + 1 + 1, 0, none⟩ = some (.pointer (some ⟨bk e.id, 0, none⟩)) ∧ W.heap[D]? = some (.deferred (some [])) ∧ Tch F w W) ⟨HQx.out.keep (fun _ _ => rfl) (fun _ _ _ _ => rfl), HC2x.out, v3, HDx.out, HTx.out.drewN nq⟩ ?_
                    clear v0 v1 v2 v3
                    rintro Wy ⟨hQy, hCy, x1, hDy, hTy⟩
                    have HQy := Lib.hid hQy
                    have HCy := Lib.hid hCy
                    have HDy := Lib.hid hDy
                    have HTy := Lib.hid hTy
                    have z0 := hCy.cell 0 _ rfl
                    have z1 := hCy.cell 1 _ rfl
                    have z2 := hCy.cell 2 _ rfl
                    have z3 := hCy.cell 3 _ rfl
                    have z4 := hCy.cell 4 _ rfl
                    have y0 := hCy.froz 0
                    have y1 := hCy.froz 1
                    have y2 := hCy.froz 2
                    have y3 := hCy.froz 3
                    have y4 := hCy.froz 4
                    clear hQy hCy hDy hTy
                    have hent : Bx Wy (bk e.id) 145 (ecs (bumpE o e) (bv e.id)) := HQy.out.ent _ HEx.out
                    have u0 := hent.cell 7 _ rfl
                    have u1 := hent.froz 7
                    have HEnt := Lib.hid hent
                    clear hent
                    gi_wp2_with fail
                    refine forgetX (fun W => Bx W (g + 1 + 1) 41 zMsg ∧ Tch [g + 1 + 1] (Wy.setCell ⟨bk e.id, 7, none⟩ (.bool false)) W) ⟨?_, ?_⟩ ?_
                    · (with_reducible refine Bx.to ((((((HCy.out.off (g := bk e.id) hbg2).set 0 _).set 1 _).set 2 _).set 3 _).set 4 _) ?_); rfl
                    · with_reducible repeat first | exact Tch.refl _ _ | refine Tch.setCell ?_ _ (.inl (by simp))
                    rintro W7 ⟨hb7, ht7⟩
                    have hQm : Qq (Wy.setCell ⟨bk e.id, 7, none⟩ (.bool false)) B F q room limit last (modL (freeE (bumpE o e)) L) bk bv rv := by
                      have := HQy.out.modified (W' := (Wy.setCell ⟨bk e.id, 7, none⟩ (.bool false))) (e' := freeE (bumpE o e)) HEx.out rfl rfl rfl (HQy.out.wf.ok (bumpE o e) HEx.out) (HQy.out.wf.tm (bumpE o e) HEx.out) (HEnt.out.set 7 _) (fun k hk _ => Below.heap_setCell _ ⟨bk e.id, 7, none⟩ _ k hk)
                      rwa [modL_modL (e1 := bumpE o e) (e2 := freeE (bumpE o e)) rfl] at this
                    have hDm : (Wy.setCell ⟨bk e.id, 7, none⟩ (.bool false)).heap[D]? = some (.deferred (some [])) := (Below.heap_setCell _ ⟨bk e.id, 7, none⟩ _ D hDbk).trans HDy.out
                    have hTm : Tch F w (Wy.setCell ⟨bk e.id, 7, none⟩ (.bool false)) := HTy.out.setCell _ (.inl (H.out.fe e HE.out))
                    obtain ⟨hD7, hE1, hE2, hE3⟩ := set_fin hDm hQm (HCy.out.off (g := bk e.id) hbg2) hTm hb7 ht7 (HGW.out _ (by simp [sG])) H.out.lt (HGD.out _ (by simp [sG])) HDw.out
                    refine ⟨by simp, .inl ⟨_, _, rfl, run_takeDeferred hD7, ?_⟩⟩
                    have hset : setQ limit L id o = (modL (freeE (bumpE o e)) L, 0, none) := by
                      unfold setQ
                      rw [HF.out]
                      simp only
                      rw [if_neg (by rw [H5.out]; decide), if_neg (by rw [H5.out]; decide), if_neg (by rw [H5.out]; decide), if_pos H5.out, if_neg (by rw [HDe.out]; decide)]
                    refine ⟨_, results_ctt rfl rfl rfl rfl (hE1.loadAgg (by kernel_rfl) (by kernel_rfl)), ?_⟩
                    unfold SetPost
                    rw [hset]
                    exact ⟨rv, rfl, hE2, hE3⟩
              · have hEx := mem_modL_self (e1 := bumpE o e) HE.out rfl
                have hbp : bumpE o e = e := by
                  unfold bumpE bump
                  rw [HC0.out, if_neg hbu]
                have hQx : Qq W3 B F q room limit last (modL (bumpE o e) L) bk bv rv := by rw [hbp, modL_self H.out.wf.sorted HE.out]; exact HQ3.out
                have hbu2 : (o.a = 1 ∧ ¬ (C0 : Int) < 4294967295) ∨ ¬ o.a = 1 := by
                  by_cases h : o.a = 1
                  · exact .inl ⟨h, fun h' => hbu ⟨h, by omega⟩⟩
                  · exact .inr h
                have HEx := Lib.hid hEx
                have HQx := Lib.hid hQx
                clear hbu hEx hQx hbp
                rcases hbu2 with ⟨hoa, hb2⟩ | hoa
                · have o1' : W3.cell? ⟨g + 1, 1, none⟩ = some (.int .u64 1) := by rw [hoa] at o1; exact o1
                  clear o1 hoa
                  have o1 := o1'
                  clear o1'
                  gi_wp2_with fail
                  refine forgetI (fun W => Qq W B F q room limit last (modL (bumpE o e) L) bk bv rv ∧ Bx W (g + 1) 47 (occ o) ∧ Bx W (g + 1 + 1) 41 zMsg ∧ Bx W (g + 1 + 1 + 1) 143 [.pointer (some ⟨bk e.id, 0, none⟩)] ∧ W.heap[D]? = some (.deferred (some [])) ∧ Tch F w W) ⟨HQx.out, HC1.out, HC2.out, HX.out, HD.out, HT3.out.mono (by simp)⟩ ?_
                  clear x1 o0 o1 o2 o3 z0 z1 z2 z3 z4 y0 y1 y2 y3 y4 HXx HX HQ3 HEC HC1 HC2 HD HT3 HQx W3
                  rintro Wx ⟨hQx, hC1x, hC2x, hXx, hDx, hTx⟩
                  have HQx := Lib.hid hQx
                  have HC1x := Lib.hid hC1x
                  have HC2x := Lib.hid hC2x
                  have HXx := Lib.hid hXx
                  have HDx := Lib.hid hDx
                  have HTx := Lib.hid hTx
                  clear hQx hC1x hC2x hXx hDx hTx
                  have v0 := HQx.out.c1
                  have v1 := (show Bx Wx (bk e.id) 145 (ecs (bumpE o e) (bv e.id)) from HQx.out.ent _ HEx.out).cell 3 _ rfl
                  have v2 := HC1x.out.cell 2 _ rfl
                  have v3 : Wx.cell? ⟨g + 1 + 1 + 1, 0, none⟩ = some (.pointer (some ⟨bk e.id, 0, none⟩)) := HXx.out.cell 0 _ rfl
                  have v4 := (HQx.out.wf.ok _ HEx.out).cnt
                  have v5 := HQx.out.wf.lim
                  obtain ⟨C, hC⟩ : ∃ C, (bumpE o e).m.cnt = C := ⟨_, rfl⟩
                  rw [hC] at v1 v4
                  have HCt := Lib.hid hC
                  clear hC
                  by_cases hob : o.b = 1
                  · have HDe := Lib.hid (show deadE limit o (bumpE o e).m = true by unfold deadE; exact decide_eq_true (.inl hob))
                    have w2 : Wx.cell? ⟨g + 1, 2, none⟩ = some (.int .u64 1) := by rw [hob] at v2; exact v2
                    clear v2 hob
                    have v2 := w2
                    clear w2
                    gi_quiet (fail)
                    refine forgetX (fun W => Qq W B F q room limit last (modL (bumpE o e) L) bk bv rv ∧ Bx W (g + 1 + 1) 41 zMsg ∧ W.cell? ⟨g + 1 + 1 + 1, 0, none⟩ = some (.pointer (some ⟨bk e.id, 0, none⟩)) ∧ W.heap[D]? = some (.deferred (some [])) ∧ Tch F w W) ⟨HQx.out.keep (fun _ _ => rfl) (fun _ _ _ _ => rfl), HC2x.out, v3, HDx.out, HTx.out.drewN nq⟩ ?_
                    clear v0 v1 v2 v3
                    rintro Wy ⟨hQy, hCy, x1, hDy, hTy⟩
                    have HQy := Lib.hid hQy
                    have HCy := Lib.hid hCy
                    have HDy := Lib.hid hDy
                    have HTy := Lib.hid hTy
                    have z0 := hCy.cell 0 _ rfl
                    have z1 := hCy.cell 1 _ rfl
                    have z2 := hCy.cell 2 _ rfl
                    have z3 := hCy.cell 3 _ rfl
                    have z4 := hCy.cell 4 _ rfl
                    have y0 := hCy.froz 0
                    have y1 := hCy.froz 1
                    have y2 := hCy.froz 2
                    have y3 := hCy.froz 3
                    have y4 := hCy.froz 4
                    clear hQy hCy hDy hTy
                    gi_wp2_with fail
                    refine ⟨trivial, (callsIn_wide.2 (qdrop_calls HQy.out HEx.out)).mono ?_⟩
                    rintro r w2 ⟨v', rfl, hQ2, ht2⟩
                    have hC2 := HCy.out.tch ht2 (fun hm => by have h1 := H.out.lt _ hm; have h2 := HGW.out (g + 1 + 1) (by simp [sG]); omega)
                    have z0' := hC2.cell 0 _ rfl
                    have y0' := hC2.froz 0
                    have z1' := hC2.cell 1 _ rfl
                    have y1' := hC2.froz 1
                    have z2' := hC2.cell 2 _ rfl
                    have y2' := hC2.froz 2
                    have z3' := hC2.cell 3 _ rfl
                    have y3' := hC2.froz 3
                    have z4' := hC2.cell 4 _ rfl
                    have y4' := hC2.froz 4
                    have hD2 : w2.heap[D]? = some (.deferred (some [])) := (ht2.block D (heap_lt HDy.out) (fun hm => by have h1 := H.out.lt _ hm; have h2 := HDw.out; omega)).trans HDy.out
                    have hT2 : Tch F w w2 := HTy.out.trans_ ht2
                    have hl := less_modL (bumpE o e) L
                    rw [hl] at hQ2
                    clear hl
                    have HC2b := Lib.hid hC2
                    have HD2 := Lib.hid hD2
                    have HT2 := Lib.hid hT2
                    have HQ2 := Lib.hid hQ2
                    clear hC2 hD2 hT2 hQ2 ht2
                    obtain ⟨AB, cB, hbv, -⟩ := H.out.bod e HE.out
                    have hmg : mgv (bumpE o e).m (bv (bumpE o e).id) = .agg #[.int .u8 (bumpE o e).m.pr, .int .u32 (bumpE o e).m.ttl, .int .u32 (bumpE o e).m.cnt, .string ⟨(bumpE o e).m.ids.toArray⟩, .slice AB e.m.body.length cB] := by unfold mgv str; rw [show bv (bumpE o e).id = .slice AB e.m.body.length cB from hbv]
                    rw [hmg]
                    have HMG := Lib.hid hmg
                    clear hmg hbv
                    gi_wp2_with fail
                    refine forgetX (fun W => Bx W (g + 1 + 1) 41 [.int .u8 (bumpE o e).m.pr, .int .u32 (bumpE o e).m.ttl, .int .u32 (bumpE o e).m.cnt, .string ⟨(bumpE o e).m.ids.toArray⟩, .slice AB e.m.body.length cB] ∧ Tch [g + 1 + 1] w2 W) ⟨?_, ?_⟩ ?_
                    · (with_reducible refine Bx.to (((((HC2b.out.set 0 _).set 1 _).set 2 _).set 3 _).set 4 _) ?_); rfl
                    · with_reducible repeat first | exact Tch.refl _ _ | refine Tch.setCell ?_ _ (.inl (by simp))
                    rintro W7 ⟨hb7, ht7⟩
                    obtain ⟨hD7, hE1, hE2, hE3⟩ := set_fin HD2.out HQ2.out HC2b.out HT2.out hb7 ht7 (HGW.out _ (by simp [sG])) H.out.lt (HGD.out _ (by simp [sG])) HDw.out
                    refine ⟨by simp, .inl ⟨_, _, rfl, run_takeDeferred hD7, ?_⟩⟩
                    have hset : setQ limit L id o = (less [e.id] L, 0, some (bumpE o e)) := by
                      unfold setQ
                      rw [HF.out]
                      simp only
                      rw [if_neg (by rw [H5.out]; decide), if_neg (by rw [H5.out]; decide), if_neg (by rw [H5.out]; decide), if_pos H5.out, if_pos HDe.out]
                    refine ⟨_, results_ctt rfl rfl rfl rfl (hE1.loadAgg (by kernel_rfl) (by kernel_rfl)), ?_⟩
                    unfold SetPost
                    rw [hset]
                    exact ⟨rvSet rv (bumpE o e).m.pr v', (by unfold deadV; simp only; rw [HMG.out]; rfl), hE2, hE3⟩
                  · have hob' : ¬ (o.b : Int) = 1 := by omega
                    have hob2 : ((o.b : Int) == 1) = false := by simpa using hob'
                    by_cases hl0 : 0 < limit
                    · have hl0' : (0 : Int) < (limit : Int) := by omega
                      have hdl : decide (0 < limit) = true := decide_eq_true hl0
                      by_cases hlc : limit ≤ C
                      · have hlc' : (limit : Int) ≤ (C : Int) := by omega
                        have hdc : decide (limit ≤ C) = true := decide_eq_true hlc
                        have HDe := Lib.hid (show deadE limit o (bumpE o e).m = true by unfold deadE; exact decide_eq_true (.inr ⟨hl0, by rw [HCt.out]; exact hlc⟩))
                        clear hob hl0 hlc
                        gi_quiet (fail)
                        refine forgetX (fun W => Qq W B F q room limit last (modL (bumpE o e) L) bk bv rv ∧ Bx W (g + 1 + 1) 41 zMsg ∧ W.cell? ⟨g + 1 + 1 + 1, 0, none⟩ = some (.pointer (some ⟨bk e.id, 0, none⟩)) ∧ W.heap[D]? = some (.deferred (some [])) ∧ Tch F w W) ⟨HQx.out.keep (fun _ _ => rfl) (fun _ _ _ _ => rfl), HC2x.out, v3, HDx.out, HTx.out.drewN nq⟩ ?_
                        clear v0 v1 v2 v3
                        rintro Wy ⟨hQy, hCy, x1, hDy, hTy⟩
                        have HQy := Lib.hid hQy
                        have HCy := Lib.hid hCy
                        have HDy := Lib.hid hDy
                        have HTy := Lib.hid hTy
                        have z0 := hCy.cell 0 _ rfl
                        have z1 := hCy.cell 1 _ rfl
                        have z2 := hCy.cell 2 _ rfl
                        have z3 := hCy.cell 3 _ rfl
                        have z4 := hCy.cell 4 _ rfl
                        have y0 := hCy.froz 0
                        have y1 := hCy.froz 1
                        have y2 := hCy.froz 2
                        have y3 := hCy.froz 3
                        have y4 := hCy.froz 4
                        clear hQy hCy hDy hTy
                        gi_wp2_with fail
                        refine ⟨trivial, (callsIn_wide.2 (qdrop_calls HQy.out HEx.out)).mono ?_⟩
                        rintro r w2 ⟨v', rfl, hQ2, ht2⟩
                        have hC2 := HCy.out.tch ht2 (fun hm => by have h1 := H.out.lt _ hm; have h2 := HGW.out (g + 1 + 1) (by simp [sG]); omega)
                        have z0' := hC2.cell 0 _ rfl
                        have y0' := hC2.froz 0
                        have z1' := hC2.cell 1 _ rfl
                        have y1' := hC2.froz 1
                        have z2' := hC2.cell 2 _ rfl
                        have y2' := hC2.froz 2
                        have z3' := hC2.cell 3 _ rfl
                        have y3' := hC2.froz 3
                        have z4' := hC2.cell 4 _ rfl
                        have y4' := hC2.froz 4
                        have hD2 : w2.heap[D]? = some (.deferred (some [])) := (ht2.block D (heap_lt HDy.out) (fun hm => by have h1 := H.out.lt _ hm; have h2 := HDw.out; omega)).trans HDy.out
                        have hT2 : Tch F w w2 := HTy.out.trans_ ht2
                        have hl := less_modL (bumpE o e) L
                        rw [hl] at hQ2
                        clear hl
                        have HC2b := Lib.hid hC2
                        have HD2 := Lib.hid hD2
                        have HT2 := Lib.hid hT2
                        have HQ2 := Lib.hid hQ2
                        clear hC2 hD2 hT2 hQ2 ht2
                        obtain ⟨AB, cB, hbv, -⟩ := H.out.bod e HE.out
                        have hmg : mgv (bumpE o e).m (bv (bumpE o e).id) = .agg #[.int .u8 (bumpE o e).m.pr, .int .u32 (bumpE o e).m.ttl, .int .u32 (bumpE o e).m.cnt, .string ⟨(bumpE o e).m.ids.toArray⟩, .slice AB e.m.body.length cB] := by unfold mgv str; rw [show bv (bumpE o e).id = .slice AB e.m.body.length cB from hbv]
                        rw [hmg]
                        have HMG := Lib.hid hmg
                        clear hmg hbv
                        gi_wp2_with fail
                        refine forgetX (fun W => Bx W (g + 1 + 1) 41 [.int .u8 (bumpE o e).m.pr, .int .u32 (bumpE o e).m.ttl, .int .u32 (bumpE o e).m.cnt, .string ⟨(bumpE o e).m.ids.toArray⟩, .slice AB e.m.body.length cB] ∧ Tch [g + 1 + 1] w2 W) ⟨?_, ?_⟩ ?_
                        · (with_reducible refine Bx.to (((((HC2b.out.set 0 _).set 1 _).set 2 _).set 3 _).set 4 _) ?_); rfl
                        · with_reducible repeat first | exact Tch.refl _ _ | refine Tch.setCell ?_ _ (.inl (by simp))
                        rintro W7 ⟨hb7, ht7⟩
                        obtain ⟨hD7, hE1, hE2, hE3⟩ := set_fin HD2.out HQ2.out HC2b.out HT2.out hb7 ht7 (HGW.out _ (by simp [sG])) H.out.lt (HGD.out _ (by simp [sG])) HDw.out
                        refine ⟨by simp, .inl ⟨_, _, rfl, run_takeDeferred hD7, ?_⟩⟩
                        have hset : setQ limit L id o = (less [e.id] L, 0, some (bumpE o e)) := by
                          unfold setQ
                          rw [HF.out]
                          simp only
                          rw [if_neg (by rw [H5.out]; decide), if_neg (by rw [H5.out]; decide), if_neg (by rw [H5.out]; decide), if_pos H5.out, if_pos HDe.out]
                        refine ⟨_, results_ctt rfl rfl rfl rfl (hE1.loadAgg (by kernel_rfl) (by kernel_rfl)), ?_⟩
                        unfold SetPost
                        rw [hset]
                        exact ⟨rvSet rv (bumpE o e).m.pr v', (by unfold deadV; simp only; rw [HMG.out]; rfl), hE2, hE3⟩
                      · have hlc' : ¬ (limit : Int) ≤ (C : Int) := by omega
                        have hdc : decide (limit ≤ C) = false := decide_eq_false hlc
                        have HDe := Lib.hid (show deadE limit o (bumpE o e).m = false by
                          unfold deadE
                          refine decide_eq_false ?_
                          rintro (h | ⟨_, h⟩)
                          · exact hob h
                          · rw [HCt.out] at h; exact hlc h)
                        clear hob hl0 hlc
                        gi_quiet (fail)
                        refine forgetX (fun W => Qq W B F q room limit last (modL (bumpE o e) L) bk bv rv ∧ Bx W (g + 1 + 1) 41 zMsg ∧ W.cell? ⟨g + 1 + 1 + 1, 0, none⟩ = some (.pointer (some ⟨bk e.id, 0, none⟩)) ∧ W.heap[D]? = some (.deferred (some [])) ∧ Tch F w W) ⟨HQx.out.keep (fun _ _ => rfl) (fun _ _ _ _ => rfl), HC2x.out, v3, HDx.out, HTx.out.drewN nq⟩ ?_
                        clear v0 v1 v2 v3
                        rintro Wy ⟨hQy, hCy, x1, hDy, hTy⟩
                        have HQy := Lib.hid hQy
                        have HCy := Lib.hid hCy
                        have HDy := Lib.hid hDy
                        have HTy := Lib.hid hTy
                        have z0 := hCy.cell 0 _ rfl
                        have z1 := hCy.cell 1 _ rfl
                        have z2 := hCy.cell 2 _ rfl
                        have z3 := hCy.cell 3 _ rfl
                        have z4 := hCy.cell 4 _ rfl
                        have y0 := hCy.froz 0
                        have y1 := hCy.froz 1
                        have y2 := hCy.froz 2
                        have y3 := hCy.froz 3
                        have y4 := hCy.froz 4
                        clear hQy hCy hDy hTy
                        have hent : Bx Wy (bk e.id) 145 (ecs (bumpE o e) (bv e.id)) := HQy.out.ent _ HEx.out
                        have u0 := hent.cell 7 _ rfl
                        have u1 := hent.froz 7
                        have HEnt := Lib.hid hent
                        clear hent
                        gi_wp2_with fail
                        refine forgetX (fun W => Bx W (g + 1 + 1) 41 zMsg ∧ Tch [g + 1 + 1] (Wy.setCell ⟨bk e.id, 7, none⟩ (.bool false)) W) ⟨?_, ?_⟩ ?_
                        · (with_reducible refine Bx.to ((((((HCy.out.off (g := bk e.id) hbg2).set 0 _).set 1 _).set 2 _).set 3 _).set 4 _) ?_); rfl
                        · with_reducible repeat first | exact Tch.refl _ _ | refine Tch.setCell ?_ _ (.inl (by simp))
                        rintro W7 ⟨hb7, ht7⟩
                        have hQm : Qq (Wy.setCell ⟨bk e.id, 7, none⟩ (.bool false)) B F q room limit last (modL (freeE (bumpE o e)) L) bk bv rv := by
                          have := HQy.out.modified (W' := (Wy.setCell ⟨bk e.id, 7, none⟩ (.bool false))) (e' := freeE (bumpE o e)) HEx.out rfl rfl rfl (HQy.out.wf.ok (bumpE o e) HEx.out) (HQy.out.wf.tm (bumpE o e) HEx.out) (HEnt.out.set 7 _) (fun k hk _ => Below.heap_setCell _ ⟨bk e.id, 7, none⟩ _ k hk)
                          rwa [modL_modL (e1 := bumpE o e) (e2 := freeE (bumpE o e)) rfl] at this
                        have hDm : (Wy.setCell ⟨bk e.id, 7, none⟩ (.bool false)).heap[D]? = some (.deferred (some [])) := (Below.heap_setCell _ ⟨bk e.id, 7, none⟩ _ D hDbk).trans HDy.out
                        have hTm : Tch F w (Wy.setCell ⟨bk e.id, 7, none⟩ (.bool false)) := HTy.out.setCell _ (.inl (H.out.fe e HE.out))
                        obtain ⟨hD7, hE1, hE2, hE3⟩ := set_fin hDm hQm (HCy.out.off (g := bk e.id) hbg2) hTm hb7 ht7 (HGW.out _ (by simp [sG])) H.out.lt (HGD.out _ (by simp [sG])) HDw.out
                        refine ⟨by simp, .inl ⟨_, _, rfl, run_takeDeferred hD7, ?_⟩⟩
                        have hset : setQ limit L id o = (modL (freeE (bumpE o e)) L, 0, none) := by
                          unfold setQ
                          rw [HF.out]
                          simp only
                          rw [if_neg (by rw [H5.out]; decide), if_neg (by rw [H5.out]; decide), if_neg (by rw [H5.out]; decide), if_pos H5.out, if_neg (by rw [HDe.out]; decide)]
                        refine ⟨_, results_ctt rfl rfl rfl rfl (hE1.loadAgg (by kernel_rfl) (by kernel_rfl)), ?_⟩
                        unfold SetPost
                        rw [hset]
                        exact ⟨rv, rfl, hE2, hE3⟩
                    · have hl0' : ¬ (0 : Int) < (limit : Int) := by omega
                      have hdl : decide (0 < limit) = false := decide_eq_false hl0
                      have HDe := Lib.hid (show deadE limit o (bumpE o e).m = false by
                        unfold deadE
                        refine decide_eq_false ?_
                        rintro (h | ⟨h, _⟩)
                        · exact hob h
                        · exact hl0 h)
                      clear hob hl0
                      gi_quiet (fail)
                      refine forgetX (fun W => Qq W B F q room limit last (modL (bumpE o e) L) bk bv rv ∧ Bx W (g + 1 + 1) 41 zMsg ∧ W.cell? ⟨g + 1 + 1 + 1, 0, none⟩ = some (.pointer (some ⟨bk e.id, 0, none⟩)) ∧ W.heap[D]? = some (.deferred (some [])) ∧ Tch F w W) ⟨HQx.out.keep (fun _ _ => rfl) (fun _ _ _ _ => rfl), HC2x.out, v3, HDx.out, HTx.out.drewN nq⟩ ?_
                      clear v0 v1 v2 v3
                      rintro Wy ⟨hQy, hCy, x1, hDy, hTy⟩
                      have HQy := Lib.hid hQy
                      have HCy := Lib.hid hCy
                      have HDy := Lib.hid hDy
                      have HTy := Lib.hid hTy
                      have z0 := hCy.cell 0 _ rfl
                      have z1 := hCy.cell 1 _ rfl
                      have z2 := hCy.cell 2 _ rfl
                      have z3 := hCy.cell 3 _ rfl
                      have z4 := hCy.cell 4 _ rfl
                      have y0 := hCy.froz 0
                      have y1 := hCy.froz 1
                      have y2 := hCy.froz 2
                      have y3 := hCy.froz 3
                      have y4 := hCy.froz 4
                      clear hQy hCy hDy hTy
                      have hent : Bx Wy (bk e.id) 145 (ecs (bumpE o e) (bv e.id)) := HQy.out.ent _ HEx.out
                      have u0 := hent.cell 7 _ rfl
                      have u1 := hent.froz 7
                      have HEnt := Lib.hid hent
                      clear hent
                      gi_wp2_with fail
                      refine forgetX (fun W => Bx W (g + 1 + 1) 41 zMsg ∧ Tch [g + 1 + 1] (Wy.setCell ⟨bk e.id, 7, none⟩ (.bool false)) W) ⟨?_, ?_⟩ ?_
                      · (with_reducible refine Bx.to ((((((HCy.out.off (g := bk e.id) hbg2).set 0 _).set 1 _).set 2 _).set 3 _).set 4 _) ?_); rfl
                      · with_reducible repeat first | exact Tch.refl _ _ | refine Tch.setCell ?_ _ (.inl (by simp))
                      rintro W7 ⟨hb7, ht7⟩
                      have hQm : Qq (Wy.setCell ⟨bk e.id, 7, none⟩ (.bool false)) B F q room limit last (modL (freeE (bumpE o e)) L) bk bv rv := by
                        have := HQy.out.modified (W' := (Wy.setCell ⟨bk e.id, 7, none⟩ (.bool false))) (e' := freeE (bumpE o e)) HEx.out rfl rfl rfl (HQy.out.wf.ok (bumpE o e) HEx.out) (HQy.out.wf.tm (bumpE o e) HEx.out) (HEnt.out.set 7 _) (fun k hk _ => Below.heap_setCell _ ⟨bk e.id, 7, none⟩ _ k hk)
                        rwa [modL_modL (e1 := bumpE o e) (e2 := freeE (bumpE o e)) rfl] at this
                      have hDm : (Wy.setCell ⟨bk e.id, 7, none⟩ (.bool false)).heap[D]? = some (.deferred (some [])) := (Below.heap_setCell _ ⟨bk e.id, 7, none⟩ _ D hDbk).trans HDy.out
                      have hTm : Tch F w (Wy.setCell ⟨bk e.id, 7, none⟩ (.bool false)) := HTy.out.setCell _ (.inl (H.out.fe e HE.out))
                      obtain ⟨hD7, hE1, hE2, hE3⟩ := set_fin hDm hQm (HCy.out.off (g := bk e.id) hbg2) hTm hb7 ht7 (HGW.out _ (by simp [sG])) H.out.lt (HGD.out _ (by simp [sG])) HDw.out
                      refine ⟨by simp, .inl ⟨_, _, rfl, run_takeDeferred hD7, ?_⟩⟩
                      have hset : setQ limit L id o = (modL (freeE (bumpE o e)) L, 0, none) := by
                        unfold setQ
                        rw [HF.out]
                        simp only
                        rw [if_neg (by rw [H5.out]; decide), if_neg (by rw [H5.out]; decide), if_neg (by rw [H5.out]; decide), if_pos H5.out, if_neg (by rw [HDe.out]; decide)]
                      refine ⟨_, results_ctt rfl rfl rfl rfl (hE1.loadAgg (by kernel_rfl) (by kernel_rfl)), ?_⟩
                      unfold SetPost
                      rw [hset]
                      exact ⟨rv, rfl, hE2, hE3⟩
                · have hoa' : ¬ (o.a : Int) = 1 := by omega
                  have hoa2 : ((o.a : Int) == 1) = false := by simpa using hoa'
                  clear hoa
                  gi_wp2_with fail
                  refine forgetI (fun W => Qq W B F q room limit last (modL (bumpE o e) L) bk bv rv ∧ Bx W (g + 1) 47 (occ o) ∧ Bx W (g + 1 + 1) 41 zMsg ∧ Bx W (g + 1 + 1 + 1) 143 [.pointer (some ⟨bk e.id, 0, none⟩)] ∧ W.heap[D]? = some (.deferred (some [])) ∧ Tch F w W) ⟨HQx.out, HC1.out, HC2.out, HX.out, HD.out, HT3.out.mono (by simp)⟩ ?_
                  clear x1 o0 o1 o2 o3 z0 z1 z2 z3 z4 y0 y1 y2 y3 y4 HXx HX HQ3 HEC HC1 HC2 HD HT3 HQx W3
                  rintro Wx ⟨hQx, hC1x, hC2x, hXx, hDx, hTx⟩
                  have HQx := Lib.hid hQx
                  have HC1x := Lib.hid hC1x
                  have HC2x := Lib.hid hC2x
                  have HXx := Lib.hid hXx
                  have HDx := Lib.hid hDx
                  have HTx := Lib.hid hTx
                  clear hQx hC1x hC2x hXx hDx hTx
                  have v0 := HQx.out.c1
                  have v1 := (show Bx Wx (bk e.id) 145 (ecs (bumpE o e) (bv e.id)) from HQx.out.ent _ HEx.out).cell 3 _ rfl
                  have v2 := HC1x.out.cell 2 _ rfl
                  have v3 : Wx.cell? ⟨g + 1 + 1 + 1, 0, none⟩ = some (.pointer (some ⟨bk e.id, 0, none⟩)) := HXx.out.cell 0 _ rfl
                  have v4 := (HQx.out.wf.ok _ HEx.out).cnt
                  have v5 := HQx.out.wf.lim
                  obtain ⟨C, hC⟩ : ∃ C, (bumpE o e).m.cnt = C := ⟨_, rfl⟩
                  rw [hC] at v1 v4
                  have HCt := Lib.hid hC
                  clear hC
                  by_cases hob : o.b = 1
                  · have HDe := Lib.hid (show deadE limit o (bumpE o e).m = true by unfold deadE; exact decide_eq_true (.inl hob))
                    have w2 : Wx.cell? ⟨g + 1, 2, none⟩ = some (.int .u64 1) := by rw [hob] at v2; exact v2
                    clear v2 hob
                    have v2 := w2
                    clear w2
                    gi_quiet (fail)
                    refine forgetX (fun W => Qq W B F q room limit last (modL (bumpE o e) L) bk bv rv ∧ Bx W (g + 1 + 1) 41 zMsg ∧ W.cell? ⟨g + 1 + 1 + 1, 0, none⟩ = some (.pointer (some ⟨bk e.id, 0, none⟩)) ∧ W.heap[D]? = some (.deferred (some [])) ∧ Tch F w W) ⟨HQx.out.keep (fun _ _ => rfl) (fun _ _ _ _ => rfl), HC2x.out, v3, HDx.out, HTx.out.drewN nq⟩ ?_
                    clear v0 v1 v2 v3
                    rintro Wy ⟨hQy, hCy, x1, hDy, hTy⟩
                    have HQy := Lib.hid hQy
                    have HCy := Lib.hid hCy
                    have HDy := Lib.hid hDy
                    have HTy := Lib.hid hTy
                    have z0 := hCy.cell 0 _ rfl
                    have z1 := hCy.cell 1 _ rfl
                    have z2 := hCy.cell 2 _ rfl
                    have z3 := hCy.cell 3 _ rfl
                    have z4 := hCy.cell 4 _ rfl
                    have y0 := hCy.froz 0
                    have y1 := hCy.froz 1
                    have y2 := hCy.froz 2
                    have y3 := hCy.froz 3
                    have y4 := hCy.froz 4
                    clear hQy hCy hDy hTy
                    gi_wp2_with fail
                    refine ⟨trivial, (callsIn_wide.2 (qdrop_calls HQy.out HEx.out)).mono ?_⟩
                    rintro r w2 ⟨v', rfl, hQ2, ht2⟩
                    have hC2 := HCy.out.tch ht2 (fun hm => by have h1 := H.out.lt _ hm; have h2 := HGW.out (g + 1 + 1) (by simp [sG]); omega)
                    have z0' := hC2.cell 0 _ rfl
                    have y0' := hC2.froz 0
                    have z1' := hC2.cell 1 _ rfl
                    have y1' := hC2.froz 1
                    have z2' := hC2.cell 2 _ rfl
                    have y2' := hC2.froz 2
                    have z3' := hC2.cell 3 _ rfl
                    have y3' := hC2.froz 3
                    have z4' := hC2.cell 4 _ rfl
                    have y4' := hC2.froz 4
                    have hD2 : w2.heap[D]? = some (.deferred (some [])) := (ht2.block D (heap_lt HDy.out) (fun hm => by have h1 := H.out.lt _ hm; have h2 := HDw.out; omega)).trans HDy.out
                    have hT2 : Tch F w w2 := HTy.out.trans_ ht2
                    have hl := less_modL (bumpE o e) L
                    rw [hl] at hQ2
                    clear hl
                    have HC2b := Lib.hid hC2
                    have HD2 := Lib.hid hD2
                    have HT2 := Lib.hid hT2
                    have HQ2 := Lib.hid hQ2
                    clear hC2 hD2 hT2 hQ2 ht2
                    obtain ⟨AB, cB, hbv, -⟩ := H.out.bod e HE.out
                    have hmg : mgv (bumpE o e).m (bv (bumpE o e).id) = .agg #[.int .u8 (bumpE o e).m.pr, .int .u32 (bumpE o e).m.ttl, .int .u32 (bumpE o e).m.cnt, .string ⟨(bumpE o e).m.ids.toArray⟩, .slice AB e.m.body.length cB] := by unfold mgv str; rw [show bv (bumpE o e).id = .slice AB e.m.body.length cB from hbv]
                    rw [hmg]
                    have HMG := Lib.hid hmg
                    clear hmg hbv
                    gi_wp2_with fail
                    refine forgetX (fun W => Bx W (g + 1 + 1) 41 [.int .u8 (bumpE o e).m.pr, .int .u32 (bumpE o e).m.ttl, .int .u32 (bumpE o e).m.cnt, .string ⟨(bumpE o e).m.ids.toArray⟩, .slice AB e.m.body.length cB] ∧ Tch [g + 1 + 1] w2 W) ⟨?_, ?_⟩ ?_
                    · (with_reducible refine Bx.to (((((HC2b.out.set 0 _).set 1 _).set 2 _).set 3 _).set 4 _) ?_); rfl
                    · with_reducible repeat first | exact Tch.refl _ _ | refine Tch.setCell ?_ _ (.inl (by simp))
                    rintro W7 ⟨hb7, ht7⟩
                    obtain ⟨hD7, hE1, hE2, hE3⟩ := set_fin HD2.out HQ2.out HC2b.out HT2.out hb7 ht7 (HGW.out _ (by simp [sG])) H.out.lt (HGD.out _ (by simp [sG])) HDw.out
                    refine ⟨by simp, .inl ⟨_, _, rfl, run_takeDeferred hD7, ?_⟩⟩
                    have hset : setQ limit L id o = (less [e.id] L, 0, some (bumpE o e)) := by
                      unfold setQ
                      rw [HF.out]
                      simp only
                      rw [if_neg (by rw [H5.out]; decide), if_neg (by rw [H5.out]; decide), if_neg (by rw [H5.out]; decide), if_pos H5.out, if_pos HDe.out]
                    refine ⟨_, results_ctt rfl rfl rfl rfl (hE1.loadAgg (by kernel_rfl) (by kernel_rfl)), ?_⟩
                    unfold SetPost
                    rw [hset]
                    exact ⟨rvSet rv (bumpE o e).m.pr v', (by unfold deadV; simp only; rw [HMG.out]; rfl), hE2, hE3⟩
                  · have hob' : ¬ (o.b : Int) = 1 := by omega
                    have hob2 : ((o.b : Int) == 1) = false := by simpa using hob'
                    by_cases hl0 : 0 < limit
                    · have hl0' : (0 : Int) < (limit : Int) := by omega
                      have hdl : decide (0 < limit) = true := decide_eq_true hl0
                      by_cases hlc : limit ≤ C
                      · have hlc' : (limit : Int) ≤ (C : Int) := by omega
                        have hdc : decide (limit ≤ C) = true := decide_eq_true hlc
                        have HDe := Lib.hid (show deadE limit o (bumpE o e).m = true by unfold deadE; exact decide_eq_true (.inr ⟨hl0, by rw [HCt.out]; exact hlc⟩))
                        clear hob hl0 hlc
                        gi_quiet (fail)
                        refine forgetX (fun W => Qq W B F q room limit last (modL (bumpE o e) L) bk bv rv ∧ Bx W (g + 1 + 1) 41 zMsg ∧ W.cell? ⟨g + 1 + 1 + 1, 0, none⟩ = some (.pointer (some ⟨bk e.id, 0, none⟩)) ∧ W.heap[D]? = some (.deferred (some [])) ∧ Tch F w W) ⟨HQx.out.keep (fun _ _ => rfl) (fun _ _ _ _ => rfl), HC2x.out, v3, HDx.out, HTx.out.drewN nq⟩ ?_
                        clear v0 v1 v2 v3
                        rintro Wy ⟨hQy, hCy, x1, hDy, hTy⟩
                        have HQy := Lib.hid hQy
                        have HCy := Lib.hid hCy
                        have HDy := Lib.hid hDy
                        have HTy := Lib.hid hTy
                        have z0 := hCy.cell 0 _ rfl
                        have z1 := hCy.cell 1 _ rfl
                        have z2 := hCy.cell 2 _ rfl
                        have z3 := hCy.cell 3 _ rfl
                        have z4 := hCy.cell 4 _ rfl
                        have y0 := hCy.froz 0
                        have y1 := hCy.froz 1
                        have y2 := hCy.froz 2
                        have y3 := hCy.froz 3
                        have y4 := hCy.froz 4
                        clear hQy hCy hDy hTy
                        gi_wp2_with fail
                        refine ⟨trivial, (callsIn_wide.2 (qdrop_calls HQy.out HEx.out)).mono ?_⟩
                        rintro r w2 ⟨v', rfl, hQ2, ht2⟩
                        have hC2 := HCy.out.tch ht2 (fun hm => by have h1 := H.out.lt _ hm; have h2 := HGW.out (g + 1 + 1) (by simp [sG]); omega)
                        have z0' := hC2.cell 0 _ rfl
                        have y0' := hC2.froz 0
                        have z1' := hC2.cell 1 _ rfl
                        have y1' := hC2.froz 1
                        have z2' := hC2.cell 2 _ rfl
                        have y2' := hC2.froz 2
                        have z3' := hC2.cell 3 _ rfl
                        have y3' := hC2.froz 3
                        have z4' := hC2.cell 4 _ rfl
                        have y4' := hC2.froz 4
                        have hD2 : w2.heap[D]? = some (.deferred (some [])) := (ht2.block D (heap_lt HDy.out) (fun hm => by have h1 := H.out.lt _ hm; have h2 := HDw.out; omega)).trans HDy.out
                        have hT2 : Tch F w w2 := HTy.out.trans_ ht2
                        have hl := less_modL (bumpE o e) L
                        rw [hl] at hQ2
                        clear hl
                        have HC2b := Lib.hid hC2
                        have HD2 := Lib.hid hD2
                        have HT2 := Lib.hid hT2
                        have HQ2 := Lib.hid hQ2
                        clear hC2 hD2 hT2 hQ2 ht2
                        obtain ⟨AB, cB, hbv, -⟩ := H.out.bod e HE.out
                        have hmg : mgv (bumpE o e).m (bv (bumpE o e).id) = .agg #[.int .u8 (bumpE o e).m.pr, .int .u32 (bumpE o e).m.ttl, .int .u32 (bumpE o e).m.cnt, .string ⟨(bumpE o e).m.ids.toArray⟩, .slice AB e.m.body.length cB] := by unfold mgv str; rw [show bv (bumpE o e).id = .slice AB e.m.body.length cB from hbv]
                        rw [hmg]
                        have HMG := Lib.hid hmg
                        clear hmg hbv
                        gi_wp2_with fail
                        refine forgetX (fun W => Bx W (g + 1 + 1) 41 [.int .u8 (bumpE o e).m.pr, .int .u32 (bumpE o e).m.ttl, .int .u32 (bumpE o e).m.cnt, .string ⟨(bumpE o e).m.ids.toArray⟩, .slice AB e.m.body.length cB] ∧ Tch [g + 1 + 1] w2 W) ⟨?_, ?_⟩ ?_
                        · (with_reducible refine Bx.to (((((HC2b.out.set 0 _).set 1 _).set 2 _).set 3 _).set 4 _) ?_); rfl
                        · with_reducible repeat first | exact Tch.refl _ _ | refine Tch.setCell ?_ _ (.inl (by simp))
                        rintro W7 ⟨hb7, ht7⟩
                        obtain ⟨hD7, hE1, hE2, hE3⟩ := set_fin HD2.out HQ2.out HC2b.out HT2.out hb7 ht7 (HGW.out _ (by simp [sG])) H.out.lt (HGD.out _ (by simp [sG])) HDw.out
                        refine ⟨by simp, .inl ⟨_, _, rfl, run_takeDeferred hD7, ?_⟩⟩
                        have hset : setQ limit L id o = (less [e.id] L, 0, some (bumpE o e)) := by
                          unfold setQ
                          rw [HF.out]
                          simp only
                          rw [if_neg (by rw [H5.out]; decide), if_neg (by rw [H5.out]; decide), if_neg (by rw [H5.out]; decide), if_pos H5.out, if_pos HDe.out]
                        refine ⟨_, results_ctt rfl rfl rfl rfl (hE1.loadAgg (by kernel_rfl) (by kernel_rfl)), ?_⟩
                        unfold SetPost
                        rw [hset]
                        exact ⟨rvSet rv (bumpE o e).m.pr v', (by unfold deadV; simp only; rw [HMG.out]; rfl), hE2, hE3⟩
                      · have hlc' : ¬ (limit : Int) ≤ (C : Int) := by omega
                        have hdc : decide (limit ≤ C) = false := decide_eq_false hlc
                        have HDe := Lib.hid (show deadE limit o (bumpE o e).m = false by
                          unfold deadE
                          refine decide_eq_false ?_
                          rintro (h | ⟨_, h⟩)
                          · exact hob h
                          · rw [HCt.out] at h; exact hlc h)
                        clear hob hl0 hlc
                        gi_quiet (fail)
                        refine forgetX (fun W => Qq W B F q room limit last (modL (bumpE o e) L) bk bv rv ∧ Bx W (g + 1 + 1) 41 zMsg ∧ W.cell? ⟨g + 1 + 1 + 1, 0, none⟩ = some (.pointer (some ⟨bk e.id, 0, none⟩)) ∧ W.heap[D]? = some (.deferred (some [])) ∧ Tch F w W) ⟨HQx.out.keep (fun _ _ => rfl) (fun _ _ _ _ => rfl), HC2x.out, v3, HDx.out, HTx.out.drewN nq⟩ ?_
                        clear v0 v1 v2 v3
                        rintro Wy ⟨hQy, hCy, x1, hDy, hTy⟩
                        have HQy := Lib.hid hQy
                        have HCy := Lib.hid hCy
                        have HDy := Lib.hid hDy
                        have HTy := Lib.hid hTy
                        have z0 := hCy.cell 0 _ rfl
                        have z1 := hCy.cell 1 _ rfl
                        have z2 := hCy.cell 2 _ rfl
                        have z3 := hCy.cell 3 _ rfl
                        have z4 := hCy.cell 4 _ rfl
                        have y0 := hCy.froz 0
                        have y1 := hCy.froz 1
                        have y2 := hCy.froz 2
                        have y3 := hCy.froz 3
                        have y4 := hCy.froz 4
                        clear hQy hCy hDy hTy
                        have hent : Bx Wy (bk e.id) 145 (ecs (bumpE o e) (bv e.id)) := HQy.out.ent _ HEx.out
                        have u0 := hent.cell 7 _ rfl
                        have u1 := hent.froz 7
                        have HEnt := Lib.hid hent
                        clear hent
                        gi_wp2_with fail
                        refine forgetX (fun W => Bx W (g + 1 + 1) 41 zMsg ∧ Tch [g + 1 + 1] (Wy.setCell ⟨bk e.id, 7, none⟩ (.bool false)) W) ⟨?_, ?_⟩ ?_
                        · (with_reducible refine Bx.to ((((((HCy.out.off (g := bk e.id) hbg2).set 0 _).set 1 _).set 2 _).set 3 _).set 4 _) ?_); rfl
                        · with_reducible repeat first | exact Tch.refl _ _ | refine Tch.setCell ?_ _ (.inl (by simp))
                        rintro W7 ⟨hb7, ht7⟩
                        have hQm : Qq (Wy.setCell ⟨bk e.id, 7, none⟩ (.bool false)) B F q room limit last (modL (freeE (bumpE o e)) L) bk bv rv := by
                          have := HQy.out.modified (W' := (Wy.setCell ⟨bk e.id, 7, none⟩ (.bool false))) (e' := freeE (bumpE o e)) HEx.out rfl rfl rfl (HQy.out.wf.ok (bumpE o e) HEx.out) (HQy.out.wf.tm (bumpE o e) HEx.out) (HEnt.out.set 7 _) (fun k hk _ => Below.heap_setCell _ ⟨bk e.id, 7, none⟩ _ k hk)
                          rwa [modL_modL (e1 := bumpE o e) (e2 := freeE (bumpE o e)) rfl] at this
                        have hDm : (Wy.setCell ⟨bk e.id, 7, none⟩ (.bool false)).heap[D]? = some (.deferred (some [])) := (Below.heap_setCell _ ⟨bk e.id, 7, none⟩ _ D hDbk).trans HDy.out
                        have hTm : Tch F w (Wy.setCell ⟨bk e.id, 7, none⟩ (.bool false)) := HTy.out.setCell _ (.inl (H.out.fe e HE.out))
                        obtain ⟨hD7, hE1, hE2, hE3⟩ := set_fin hDm hQm (HCy.out.off (g := bk e.id) hbg2) hTm hb7 ht7 (HGW.out _ (by simp [sG])) H.out.lt (HGD.out _ (by simp [sG])) HDw.out
                        refine ⟨by simp, .inl ⟨_, _, rfl, run_takeDeferred hD7, ?_⟩⟩
                        have hset : setQ limit L id o = (modL (freeE (bumpE o e)) L, 0, none) := by
                          unfold setQ
                          rw [HF.out]
                          simp only
                          rw [if_neg (by rw [H5.out]; decide), if_neg (by rw [H5.out]; decide), if_neg (by rw [H5.out]; decide), if_pos H5.out, if_neg (by rw [HDe.out]; decide)]
                        refine ⟨_, results_ctt rfl rfl rfl rfl (hE1.loadAgg (by kernel_rfl) (by kernel_rfl)), ?_⟩
                        unfold SetPost
                        rw [hset]
                        exact ⟨rv, rfl, hE2, hE3⟩
                    · have hl0' : ¬ (0 : Int) < (limit : Int) := by omega
                      have hdl : decide (0 < limit) = false := decide_eq_false hl0
                      have HDe := Lib.hid (show deadE limit o (bumpE o e).m = false by
                        unfold deadE
                        refine decide_eq_false ?_
                        rintro (h | ⟨h, _⟩)
                        · exact hob h
                        · exact hl0 h)
                      clear hob hl0
                      gi_quiet (fail)
                      refine forgetX (fun W => Qq W B F q room limit last (modL (bumpE o e) L) bk bv rv ∧ Bx W (g + 1 + 1) 41 zMsg ∧ W.cell? ⟨g + 1 + 1 + 1, 0, none⟩ = some (.pointer (some ⟨bk e.id, 0, none⟩)) ∧ W.heap[D]? = some (.deferred (some [])) ∧ Tch F w W) ⟨HQx.out.keep (fun _ _ => rfl) (fun _ _ _ _ => rfl), HC2x.out, v3, HDx.out, HTx.out.drewN nq⟩ ?_
                      clear v0 v1 v2 v3
                      rintro Wy ⟨hQy, hCy, x1, hDy, hTy⟩
                      have HQy := Lib.hid hQy
                      have HCy := Lib.hid hCy
                      have HDy := Lib.hid hDy
                      have HTy := Lib.hid hTy
                      have z0 := hCy.cell 0 _ rfl
                      have z1 := hCy.cell 1 _ rfl
                      have z2 := hCy.cell 2 _ rfl
                      have z3 := hCy.cell 3 _ rfl
                      have z4 := hCy.cell 4 _ rfl
                      have y0 := hCy.froz 0
                      have y1 := hCy.froz 1
                      have y2 := hCy.froz 2
                      have y3 := hCy.froz 3
                      have y4 := hCy.froz 4
                      clear hQy hCy hDy hTy
                      have hent : Bx Wy (bk e.id) 145 (ecs (bumpE o e) (bv e.id)) := HQy.out.ent _ HEx.out
                      have u0 := hent.cell 7 _ rfl
                      have u1 := hent.froz 7
                      have HEnt := Lib.hid hent
                      clear hent
                      gi_wp2_with fail
                      refine forgetX (fun W => Bx W (g + 1 + 1) 41 zMsg ∧ Tch [g + 1 + 1] (Wy.setCell ⟨bk e.id, 7, none⟩ (.bool false)) W) ⟨?_, ?_⟩ ?_
                      · (with_reducible refine Bx.to ((((((HCy.out.off (g := bk e.id) hbg2).set 0 _).set 1 _).set 2 _).set 3 _).set 4 _) ?_); rfl
                      · with_reducible repeat first | exact Tch.refl _ _ | refine Tch.setCell ?_ _ (.inl (by simp))
                      rintro W7 ⟨hb7, ht7⟩
                      have hQm : Qq (Wy.setCell ⟨bk e.id, 7, none⟩ (.bool false)) B F q room limit last (modL (freeE (bumpE o e)) L) bk bv rv := by
                        have := HQy.out.modified (W' := (Wy.setCell ⟨bk e.id, 7, none⟩ (.bool false))) (e' := freeE (bumpE o e)) HEx.out rfl rfl rfl (HQy.out.wf.ok (bumpE o e) HEx.out) (HQy.out.wf.tm (bumpE o e) HEx.out) (HEnt.out.set 7 _) (fun k hk _ => Below.heap_setCell _ ⟨bk e.id, 7, none⟩ _ k hk)
                        rwa [modL_modL (e1 := bumpE o e) (e2 := freeE (bumpE o e)) rfl] at this
                      have hDm : (Wy.setCell ⟨bk e.id, 7, none⟩ (.bool false)).heap[D]? = some (.deferred (some [])) := (Below.heap_setCell _ ⟨bk e.id, 7, none⟩ _ D hDbk).trans HDy.out
                      have hTm : Tch F w (Wy.setCell ⟨bk e.id, 7, none⟩ (.bool false)) := HTy.out.setCell _ (.inl (H.out.fe e HE.out))
                      obtain ⟨hD7, hE1, hE2, hE3⟩ := set_fin hDm hQm (HCy.out.off (g := bk e.id) hbg2) hTm hb7 ht7 (HGW.out _ (by simp [sG])) H.out.lt (HGD.out _ (by simp [sG])) HDw.out
                      refine ⟨by simp, .inl ⟨_, _, rfl, run_takeDeferred hD7, ?_⟩⟩
                      have hset : setQ limit L id o = (modL (freeE (bumpE o e)) L, 0, none) := by
                        unfold setQ
                        rw [HF.out]
                        simp only
                        rw [if_neg (by rw [H5.out]; decide), if_neg (by rw [H5.out]; decide), if_neg (by rw [H5.out]; decide), if_pos H5.out, if_neg (by rw [HDe.out]; decide)]
                      refine ⟨_, results_ctt rfl rfl rfl rfl (hE1.loadAgg (by kernel_rfl) (by kernel_rfl)), ?_⟩
                      unfold SetPost
                      rw [hset]
                      exact ⟨rv, rfl, hE2, hE3⟩
            · have hn2 : ¬ (o.k : Int) = 2 := by omega
              have hn3 : ¬ (o.k : Int) = 3 := by omega
              have hn4 : ¬ (o.k : Int) = 4 := by omega
              have hn5 : ¬ (o.k : Int) = 5 := by omega
              have m2 : ((o.k : Int) == 2) = false := by simpa using hn2
              have m3 : ((o.k : Int) == 3) = false := by simpa using hn3
              have m4 : ((o.k : Int) == 4) = false := by simpa using hn4
              have m5 : ((o.k : Int) == 5) = false := by simpa using hn5
              have HN := Lib.hid (show ¬ o.k = 2 ∧ ¬ o.k = 3 ∧ ¬ o.k = 4 ∧ ¬ o.k = 5 from ⟨h2, h3, h4, h5⟩)
              have o0 := hc1.cell 0 _ rfl
              clear h2 h3 h4 h5 hc1
              gi_wp2_with fail
              refine forgetX (fun W => Bx W (g + 1 + 1) 41 zMsg ∧ Tch [g + 1 + 1] W3 W) ⟨?_, ?_⟩ ?_
              · (with_reducible refine Bx.to (((((HC2.out.set 0 _).set 1 _).set 2 _).set 3 _).set 4 _) ?_); rfl
              · with_reducible repeat first | exact Tch.refl _ _ | refine Tch.setCell ?_ _ (.inl (by simp))
              rintro W7 ⟨hb7, ht7⟩
              obtain ⟨hD7, hE1, hE2, hE3⟩ := set_fin HD.out HQ3.out HC2.out (HT3.out.mono (by simp)) hb7 ht7 (HGW.out _ (by simp [sG])) H.out.lt (HGD.out _ (by simp [sG])) HDw.out
              refine ⟨by simp, .inl ⟨_, _, rfl, run_takeDeferred hD7, ?_⟩⟩
              have hset : setQ limit L id o = (L, 1, none) := by unfold setQ; rw [HF.out]; simp [HN.out.1, HN.out.2.1, HN.out.2.2.1, HN.out.2.2.2]
              refine ⟨_, results_ctt rfl rfl rfl rfl (hE1.loadAgg (by kernel_rfl) (by kernel_rfl)), ?_⟩
              unfold SetPost
              rw [hset]
              exact ⟨rv, rfl, hE2, hE3⟩
end Go.Proofs.Ytklgndmndnmdpaa

import Derived.Test.YtklgndmndnmdpaaQExp
set_option linter.unusedVariables false
set_option linter.unusedSimpArgs false
namespace Go.Proofs.Ytklgndmndnmdpaa
open Go.RowKit Go.Shelf
attribute [local go_sem] Oper.semAt_some

theorem results_tt {fn : Func} {t u : Tmp} (h : fn.results = #[.tmp t, .tmp u]) {tmps : Array Value} {W : World} {v v' : Value} (ht : tmps.getD t undef = v) (hu : tmps.getD u undef = v') : (results fn tmps).run Try.prog W = .ok (.tuple #[v, v']) W := by
  simp only [Array.getD_eq_getD_getElem?] at ht hu
  simp [results, h, ht, hu, Sem.run_bind, Sem.run, Result.andThen]
def okNew (room limit : Int) : Bool := decide (1 ≤ room ∧ room ≤ 64 ∧ 0 ≤ limit ∧ limit ≤ 1000)
theorem qq_new {W : World} {q : Nat} {room limit : Nat} (bk : Nat → Nat) (bv : Nat → Value) (h1 : 1 ≤ room) (h2 : room ≤ 64) (h3 : limit ≤ 1000) (hb : Bx W q 125 [.int .i64 room, .int .i64 limit, .int .i64 0, .slice none 0 0, .slice none 0 0, .slice none 0 0, .slice none 0 0, .slice none 0 0, .slice none 0 0, .slice none 0 0, .slice none 0 0, .slice none 0 0, .slice none 0 0]) :
    Qq W q [q] q room limit 0 [] bk bv fun _ => .slice none 0 0 := by
  refine ⟨hb, fun p _ => ?_, by simp, by simp, ⟨h1, h2, h3, by simp, List.Pairwise.nil, by simp, by simp, by simp⟩, by simp, fun p p' _ _ _ k hk => by simp [Value.ownBlock] at hk, by simp, fun p _ k hk => by simp [Value.ownBlock] at hk, by simp, fun k hk => by simp at hk; omega, fun k hk => by simp at hk; subst hk; exact ⟨_, _, hb, .inl rfl⟩⟩
  exact OwnC.nil_
set_option maxRecDepth 100000 in
set_option maxHeartbeats 1000000 in
theorem qnew_bad (room limit : Int) (w : World) (h : okNew room limit = false) (hr : (Lit.int .i64 room).wf = true) (hl : (Lit.int .i64 limit).wf = true) :
    Calls Try.prog 26 #[.int .i64 room, .int .i64 limit] w fun r w' => r = .returned (.tuple #[.pointer none, .int .i64 1]) ∧ w = w' := by
  clear hr hl
  unfold okNew at h
  have h' := of_decide_eq_false h
  clear h
  by_cases a1 : room < 1
  · clear h'
    go_enter Try.func26, Try.ntmps26
    go_wp2_with fail
    refine bodyPost_ret (results_tt rfl rfl rfl) rfl ?_
    exact ⟨rfl, rfl⟩
  · by_cases a2 : 64 < room
    · clear h'
      go_enter Try.func26, Try.ntmps26
      go_wp2_with fail
      refine bodyPost_ret (results_tt rfl rfl rfl) rfl ?_
      exact ⟨rfl, rfl⟩
    · by_cases a3 : limit < 0
      · clear h'
        go_enter Try.func26, Try.ntmps26
        go_wp2_with fail
        refine bodyPost_ret (results_tt rfl rfl rfl) rfl ?_
        exact ⟨rfl, rfl⟩
      · have a4 : 1000 < limit := by omega
        clear h'
        go_enter Try.func26, Try.ntmps26
        go_wp2_with fail
        refine bodyPost_ret (results_tt rfl rfl rfl) rfl ?_
        exact ⟨rfl, rfl⟩
set_option maxRecDepth 100000 in
set_option maxHeartbeats 1000000 in
theorem qnew_ok (room limit : Nat) (w : World) (h1 : 1 ≤ room) (h2 : room ≤ 64) (h3 : limit ≤ 1000) (bk : Nat → Nat) (bv : Nat → Value) :
    Calls Try.prog 26 #[.int .i64 room, .int .i64 limit] w fun r w' => r = .returned (.tuple #[.pointer (some ⟨w.heap.size, 0, none⟩), .int .i64 0]) ∧ Qq w' w.heap.size [w.heap.size] w.heap.size room limit 0 [] bk bv (fun _ => .slice none 0 0) ∧ Below w.heap.size w w' := by
  have a1 : ¬ (room : Int) < 1 := by omega
  have a2 : ¬ 64 < (room : Int) := by omega
  have a3 : ¬ (limit : Int) < 0 := by omega
  have a4 : ¬ 1000 < (limit : Int) := by omega
  have H1 := Lib.hid h1
  have H2 := Lib.hid h2
  have H3 := Lib.hid h3
  clear h1 h2 h3
  go_enter Try.func26, Try.ntmps26
  go_wp2_with fail
  refine bodyPost_ret (results_tt rfl rfl rfl) rfl ?_
  exact ⟨rfl, qq_new bk bv H1.out H2.out H3.out (Bx.new w _ [_, _, _, _, _, _, _, _, _, _, _, _, _]), below_alloc w _⟩

set_option maxRecDepth 100000 in
set_option maxHeartbeats 2000000 in
theorem qexp_nil (w : World) (now : Int) :
    Calls Try.prog 72 #[.pointer none, .int .i64 now] w fun r w' => r = .returned (.slice none 0 0) ∧ Below w.heap.size w w' := by
  refine (callsIn_wide (n := 3)).1 ?_
  refine callsIn_of_wp_marks Try.func72 rfl trivial ?_ rfl
  simp only [Try.ntmps72, List.size_toArray, List.length_cons, List.length_nil, Nat.reduceAdd, Nat.reduceSub, Array.replicate_succ, Array.replicate_zero, List.push_toArray, List.append_toArray, List.nil_append, List.cons_append]
  gi_wp2_with ((try refine ⟨trivial, ?_⟩); gi_at_call 69; refine (qall_in _ _ trivial rfl none false _).mono ?_; rintro e w1 ⟨rfl, rfl⟩)
  obtain ⟨g, hg⟩ : ∃ g, w.heap.size = g := ⟨_, rfl⟩
  refine forgetI (fun W => CZ w [] [g + 1 + 1, g + 1 + 1 + 1, g + 1 + 1 + 1 + 1] (fun (_ : List En) W => Bx W (g + 1 + 1) 60 [.slice none 0 0] ∧ Bx W (g + 1 + 1 + 1) 78 [.pointer none] ∧ Bx W (g + 1 + 1 + 1 + 1) 4 [.bool false]) ([] : List En) [] W) ?_ ?_
  · subst hg
    exact ⟨(((((Tch.refl _ w).alloc _).alloc _).alloc _).alloc _).alloc _, ⟨((Bx.new' _ _ [_] (by simp)).alloc _).alloc _, (Bx.new' _ _ [_] (by simp)).alloc _, Bx.new' _ _ [_] (by simp)⟩, fun k hk => ⟨by simp at hk; omega, by simp, by simp at hk; simp; omega⟩, by simp⟩
  rintro W hI0
  rw [hg]
  refine range_outer (encs := fun e : En => #[ev e.id]) (w0 := W) rfl rfl (gf := 80) (lb := #[.pointer (some ⟨g + 1 + 1 + 1, 0, none⟩), .pointer (some ⟨g + 1 + 1 + 1 + 1, 0, none⟩)]) rfl trivial (enters_of Try.func80 (by kernel_rfl) rfl) (seqP_nil w (fun e : En => ev e.id) false (g + 1 + 1 + 1) (g + 1 + 1 + 1 + 1) W) (Below.refl _ _) (fun _ => rfl)
    (CZ w [] [g + 1 + 1, g + 1 + 1 + 1, g + 1 + 1 + 1 + 1] (fun (_ : List En) W => Bx W (g + 1 + 1) 60 [.slice none 0 0] ∧ Bx W (g + 1 + 1 + 1) 78 [.pointer none] ∧ Bx W (g + 1 + 1 + 1 + 1) 4 [.bool false])) (fun _ _ _ _ => False)
    (clo_cz fun s A A' t h hk => ⟨h.1.keep (hk _ (.inl (by simp))), h.2.1.keep (hk _ (.inl (by simp))), h.2.2.keep (hk _ (.inl (by simp)))⟩)
    (fun _ => ⟨fun _ _ _ _ _ h => h.elim, fun _ _ _ _ h => h.elim, fun _ _ _ _ h => h.elim⟩)
    hI0 (fun pre Z W' h => ⟨h.1.below0, h.2.1.2.1.cell 0 _ rfl, h.2.1.2.2.cell 0 _ rfl⟩)
    (fun x => { tmps := #[.pointer none, .int .i64 now, .pointer (some ⟨g, 0, none⟩), .pointer (some ⟨g + 1, 0, none⟩), .pointer (some ⟨g + 1 + 1, 0, none⟩), ev x.id, .pointer none, .func (.func 80) #[] #[.pointer (some ⟨g + 1 + 1 + 1, 0, none⟩), .pointer (some ⟨g + 1 + 1 + 1 + 1, 0, none⟩)], ev x.id, undef, undef, undef, undef, undef, undef, undef, undef, undef, undef], defers := [] }) ?assign ?body ?done (fun D c pre W _ h => h.elim)
  case assign => intro l2 x W2 K hK; gi_wp2; simpa using hK
  case body =>
    rintro l pre x Z W2 hV
    simp at hV
  case done =>
    rintro D xs W3 hD hS hI hDD
    have g0 := hI.2.1.1.cell 0 _ rfl
    have f0 := hI.2.1.1.froz 0
    have HI := Lib.hid hI
    have HD := Lib.hid hDD
    clear hI hDD hI0 hg
    gi_wp2_with fail
    have hC := HI.out.2.2
    have hDg : D ≠ g + 1 + 1 := fun e => (hC.1 (g + 1 + 1) (by simp)).2.1 (by simp [e])
    have h7 : (W3.setCell ⟨g + 1 + 1, 0, none⟩ (.slice none 0 0)).heap[D]? = some (.deferred (some [])) := (Below.heap_setCell _ ⟨g + 1 + 1, 0, none⟩ _ D hDg).trans HD.out
    refine ⟨by simp, .inl ⟨_, _, rfl, run_takeDeferred h7, ?_⟩⟩
    have hB4 : Bx ((W3.setCell ⟨g + 1 + 1, 0, none⟩ (.slice none 0 0)).putObj D (.deferred none)) (g + 1 + 1) 60 [.slice none 0 0] := (HI.out.2.1.1.set 0 _).keep (World.putObj_heap_other hDg.symm)
    refine ⟨_, results_c rfl rfl (hB4.load1 (by kernel_rfl)), rfl, ?_⟩
    have t1 := HI.out.1.trans (tch_set W3 (g + 1 + 1) 0 (.slice none 0 0)) fun j hj => .inr (by simp at hj; rw [hj]; exact (hC.1 (g + 1 + 1) (by simp)).1)
    exact (t1.trans (tch_put (W3.setCell ⟨g + 1 + 1, 0, none⟩ (.slice none 0 0)) D (.deferred none)) fun j hj => .inr (by simp at hj; rw [hj]; exact (hC.2 D (by simp)).1)).below0
end Go.Proofs.Ytklgndmndnmdpaa

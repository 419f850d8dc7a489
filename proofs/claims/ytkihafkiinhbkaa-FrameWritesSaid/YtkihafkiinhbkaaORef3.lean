import Derived.Test.YtkihafkiinhbkaaORef2
set_option linter.unusedVariables false
set_option linter.unusedSimpArgs false
namespace Go.Proofs.Ytkihafkiinhbkaa
open Go.RowKit

theorem rtell_n {A : Option Addr} {n c : Nat} {l : List UInt8} {w : World} (h : Rd w A c l) (hn : l.length = n) (hl : n ≤ 8) :
    Calls Try.prog 43 #[.slice A n c] w fun e w' => e = .returned (.tuple #[.int .u64 (be l : Nat), .bool true]) ∧ w = w' := by
  subst hn; exact rtell_calls A c l w h hl

set_option maxHeartbeats 400000 in
theorem rpiece_arg (A : Option Addr) (c : Nat) (l : List UInt8) (wide : Int) (w : World) (h1 : wide ≠ 1) (h4 : wide ≠ 4) :
    Calls Try.prog 34 #[.slice A l.length c, .int .i64 wide] w fun e w' => e = .returned (.tuple #[.slice none 0 0, .slice none 0 0, .int .i64 1]) ∧ w = w' := by
  have m1 : (wide != 1) = true := by simpa using h1
  have m4 : (wide != 4) = true := by simpa using h4
  clear h1 h4
  go_enter Try.func34, Try.ntmps34
  go_wp2
  go_ret3
  exact ⟨rfl, rfl⟩

set_option maxHeartbeats 400000 in
theorem rpiece_few (A : Option Addr) (c : Nat) (l : List UInt8) (wide : Nat) (w : World) (hw : wide = 1 ∨ wide = 4) (hl : l.length < wide) :
    Calls Try.prog 34 #[.slice A l.length c, .int .i64 wide] w fun e w' => e = .returned (.tuple #[.slice none 0 0, .slice none 0 0, .int .i64 7]) ∧ w = w' := by
  rcases hw with rfl | rfl
  all_goals
    go_enter Try.func34, Try.ntmps34
    go_wp2
    go_ret3
    exact ⟨rfl, rfl⟩

set_option maxHeartbeats 400000 in
theorem rpiece_bad (A : Option Addr) (c : Nat) (l : List UInt8) (wide : Nat) (w : World) (h : Rd w A c l) (hw : wide = 1 ∨ wide = 4) (hl : wide ≤ l.length) (hn : l.length - wide < be (l.take wide) ∨ 2147483647 < be (l.take wide)) :
    Calls Try.prog 34 #[.slice A l.length c, .int .i64 wide] w fun e w' => e = .returned (.tuple #[.slice none 0 0, .slice none 0 0, .int .i64 7]) ∧ w = w' := by
  obtain ⟨n, hbe⟩ : ∃ n, Hid (be (l.take wide) = n) := ⟨_, Lib.hid rfl⟩
  have hlc := h.len
  have HT := Lib.hid (rtell_n (h.take0 hl) (by simp; omega) (show wide ≤ 8 by omega))
  clear h
  rw [hbe.out] at hn HT
  by_cases h5 : l.length - wide < n
  · clear hn
    rcases hw with rfl | rfl
    all_goals
      go_enter Try.func34, Try.ntmps34
      go_wp2_with (go_at_call 43; refine HT.out.mono ?_; rintro e w1 ⟨rfl, rfl⟩)
      go_ret3
      exact ⟨rfl, rfl⟩
  · have h6 : 2147483647 < n := by omega
    clear hn
    rcases hw with rfl | rfl
    all_goals
      go_enter Try.func34, Try.ntmps34
      go_wp2_with (go_at_call 43; refine HT.out.mono ?_; rintro e w1 ⟨rfl, rfl⟩)
      go_ret3
      exact ⟨rfl, rfl⟩

/-- An append to what '[]byte{}' has just laid, as a step of a region that draws its order. -/
theorem step_app0 (w : World) {ops : Array Oper} {o : Oper} {a : Act} {K : Act → World → Prop} {Q : Exit → Act → World → Prop} {E : Prop} (hgd : o.guard = none) (s x : Operand)
    (ho : o.op = .call { callee := .builtin .append, args := #[s, x], argTypes := #[23, 23] })
    (base g : Nat) (hs : a.eval s = .slice (some ⟨g, 0, none⟩) 0 0) (A : Option Addr) (n c : Nat) (m : List UInt8) (hx : a.eval x = .slice A n c) (hn : n = m.length)
    (hh : w.heap[g]? = some (.cells #[] 5 (0, 0))) (hr : Rd w A c m)
    (hb : m.length ≤ 140737488355328) (hbg : base ≤ g)
    (h : ∀ v' w', OwnB w' base v' m → w.grownBy w' (some g) → (v'.ownBlock = some g ∨ v'.ownBlock = some w.heap.size) → K (a.put o.dst v') w') : if Region.wanted o (yielded ops a.tmps) = true then Oper.wp Try.prog o a w K Q else E :=
  step_appB w hgd s x ho base _ [] hs (OwnB.empty_at hh hbg) A n c m hx hn hr (by simpa using hb) (Nat.le_of_lt (Nat.lt_of_le_of_lt hbg (heap_lt hh))) fun v' w' h1 h2 h3 h4 => h v' w' h1 h2 h4

set_option linter.unusedSimpArgs false in
set_option maxHeartbeats 1000000 in
theorem rpiece_yes (A : Option Addr) (c : Nat) (l : List UInt8) (wide : Nat) (w : World) (h : Rd w A c l) (hw : wide = 1 ∨ wide = 4) (hl : wide ≤ l.length) (hr : be (l.take wide) ≤ l.length - wide) (hr2 : be (l.take wide) ≤ 2147483647) (hb : l.length ≤ 140737488351232) :
    Calls Try.prog 34 #[.slice A l.length c, .int .i64 wide] w fun e w' => ∃ v1 v2, e = .returned (.tuple #[v1, v2, .int .i64 0]) ∧
      OwnB w' w.heap.size v1 ((l.drop wide).take (be (l.take wide))) ∧ OwnB w' w.heap.size v2 ((l.drop wide).drop (be (l.take wide))) ∧ Below w.heap.size w w' := by
  obtain ⟨n, hbe⟩ : ∃ n, Hid (be (l.take wide) = n) := ⟨_, Lib.hid rfl⟩
  have hlc := h.len
  have HT := Lib.hid (rtell_n (h.take0 hl) (by simp; omega) (show wide ≤ 8 by omega))
  rw [hbe.out] at hr hr2 HT ⊢
  obtain ⟨A1, hA1⟩ : ∃ A1, Hid (cutA A c wide 1 = A1) := ⟨_, Lib.hid rfl⟩
  obtain ⟨A2, hA2⟩ : ∃ A2, Hid (cutA A c (wide + n) 1 = A2) := ⟨_, Lib.hid rfl⟩
  have hs1 := slice_both' A l.length c wide (wide + n) .i64 .i64
  have hs2 := slice_from' A l.length c (wide + n) .i64
  have hr1 := h.cut wide (wide + n) (by omega) (by omega)
  have hr3 := h.cut (wide + n) l.length (by omega) (Nat.le_refl _)
  simp only [hA1.out] at hs1 hr1
  simp only [hA2.out] at hs2 hr3
  obtain ⟨p1, hp1⟩ : ∃ p1, Hid ((l.take (wide + n)).drop wide = p1) := ⟨_, Lib.hid rfl⟩
  obtain ⟨p2, hp2⟩ : ∃ p2, Hid ((l.take l.length).drop (wide + n) = p2) := ⟨_, Lib.hid rfl⟩
  have HL1 := Lib.hid (show p1.length = n by rw [← hp1.out]; simp; omega)
  have HL2 := Lib.hid (show p2.length = l.length - (wide + n) by rw [← hp2.out]; simp)
  have HP : Hid ((l.drop wide).take n = p1 ∧ (l.drop wide).drop n = p2) := Lib.hid ⟨by rw [← hp1.out, List.take_drop], by rw [← hp2.out, List.take_length, List.drop_drop]⟩
  rw [hp1.out] at hr1
  rw [hp2.out] at hr3
  rw [HP.out.1, HP.out.2]
  have HR1 := Lib.hid hr1
  have HR2 := Lib.hid hr3
  clear h hr1 hr3 hp1 hp2 HP
  rcases hw with rfl | rfl
  · have hz1 := hs1 1 (1 + (n : Int)) rfl (by omega) (by omega) (by omega)
    have hz2 := hs2 (1 + (n : Int)) (by omega) (by omega)
    rw [show 1 + n - 1 = n from by omega] at hz1
    clear hs1 hs2
    go_enter Try.func34, Try.ntmps34
    go_wp2_with (go_at_call 43; refine HT.out.mono ?_; rintro e w1 ⟨rfl, rfl⟩)
    clear HT hbe hA1 hA2
    go_region_law (first
      | (refine step_app0 _ rfl (.tmp 42) (.tmp 46) rfl w.heap.size _ rfl A1 _ _ p1 rfl HL1.out.symm ?_ (HR1.out.below ?_) ?_ ?_ ?_; (· (first | (simp only [heap_alloc_is, heap_drew_is, Array.getElem?_push, Array.size_push]; (try simp); done) | (rw [a2.block _ (by simp only [heap_alloc_is, heap_drew_is, Array.size_push]; omega) (by simp)]; simp only [heap_alloc_is, heap_drew_is, Array.getElem?_push, Array.size_push]; (try simp); done))); (· (repeat (first | exact Below.refl _ _ | refine Below.drew ?_ | refine Below.alloc ?_ (by (first | omega | (simp only [heap_alloc_is, heap_drew_is, Array.size_push]; omega) | (have := a2.size; simp only [heap_alloc_is, heap_drew_is, Array.size_push] at this ⊢; omega) | (have := a2.size; simp only [heap_alloc_is, heap_drew_is, Array.size_push] at this; omega))) _ | refine Below.grown ?_ a2 (by (first | omega | (simp only [heap_alloc_is, heap_drew_is, Array.size_push]; omega) | (have := a2.size; simp only [heap_alloc_is, heap_drew_is, Array.size_push] at this ⊢; omega) | (have := a2.size; simp only [heap_alloc_is, heap_drew_is, Array.size_push] at this; omega))) (fun k hk => by cases hk; (first | omega | (simp only [heap_alloc_is, heap_drew_is, Array.size_push]; omega) | (have := a2.size; simp only [heap_alloc_is, heap_drew_is, Array.size_push] at this ⊢; omega) | (have := a2.size; simp only [heap_alloc_is, heap_drew_is, Array.size_push] at this; omega)))))); (· have := HL1.out; omega); (· (first | omega | (simp only [heap_alloc_is, heap_drew_is, Array.size_push]; omega) | (have := a2.size; simp only [heap_alloc_is, heap_drew_is, Array.size_push] at this ⊢; omega) | (have := a2.size; simp only [heap_alloc_is, heap_drew_is, Array.size_push] at this; omega))); intro v1 x1 a1 a2 a3)
      | (refine step_app0 _ rfl (.tmp 48) (.tmp 51) rfl w.heap.size _ rfl A2 _ _ p2 rfl HL2.out.symm ?_ (HR2.out.below ?_) ?_ ?_ ?_; (· (first | (simp only [heap_alloc_is, heap_drew_is, Array.getElem?_push, Array.size_push]; (try simp); done) | (rw [a2.block _ (by simp only [heap_alloc_is, heap_drew_is, Array.size_push]; omega) (by simp)]; simp only [heap_alloc_is, heap_drew_is, Array.getElem?_push, Array.size_push]; (try simp); done))); (· (repeat (first | exact Below.refl _ _ | refine Below.drew ?_ | refine Below.alloc ?_ (by (first | omega | (simp only [heap_alloc_is, heap_drew_is, Array.size_push]; omega) | (have := a2.size; simp only [heap_alloc_is, heap_drew_is, Array.size_push] at this ⊢; omega) | (have := a2.size; simp only [heap_alloc_is, heap_drew_is, Array.size_push] at this; omega))) _ | refine Below.grown ?_ a2 (by (first | omega | (simp only [heap_alloc_is, heap_drew_is, Array.size_push]; omega) | (have := a2.size; simp only [heap_alloc_is, heap_drew_is, Array.size_push] at this ⊢; omega) | (have := a2.size; simp only [heap_alloc_is, heap_drew_is, Array.size_push] at this; omega))) (fun k hk => by cases hk; (first | omega | (simp only [heap_alloc_is, heap_drew_is, Array.size_push]; omega) | (have := a2.size; simp only [heap_alloc_is, heap_drew_is, Array.size_push] at this ⊢; omega) | (have := a2.size; simp only [heap_alloc_is, heap_drew_is, Array.size_push] at this; omega)))))); (· have := HL2.out; omega); (· (first | omega | (simp only [heap_alloc_is, heap_drew_is, Array.size_push]; omega) | (have := a2.size; simp only [heap_alloc_is, heap_drew_is, Array.size_push] at this ⊢; omega) | (have := a2.size; simp only [heap_alloc_is, heap_drew_is, Array.size_push] at this; omega))); intro v2 x2 b1 b2 b3))
    all_goals
      have A1' := Lib.hid a1
      have A2' := Lib.hid a2
      have A3' := Lib.hid a3
      have B1' := Lib.hid b1
      have B2' := Lib.hid b2
      have B3' := Lib.hid b3
      clear a1 a2 a3 b1 b2 b3
      go_wp2
      go_ret3
      have a1 := A1'.out
      have a2 := A2'.out
      have a3 := A3'.out
      have b2 := B2'.out
      have hlt := a1.lt
      refine ⟨_, _, rfl, ?_, B1'.out, ?_⟩
      · first
          | exact (a1.alloc _).grown b2 (fun k hk e => by have := hlt k hk; cases e; omega)
          | exact a1.grown b2 (fun k hk e => by rcases a3 with h | h <;> (have e1 := Option.some.inj e; have e2 := Option.some.inj (h.symm.trans hk); (try simp only [heap_alloc_is, heap_drew_is, Array.size_push] at e2); omega))
      · (repeat (first | exact Below.refl _ _ | refine Below.drew ?_ | refine Below.alloc ?_ (by (first | omega | (simp only [heap_alloc_is, heap_drew_is, Array.size_push]; omega) | (have := a2.size; simp only [heap_alloc_is, heap_drew_is, Array.size_push] at this ⊢; omega) | (have := a2.size; simp only [heap_alloc_is, heap_drew_is, Array.size_push] at this; omega))) _ | refine Below.grown ?_ b2 (by first | omega | (have := a2.size; simp only [heap_alloc_is, heap_drew_is, Array.size_push] at this ⊢; omega) | (have := a2.size; simp only [heap_alloc_is, heap_drew_is, Array.size_push] at this; omega)) (fun k hk => by cases hk; first | omega | (have := a2.size; simp only [heap_alloc_is, heap_drew_is, Array.size_push] at this ⊢; omega) | (have := a2.size; simp only [heap_alloc_is, heap_drew_is, Array.size_push] at this; omega)) | refine Below.grown ?_ a2 (by (first | omega | (simp only [heap_alloc_is, heap_drew_is, Array.size_push]; omega) | (have := a2.size; simp only [heap_alloc_is, heap_drew_is, Array.size_push] at this ⊢; omega) | (have := a2.size; simp only [heap_alloc_is, heap_drew_is, Array.size_push] at this; omega))) (fun k hk => by cases hk; (first | omega | (simp only [heap_alloc_is, heap_drew_is, Array.size_push]; omega) | (have := a2.size; simp only [heap_alloc_is, heap_drew_is, Array.size_push] at this ⊢; omega) | (have := a2.size; simp only [heap_alloc_is, heap_drew_is, Array.size_push] at this; omega)))))
  · have hz1 := hs1 4 (4 + (n : Int)) rfl (by omega) (by omega) (by omega)
    have hz2 := hs2 (4 + (n : Int)) (by omega) (by omega)
    rw [show 4 + n - 4 = n from by omega] at hz1
    clear hs1 hs2
    go_enter Try.func34, Try.ntmps34
    go_wp2_with (go_at_call 43; refine HT.out.mono ?_; rintro e w1 ⟨rfl, rfl⟩)
    clear HT hbe hA1 hA2
    go_region_law (first
      | (refine step_app0 _ rfl (.tmp 42) (.tmp 46) rfl w.heap.size _ rfl A1 _ _ p1 rfl HL1.out.symm ?_ (HR1.out.below ?_) ?_ ?_ ?_; (· (first | (simp only [heap_alloc_is, heap_drew_is, Array.getElem?_push, Array.size_push]; (try simp); done) | (rw [a2.block _ (by simp only [heap_alloc_is, heap_drew_is, Array.size_push]; omega) (by simp)]; simp only [heap_alloc_is, heap_drew_is, Array.getElem?_push, Array.size_push]; (try simp); done))); (· (repeat (first | exact Below.refl _ _ | refine Below.drew ?_ | refine Below.alloc ?_ (by (first | omega | (simp only [heap_alloc_is, heap_drew_is, Array.size_push]; omega) | (have := a2.size; simp only [heap_alloc_is, heap_drew_is, Array.size_push] at this ⊢; omega) | (have := a2.size; simp only [heap_alloc_is, heap_drew_is, Array.size_push] at this; omega))) _ | refine Below.grown ?_ a2 (by (first | omega | (simp only [heap_alloc_is, heap_drew_is, Array.size_push]; omega) | (have := a2.size; simp only [heap_alloc_is, heap_drew_is, Array.size_push] at this ⊢; omega) | (have := a2.size; simp only [heap_alloc_is, heap_drew_is, Array.size_push] at this; omega))) (fun k hk => by cases hk; (first | omega | (simp only [heap_alloc_is, heap_drew_is, Array.size_push]; omega) | (have := a2.size; simp only [heap_alloc_is, heap_drew_is, Array.size_push] at this ⊢; omega) | (have := a2.size; simp only [heap_alloc_is, heap_drew_is, Array.size_push] at this; omega)))))); (· have := HL1.out; omega); (· (first | omega | (simp only [heap_alloc_is, heap_drew_is, Array.size_push]; omega) | (have := a2.size; simp only [heap_alloc_is, heap_drew_is, Array.size_push] at this ⊢; omega) | (have := a2.size; simp only [heap_alloc_is, heap_drew_is, Array.size_push] at this; omega))); intro v1 x1 a1 a2 a3)
      | (refine step_app0 _ rfl (.tmp 48) (.tmp 51) rfl w.heap.size _ rfl A2 _ _ p2 rfl HL2.out.symm ?_ (HR2.out.below ?_) ?_ ?_ ?_; (· (first | (simp only [heap_alloc_is, heap_drew_is, Array.getElem?_push, Array.size_push]; (try simp); done) | (rw [a2.block _ (by simp only [heap_alloc_is, heap_drew_is, Array.size_push]; omega) (by simp)]; simp only [heap_alloc_is, heap_drew_is, Array.getElem?_push, Array.size_push]; (try simp); done))); (· (repeat (first | exact Below.refl _ _ | refine Below.drew ?_ | refine Below.alloc ?_ (by (first | omega | (simp only [heap_alloc_is, heap_drew_is, Array.size_push]; omega) | (have := a2.size; simp only [heap_alloc_is, heap_drew_is, Array.size_push] at this ⊢; omega) | (have := a2.size; simp only [heap_alloc_is, heap_drew_is, Array.size_push] at this; omega))) _ | refine Below.grown ?_ a2 (by (first | omega | (simp only [heap_alloc_is, heap_drew_is, Array.size_push]; omega) | (have := a2.size; simp only [heap_alloc_is, heap_drew_is, Array.size_push] at this ⊢; omega) | (have := a2.size; simp only [heap_alloc_is, heap_drew_is, Array.size_push] at this; omega))) (fun k hk => by cases hk; (first | omega | (simp only [heap_alloc_is, heap_drew_is, Array.size_push]; omega) | (have := a2.size; simp only [heap_alloc_is, heap_drew_is, Array.size_push] at this ⊢; omega) | (have := a2.size; simp only [heap_alloc_is, heap_drew_is, Array.size_push] at this; omega)))))); (· have := HL2.out; omega); (· (first | omega | (simp only [heap_alloc_is, heap_drew_is, Array.size_push]; omega) | (have := a2.size; simp only [heap_alloc_is, heap_drew_is, Array.size_push] at this ⊢; omega) | (have := a2.size; simp only [heap_alloc_is, heap_drew_is, Array.size_push] at this; omega))); intro v2 x2 b1 b2 b3))
    all_goals
      have A1' := Lib.hid a1
      have A2' := Lib.hid a2
      have A3' := Lib.hid a3
      have B1' := Lib.hid b1
      have B2' := Lib.hid b2
      have B3' := Lib.hid b3
      clear a1 a2 a3 b1 b2 b3
      go_wp2
      go_ret3
      have a1 := A1'.out
      have a2 := A2'.out
      have a3 := A3'.out
      have b2 := B2'.out
      have hlt := a1.lt
      refine ⟨_, _, rfl, ?_, B1'.out, ?_⟩
      · first
          | exact (a1.alloc _).grown b2 (fun k hk e => by have := hlt k hk; cases e; omega)
          | exact a1.grown b2 (fun k hk e => by rcases a3 with h | h <;> (have e1 := Option.some.inj e; have e2 := Option.some.inj (h.symm.trans hk); (try simp only [heap_alloc_is, heap_drew_is, Array.size_push] at e2); omega))
      · (repeat (first | exact Below.refl _ _ | refine Below.drew ?_ | refine Below.alloc ?_ (by (first | omega | (simp only [heap_alloc_is, heap_drew_is, Array.size_push]; omega) | (have := a2.size; simp only [heap_alloc_is, heap_drew_is, Array.size_push] at this ⊢; omega) | (have := a2.size; simp only [heap_alloc_is, heap_drew_is, Array.size_push] at this; omega))) _ | refine Below.grown ?_ b2 (by first | omega | (have := a2.size; simp only [heap_alloc_is, heap_drew_is, Array.size_push] at this ⊢; omega) | (have := a2.size; simp only [heap_alloc_is, heap_drew_is, Array.size_push] at this; omega)) (fun k hk => by cases hk; first | omega | (have := a2.size; simp only [heap_alloc_is, heap_drew_is, Array.size_push] at this ⊢; omega) | (have := a2.size; simp only [heap_alloc_is, heap_drew_is, Array.size_push] at this; omega)) | refine Below.grown ?_ a2 (by (first | omega | (simp only [heap_alloc_is, heap_drew_is, Array.size_push]; omega) | (have := a2.size; simp only [heap_alloc_is, heap_drew_is, Array.size_push] at this ⊢; omega) | (have := a2.size; simp only [heap_alloc_is, heap_drew_is, Array.size_push] at this; omega))) (fun k hk => by cases hk; (first | omega | (simp only [heap_alloc_is, heap_drew_is, Array.size_push]; omega) | (have := a2.size; simp only [heap_alloc_is, heap_drew_is, Array.size_push] at this ⊢; omega) | (have := a2.size; simp only [heap_alloc_is, heap_drew_is, Array.size_push] at this; omega)))))
end Go.Proofs.Ytkihafkiinhbkaa
